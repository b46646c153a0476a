/- A sender: Load. -/
import Derived.Test.YtipoegmheiapgaaS1
namespace Go.Proofs.Ytipoegmheiapgaa
set_option linter.unusedVariables false
set_option linter.unusedSimpArgs false
open Go.RowKit

/-- How many more of a list's parts fit. -/
def more : Nat → List (List UInt8) → Nat
  | _, [] => 0
  | s, b :: bs => if s + b.length ≤ 1100 then more (s + b.length) bs + 1 else 0
theorem more_le : ∀ (s : Nat) (bs : List (List UInt8)), more s bs ≤ bs.length
  | _, [] => Nat.le_refl _
  | s, b :: bs => by
    unfold more
    split
    · have := more_le (s + b.length) bs; simp; omega
    · simp
theorem more_size : ∀ (s : Nat) (bs : List (List UInt8)), s ≤ 1100 → s + ((bs.take (more s bs)).flatten).length ≤ 1100
  | s, [], h => by simpa using h
  | s, b :: bs, h => by
    unfold more
    split
    · rename_i h1
      have := more_size (s + b.length) bs h1
      simp only [List.take_succ_cons, List.flatten_cons, List.length_append]
      omega
    · simpa using h
def nextOf (bss : List (List UInt8)) (at_ : Nat) : Nat := at_ + 1 + more (bss.getD at_ []).length (bss.drop (at_ + 1))
theorem nextOf_le {bss : List (List UInt8)} {i : Nat} (h : i < bss.length) : i < nextOf bss i ∧ nextOf bss i ≤ bss.length := by
  have := more_le (bss.getD i []).length (bss.drop (i + 1))
  unfold nextOf
  rw [List.length_drop] at this
  omega
theorem more_step {bss : List (List UInt8)} {k s : Nat} (h : k < bss.length) : more s (bss.drop k) = if s + bss[k].length ≤ 1100 then more (s + bss[k].length) (bss.drop (k + 1)) + 1 else 0 := by
  rw [List.drop_eq_getElem_cons h, more]

theorem flat_le : ∀ (ps : List (List UInt8)), (∀ x ∈ ps, x.length ≤ 588) → ps.flatten.length ≤ 588 * ps.length
  | [], _ => Nat.le_refl _
  | x :: xs, h => by
    have h1 := h x List.mem_cons_self
    have h2 := flat_le xs (fun y hy => h y (List.mem_cons_of_mem _ hy))
    rw [List.flatten_cons, List.length_append, List.length_cons]
    omega

set_option maxHeartbeats 4000000 in
set_option maxRecDepth 100000 in
theorem Load_calls (b : Nat) (A : Option Addr) (c i : Nat) (bss : List (List UInt8)) (w : World) (h : w.heap[b]? = some (sdC (.slice A bss.length c))) (hs : Sm 1 byR w A c bss) (hi : i < bss.length) (hn : bss.length ≤ 1048580) (hl : ∀ j (hj : j < bss.length), bss[j].length ≤ 588) :
    Calls Try.prog 18 #[.pointer (some ⟨b, 0, none⟩), .int .i64 (i : Int)] w fun e w' => ∃ v, e = .returned (.tuple #[v, .int .i64 (nextOf bss i : Int), .int .i64 0]) ∧
      Os vB w' w.heap.size 5 v (u64le (UInt64.ofNat i) ++ ((bss.take (nextOf bss i)).drop i).flatten) ∧ Ext w w' := by
  have hc1 := hs.1
  have hc2 := hs.2.1
  unfold maxLen at hc2
  have HH := Hd.mk h
  have HS := Hd.mk hs
  have HL := Hd.mk hl
  have t0 : w.cell? ⟨b, 0, none⟩ = some (.slice A bss.length c) := cell_obj (i := 0) h
  have g1 : ((bss.length : Int) == 0) = false := by rw [beq_eq_false_iff_ne]; omega
  have g2 : decide ((i : Int) < 0) = false := decide_eq_false (by omega)
  have g3 : decide (bss.length ≤ i) = false := decide_eq_false (by omega)
  clear h hs hl
  go_enter Try.func18, Try.ntmps18
  go_wp2_with fail
  refine (Many_calls b A bss.length c _ HH.out).mono ?_
  rintro e w1 ⟨rfl, hd1⟩
  have HD1 := Hd.mk hd1
  clear hd1
  go_wp2_with fail
  refine (Many_calls b A bss.length c _ (HD1.out.ext.obj HH.out)).mono ?_
  rintro e w2 ⟨rfl, hd2⟩
  have HD2 := Hd.mk (HD1.out.trans hd2)
  obtain ⟨b1, off1, x, cs, rfl, hx, ⟨A3, c3, rfl, hd3⟩, _, hcx⟩ := HS.out.at hi
  have t0 := HD2.out.ext.cell t0
  have m0 : w2.cell? ⟨b1, off1 + i, none⟩ = some (.slice A3 x.length c3) := by
    have := HD2.out.ext.cell (hcx 0 _ rfl)
    simpa using this
  have HX := Hd.mk hx
  have hxl : x.length ≤ 588 := by rw [← hx]; exact HL.out i hi
  have hge : ¬ (bss.length : Int) ≤ (i : Int) := by omega
  clear hd2 hx hd3 hcx
  go_wp2_with fail
  go_quiet (fail)
  go_wp2
  go_loopw [7, 8] (fun t7 t8 w3 => ∃ k s : Nat, i < k ∧ k ≤ bss.length ∧ s ≤ 1100 ∧ t7 = .int .i64 (k : Int) ∧ t8 = .int .i64 (s : Int) ∧ k + more s (bss.drop k) = nextOf bss i ∧ Dr w w3) (fun t7 _ _ => bss.length - (intOf t7).toNat)
  case atStart =>
    refine ⟨i + 1, x.length, by omega, by omega, by omega, by go_num, rfl, ?_, HD2.out.trans (Dr.drewN _ _)⟩
    rw [nextOf, List.getD_eq_getElem?_getD, List.getElem?_eq_getElem hi, HX.out]; rfl
  case round =>
    obtain ⟨k, s, hik, hk, hs, rfl, rfl, hmore, hdr⟩ := hrel
    have HMO := Hd.mk hmore
    have HDR := Hd.mk hdr
    have t0 : wr.cell? ⟨b, 0, none⟩ = some (.slice (some ⟨b1, off1, none⟩) bss.length c) := cell_obj (i := 0) (hdr.ext.obj HH.out)
    clear hmore hdr
    by_cases hcont : ∃ h : k < bss.length, s + bss[k].length ≤ 1100
    · obtain ⟨hlt, hfit⟩ := hcont
      obtain ⟨b2, off2, y, cs2, hb2, hy, ⟨A4, c4, rfl, hd4⟩, _, hcy⟩ := HS.out.at hlt
      injection hb2 with hb2
      injection hb2 with e1 e2 _
      subst e1; subst e2
      rw [hy] at hfit
      have HY := Hd.mk hy
      have m0' : wr.cell? ⟨b1, off1 + k, none⟩ = some (.slice A4 y.length c4) := by
        have := HDR.out.ext.cell (hcy 0 _ rfl)
        simpa using this
      clear hy hd4 hcy
      go_wp2_with fail
      refine (Many_calls b _ bss.length c _ (HDR.out.ext.obj HH.out)).mono ?_
      rintro e w4 ⟨rfl, hd4⟩
      have HD4 := Hd.mk (HDR.out.trans hd4)
      have t0 := hd4.ext.cell t0
      have m0' := hd4.ext.cell m0'
      have hfi : (s : Int) + (y.length : Int) ≤ 1100 := by omega
      clear hd4
      go_wp2
      refine ⟨?_, by simp [intOf]; omega⟩
      exact ⟨k + 1, s + y.length, by omega, by omega, hfit, by go_num, by go_num, by rw [← HMO.out, more_step hlt, HY.out, if_pos hfit]; omega, HD4.out⟩
    · have hnx : k = nextOf bss i := by
        rw [← HMO.out]
        rcases Nat.lt_or_ge k bss.length with hlt | hge
        · rw [more_step hlt, if_neg (fun h => hcont ⟨hlt, h⟩)]; rfl
        · rw [List.drop_eq_nil_of_le hge]; simp [more]
      have HNX := Hd.mk hnx
      clear hnx
      by_cases hlt : k < bss.length
      case' pos =>
        have hfit : ¬ s + bss[k].length ≤ 1100 := fun h => hcont ⟨hlt, h⟩
        have hyl := HL.out k hlt
        obtain ⟨b2, off2, y, cs2, hb2, hy, ⟨A4, c4, rfl, hd4⟩, _, hcy⟩ := HS.out.at hlt
        injection hb2 with hb2
        injection hb2 with e1 e2 _
        subst e1; subst e2
        rw [hy] at hfit hyl
        have HY := Hd.mk hy
        have m0' : wr.cell? ⟨b1, off1 + k, none⟩ = some (.slice A4 y.length c4) := by
          have := HDR.out.ext.cell (hcy 0 _ rfl)
          simpa using this
        clear hy hd4 hcy hcont
        go_wp2_with fail
        refine (Many_calls b _ bss.length c _ (HDR.out.ext.obj HH.out)).mono ?_
        rintro e w4 ⟨rfl, hd4⟩
        have HD4 := Hd.mk (HDR.out.trans hd4)
        have t0 := hd4.ext.cell t0
        have m0' := hd4.ext.cell m0'
        have hfi : ¬ (s : Int) + (y.length : Int) ≤ 1100 := by omega
        clear hd4
        go_wp2_with fail
        clear hfi hfit m0' hyl
      case' neg =>
        clear hcont
        go_wp2_with fail
        refine (Many_calls b _ bss.length c _ (HDR.out.ext.obj HH.out)).mono ?_
        rintro e w4 ⟨rfl, hd4⟩
        have HD4 := Hd.mk (HDR.out.trans hd4)
        have t0 := hd4.ext.cell t0
        clear hd4
        go_wp2_with fail
      all_goals
        have HNEW := Hd.mk (heap_new (w4.alloc (.cells #[.slice none 0 0] 88)) (.cells #[.int .u64 (i : Int)] 54))
        have HVU := Hd.mk (u64_of i (by omega))
        obtain ⟨q, hq⟩ : ∃ q, q = w4.heap.size := ⟨_, rfl⟩
        have HWR := Hd.mk (show Wr ((w4.alloc (.cells #[.slice none 0 0] 88)).alloc (.cells #[.int .u64 (i : Int)] 54)) w.heap.size q (.slice none 0 0) [] from
          ⟨((Ext.refl _).alloc _).obj (heap_at hq), Os.nil _ _ _ _, fun h => by simp [ownF, Value.ownBlock] at h⟩)
        have HEA := Hd.mk (show Ext w4 ((w4.alloc (.cells #[.slice none 0 0] 88)).alloc (.cells #[.int .u64 (i : Int)] 54)) from ((Ext.refl w4).alloc _).alloc _)
        have hsw4 := HD4.out.ext.size
        have HQ4 := Hd.mk (show w4.heap.size ≤ q from by omega)
        rw [← hq]
        refine (Put_calls w.heap.size q (.slice none 0 0) [] (some ⟨q + 1, 0, none⟩) 1 [UInt64.ofNat i] _ HWR.out (by simp; omega) (fun w' hf => Sc.new (hf.obj (not_wF (show q + 1 ≠ q by omega)) (by rw [hq]; exact heap_at (by simp))) (by rw [List.map_cons, HVU.out]; rfl) (Nat.le_refl _) (by simp [maxLen])) (by simp)).mono ?_
        rintro e w5 ⟨rfl, v5, hw5, hf5, _⟩
        have HW5 := Hd.mk hw5
        have HE5 := Hd.mk (show Ext w4 w5 from ext_fr HEA.out hf5 (fun x hx => Nat.le_trans HQ4.out (wF_ge (Nat.le_refl _) hx)))
        have HE5w := Hd.mk (HD4.out.ext.trans HE5.out)
        clear hw5 hf5 hq
        go_wp2_with fail
        have l0 : ∀ q : FrOf NoF w5, q.1.cell? ⟨b, 0, none⟩ = some (.slice (some ⟨b1, off1, none⟩) bss.length c) := fun q => q.c (HE5.out.cell t0)
        have hci : ¬ c = i := by omega
        have hkc : k ≤ c := by omega
        have hik2 : i ≤ k := by omega
        clear t0
        refine wp_region_pl NoF w5 (.pur 1 (.pur 2 (.pur 3 (.pur 4 (.pur 5 (.pur 6 (.pur 7 (.pur 11 (.one 0 (.one 8 (.one 9 (.one 10 (.pur 12 (.pur 13 (.pur 14 (.done)))))))))))))))) (by kernel_rfl) (by kernel_rfl) (by kernel_rfl) (fun _ _ d _ _ h => by cases d <;> exact h) (Fr.refl _ _) ?_
        (repeat (refine wpPl_pur (by rfl) (by rfl) ?_; apply Exists.intro; refine ⟨fun x => ?_, ?_⟩; (focus (go_simp <;> with_reducible rfl)); simp only [Act.put, List.setIfInBounds_toArray, List.set_cons_zero, List.set_cons_succ]))
        have hlk : ((bss.take k).drop i).length = k - i := by simp; omega
        have hfl := flat_le ((bss.take k).drop i) (fun x hx => by
          have hm := List.mem_of_mem_take (List.mem_of_mem_drop hx)
          obtain ⟨j, hj, rfl⟩ := List.getElem_of_mem hm
          exact HL.out j hj)
        rw [hlk] at hfl
        have HFL := Hd.mk hfl
        have HLK := Hd.mk hlk
        clear hlk hfl
        refine wpPl_one (by rfl) (by rfl) (fun K hK => ?_)
        go_wp2_with fail
        refine (Bytes_calls w.heap.size q v5 _ w5.drew (HW5.out.ext (Ext.refl w5).drew) (by simp [putB_len])).mono ?_
        rintro e w6 ⟨v6, rfl, hos6, he6⟩
        have HE6 := Hd.mk (show Ext w5 w6 from (Ext.refl w5).drew.trans he6)
        obtain ⟨A6, c6, rfl, hs6⟩ := hos6.sc
        have hl6 : ([] ++ putB [UInt64.ofNat i]).length = 8 := by simp [putB_len]
        rw [hl6]
        have HS6 := Hd.mk hs6
        clear hos6 he6 hs6 hl6
        refine hK _ _ (HE6.out.fr NoF) ?_
        clear hK
        refine wpPl_one (by rfl) (by rfl) (fun K hK => ?_)
        go_wp2_with fail
        have hcut := ((HS.out.ext byR_keeps (HE5w.out.trans HE6.out)).cut (i := i) (j := k) hik2 hk)
        rw [Nat.mul_one] at hcut
        rw [← HLK.out]
        refine (ConcatB_calls _ (c - i) ((bss.take k).drop i) _ hcut (by have := HFL.out; omega)).mono ?_
        rintro e w7 ⟨v7, rfl, hos7, he7⟩
        rw [HLK.out]
        obtain ⟨fl, hfl⟩ : ∃ fl, fl = ((bss.take k).drop i).flatten := ⟨_, rfl⟩
        rw [← hfl] at hos7 HFL
        obtain ⟨A7, c7, rfl, hs7⟩ := hos7.sc
        have HFE := Hd.mk hfl
        have HE7 := Hd.mk (HE6.out.trans he7)
        have HS6 := Hd.mk (HS6.out.ext he7)
        have HS7 := Hd.mk hs7
        clear hcut hos7 he7 hs7 hfl
        refine hK _ _ (HE7.out.fr NoF) ?_
        clear hK
        refine wpPl_one (by rfl) (by rfl) (fun K hK => ?_)
        go_wp2_with fail
        refine hK _ _ ((HE7.out.alloc _).fr NoF) ?_
        clear hK
        refine wpPl_one (by rfl) (by rfl) (fun K hK => ?_)
        go_wp2_with fail
        have hsm : Sm 1 byR (w7.alloc (.cells #[.slice A6 8 c6, .slice A7 fl.length c7] 42)) (some ⟨w7.heap.size, 0, none⟩) 2 [[] ++ putB [UInt64.ofNat i], fl] :=
          Sm.two (heap_new _ _) (c1 := [.slice A6 8 c6]) (c2 := [.slice A7 fl.length c7]) rfl ⟨A6, c6, by simp [putB_len], HS6.out.ext ((Ext.refl w7).alloc _)⟩ ⟨A7, c7, rfl, HS7.out.ext ((Ext.refl w7).alloc _)⟩ rfl rfl
        refine (ConcatB_calls _ 2 [[] ++ putB [UInt64.ofNat i], fl] _ hsm (by have := HFL.out; simp [putB_len]; omega)).mono ?_
        rintro e w8 ⟨v8, rfl, hos8, he8⟩
        have HE8 := Hd.mk ((HE7.out.alloc (.cells #[.slice A6 8 c6, .slice A7 fl.length c7] 42)).trans he8)
        obtain ⟨A8, c8, rfl, _⟩ := hos8.sc
        have HO8 := Hd.mk hos8
        have HB8 := Hd.mk (show w.heap.size ≤ (w7.alloc (.cells #[.slice A6 8 c6, .slice A7 fl.length c7] 42)).heap.size from Nat.le_trans (HE5w.out.trans HE7.out).size ((Ext.refl w7).alloc _).size)
        clear hsm hos8 he8
        refine hK _ _ (HE8.out.fr NoF) ?_
        clear hK
        (repeat (refine wpPl_pur (by rfl) (by rfl) ?_; apply Exists.intro; refine ⟨fun x => ?_, ?_⟩; (focus (go_simp <;> with_reducible rfl)); simp only [Act.put, List.setIfInBounds_toArray, List.set_cons_zero, List.set_cons_succ]))
        refine wpPl_done ?_
        go_wp2_with fail
        go_ret3
        rw [← HNX.out]
        refine ⟨_, rfl, ?_, (HE5w.out.trans HE8.out)⟩
        have h9 := HO8.out.base HB8.out
        rw [← HFE.out]
        simpa [putB] using h9
end Go.Proofs.Ytipoegmheiapgaa
