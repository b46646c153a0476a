/- A record decoded from the bytes it was written in. -/
import Derived.Test.YtipoegmheiapgaaK7
namespace Go.Proofs.Ytipoegmheiapgaa
set_option linter.unusedVariables false
set_option linter.unusedSimpArgs false
open Go.RowKit

theorem u64le_len (x : UInt64) : (u64le x).length = 8 := by simp [u64le]
theorem putB_cons (x : UInt64) (ns : List UInt64) : putB (x :: ns) = u64le x ++ putB ns := by simp [putB]
theorem putB_drop (ns : List UInt64) : ∀ j, j ≤ ns.length → (putB ns).drop (8 * j) = putB (ns.drop j) := by
  induction ns with
  | nil => intro j hj; simp at hj; subst hj; rfl
  | cons x ns ih =>
    intro j hj
    cases j with
    | zero => rfl
    | succ j =>
      rw [putB_cons, List.drop_succ_cons, ← ih j (by simpa using hj), List.drop_append, u64le_len, List.drop_eq_nil_of_le (by rw [u64le_len]; omega), List.nil_append]
      congr 1
theorem putB_next (ns : List UInt64) (j : Nat) (h : j < ns.length) : nextU (putB ns) (8 * j) ns[j] := by
  rw [nextU, putB_drop ns j (by omega), List.drop_eq_getElem_cons h, putB_cons, List.take_append, u64le_len]
  simp [u64le_len]
  rw [List.take_of_length_le (by rw [u64le_len]; omega)]
/-- All numbers of a record, as they are written. -/
def allN (r : Rc) : List UInt64 := recNums r ++ (UInt64.ofNat r.data.length :: r.data)
theorem recB_all (r : Rc) : recB r = sealF (putB (allN r)) := by
  rw [recB, allN]; congr 1
theorem allN_len (r : Rc) : (allN r).length = 8 + r.data.length := by simp [allN, recNums, Rc.nums]; omega
theorem allN_num (r : Rc) (j : Nat) (h : j < 7) (y : Int) (hy : r.nums[j]? = some y) : (allN r)[j]'(by rw [allN_len]; omega) = UInt64.ofNat y.toNat := by
  obtain ⟨h', rfl⟩ := List.getElem?_eq_some_iff.1 hy
  simp only [allN]
  rw [List.getElem_append_left (show j < (recNums r).length from h)]
  simp [recNums]
theorem allN_cnt (r : Rc) : (allN r)[7]'(by rw [allN_len]; omega) = UInt64.ofNat r.data.length := by
  simp only [allN]
  rw [List.getElem_append_right (show (recNums r).length ≤ 7 from Nat.le_refl 7)]
  rfl
theorem allN_data (r : Rc) (k : Nat) (h : k < r.data.length) : (allN r)[8 + k]'(by rw [allN_len]; omega) = r.data[k] := by
  simp only [allN]
  rw [List.getElem_append_right (show (recNums r).length ≤ 8 + k from Nat.le_trans (show 7 ≤ 8 by omega) (Nat.le_add_right _ _))]
  have : 8 + k - (recNums r).length = k + 1 := by show 8 + k - 7 = k + 1; omega
  simp only [this, List.getElem_cons_succ]
/-- A record of which the first k numbers have been read. -/
def decC (r : Rc) (k : Nat) (v : Value) : Array Value :=
  #[.int .i64 (if 0 < k then r.kind else 0), .int .i64 (if 1 < k then r.shard else 0), .int .i64 (if 2 < k then r.snap else 0), .int .i64 (if 3 < k then r.base else 0), .int .i64 (if 4 < k then r.map else 0), .int .i64 (if 5 < k then r.off else 0), .int .i64 (if 6 < k then r.len else 0), v]
theorem decC_set (r : Rc) (k : Nat) (v : Value) (h : k < 7) (y : Int) (hy : r.nums[k]? = some y) : (decC r k v).setIfInBounds k (.int .i64 y) = decC r (k + 1) v := by
  match k, h with
  | 0, _ | 1, _ | 2, _ | 3, _ | 4, _ | 5, _ | 6, _ => simp [Rc.nums] at hy; subst hy; simp [decC]
/-- What a round of the second loop may write. -/
def decF (p q : Nat) (v : Value) : Nat → Prop := fun b => b = p ∨ b = q ∨ ownF v b
theorem Fr.into {F G : Nat → Prop} {a b c : World} (h : Fr F a b) (k : Fr G b c) (hG : ∀ x, G x → F x ∨ a.heap.size ≤ x) : Fr F a c :=
  ⟨k.1.trans h.1, k.2.1.trans h.2.1, k.2.2.1.trans h.2.2.1, Nat.le_trans h.size k.size, fun i hi hF =>
    (k.2.2.2.2 i (Nat.lt_of_lt_of_le hi h.size) (fun hg => (hG i hg).elim hF (fun h' => by omega))).trans (h.2.2.2.2 i hi hF)⟩
theorem decC_at (r : Rc) (k : Nat) (v : Value) (h : k < 7) : (decC r k v)[k]? = some (.int .i64 0) := by
  match k, h with
  | 0, _ | 1, _ | 2, _ | 3, _ | 4, _ | 5, _ | 6, _ => simp [decC]

set_option maxHeartbeats 2000000 in
set_option maxRecDepth 100000 in
theorem decode_calls (A : Option Addr) (c : Nat) (r : Rc) (w : World) (hm : may r = true) (hs : Sc vB w A c (recB r)) :
    Calls Try.prog 88 #[.slice A (recB r).length c] w fun e w' => ∃ v, e = .returned (.tuple #[.agg #[.int .i64 r.kind, .int .i64 r.shard, .int .i64 r.snap, .int .i64 r.base, .int .i64 r.map, .int .i64 r.off, .int .i64 r.len, v], .int .i64 0]) ∧ Os vU w' w.heap.size 54 v r.data ∧ Ext w w' := by
  have hdl := may_data hm
  obtain ⟨ns, hns⟩ : ∃ ns, ns = allN r := ⟨_, rfl⟩
  have hnl : ns.length = 8 + r.data.length := by rw [hns, allN_len]
  have hpl : (putB ns).length = 64 + 8 * r.data.length := by rw [putB_len]; omega
  rw [recB_all, ← hns] at hs ⊢
  rw [sealF_len]
  have HS := Hd.mk hs
  have HNS := Hd.mk hns
  have HM := Hd.mk hm
  have HNL := Hd.mk hnl
  have HPL := Hd.mk hpl
  obtain ⟨bs, hbs⟩ : ∃ bs, bs = putB ns := ⟨_, rfl⟩
  rw [← hbs] at HS hpl ⊢
  have HBS := Hd.mk hbs
  have hbl : bs.length ≤ 1000 := by omega
  clear hs hns hm hnl hpl hbs
  go_enter Try.func88, Try.ntmps88
  go_wp2_with fail
  refine (Open_calls A c bs _ (HS.out.ext ((Ext.refl w).alloc _)) (by omega)).mono ?_
  rintro e w1 ⟨v1, rfl, hos, he1⟩
  obtain ⟨A2, c2, rfl, hsb⟩ := hos.sc
  have HOS := Hd.mk hos
  have HLT := Hd.mk (owns_lt hos)
  have HSB := Hd.mk hsb
  have HE1 := Hd.mk (((Ext.refl w).alloc _).trans he1)
  have HZ := Hd.mk (he1.obj (heap_new w (.cells #[.int .i64 0, .int .i64 0, .int .i64 0, .int .i64 0, .int .i64 0, .int .i64 0, .int .i64 0, .slice none 0 0] 24)))
  clear hos hsb he1
  go_wp2_with fail
  refine (packNew_calls A2 bs.length c2 _).mono ?_
  rintro e w2 ⟨rfl, hp, he2⟩
  obtain ⟨p, hpw⟩ : ∃ p, p = w1.heap.size := ⟨_, rfl⟩
  rw [← hpw] at hp HLT ⊢
  have HP := Hd.mk hp
  have hpl2 := obj_lt hp
  have HE2 := Hd.mk (HE1.out.trans he2)
  have HE12 := Hd.mk he2
  have HSB := Hd.mk (HSB.out.ext he2)
  have hp0 : w.heap.size ≤ p := by rw [hpw]; exact HE1.out.size
  have hzp : w.heap.size < p := by rw [hpw]; exact obj_lt HZ.out
  clear hp he2 hpw
  go_wp2_with fail
  obtain ⟨W2, hW2⟩ : ∃ W2, W2 = w2.alloc (.cells #[.int .i64 0, .int .i64 0, .int .i64 0, .int .i64 0, .int .i64 0, .int .i64 0, .int .i64 0, .slice none 0 0] 24) := ⟨_, rfl⟩
  have e2 : Ext w2 W2 := by rw [hW2]; exact (Ext.refl w2).alloc _
  obtain ⟨q, hq⟩ : ∃ q, q = w2.heap.size := ⟨_, rfl⟩
  have hqo : W2.heap[q]? = some (.cells (decC r 0 (.slice none 0 0)) 24 (0, 0)) := by rw [hW2, hq]; exact heap_new w2 _
  have hpq : p < q := by rw [hq]; exact hpl2
  have hqs : q < W2.heap.size := obj_lt hqo
  rw [← hW2, ← hq]
  refine (numbers_calls q W2).mono ?_
  rintro e wi ⟨rfl, hpt, hei⟩
  obtain ⟨g, hg⟩ : ∃ g, g = W2.heap.size := ⟨_, rfl⟩
  rw [← hg] at hpt hqs ⊢
  have hgi : g ≤ wi.heap.size := by rw [hg]; exact hei.size
  have HPT := Hd.mk hpt
  have HP := Hd.mk ((e2.trans hei).obj HP.out)
  have HQ := Hd.mk (hei.obj hqo)
  have HZI := Hd.mk ((HE12.out.trans (e2.trans hei)).obj HZ.out)
  have HEI := Hd.mk (HE2.out.trans (e2.trans hei))
  have HSB := Hd.mk (HSB.out.ext (e2.trans hei))
  have HSF := Hd.mk (show ∀ w', Fr (fun b => p ≤ b) wi w' → Sc vB w' A2 c2 bs from fun w' hf => (((HOS.out.ext (HE12.out.trans (e2.trans hei)))).fr' (fun b hb ho => by have := HLT.out b ho; omega) hf).sc2)
  clear hW2 hq hqo hg hpt hei e2 HS HE1 HE2 hpl2
  go_wp2
  go_loopw [23] (fun i w3 => ∃ k : Nat, k ≤ 7 ∧ i = .int .i64 k ∧ w3.heap[q]? = some (.cells (decC r k (.slice none 0 0)) 24 (0, 0)) ∧ w3.heap[p]? = some (prC A2 bs.length c2 (8 * k)) ∧ Fr (fun b => b = p ∨ b = q) wi w3) (fun i _ => 7 - (intOf i).toNat)
  case atStart => exact ⟨0, by omega, rfl, HQ.out, HP.out, Fr.refl _ _⟩
  case round =>
    obtain ⟨k, hk, rfl, hq3, hp3, hf3⟩ := hrel
    have HQ3 := Hd.mk hq3
    have HP3 := Hd.mk hp3
    have HF3 := Hd.mk hf3
    clear hq3 hp3 hf3
    by_cases hk7 : k < 7
    · have t0 : wr.cell? ⟨g, k, none⟩ = some (.pointer (some ⟨q, k, none⟩)) := HF3.out.cell (by rintro (h | h) <;> (simp at h; omega)) (HPT.out k hk7)
      obtain ⟨y, hy, hnum⟩ := rec_num r HM.out k hk7
      have hsb3 : Sc vB wr A2 c2 bs := HSF.out wr (HF3.out.mono (fun b hb => by rcases hb with h | h <;> omega))
      have HSB3 := Hd.mk hsb3
      have HY := Hd.mk hy
      have hnx : nextU bs (8 * k) (UInt64.ofNat y.toNat) := by
        have h1 := putB_next ns k (by have := HNL.out; omega)
        rw [← HBS.out] at h1
        have h2 := allN_num r k hk7 y hy
        have h3 : ns[k]'(by have := HNL.out; omega) = UInt64.ofNat y.toNat := by
          have := HNS.out
          subst this
          exact h2
        rw [h3] at h1
        exact h1
      have HNX := Hd.mk hnx
      clear hsb3 hy hnx
      go_wp2_with fail
      refine (Int_calls p A2 bs c2 (8 * k) 2147483648 y.toNat _ HP3.out HSB3.out HNX.out (by omega) (by omega) (by omega)).mono ?_
      rintro e w4 ⟨rfl, hp4, hf4⟩
      have hyy : ((y.toNat : Nat) : Int) = y := by omega
      rw [hyy]
      have HP4 := Hd.mk hp4
      have HF4 := Hd.mk hf4
      have hq4 := hf4.obj (show ¬ q = p by omega) HQ3.out
      have HQ4 := Hd.mk hq4
      have c0 := cell_obj (i := k) hq4
      have f0 := frozen_obj hq4 k
      rw [decC_at r k _ hk7] at c0
      clear hp4 hf4 hq4 hyy
      go_wp2
      have hfs : Fr (fun b => b = q) w4 (w4.setCell ⟨q, k, none⟩ (.int .i64 y)) := Fr.set (F := fun b => b = q) (p := ⟨q, k, none⟩) (Fr.refl _ _) (.inl rfl) _
      refine ⟨⟨k + 1, by omega, by go_num, ?_, hfs.obj (show ¬ p = q by omega) HP4.out, (HF3.out.trans (HF4.out.mono (fun b hb => .inl hb))).trans (hfs.mono (fun b hb => .inr hb))⟩, by simp [intOf]; omega⟩
      rw [← decC_set r k _ hk7 y HY.out]
      exact obj_set HQ4.out
    · obtain rfl : k = 7 := by omega
      have HSB3 := Hd.mk (HSF.out wr (HF3.out.mono (fun b hb => by rcases hb with h | h <;> omega)))
      have hnx : nextU bs (8 * 7) (UInt64.ofNat r.data.length) := by
        have h1 := putB_next ns 7 (by have := HNL.out; omega)
        rw [← HBS.out] at h1
        have h3 : ns[7]'(by have := HNL.out; omega) = UInt64.ofNat r.data.length := by
          have := HNS.out
          subst this
          exact allN_cnt r
        rw [h3] at h1
        exact h1
      have HNX := Hd.mk hnx
      clear hnx
      go_wp2_with fail
      refine (Int_calls p A2 bs c2 (8 * 7) 64 r.data.length _ HP3.out HSB3.out HNX.out (by omega) (by omega) (by omega)).mono ?_
      rintro e w4 ⟨rfl, hp4, hf4⟩
      have HP4 := Hd.mk hp4
      have HF4 := Hd.mk (HF3.out.trans (hf4.mono (G := fun b => b = p ∨ b = q) (fun b hb => .inl hb)))
      have HQ4 := Hd.mk (hf4.obj (show ¬ q = p by omega) HQ3.out)
      clear hp4 hf4 HP3 HQ3 HF3
      go_wp2
      go_loopw [34] (fun i w3 => ∃ (k : Nat) (v : Value), k ≤ r.data.length ∧ i = .int .i64 k ∧ w3.heap[q]? = some (.cells (decC r 7 v) 24 (0, 0)) ∧ w3.heap[p]? = some (prC A2 bs.length c2 (8 * (8 + k))) ∧ Os vU w3 wi.heap.size 54 v (r.data.take k) ∧ Fr (fun b => b = p ∨ b = q) wi w3) (fun i _ => r.data.length - (intOf i).toNat)
      case atStart => exact ⟨0, .slice none 0 0, Nat.zero_le _, rfl, HQ4.out, HP4.out, Os.nil _ _ _ _, HF4.out⟩
      case round =>
        obtain ⟨k, vk, hk, rfl, hq5, hp5, hos5, hf5⟩ := hrel
        obtain ⟨Ak, nk, ck, rfl⟩ : ∃ A n c, vk = .slice A n c := by obtain ⟨A, c, h, _⟩ := hos5.sc; exact ⟨A, _, c, h⟩
        have HQ5 := Hd.mk hq5
        have HP5 := Hd.mk hp5
        have HO5 := Hd.mk hos5
        have HF5 := Hd.mk hf5
        have HOG := Hd.mk (show ∀ b, ownF (.slice Ak nk ck) b → wi.heap.size ≤ b from fun b hb => owns_block hos5 b hb)
        have HSB5 := Hd.mk (HSF.out wr (hf5.mono (fun b hb => by rcases hb with h | h <;> omega)))
        clear hp5 hos5 hf5
        by_cases hkl : k < r.data.length
        · obtain ⟨x, hx⟩ : ∃ x, r.data[k] = x := ⟨_, rfl⟩
          have hnx : nextU bs (8 * (8 + k)) x := by
            have h1 := putB_next ns (8 + k) (by have := HNL.out; omega)
            rw [← HBS.out] at h1
            have h3 : ns[8 + k]'(by have := HNL.out; omega) = x := by
              have := HNS.out
              subst this
              rw [← hx]
              exact allN_data r k hkl
            rw [h3] at h1
            exact h1
          have HNX5 := Hd.mk hnx
          have HX := Hd.mk hx
          have s7 : wr.cell? ⟨q, 7, none⟩ = some (.slice Ak nk ck) := cell_obj (i := 7) hq5
          clear hnx hx hq5
          go_wp2_with fail
          refine wp_region_pl (decF p q (.slice Ak nk ck)) wr (.pur 0 (.pur 2 (.two 1 (.one 3 (.one 4 (.one 5 (.pur 6 (.one 7 (.done)))))) 3 (.two 1 (.one 4 (.one 5 (.pur 6 (.one 7 (.done))))) 4 (.one 1 (.one 5 (.pur 6 (.one 7 (.done))))))))) (by kernel_rfl) (by kernel_rfl) (by kernel_rfl) (fun _ _ d _ _ h => by cases d <;> exact h) (Fr.refl _ _) ?_
          (repeat (refine wpPl_pur (by rfl) (by rfl) ?_; apply Exists.intro; refine ⟨fun x => ?_, ?_⟩; (focus (go_simp <;> with_reducible rfl)); simp only [Act.put, List.setIfInBounds_toArray, List.set_cons_zero, List.set_cons_succ]))
          refine wpPl_two ?_ ?_
          · refine wpPl_one (by rfl) (by rfl) (fun K hK => ?_)
            go_wp2_with fail
            refine hK _ _ (Fr.refl _ _) ?_
            clear hK
            refine wpPl_one (by rfl) (by rfl) (fun K hK => ?_)
            go_wp2_with fail
            refine (Get_calls p A2 bs c2 (8 * (8 + k)) x wr.drew HP5.out HSB5.out HNX5.out (by omega)).mono ?_
            rintro e w5 ⟨rfl, hp5, hf5⟩
            have HP6 := Hd.mk hp5
            have HF6 := Hd.mk (hf5.mono (G := decF p q (.slice Ak nk ck)) (fun b hb => .inl hb))
            have hq6 := hf5.obj (show ¬ q = p by omega) HQ5.out
            have HQ6 := Hd.mk hq6
            have HO6 := Hd.mk (HO5.out.fr' (w := wr.drew) (F := fun b => b = p) (fun b hb ho => by have := HOG.out b ho; omega) hf5)
            have s7 : w5.cell? ⟨q, 7, none⟩ = some (.slice Ak nk ck) := cell_obj (i := 7) hq6
            have hvx : vU x = .int .u64 (x.toNat : Int) := rfl
            rw [hvx]
            clear hp5 hf5 hq6 hvx
            refine hK _ _ HF6.out ?_
            clear hK
            refine wpPl_one (by rfl) (by rfl) (fun K hK => ?_)
            go_wp2_with fail
            have s8 : (w5.alloc (.cells #[.int .u64 (x.toNat : Int)] 54)).cell? ⟨q, 7, none⟩ = some (.slice Ak nk ck) := ((Ext.refl w5).alloc _).cell s7
            refine hK _ _ (HF6.out.alloc _) ?_
            clear hK
            refine wpPl_one (by rfl) (by rfl) (fun K hK => ?_)
            refine wp_app _ tU (.tmp 37) (.tmp 40) rfl wi.heap.size (.slice Ak nk ck) _ _ rfl (HO6.out.ext ((Ext.refl w5).alloc (.cells #[.int .u64 (x.toNat : Int)] 54))) (some ⟨w5.heap.size, 0, none⟩) 1 1 [vU x] rfl rfl (Fl.new (heap_at rfl)) (by intro u hu; simp at hu; subst hu; rfl) (by simp; omega) (by have := HF5.out.size; have := HF6.out.size; simp; exact Nat.le_trans ‹_› (Nat.le_trans ‹_› (Nat.le_succ _))) ?_
            intro v3 w6 hown hgr hv
            have HEX := Hd.mk (show Ext w5 (w5.alloc (.cells #[.int .u64 (x.toNat : Int)] 54)) from (Ext.refl w5).alloc _)
            have hnq : some q ≠ Value.ownBlock (.slice Ak nk ck) := fun e => by have := HOG.out q e.symm; omega
            have hnp : some p ≠ Value.ownBlock (.slice Ak nk ck) := fun e => by have := HOG.out p e.symm; omega
            have HQ7 := Hd.mk (show w6.heap[q]? = some (.cells (decC r 7 (.slice Ak nk ck)) 24 (0, 0)) from by rw [hgr.block q (Nat.lt_of_lt_of_le (obj_lt HQ6.out) HEX.out.size) hnq]; exact HEX.out.obj HQ6.out)
            have HP7 := Hd.mk (show w6.heap[p]? = some _ from by rw [hgr.block p (Nat.lt_of_lt_of_le (obj_lt HP6.out) HEX.out.size) hnp]; exact HEX.out.obj HP6.out)
            have HF7 := Hd.mk (show Fr (decF p q (.slice Ak nk ck)) wr w6 from ((HF6.out.trans (HEX.out.fr _)).trans ⟨hgr.os, hgr.tape, hgr.output, hgr.size, fun b hb hF => hgr.block b hb (fun e => hF (.inr (.inr e.symm)))⟩))
            have f7 := frozen_obj HQ7.out 7
            have z7 : w6.cell? ⟨q, 7, none⟩ = some (.slice Ak nk ck) := cell_obj (i := 7) HQ7.out
            have HV := Hd.mk hv
            have HOW := Hd.mk hown
            obtain ⟨A3, n3, c3, rfl⟩ : ∃ A3 n3 c3, v3 = .slice A3 n3 c3 := by obtain ⟨A3, c3, h, _⟩ := owns_slice hown; exact ⟨A3, _, c3, h⟩
            clear hown hgr hv hnq hnp
            refine hK _ _ HF7.out ?_
            clear hK
            (repeat (refine wpPl_pur (by rfl) (by rfl) ?_; apply Exists.intro; refine ⟨fun x => ?_, ?_⟩; (focus (go_simp <;> with_reducible rfl)); simp only [Act.put, List.setIfInBounds_toArray, List.set_cons_zero, List.set_cons_succ]))
            refine wpPl_one (by rfl) (by rfl) (fun K hK => ?_)
            go_wp2_with fail
            have HFS := Hd.mk (show Fr (fun b => b = q) w6 (w6.setCell ⟨q, 7, none⟩ (.slice A3 n3 c3)) from Fr.set (F := fun b => b = q) (p := ⟨q, 7, none⟩) (Fr.refl _ _) (.inl rfl) _)
            refine hK _ _ (HF7.out.trans (HFS.out.mono (fun b hb => .inr (.inl hb)))) ?_
            clear hK
            refine wpPl_done ?_
            go_wp2
            refine ⟨⟨k + 1, .slice A3 n3 c3, by omega, by go_num, obj_set (i := 7) (v := .slice A3 n3 c3) HQ7.out, HFS.out.obj (show ¬ p = q by omega) HP7.out, ?_, HF5.out.into (HF7.out.trans (HFS.out.mono (fun b hb => .inr (.inl hb)))) (fun b hb => ?_)⟩, by simp [intOf]; omega⟩
            · have hos7 : Os vU w6 wi.heap.size 54 (.slice A3 n3 c3) (r.data.take (k + 1)) := by
                rw [List.take_succ_eq_append_getElem hkl, HX.out]
                unfold Os
                rw [List.map_append, List.length_append]
                exact HOW.out
              exact hos7.fr' (F := fun b => b = q) (fun b hb ho => by have := owns_block hos7 b ho; omega) HFS.out
            · rcases hb with h | h | h
              · exact .inl (.inl h)
              · exact .inl (.inr h)
              · exact .inr (HOG.out b h)
          · refine wpPl_one (by rfl) (by rfl) (fun K hK => ?_)
            go_wp2_with fail
            refine (Get_calls p A2 bs c2 (8 * (8 + k)) x wr.drew HP5.out HSB5.out HNX5.out (by omega)).mono ?_
            rintro e w5 ⟨rfl, hp5, hf5⟩
            have HP6 := Hd.mk hp5
            have HF6 := Hd.mk (hf5.mono (G := decF p q (.slice Ak nk ck)) (fun b hb => .inl hb))
            have hq6 := hf5.obj (show ¬ q = p by omega) HQ5.out
            have HQ6 := Hd.mk hq6
            have HO6 := Hd.mk (HO5.out.fr' (w := wr.drew) (F := fun b => b = p) (fun b hb ho => by have := HOG.out b ho; omega) hf5)
            have s7 : w5.cell? ⟨q, 7, none⟩ = some (.slice Ak nk ck) := cell_obj (i := 7) hq6
            have hvx : vU x = .int .u64 (x.toNat : Int) := rfl
            rw [hvx]
            clear hp5 hf5 hq6 hvx
            refine hK _ _ HF6.out ?_
            clear hK
            refine wpPl_two ?_ ?_
            · refine wpPl_one (by rfl) (by rfl) (fun K hK => ?_)
              go_wp2_with fail
              refine hK _ _ (HF6.out) ?_
              clear hK
              refine wpPl_one (by rfl) (by rfl) (fun K hK => ?_)
              go_wp2_with fail
              have s8 : (w5.alloc (.cells #[.int .u64 (x.toNat : Int)] 54)).cell? ⟨q, 7, none⟩ = some (.slice Ak nk ck) := ((Ext.refl w5).alloc _).cell s7
              refine hK _ _ (HF6.out.alloc _) ?_
              clear hK
              refine wpPl_one (by rfl) (by rfl) (fun K hK => ?_)
              refine wp_app _ tU (.tmp 37) (.tmp 40) rfl wi.heap.size (.slice Ak nk ck) _ _ rfl (HO6.out.ext ((Ext.refl w5).alloc (.cells #[.int .u64 (x.toNat : Int)] 54))) (some ⟨w5.heap.size, 0, none⟩) 1 1 [vU x] rfl rfl (Fl.new (heap_at rfl)) (by intro u hu; simp at hu; subst hu; rfl) (by simp; omega) (by have := HF5.out.size; have := HF6.out.size; simp; exact Nat.le_trans ‹_› (Nat.le_trans ‹_› (Nat.le_succ _))) ?_
              intro v3 w6 hown hgr hv
              have HEX := Hd.mk (show Ext w5 (w5.alloc (.cells #[.int .u64 (x.toNat : Int)] 54)) from (Ext.refl w5).alloc _)
              have hnq : some q ≠ Value.ownBlock (.slice Ak nk ck) := fun e => by have := HOG.out q e.symm; omega
              have hnp : some p ≠ Value.ownBlock (.slice Ak nk ck) := fun e => by have := HOG.out p e.symm; omega
              have HQ7 := Hd.mk (show w6.heap[q]? = some (.cells (decC r 7 (.slice Ak nk ck)) 24 (0, 0)) from by rw [hgr.block q (Nat.lt_of_lt_of_le (obj_lt HQ6.out) HEX.out.size) hnq]; exact HEX.out.obj HQ6.out)
              have HP7 := Hd.mk (show w6.heap[p]? = some _ from by rw [hgr.block p (Nat.lt_of_lt_of_le (obj_lt HP6.out) HEX.out.size) hnp]; exact HEX.out.obj HP6.out)
              have HF7 := Hd.mk (show Fr (decF p q (.slice Ak nk ck)) wr w6 from ((HF6.out.trans (HEX.out.fr _)).trans ⟨hgr.os, hgr.tape, hgr.output, hgr.size, fun b hb hF => hgr.block b hb (fun e => hF (.inr (.inr e.symm)))⟩))
              have f7 := frozen_obj HQ7.out 7
              have z7 : w6.cell? ⟨q, 7, none⟩ = some (.slice Ak nk ck) := cell_obj (i := 7) HQ7.out
              have HV := Hd.mk hv
              have HOW := Hd.mk hown
              obtain ⟨A3, n3, c3, rfl⟩ : ∃ A3 n3 c3, v3 = .slice A3 n3 c3 := by obtain ⟨A3, c3, h, _⟩ := owns_slice hown; exact ⟨A3, _, c3, h⟩
              clear hown hgr hv hnq hnp
              refine hK _ _ HF7.out ?_
              clear hK
              (repeat (refine wpPl_pur (by rfl) (by rfl) ?_; apply Exists.intro; refine ⟨fun x => ?_, ?_⟩; (focus (go_simp <;> with_reducible rfl)); simp only [Act.put, List.setIfInBounds_toArray, List.set_cons_zero, List.set_cons_succ]))
              refine wpPl_one (by rfl) (by rfl) (fun K hK => ?_)
              go_wp2_with fail
              have HFS := Hd.mk (show Fr (fun b => b = q) w6 (w6.setCell ⟨q, 7, none⟩ (.slice A3 n3 c3)) from Fr.set (F := fun b => b = q) (p := ⟨q, 7, none⟩) (Fr.refl _ _) (.inl rfl) _)
              refine hK _ _ (HF7.out.trans (HFS.out.mono (fun b hb => .inr (.inl hb)))) ?_
              clear hK
              refine wpPl_done ?_
              go_wp2
              refine ⟨⟨k + 1, .slice A3 n3 c3, by omega, by go_num, obj_set (i := 7) (v := .slice A3 n3 c3) HQ7.out, HFS.out.obj (show ¬ p = q by omega) HP7.out, ?_, HF5.out.into (HF7.out.trans (HFS.out.mono (fun b hb => .inr (.inl hb)))) (fun b hb => ?_)⟩, by simp [intOf]; omega⟩
              · have hos7 : Os vU w6 wi.heap.size 54 (.slice A3 n3 c3) (r.data.take (k + 1)) := by
                  rw [List.take_succ_eq_append_getElem hkl, HX.out]
                  unfold Os
                  rw [List.map_append, List.length_append]
                  exact HOW.out
                exact hos7.fr' (F := fun b => b = q) (fun b hb ho => by have := owns_block hos7 b ho; omega) HFS.out
              · rcases hb with h | h | h
                · exact .inl (.inl h)
                · exact .inl (.inr h)
                · exact .inr (HOG.out b h)
            · refine wpPl_one (by rfl) (by rfl) (fun K hK => ?_)
              go_wp2_with fail
              have s8 : (w5.alloc (.cells #[.int .u64 (x.toNat : Int)] 54)).cell? ⟨q, 7, none⟩ = some (.slice Ak nk ck) := ((Ext.refl w5).alloc _).cell s7
              refine hK _ _ (HF6.out.alloc _) ?_
              clear hK
              refine wpPl_one (by rfl) (by rfl) (fun K hK => ?_)
              go_wp2_with fail
              refine hK _ _ (HF6.out.alloc _) ?_
              clear hK
              refine wpPl_one (by rfl) (by rfl) (fun K hK => ?_)
              refine wp_app _ tU (.tmp 37) (.tmp 40) rfl wi.heap.size (.slice Ak nk ck) _ _ rfl (HO6.out.ext ((Ext.refl w5).alloc (.cells #[.int .u64 (x.toNat : Int)] 54))) (some ⟨w5.heap.size, 0, none⟩) 1 1 [vU x] rfl rfl (Fl.new (heap_at rfl)) (by intro u hu; simp at hu; subst hu; rfl) (by simp; omega) (by have := HF5.out.size; have := HF6.out.size; simp; exact Nat.le_trans ‹_› (Nat.le_trans ‹_› (Nat.le_succ _))) ?_
              intro v3 w6 hown hgr hv
              have HEX := Hd.mk (show Ext w5 (w5.alloc (.cells #[.int .u64 (x.toNat : Int)] 54)) from (Ext.refl w5).alloc _)
              have hnq : some q ≠ Value.ownBlock (.slice Ak nk ck) := fun e => by have := HOG.out q e.symm; omega
              have hnp : some p ≠ Value.ownBlock (.slice Ak nk ck) := fun e => by have := HOG.out p e.symm; omega
              have HQ7 := Hd.mk (show w6.heap[q]? = some (.cells (decC r 7 (.slice Ak nk ck)) 24 (0, 0)) from by rw [hgr.block q (Nat.lt_of_lt_of_le (obj_lt HQ6.out) HEX.out.size) hnq]; exact HEX.out.obj HQ6.out)
              have HP7 := Hd.mk (show w6.heap[p]? = some _ from by rw [hgr.block p (Nat.lt_of_lt_of_le (obj_lt HP6.out) HEX.out.size) hnp]; exact HEX.out.obj HP6.out)
              have HF7 := Hd.mk (show Fr (decF p q (.slice Ak nk ck)) wr w6 from ((HF6.out.trans (HEX.out.fr _)).trans ⟨hgr.os, hgr.tape, hgr.output, hgr.size, fun b hb hF => hgr.block b hb (fun e => hF (.inr (.inr e.symm)))⟩))
              have f7 := frozen_obj HQ7.out 7
              have z7 : w6.cell? ⟨q, 7, none⟩ = some (.slice Ak nk ck) := cell_obj (i := 7) HQ7.out
              have HV := Hd.mk hv
              have HOW := Hd.mk hown
              obtain ⟨A3, n3, c3, rfl⟩ : ∃ A3 n3 c3, v3 = .slice A3 n3 c3 := by obtain ⟨A3, c3, h, _⟩ := owns_slice hown; exact ⟨A3, _, c3, h⟩
              clear hown hgr hv hnq hnp
              refine hK _ _ HF7.out ?_
              clear hK
              (repeat (refine wpPl_pur (by rfl) (by rfl) ?_; apply Exists.intro; refine ⟨fun x => ?_, ?_⟩; (focus (go_simp <;> with_reducible rfl)); simp only [Act.put, List.setIfInBounds_toArray, List.set_cons_zero, List.set_cons_succ]))
              refine wpPl_one (by rfl) (by rfl) (fun K hK => ?_)
              go_wp2_with fail
              have HFS := Hd.mk (show Fr (fun b => b = q) w6 (w6.setCell ⟨q, 7, none⟩ (.slice A3 n3 c3)) from Fr.set (F := fun b => b = q) (p := ⟨q, 7, none⟩) (Fr.refl _ _) (.inl rfl) _)
              refine hK _ _ (HF7.out.trans (HFS.out.mono (fun b hb => .inr (.inl hb)))) ?_
              clear hK
              refine wpPl_done ?_
              go_wp2
              refine ⟨⟨k + 1, .slice A3 n3 c3, by omega, by go_num, obj_set (i := 7) (v := .slice A3 n3 c3) HQ7.out, HFS.out.obj (show ¬ p = q by omega) HP7.out, ?_, HF5.out.into (HF7.out.trans (HFS.out.mono (fun b hb => .inr (.inl hb)))) (fun b hb => ?_)⟩, by simp [intOf]; omega⟩
              · have hos7 : Os vU w6 wi.heap.size 54 (.slice A3 n3 c3) (r.data.take (k + 1)) := by
                  rw [List.take_succ_eq_append_getElem hkl, HX.out]
                  unfold Os
                  rw [List.map_append, List.length_append]
                  exact HOW.out
                exact hos7.fr' (F := fun b => b = q) (fun b hb ho => by have := owns_block hos7 b ho; omega) HFS.out
              · rcases hb with h | h | h
                · exact .inl (.inl h)
                · exact .inl (.inr h)
                · exact .inr (HOG.out b h)
        · obtain rfl : k = r.data.length := by omega
          rw [List.take_length] at HO5
          rw [show 8 * (8 + r.data.length) = bs.length by have := HPL.out; rw [← HBS.out] at this; omega] at HP5
          have o0 : wr.cell? ⟨q, 0, none⟩ = some (.int .i64 r.kind) := cell_obj (i := 0) HQ5.out
          have o1 : wr.cell? ⟨q, 1, none⟩ = some (.int .i64 r.shard) := cell_obj (i := 1) HQ5.out
          have o2 : wr.cell? ⟨q, 2, none⟩ = some (.int .i64 r.snap) := cell_obj (i := 2) HQ5.out
          have o3 : wr.cell? ⟨q, 3, none⟩ = some (.int .i64 r.base) := cell_obj (i := 3) HQ5.out
          have o4 : wr.cell? ⟨q, 4, none⟩ = some (.int .i64 r.map) := cell_obj (i := 4) HQ5.out
          have o5 : wr.cell? ⟨q, 5, none⟩ = some (.int .i64 r.off) := cell_obj (i := 5) HQ5.out
          have o6 : wr.cell? ⟨q, 6, none⟩ = some (.int .i64 r.len) := cell_obj (i := 6) HQ5.out
          have o7 : wr.cell? ⟨q, 7, none⟩ = some (.slice Ak nk ck) := cell_obj (i := 7) HQ5.out
          clear hq5
          go_wp2_with fail
          refine (End_calls p A2 bs.length c2 _ HP5.out (by omega)).mono ?_
          rintro e w5 ⟨rfl, he5⟩
          have HE5 := Hd.mk he5
          have o0 := he5.cell o0
          have o1 := he5.cell o1
          have o2 := he5.cell o2
          have o3 := he5.cell o3
          have o4 := he5.cell o4
          have o5 := he5.cell o5
          have o6 := he5.cell o6
          have o7 := he5.cell o7
          clear he5
          obtain ⟨A6, c6, hv6, hsc6⟩ := HO5.out.sc
          injection hv6 with hv6 hn6 hc6
          subst hv6; subst hn6; subst hc6
          go_wp2_with fail
          refine (May_calls r Ak ck _).mono ?_
          rintro e w6 ⟨rfl, he6⟩
          rw [HM.out]
          have HE6 := Hd.mk (HE5.out.trans he6)
          have o0 := he6.cell o0
          have o1 := he6.cell o1
          have o2 := he6.cell o2
          have o3 := he6.cell o3
          have o4 := he6.cell o4
          have o5 := he6.cell o5
          have o6 := he6.cell o6
          have o7 := he6.cell o7
          have hz6 := HE6.out.obj (HF5.out.obj (show ¬ (w.heap.size = p ∨ w.heap.size = q) by omega) HZI.out)
          have z0 := cell_obj (i := 0) hz6
          have z1 := cell_obj (i := 1) hz6
          have z2 := cell_obj (i := 2) hz6
          have z3 := cell_obj (i := 3) hz6
          have z4 := cell_obj (i := 4) hz6
          have z5 := cell_obj (i := 5) hz6
          have z6 := cell_obj (i := 6) hz6
          have z7 := cell_obj (i := 7) hz6
          have y0 := frozen_obj hz6 0
          have y1 := frozen_obj hz6 1
          have y2 := frozen_obj hz6 2
          have y3 := frozen_obj hz6 3
          have y4 := frozen_obj hz6 4
          have y5 := frozen_obj hz6 5
          have y6 := frozen_obj hz6 6
          have y7 := frozen_obj hz6 7
          clear he6 hz6
          have hzw : w.heap.size < wi.heap.size := by omega
          go_wp2_with fail
          refine bodyPost_ret (v := .tuple #[.agg #[.int .i64 r.kind, .int .i64 r.shard, .int .i64 r.snap, .int .i64 r.base, .int .i64 r.map, .int .i64 r.off, .int .i64 r.len, .slice Ak r.data.length ck], .int .i64 0]) (by simp [results, Try.results88, go_sem, z0, z1, z2, z3, z4, z5, z6, z7]) rfl ⟨_, rfl, ?_, ?_⟩
          · exact Os.base (((((((((HO5.out.ext HE6.out).set (p := ⟨w.heap.size, 0, none⟩) hzw (.int .i64 r.kind)).set (p := ⟨w.heap.size, 1, none⟩) hzw (.int .i64 r.shard)).set (p := ⟨w.heap.size, 2, none⟩) hzw (.int .i64 r.snap)).set (p := ⟨w.heap.size, 3, none⟩) hzw (.int .i64 r.base)).set (p := ⟨w.heap.size, 4, none⟩) hzw (.int .i64 r.map)).set (p := ⟨w.heap.size, 5, none⟩) hzw (.int .i64 r.off)).set (p := ⟨w.heap.size, 6, none⟩) hzw (.int .i64 r.len)).set (p := ⟨w.heap.size, 7, none⟩) hzw (.slice Ak _ ck)) (Nat.le_of_lt hzw)
          · exact ((((((((((ext_fr HEI.out HF5.out (fun b hb => by rcases hb with h | h <;> omega)).trans HE6.out).set (p := ⟨w.heap.size, 0, none⟩) (Nat.le_refl _) (.int .i64 r.kind)).set (p := ⟨w.heap.size, 1, none⟩) (Nat.le_refl _) (.int .i64 r.shard)).set (p := ⟨w.heap.size, 2, none⟩) (Nat.le_refl _) (.int .i64 r.snap)).set (p := ⟨w.heap.size, 3, none⟩) (Nat.le_refl _) (.int .i64 r.base)).set (p := ⟨w.heap.size, 4, none⟩) (Nat.le_refl _) (.int .i64 r.map)).set (p := ⟨w.heap.size, 5, none⟩) (Nat.le_refl _) (.int .i64 r.off)).set (p := ⟨w.heap.size, 6, none⟩) (Nat.le_refl _) (.int .i64 r.len)).set (p := ⟨w.heap.size, 7, none⟩) (Nat.le_refl _) (.slice Ak _ ck))
end Go.Proofs.Ytipoegmheiapgaa
