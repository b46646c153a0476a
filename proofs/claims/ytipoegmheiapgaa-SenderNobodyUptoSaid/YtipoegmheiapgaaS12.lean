/- The law SenderNobody, walked. -/
import Derived.Test.YtipoegmheiapgaaS9
namespace Go.Proofs.Ytipoegmheiapgaa
set_option linter.unusedVariables false
set_option linter.unusedSimpArgs false
open Go.RowKit

set_option maxRecDepth 100000 in
theorem Many_nil (w : World) : Calls Try.prog 17 #[.pointer none] w fun e w' => e = .returned (.int .i64 0) ∧ w = w' := by
  go_enter Try.func17, Try.ntmps17
  go_wp2
  go_ret
  exact ⟨rfl, rfl⟩
set_option maxRecDepth 100000 in
theorem Load_nil (x : Int) (w : World) : Calls Try.prog 18 #[.pointer none, .int .i64 x] w fun e w' => e = .returned (.tuple #[.slice none 0 0, .int .i64 0, .int .i64 2]) ∧ w = w' := by
  go_enter Try.func18, Try.ntmps18
  go_wp2_with fail
  refine (Many_nil _).mono ?_
  rintro e w1 ⟨rfl, rfl⟩
  go_wp2
  go_ret3
  exact ⟨rfl, rfl⟩
set_option maxRecDepth 100000 in
theorem Load_empty (b : Nat) (x : Int) (w : World) (h : w.heap[b]? = some (sdC (.slice none 0 0))) : Calls Try.prog 18 #[.pointer (some ⟨b, 0, none⟩), .int .i64 x] w fun e w' => e = .returned (.tuple #[.slice none 0 0, .int .i64 0, .int .i64 2]) ∧ Ext w w' := by
  have HH := Hd.mk h
  clear h
  go_enter Try.func18, Try.ntmps18
  go_wp2_with fail
  refine (Many_calls b none 0 0 _ HH.out).mono ?_
  rintro e w1 ⟨rfl, hd⟩
  have HE := Hd.mk hd.ext
  clear hd
  go_wp2
  go_ret3
  exact ⟨rfl, HE.out⟩

theorem conv_str {w : World} {A : Option Addr} {c : Nat} {xs : List UInt8} (hx : Sc vB w A c xs) : (convert 42 9 (.slice A xs.length c)).run Try.prog w = .ok (.string ⟨xs.toArray⟩) w := by
  rcases A with _ | ad
  · have h0 : xs = [] := by
      rcases Nat.eq_zero_or_pos xs.length with h | h
      · exact List.eq_nil_of_length_eq_zero h
      · obtain ⟨_, _, h2, _⟩ := hx.2.2 h; cases h2
    subst h0
    show (convert 42 9 (.slice none 0 c)).run Try.prog w = _
    rw [run_convert_bytes_string w 42 9 5 none 0 c Try.underlying42 Try.underlying5 Try.underlying9]
    simp [Conv.bytesToString]
    rfl
  · refine run_convert_bytes_back w 42 9 5 ad c xs Try.underlying42 Try.underlying5 Try.underlying9 (fun j hj => ?_)
    obtain ⟨b, off, h, hc⟩ := hx.2.2 (by omega)
    injection h with h
    subst h
    rw [← hc j hj]
    unfold Addr.add
    split
    · rename_i h0; subst h0; rfl
    · rfl
set_option maxRecDepth 100000 in
theorem Same01_calls (A B : Option Addr) (c d : Nat) (xs ys : List UInt8) (w : World) (hx : Sc vB w A c xs) (hy : Sc vB w B d ys) :
    Calls Try.prog 21 #[.slice A xs.length c, .slice B ys.length d] w fun e w' => e = .returned (.bool (decide (xs = ys))) ∧ Ext w w' := by
  have h1 := conv_str hx
  have h2 := conv_str hy
  clear hx hy
  go_enter Try.func21, Try.ntmps21
  go_wp2
  go_ret
  exact ⟨ret_bool (by rw [Bool.eq_iff_iff]; simp), Ext.refl _⟩

/-- A list of the call's own of which one element is written over. -/
theorem Os.at' {α : Type} {f : α → Value} {w : World} {base n c : Nat} {A : Option Addr} {e : TypeId} {xs : List α} (h : Os f w base e (.slice A n c) xs) {i : Nat} (hi : i < xs.length) :
    ∃ g, A = some ⟨g, 0, none⟩ ∧ base ≤ g ∧ n = xs.length ∧ w.cell? ⟨g, i, none⟩ = some (f xs[i]) ∧ w.frozen? ⟨g, i, none⟩ = false ∧ ∀ y, Os f (w.setCell ⟨g, i, none⟩ (f y)) base e (.slice A n c) (xs.set i y) := by
  obtain ⟨A', c', hv, hsc⟩ := h.sc
  injection hv with hA hn hc
  subst hA; subst hn; subst hc
  rcases h.2 with ⟨hv, h0⟩ | ⟨g, cap, cur, hv, hb, hg, hn, hm, hs, ht⟩
  · omega
  · injection hv with hA hn' hc'
    subst hA; subst hc'
    obtain ⟨b, off, hA, hcell⟩ := hsc.2.2 (by omega)
    injection hA with hA
    injection hA with h1 h2 _
    subst h1; subst h2
    have := hcell i hi
    rw [Nat.zero_add] at this
    refine ⟨g, rfl, hb, rfl, this, frozen_obj hg i, fun y => ⟨by simp, .inr ⟨g, c, _, by rw [List.length_set], hb, obj_set hg, by simpa using hn, hm, by simpa using hs, ?_⟩⟩⟩
    rw [Nat.mul_one] at ht ⊢
    rw [Array.toList_setIfInBounds, List.length_set, List.take_set, ht, List.map_set]
theorem xor_byte (x : UInt8) (n : Nat) (hn : n < 256) : bits .xor .u8 (x.toNat : Int) (n : Int) = ((UInt8.ofNat (x.toNat ^^^ n)).toNat : Int) := by
  have h1 : x.toNat ^^^ n < 2 ^ 8 := Nat.xor_lt_two_pow x.toNat_lt hn
  rw [u8_xor_nat _ _ x.toNat_lt hn, UInt8.toNat_ofNat', Nat.mod_eq_of_lt h1]
def n1 : VOp := ⟨1, 1, 0, [5]⟩
theorem n_build : build a0 [n1] = (streamOf a0 [n1], 0) := by decide
theorem n_check : check (streamOf a0 [n1]) = 0 := by decide
theorem n_may : (streamOf a0 [n1]).all may = true := by decide
theorem n_next : nextR (streamOf a0 [n1]) 0 = 3 := by rw [nextR_N _ (by decide)]; decide

set_option maxHeartbeats 8000000 in
set_option maxRecDepth 100000 in
theorem SenderNobody_calls (x : Int) (w : World) :
    Calls Try.prog 6 #[.int .i64 x] w fun e w' => e = .returned (.bool true) ∧ Ext w w' := by
  go_enter Try.func6, Try.ntmps6
  go_wp2_with fail
  obtain ⟨W0, hW0⟩ : ∃ W0, W0 = (w.alloc (sdC (.slice none 0 0))).alloc (.cells #[.pointer none, .pointer (some ⟨w.heap.size, 0, none⟩)] 36) := ⟨_, rfl⟩
  have HE0 := Hd.mk (show Ext w W0 from by rw [hW0]; exact ((Ext.refl w).alloc _).alloc _)
  have HQ0 := Hd.mk (show W0.heap[w.heap.size]? = some (sdC (.slice none 0 0)) from by rw [hW0]; exact ((Ext.refl _).alloc _).obj (heap_new w _))
  have HQ1 := Hd.mk (show W0.heap[w.heap.size + 1]? = some (.cells #[.pointer none, .pointer (some ⟨w.heap.size, 0, none⟩)] 36 (0, 0)) from by rw [hW0]; exact heap_at (by simp))
  unfold sdC at hW0
  rw [← hW0]
  clear hW0
  go_loopw [26] (fun t w1 => ∃ k : Nat, k ≤ 2 ∧ t = .int .i64 (k : Int) ∧ Ext W0 w1) (fun t _ => 2 - (intOf t).toNat)
  case atStart => exact ⟨0, by omega, rfl, Ext.refl _⟩
  case round =>
    obtain ⟨k, hk, rfl, he1⟩ := hrel
    have HE1 := Hd.mk he1
    have q0 : wr.cell? ⟨w.heap.size + 1, 0, none⟩ = some (.pointer none) := cell_obj (i := 0) (he1.obj HQ1.out)
    have q1 : wr.cell? ⟨w.heap.size + 1, 1, none⟩ = some (.pointer (some ⟨w.heap.size, 0, none⟩)) := cell_obj (i := 1) (he1.obj HQ1.out)
    clear he1
    have hcases : k = 0 ∨ k = 1 ∨ k = 2 := by omega
    rcases hcases with rfl | rfl | rfl
    · go_wp2_with fail
      refine (Load_nil x _).mono ?_
      rintro e w2 ⟨rfl, rfl⟩
      go_wp2_with fail
      refine (Many_nil _).mono ?_
      rintro e w2 ⟨rfl, rfl⟩
      go_wp2_with fail
      exact ⟨⟨1, by omega, rfl, HE1.out⟩, by simp [intOf]⟩
    · go_wp2_with fail
      refine (Load_empty _ x _ (HE1.out.obj HQ0.out)).mono ?_
      rintro e w2 ⟨rfl, he2⟩
      have HE2 := Hd.mk (HE1.out.trans he2)
      clear he2
      go_wp2_with fail
      refine (Many_calls _ none 0 0 _ (HE2.out.obj HQ0.out)).mono ?_
      rintro e w3 ⟨rfl, hd3⟩
      have HE3 := Hd.mk (HE2.out.trans hd3.ext)
      clear hd3
      go_wp2_with fail
      exact ⟨⟨2, by omega, rfl, HE3.out⟩, by simp [intOf]⟩
    · clear q0 q1
      have HEw := Hd.mk (HE0.out.trans HE1.out)
      go_wp2_with fail
      obtain ⟨V0, hV0⟩ : ∃ V0, V0 = (wr.alloc (.cells #[.int .u64 5] 54)).alloc (.cells #[.int .i64 1, .int .i64 1, .int .i64 0, .slice (some ⟨wr.heap.size, 0, none⟩) 1 1] 56) := ⟨_, rfl⟩
      have HEV := Hd.mk (show Ext wr V0 from by rw [hV0]; exact ((Ext.refl wr).alloc _).alloc _)
      have HD0 := Hd.mk (show V0.heap[wr.heap.size]? = some (.cells #[.int .u64 5] 54 (0, 0)) from by rw [hV0]; exact ((Ext.refl _).alloc _).obj (heap_new wr _))
      have HSM := Hd.mk (show Sm 4 opR V0 (some ⟨wr.heap.size + 1, 0, none⟩) 1 [n1] from by
        rw [hV0]
        exact Sm.one (heap_at (by simp)) ⟨some ⟨wr.heap.size, 0, none⟩, 1, rfl, (Sc.new (xs := [5]) (heap_new wr _) rfl (by simp) (by simp [maxLen])).ext ((Ext.refl _).alloc _)⟩ rfl)
      rw [← hV0]
      clear hV0
      refine (senderNew_ok a0 none 0 _ 1 [n1] _ (Sc.nil _ _) HSM.out (by simp) (by simp [n1]) n_build n_check).mono ?_
      rintro e w1 ⟨b, A1, c1, rfl, hb1, hom1, hbw, he1⟩
      have HB1 := Hd.mk (show w1.heap[b]? = some (sdC (.slice A1 (streamOf a0 [n1]).length c1)) from hb1)
      have HOM1 := Hd.mk hom1
      have HV1 := Hd.mk he1
      have hd1 := he1.obj HD0.out
      have d0 := cell_obj (i := 0) hd1
      have df := frozen_obj hd1 0
      clear hb1 hom1 he1 hd1
      have hlt0 := obj_lt HD0.out
      go_wp2_with fail
      obtain ⟨W2, hW2⟩ : ∃ W2, W2 = w1.setCell ⟨wr.heap.size, 0, none⟩ (.int .u64 6) := ⟨_, rfl⟩
      have HF2 := Hd.mk (show Fr (fun q => q < V0.heap.size) w1 W2 from by rw [hW2]; exact (Fr.refl (fun q => q < V0.heap.size) w1).set (p := ⟨wr.heap.size, 0, none⟩) (.inl hlt0) _)
      have HE2 := Hd.mk (show Ext w W2 from by
        rw [hW2]
        exact (HEw.out.trans (HEV.out.trans HV1.out)).set (p := ⟨wr.heap.size, 0, none⟩) HEw.out.size _)
      rw [← hW2]
      have HB2 := Hd.mk (HF2.out.obj (show ¬ b < V0.heap.size by omega) HB1.out)
      have HS2 := Hd.mk ((HOM1.out.fr (fun q hq ho => by have := HOM1.out.block q ho; omega) HF2.out).om.sm2)
      clear hW2 d0 df
      refine (SLoad_calls b A1 c1 0 (streamOf a0 [n1]) W2 HB2.out HS2.out n_may (by decide) (by decide)).mono ?_
      rintro e w3 ⟨v3, rfl, hos3, he3⟩
      rw [n_next]
      have HPR := Hd.mk (show partR (streamOf a0 [n1]) 0 = streamOf a0 [n1] from by rw [partR, n_next]; rfl)
      rw [HPR.out] at hos3
      obtain ⟨bs, hbs⟩ : ∃ bs, bs = u64le (UInt64.ofNat 0) ++ fileB (streamOf a0 [n1]) := ⟨_, rfl⟩
      rw [← hbs] at hos3
      have hbl : bs.length = 8 + (fileB (streamOf a0 [n1])).length := by rw [hbs, List.length_append, u64le_len]
      have hfl : (fileB (streamOf a0 [n1])).length = 236 := by rw [fileB_len]; decide
      rw [hfl] at hbl
      obtain ⟨A3, c3, rfl, hs3⟩ := hos3.sc
      have HBL := Hd.mk hbl
      have HBS := Hd.mk hbs
      have HO3 := Hd.mk hos3
      have HS3 := Hd.mk hs3
      have HE23 := Hd.mk he3
      have hbl9 : bs.length ≤ 1000 := by omega
      clear hos3 he3 hs3 hbs hbl hfl
      go_wp2_with (at_builtin; refine wpList_app _ tB rfl (.const (.slice none 0 0)) (.tmp 77) rfl w3.heap.size (.slice none 0 0) 0 [] rfl (Os.nil vB w3 w3.heap.size 5) A3 bs.length c3 (bs.map vB) rfl (by simp) HS3.out.fl (one_int .u8 (fun b : UInt8 => (b.toNat : Int)) bs) (by omega) (Nat.le_refl _) ?_)
      rintro v4 w4 hown4 hg4 hv4
      have hO4 : Os vB w4 w3.heap.size 5 v4 bs := hown4
      have HE34 := Hd.mk (show Ext w3 w4 from (Ext.refl w3).grown hg4 (fun k hk => by simp [Value.ownBlock] at hk))
      obtain ⟨A4, c4, rfl, _⟩ := hO4.sc
      have HO4 := Hd.mk hO4
      have HO34 := Hd.mk (HO3.out.ext HE34.out)
      clear hown4 hg4 hv4 hO4
      go_wp2_with fail
      go_loopw [81] (fun t w5 => ∃ (k : Nat) (ys : List UInt8), k ≤ bs.length ∧ t = .int .i64 (k : Int) ∧ ys.length = bs.length ∧ Os vB w5 W2.heap.size 5 (.slice A3 bs.length c3) ys ∧ Fr (ownF (.slice A3 bs.length c3)) w4 w5) (fun t _ => bs.length - (intOf t).toNat)
      case atStart => exact ⟨0, bs, Nat.zero_le _, rfl, rfl, HO34.out, Fr.refl _ _⟩
      case round =>
        obtain ⟨k, ys, hk, rfl, hyl, hos5, hf5⟩ := hrel
        have HYL := Hd.mk hyl
        have HO5 := Hd.mk hos5
        have HF5 := Hd.mk hf5
        clear hyl hos5 hf5
        by_cases hlt : k < bs.length
        · obtain ⟨g, rfl, hg, _, hcell, hfz, hset⟩ := HO5.out.at' (i := k) (by rw [HYL.out]; exact hlt)
          generalize ys[k]'(by rw [HYL.out]; exact hlt) = y at hcell
          have h8 : (UInt8.ofNat (y.toNat ^^^ 255)).toNat = y.toNat ^^^ 255 := by
            have h1 : y.toNat ^^^ 255 < 2 ^ 8 := Nat.xor_lt_two_pow y.toNat_lt (by omega)
            rw [UInt8.toNat_ofNat', Nat.mod_eq_of_lt h1]
          have hxo : bits .xor .u8 (y.toNat : Int) 255 = ((y.toNat ^^^ 255 : Nat) : Int) := by have := xor_byte y 255 (by omega); rw [h8] at this; exact this
          have HSET := Hd.mk (hset (UInt8.ofNat (y.toNat ^^^ 255)))
          rw [show vB (UInt8.ofNat (y.toNat ^^^ 255)) = .int .u8 ((y.toNat ^^^ 255 : Nat) : Int) by rw [vB, h8]] at HSET
          have hcc := HO5.out.sc2.1
          have hcm := HO5.out.sc2.2.1
          unfold maxLen at hcm
          have hcb : bs.length ≤ c3 := by rw [← HYL.out]; exact hcc
          clear hset hcc h8
          go_wp2_with fail
          refine ⟨⟨k + 1, ys.set k (UInt8.ofNat (y.toNat ^^^ 255)), by omega, by go_num, by rw [List.length_set]; exact HYL.out, HSET.out, HF5.out.set (p := ⟨g, k, none⟩) (.inl rfl) _⟩, by simp [intOf]; omega⟩
        · have HEW := Hd.mk (show Ext W2 wr from ext_fr (HE23.out.trans HE34.out) HF5.out (fun q hq => owns_block HO3.out q hq))
          have HO4r := Hd.mk (HO4.out.fr' (F := ownF (.slice A3 bs.length c3)) (fun q hq ho => by have := owns_lt HO3.out q hq; have := owns_block HO4.out q ho; omega) HF5.out)
          go_wp2_with fail
          refine (SLoad_calls b A1 c1 0 (streamOf a0 [n1]) wr (HEW.out.obj HB2.out) (HS2.out.ext byR_keeps HEW.out) n_may (by decide) (by decide)).mono ?_
          rintro e w5 ⟨v5, rfl, hos5, he5⟩
          rw [n_next]
          rw [HPR.out, ← HBS.out] at hos5
          obtain ⟨A5, c5, rfl, hs5⟩ := hos5.sc
          have HS5 := Hd.mk hs5
          have HE5 := Hd.mk (HEW.out.trans he5)
          have HO45 := Hd.mk (HO4r.out.ext he5)
          clear hos5 he5 hs5
          go_wp2_with fail
          have hs5 := HS5.out
          have hbl := HBL.out
          rw [HBS.out] at hs5
          have hfl : (fileB (streamOf a0 [n1])).length = 236 := by rw [fileB_len]; decide
          rw [show bs.length = 8 + (fileB (streamOf a0 [n1])).length by rw [hfl]; exact hbl]
          refine (Parse_calls A5 c5 0 (streamOf a0 [n1]) w5 hs5 (by omega) n_may (by rw [hfl]; omega) (by decide)).mono ?_
          rintro e w6 ⟨v6, rfl, hom6, he6⟩
          rw [show 8 + (fileB (streamOf a0 [n1])).length = bs.length by rw [hfl]; exact hbl.symm]
          obtain ⟨A6, c6, rfl⟩ := hom6.slice
          have hsm6 := hom6.om.sm2
          rw [show (streamOf a0 [n1]).length = 3 from rfl]
          have HE6 := Hd.mk (HE5.out.trans he6)
          have HS6 := Hd.mk (HS5.out.ext he6)
          have HO6 := Hd.mk (HO45.out.ext he6)
          have HM6 := Hd.mk hsm6
          clear hs5 hbl hfl hom6 he6 hsm6
          go_wp2_with fail
          refine (Same01_calls A5 A4 c5 c4 bs bs _ HS6.out HO6.out.sc2).mono ?_
          rintro e w7 ⟨rfl, he7⟩
          rw [decide_eq_true (rfl : bs = bs)]
          have HE7 := Hd.mk (HE6.out.trans he7)
          obtain ⟨b8, off8, x8, cs8, rfl, hx8, ⟨A9, c9, rfl, hd9⟩, _, hcx8⟩ := (HM6.out.ext rcR_keeps he7).at (i := 1) (by decide)
          obtain rfl : x8 = recOf n1 := by rw [← hx8]; rfl
          obtain ⟨b9, off9, rfl, hc9⟩ := hd9.2.2 (by decide)
          have l7 : w7.cell? ⟨b8, off8 + 8 + 7, none⟩ = some (.slice (some ⟨b9, off9, none⟩) 1 c9) := by
            have := hcx8 7 _ rfl
            rw [show off8 + 1 * 8 + 7 = off8 + 8 + 7 by omega] at this
            exact this
          have l9 : w7.cell? ⟨b9, off9, none⟩ = some (.int .u64 5) := by
            have := hc9 0 (by decide)
            exact this
          clear he7 hx8 hcx8 hc9 hd9
          go_wp2_with fail
          refine (alive19_calls _).mono ?_
          rintro e w8 ⟨rfl, he8⟩
          have HE8 := Hd.mk (HE2.out.trans (HE7.out.trans he8))
          clear he8 l7 l9
          go_wp2
          go_ret
          exact ⟨rfl, HE8.out⟩
end Go.Proofs.Ytipoegmheiapgaa
