/- The law's probe of a stream: alive. -/
import Derived.Test.YtipoegmheiapgaaK10
namespace Go.Proofs.Ytipoegmheiapgaa
set_option linter.unusedVariables false
set_option linter.unusedSimpArgs false
open Go.RowKit

def a0 : Rc := ⟨1, 0, 1, 0, 0, 0, 9, []⟩
def a1 : VOp := ⟨1, 2, 0, [5]⟩
def aL : List Rc := streamOf a0 [a1]
theorem a_build : build a0 [a1] = (aL, 0) := by decide
theorem a_may : aL.all may = true := by decide
theorem a_check : check aL = 0 := by decide
theorem recB_len (r : Rc) : (recB r).length = 68 + 8 * r.data.length := by
  rw [recB_all, sealF_len, putB_len, allN_len]; omega
theorem fileB_len (rs : List Rc) : (fileB rs).length = (rs.map (fun r => 76 + 8 * r.data.length)).sum := by
  induction rs with
  | nil => rfl
  | cons r rs ih => rw [fileB_cons, List.length_append, ih, partB, List.length_append, u64le_len, recB_len]; simp; omega
theorem a_file : (fileB aL).length = 236 := by rw [fileB_len]; decide
theorem encode_ok {rs : List Rc} (h : rs.all may = true) (hl : (fileB rs).length ≤ 65536) : encode rs = (fileB rs, 0) := by
  rw [encode, if_neg, if_neg (by omega)]
  intro h2
  rw [List.any_eq_true] at h2
  obtain ⟨r, hr, h3⟩ := h2
  rw [List.all_eq_true.1 h r hr] at h3
  cases h3

set_option maxHeartbeats 4000000 in
set_option maxRecDepth 100000 in
theorem alive10_calls (w : World) : Calls Try.prog 10 #[] w fun e w' => e = .returned (.bool true) ∧ Ext w w' := by
  go_enter Try.func10, Try.ntmps10
  go_wp2_with fail
  have e0 : Ext w ((w.alloc (.cells #[.int .u64 5] 54)).alloc (.cells #[.int .i64 1, .int .i64 2, .int .i64 0, .slice (some ⟨w.heap.size, 0, none⟩) 1 1] 56)) := ((Ext.refl w).alloc _).alloc _
  have ho : Sm 4 opR ((w.alloc (.cells #[.int .u64 5] 54)).alloc (.cells #[.int .i64 1, .int .i64 2, .int .i64 0, .slice (some ⟨w.heap.size, 0, none⟩) 1 1] 56)) (some ⟨w.heap.size + 1, 0, none⟩) 1 [a1] :=
    Sm.one (heap_at (by simp)) ⟨some ⟨w.heap.size, 0, none⟩, 1, rfl, (Sc.new (xs := [5]) (heap_new w _) rfl (by simp) (by simp [maxLen])).ext ((Ext.refl _).alloc _)⟩ rfl
  refine (Build_calls a0 none 0 _ 1 [a1] _ (Sc.nil _ _) ho (by simp) (by simp [a1])).mono ?_
  rintro e w1 ⟨v1, rfl, hom1, he1⟩
  rw [a_build] at hom1 ⊢
  obtain ⟨A1, c1, rfl, hs1⟩ := hom1.sm
  have HS1 := Hd.mk hs1
  have HE1 := Hd.mk (e0.trans he1)
  clear e0 ho hom1 he1 hs1
  have hl : aL.length = 3 := rfl
  rw [hl]
  go_wp2_with fail
  refine (Encode_calls A1 c1 aL w1 HS1.out (by rw [hl]; omega)).mono ?_
  rintro e w2 ⟨v2, rfl, hos2, he2⟩
  rw [encode_ok a_may (by rw [a_file]; omega)] at hos2 ⊢
  obtain ⟨A2, c2, rfl, hs2⟩ := hos2.sc
  have HS2 := Hd.mk hs2
  have HE2 := Hd.mk (HE1.out.trans he2)
  have HS1 := Hd.mk (HS1.out.ext rcR_keeps he2)
  clear hos2 he2 hs2
  go_wp2_with fail
  refine (streamNew_calls _).mono ?_
  rintro e w3 ⟨rfl, hp3, he3⟩
  obtain ⟨b, hb⟩ : ∃ b, b = w2.heap.size := ⟨_, rfl⟩
  rw [← hb] at hp3 ⊢
  have HP3 := Hd.mk hp3
  have HE3 := Hd.mk (HE2.out.trans he3)
  have HE23 := Hd.mk he3
  have HB2 := Hd.mk (show w2.heap.size ≤ b from by rw [hb]; omega)
  have HS2 := Hd.mk (HS2.out.ext he3)
  have HBN := Hd.mk (show w.heap.size ≤ b from by rw [hb]; exact HE2.out.size)
  clear hp3 he3 hb
  go_wp2_with fail
  refine (Feed_calls b A2 c2 aL w3 HP3.out a_may HS2.out (by rw [a_file]; omega) (by rw [hl]; omega)).mono ?_
  rintro e w4 ⟨v4, rfl, hom4, ⟨A5, c5, hb4⟩, hf4⟩
  obtain ⟨A4, c4, rfl, hs4⟩ := hom4.om.sm
  rw [a_file] at hb4
  have HB4 := Hd.mk hb4
  have HS4 := Hd.mk hs4
  have HF4 := Hd.mk hf4
  have HE24 := Hd.mk (ext_fr HE23.out hf4 (fun q hq => by rw [hq]; exact HB2.out))
  have HS1 := Hd.mk (HS1.out.ext rcR_keeps HE24.out)
  clear hom4 hb4 hs4 hf4
  rw [hl]
  go_wp2_with fail
  refine (RSame_calls A4 A1 c4 c1 aL aL _ HS4.out HS1.out).mono ?_
  rintro e w5 ⟨rfl, he5⟩
  rw [decide_eq_true (rfl : aL = aL)]
  have HE25 := Hd.mk (HE24.out.trans he5)
  have HB5 := Hd.mk (he5.obj HB4.out)
  have HS5 := Hd.mk (HS4.out.ext rcR_keeps he5)
  clear he5
  go_wp2_with fail
  refine (Waits_calls b A5 0 c5 _ _ HB5.out (by omega)).mono ?_
  rintro e w6 ⟨rfl, hd6⟩
  have HE26 := Hd.mk (HE25.out.trans hd6.ext)
  have HB6 := Hd.mk (hd6.ext.obj HB5.out)
  have HS6 := Hd.mk (HS5.out.ext rcR_keeps hd6.ext)
  clear hd6
  go_wp2_with fail
  refine (rdFault_calls b _ _ _ HB6.out).mono ?_
  rintro e w7 ⟨rfl, he7⟩
  have HE27 := Hd.mk (HE26.out.trans he7)
  have HS7 := Hd.mk (HS6.out.ext rcR_keeps he7)
  clear he7
  go_wp2_with fail
  refine (Check_calls A4 c4 aL _ HS7.out (by rw [hl]; omega)).mono ?_
  rintro e w8 ⟨rfl, he8⟩
  rw [a_check]
  have HE8 := Hd.mk (HE2.out.trans (HE27.out.trans he8))
  clear he8
  go_wp2_with fail
  go_ret
  exact ⟨rfl, HE8.out⟩
end Go.Proofs.Ytipoegmheiapgaa
