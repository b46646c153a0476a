/- Loads of records; the law's probe of a sender: alive. -/
import Derived.Test.YtipoegmheiapgaaS8
import Derived.Test.YtipoegmheiapgaaS3
namespace Go.Proofs.Ytipoegmheiapgaa
set_option linter.unusedVariables false
set_option linter.unusedSimpArgs false
open Go.RowKit

def nextR (rs : List Rc) (i : Nat) : Nat := nextOf (rs.map recBy) i
def partR (rs : List Rc) (i : Nat) : List Rc := (rs.take (nextR rs i)).drop i
theorem nextR_le {rs : List Rc} {i : Nat} (h : i < rs.length) : i < nextR rs i ∧ nextR rs i ≤ rs.length := by
  have := nextOf_le (bss := rs.map recBy) (i := i) (by simpa using h)
  simpa [nextR] using this
theorem partR_len {rs : List Rc} {i : Nat} (h : i < rs.length) : (partR rs i).length = nextR rs i - i := by
  have := nextR_le h
  simp [partR]; omega
theorem flat_part (rs : List Rc) (i n : Nat) : (((rs.map recBy).take n).drop i).flatten = fileB ((rs.take n).drop i) := by
  rw [fileB_flat, List.map_drop, List.map_take]
theorem partR_small {rs : List Rc} {i : Nat} (hm : rs.all may = true) (h : i < rs.length) : (fileB (partR rs i)).length ≤ 1100 := by
  have hb : (recBy rs[i]).length ≤ 588 := by
    rw [recBy_len]
    have := may_data (List.all_eq_true.1 hm rs[i] (List.getElem_mem h))
    omega
  have h1 := more_size (recBy rs[i]).length ((rs.map recBy).drop (i + 1)) (by omega)
  have h2 : partR rs i = rs[i] :: (rs.drop (i + 1)).take (more (recBy rs[i]).length ((rs.map recBy).drop (i + 1))) := by
    have hg : (rs.map recBy).getD i [] = recBy rs[i] := by simp [List.getD_eq_getElem?_getD, h]
    rw [partR, nextR, nextOf, hg, List.drop_take, show i + 1 + more (recBy rs[i]).length ((rs.map recBy).drop (i + 1)) - i = more (recBy rs[i]).length ((rs.map recBy).drop (i + 1)) + 1 by omega, List.drop_eq_getElem_cons h, List.take_succ_cons]
  rw [h2, fileB_cons, List.length_append]
  rw [show fileB (List.take (more (recBy rs[i]).length (List.drop (i + 1) (List.map recBy rs))) (List.drop (i + 1) rs)) = (List.take (more (recBy rs[i]).length (List.drop (i + 1) (List.map recBy rs))) (List.drop (i + 1) (rs.map recBy))).flatten by
    rw [fileB_flat, List.map_take, List.map_drop]]
  exact h1
theorem partR_may {rs : List Rc} {i : Nat} (hm : rs.all may = true) : (partR rs i).all may = true :=
  List.all_eq_true.2 fun x hx => List.all_eq_true.1 hm x (List.mem_of_mem_take (List.mem_of_mem_drop hx))
theorem partR_ne {rs : List Rc} {i : Nat} (h : i < rs.length) : partR rs i ≠ [] := by
  intro e
  have := partR_len h
  have := nextR_le h
  rw [e] at *
  simp at *
  omega

theorem SLoad_calls (b : Nat) (A : Option Addr) (c i : Nat) (rs : List Rc) (w : World) (h : w.heap[b]? = some (sdC (.slice A rs.length c))) (hs : Sm 1 byR w A c (rs.map recBy)) (hm : rs.all may = true) (hi : i < rs.length) (hn : rs.length ≤ 1048580) :
    Calls Try.prog 18 #[.pointer (some ⟨b, 0, none⟩), .int .i64 (i : Int)] w fun e w' => ∃ v, e = .returned (.tuple #[v, .int .i64 (nextR rs i : Int), .int .i64 0]) ∧
      Os vB w' w.heap.size 5 v (u64le (UInt64.ofNat i) ++ fileB (partR rs i)) ∧ Ext w w' := by
  have hl : (rs.map recBy).length = rs.length := by simp
  refine (Load_calls b A c i (rs.map recBy) w (by rw [hl]; exact h) hs (by rw [hl]; exact hi) (by rw [hl]; exact hn) (fun j hj => ?_)).mono ?_
  · rw [List.getElem_map, recBy_len]
    have := may_data (List.all_eq_true.1 hm rs[j] (List.getElem_mem (by simpa using hj)))
    omega
  · rintro e w' ⟨v, h1, h2, h3⟩
    refine ⟨v, h1, ?_, h3⟩
    rw [flat_part] at h2
    exact h2

def moreN : Nat → List Nat → Nat
  | _, [] => 0
  | s, b :: bs => if s + b ≤ 1100 then moreN (s + b) bs + 1 else 0
theorem more_N : ∀ (s : Nat) (bs : List (List UInt8)), more s bs = moreN s (bs.map List.length)
  | _, [] => rfl
  | s, b :: bs => by rw [more, List.map_cons, moreN, more_N]
theorem nextR_N (rs : List Rc) {i : Nat} (h : i < rs.length) : nextR rs i = i + 1 + moreN (76 + 8 * rs[i].data.length) ((rs.map (fun r => 76 + 8 * r.data.length)).drop (i + 1)) := by
  have hg : (rs.map recBy).getD i [] = recBy rs[i] := by simp [List.getD_eq_getElem?_getD, h]
  rw [nextR, nextOf, hg, recBy_len, more_N, List.map_drop, List.map_map]
  congr 3
  exact List.map_congr_left fun r _ => recBy_len r

def s1 : VOp := ⟨2, 1, 2, []⟩
theorem s_build : build a0 [s1] = (streamOf a0 [s1], 0) := by decide
theorem s_check : check (streamOf a0 [s1]) = 0 := by decide
theorem s_may : (streamOf a0 [s1]).all may = true := by decide
theorem s_next : nextR (streamOf a0 [s1]) 0 = 3 := by rw [nextR_N _ (by decide)]; decide

set_option maxHeartbeats 4000000 in
set_option maxRecDepth 100000 in
theorem alive19_calls (w : World) : Calls Try.prog 15 #[] w fun e w' => e = .returned (.bool true) ∧ Ext w w' := by
  go_enter Try.func15, Try.ntmps15
  go_wp2_with fail
  have e0 : Ext w (w.alloc (.cells #[.int .i64 2, .int .i64 1, .int .i64 2, .slice none 0 0] 56)) := (Ext.refl w).alloc _
  have ho : Sm 4 opR (w.alloc (.cells #[.int .i64 2, .int .i64 1, .int .i64 2, .slice none 0 0] 56)) (some ⟨w.heap.size, 0, none⟩) 1 [s1] :=
    Sm.one (heap_new w _) ⟨none, 0, rfl, Sc.nil _ _⟩ rfl
  refine (senderNew_ok a0 none 0 _ 1 [s1] _ (Sc.nil _ _) ho (by simp) (by simp [s1]) s_build s_check).mono ?_
  rintro e w1 ⟨b, A1, c1, rfl, hb1, hs1, hbw, he1⟩
  have HE1 := Hd.mk (e0.trans he1)
  have HB1 := Hd.mk (show w1.heap[b]? = some (sdC (.slice A1 (streamOf a0 [s1]).length c1)) from hb1)
  have HS1 := Hd.mk hs1.om.sm2
  clear e0 ho hb1 hs1 he1 hbw
  go_wp2_with fail
  refine (SLoad_calls b A1 c1 0 (streamOf a0 [s1]) w1 HB1.out HS1.out s_may (by decide) (by decide)).mono ?_
  rintro e w2 ⟨v2, rfl, hos2, he2⟩
  rw [s_next]
  obtain ⟨A2, c2, rfl, hs2⟩ := hos2.sc
  rw [List.length_append, u64le_len]
  have HS2 := Hd.mk hs2
  have HE2 := Hd.mk (HE1.out.trans he2)
  have HB2 := Hd.mk (he2.obj HB1.out)
  have HFL := Hd.mk (partR_small (i := 0) s_may (by decide))
  have hpl := partR_len (rs := streamOf a0 [s1]) (i := 0) (by decide)
  rw [s_next] at hpl
  have HPL := Hd.mk hpl
  clear hos2 he2 hs2 hpl
  go_wp2_with fail
  refine (Parse_calls A2 c2 0 (partR (streamOf a0 [s1]) 0) w2 HS2.out (by omega) (partR_may s_may) HFL.out (partR_ne (by decide))).mono ?_
  rintro e w3 ⟨v3, rfl, hom3, he3⟩
  obtain ⟨A3, c3, rfl, _⟩ := hom3.om.sm
  rw [HPL.out]
  have HE3 := Hd.mk (HE2.out.trans he3)
  have HB3 := Hd.mk (he3.obj HB2.out)
  have hl3 : (streamOf a0 [s1]).length = 3 := rfl
  rw [hl3] at HB3
  clear hom3 he3 hl3
  go_wp2_with fail
  refine (Many_calls b A1 3 c1 _ HB3.out).mono ?_
  rintro e w4 ⟨rfl, hd4⟩
  have HE4 := Hd.mk (HE3.out.trans hd4.ext)
  clear hd4
  go_wp2_with fail
  refine (Base_calls 4 (some ⟨w4.heap.size, 0, none⟩) 2 [3, 4] _ (Sc.new (heap_new w4 _) rfl (by simp) (by simp [maxLen]))).mono ?_
  rintro e w5 ⟨rfl, he5⟩
  have HE5 := Hd.mk ((HE4.out.alloc (.cells #[.int .i64 3, .int .i64 4] 3)).trans he5)
  rw [show baseOf 4 [3, 4] = 4 from rfl]
  clear he5
  go_wp2
  go_ret
  exact ⟨rfl, HE5.out⟩
end Go.Proofs.Ytipoegmheiapgaa
