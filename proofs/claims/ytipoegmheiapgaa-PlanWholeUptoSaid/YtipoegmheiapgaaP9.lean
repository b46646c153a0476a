/- What holds of the parts that alive takes; the law PlanWhole. -/
import Derived.Test.YtipoegmheiapgaaP8
import Derived.Test.YtipoegmheiapgaaK3
namespace Go.Proofs.Ytipoegmheiapgaa
set_option linter.unusedVariables false
set_option linter.unusedSimpArgs false
open Go.RowKit

def m14 : List Pc := [⟨0, 4, 0⟩, ⟨4, 7, 2⟩]
def o14 : VOp := ⟨2, 3, 2, []⟩
def p14 : List Pt := [⟨0, 0, ⟨2, 3, 1, []⟩⟩, ⟨1, 2, ⟨2, 4, 1, []⟩⟩]
theorem m14_right : mapR 1 7 m14 = true := by decide
theorem o14_right : right 7 o14 = true := by decide
theorem p14_cut : cutL o14.o (o14.o + o14.n) (partOf o14) 0 m14 = p14 := by decide
theorem p14_whole : whole (p14.map Pt.op) = (o14, 0) := by decide

set_option maxHeartbeats 4000000 in
set_option maxRecDepth 100000 in
theorem alive14_calls (w : World) : Calls Try.prog 28 #[] w fun e w' => e = .returned (.bool true) ∧ Ext w w' := by
  go_enter Try.func28, Try.ntmps28
  go_wp2_with fail
  have hsm : ∀ W, Ext (w.alloc (.cells #[.int .i64 0, .int .i64 4, .int .i64 0, .int .i64 4, .int .i64 7, .int .i64 2] 103)) W → Sm 3 pcR W (some ⟨w.heap.size, 0, none⟩) 2 m14 := by
    intro W hW
    have hb := hW.obj (heap_new w (.cells #[.int .i64 0, .int .i64 4, .int .i64 0, .int .i64 4, .int .i64 7, .int .i64 2] 103))
    refine ⟨Nat.le_refl _, by simp [maxLen], fun _ => ⟨w.heap.size, 0, rfl, fun i hi => ?_⟩⟩
    have hi' : i = 0 ∨ i = 1 := by simp [m14] at hi; omega
    rcases hi' with rfl | rfl
    · refine ⟨[.int .i64 0, .int .i64 4, .int .i64 0], rfl, rfl, fun j v hj => ?_⟩
      rw [cell_obj hb]
      have hj3 : j < 3 := by have := (List.getElem?_eq_some_iff.1 hj).1; simpa using this
      have : j = 0 ∨ j = 1 ∨ j = 2 := by omega
      rcases this with rfl | rfl | rfl <;> simpa using hj
    · refine ⟨[.int .i64 4, .int .i64 7, .int .i64 2], rfl, rfl, fun j v hj => ?_⟩
      rw [cell_obj hb]
      have hj3 : j < 3 := by have := (List.getElem?_eq_some_iff.1 hj).1; simpa using this
      have : j = 0 ∨ j = 1 ∨ j = 2 := by omega
      rcases this with rfl | rfl | rfl <;> simpa using hj
  have HSM := Hd.mk hsm
  have E0 := Hd.mk (((Ext.refl w).alloc (.cells #[.int .i64 0, .int .i64 4, .int .i64 0, .int .i64 4, .int .i64 7, .int .i64 2] 103)).alloc (.cells #[.int .i64 1, .int .i64 7, .slice (some ⟨w.heap.size, 0, none⟩) 2 2] 106))
  clear hsm
  refine (planOps_ok 1 7 (some ⟨w.heap.size, 0, none⟩) 2 m14 o14 none 0 _ (HSM.out _ ((Ext.refl _).alloc _)) (Sc.nil _ _) m14_right o14_right).mono ?_
  rintro e w1 ⟨v1, rfl, hom1, he1⟩
  rw [p14_cut] at hom1
  obtain ⟨A1, c1, rfl⟩ := hom1.slice
  have hs1 := hom1.om.sm2
  have HS1 := Hd.mk hs1
  have HE1 := Hd.mk (E0.out.trans he1)
  obtain ⟨b, off, x, cs, rfl, hx, ⟨A3, c3, rfl, hd3⟩, _, hcx⟩ := hs1.at (show 1 < p14.length by decide)
  have hx : x = ⟨1, 2, ⟨2, 4, 1, []⟩⟩ := hx.symm
  subst hx
  have HC := Hd.mk hcx
  clear hcx hd3 hs1 hom1 he1
  go_wp2_with fail
  refine (Whole_calls _ c1 p14 w1 HS1.out (by decide)).mono ?_
  rintro e w2 ⟨A4, c4, rfl, hs4, he4⟩
  rw [p14_whole]
  have HE2 := Hd.mk (HE1.out.trans he4)
  have j1 : w2.cell? ⟨b, off + 1 * 6 + 1, none⟩ = some (.int .i64 2) := he4.cell (HC.out 1 _ rfl)
  have j3 : w2.cell? ⟨b, off + 1 * 6 + 3, none⟩ = some (.int .i64 4) := he4.cell (HC.out 3 _ rfl)
  have hc1 : p14.length ≤ c1 := HS1.out.1
  have hc2 := HS1.out.2.1
  unfold maxLen at hc2
  rw [show p14.length = 2 from rfl] at hc1
  have hl14 : p14.length = 2 := rfl
  simp only [hl14, o14, opV, Nat.one_mul]
  rw [Nat.one_mul] at j1 j3
  have hbw := cell_lt j1
  have j3 : w2.cell? ⟨b, off + 6 + 2 + 1, none⟩ = some (.int .i64 4) := j3
  clear hs4 he4 HC
  go_wp2
  go_ret
  exact ⟨rfl, HE2.out.alloc _⟩

theorem Sm.take {α : Type} {k : Nat} {R : World → α → List Value → Prop} {w : World} {A : Option Addr} {c : Nat} {xs : List α} (h : Sm k R w A c xs) (n : Nat) : Sm k R w A c (xs.take n) := by
  refine ⟨by rw [List.length_take]; have := h.1; omega, h.2.1, fun hx => ?_⟩
  rw [List.length_take] at hx
  obtain ⟨b, off, hA, hc⟩ := h.2.2 (by omega)
  refine ⟨b, off, hA, fun i hi => ?_⟩
  rw [List.length_take] at hi
  rw [List.getElem_take]
  exact hc i (by omega)

set_option maxHeartbeats 4000000 in
set_option maxRecDepth 100000 in
theorem PlanWhole_calls (A : Option Addr) (c : Nat) (l : List Pt) (w : World) (hr : Sm 6 ptR w A c l) :
    Calls Try.prog 8 #[.slice A l.length c] w fun e w' => e = .returned (.bool true) ∧ Ext w w' := by
  have hc1 := hr.1
  have hc2 := hr.2.1
  unfold maxLen at hc2
  have HR := Hd.mk (hr.take 300)
  have hll : (l.take 300).length = min 300 l.length := List.length_take
  generalize hl3 : l.take 300 = l3 at HR hll
  clear hl3 hr
  go_enter Try.func8, Try.ntmps8
  obtain ⟨n, hn⟩ : ∃ n, n = l.length := ⟨_, rfl⟩
  rw [← hn] at hc1 hll ⊢
  have HMIN := Hd.mk (show (min (n : Int) 300).toNat = l3.length from by omega)
  have HL3 := Hd.mk (show l3.length ≤ 300 from by omega)
  clear hn hll
  go_wp2_with fail
  rw [HMIN.out]
  refine (back_calls A c l3 w HR.out (by have := HL3.out; omega)).mono ?_
  rintro e w1 ⟨A1, c1, rfl, hs1, he1⟩
  have HE1 := Hd.mk he1
  have HS1 := Hd.mk hs1
  clear he1 hs1
  go_wp2_with fail
  refine (Whole_calls A1 c1 l3 w1 HS1.out (by have := HL3.out; omega)).mono ?_
  rintro e w2 ⟨A2, c2, rfl, hs2, he2⟩
  have HE2 := Hd.mk (HE1.out.trans he2)
  have HS2 := Hd.mk hs2
  clear hs2 he2
  generalize hq : whole (l3.map Pt.op) = q at *
  have HQ := Hd.mk hq
  clear hq
  go_wp2_with fail
  try rw [HMIN.out]
  refine (RWhole_calls A c l3 _ (HR.out.ext ptR_keeps (HE2.out.alloc _)) (by have := HL3.out; omega)).mono ?_
  rintro e w3 ⟨A3, c3, rfl, hs3, he3⟩
  rw [HQ.out] at hs3 ⊢
  obtain ⟨o, f⟩ := q
  have hb2 := he3.obj (heap_new w2 (.cells #[.int .i64 o.kind, .int .i64 o.off, .int .i64 o.len, .slice A2 o.data.length c2] 56))
  have HE23 := Hd.mk (show Ext w2 w3 from ((Ext.refl w2).alloc _).trans he3)
  have HS3 := Hd.mk hs3
  have HB2 := Hd.mk hb2
  clear hs3 he3 hb2
  have x0 := cell_obj (i := 0) HB2.out
  have x1 := cell_obj (i := 1) HB2.out
  have x2 := cell_obj (i := 2) HB2.out
  have x3 := cell_obj (i := 3) HB2.out
  have hbw := obj_lt HB2.out
  go_wp2_with fail
  have ha : Sm 4 opR (((w3.alloc (.cells #[.int .i64 o.kind, .int .i64 o.off, .int .i64 o.len, .slice A3 o.data.length c3] 56)).alloc (.cells #[.int .i64 o.kind, .int .i64 o.off, .int .i64 o.len, .slice A2 o.data.length c2] 56)).alloc (.cells #[.int .i64 o.kind, .int .i64 o.off, .int .i64 o.len, .slice A3 o.data.length c3] 56)) (some ⟨w3.heap.size + 1, 0, none⟩) 1 [o] :=
    Sm.one (((Ext.refl _).alloc _).obj (heap_at (by simp))) ⟨A2, c2, rfl, HS2.out.ext (((HE23.out.alloc _).alloc _).alloc _)⟩ rfl
  have hb : Sm 4 opR (((w3.alloc (.cells #[.int .i64 o.kind, .int .i64 o.off, .int .i64 o.len, .slice A3 o.data.length c3] 56)).alloc (.cells #[.int .i64 o.kind, .int .i64 o.off, .int .i64 o.len, .slice A2 o.data.length c2] 56)).alloc (.cells #[.int .i64 o.kind, .int .i64 o.off, .int .i64 o.len, .slice A3 o.data.length c3] 56)) (some ⟨w3.heap.size + 1 + 1, 0, none⟩) 1 [o] :=
    Sm.one (heap_at (by simp)) ⟨A3, c3, rfl, HS3.out.ext ((((Ext.refl _).alloc _).alloc _).alloc _)⟩ rfl
  refine (VSame_calls _ _ 1 1 [o] [o] _ ha hb).mono ?_
  rintro e w4 ⟨rfl, hd4⟩
  rw [decide_eq_true (rfl : [o] = [o])]
  have HE4 := Hd.mk ((HE2.out.trans ((((HE23.out.alloc _).alloc _).alloc _))).trans hd4.ext)
  clear ha hb hd4 x0 x1 x2 x3 hbw
  go_wp2_with fail
  try rw [HMIN.out]
  refine (back_calls A c l3 w4 (HR.out.ext ptR_keeps HE4.out) (by have := HL3.out; omega)).mono ?_
  rintro e w5 ⟨A5, c5, rfl, hs5, he5⟩
  have HE5 := Hd.mk (HE4.out.trans he5)
  have HS5 := Hd.mk hs5
  clear he5 hs5
  go_wp2_with fail
  refine (Nodes_calls A5 c5 l3 w5 HS5.out (by have := HL3.out; omega)).mono ?_
  rintro e w6 ⟨A6, c6, rfl, hs6, he6⟩
  have HE6 := Hd.mk (HE5.out.trans he6)
  have HS6 := Hd.mk hs6
  clear he6 hs6
  generalize hz : nodesOf (l3.map Pt.node) = zs at HS6
  have HZ := Hd.mk hz
  clear hz
  go_wp2_with fail
  try rw [HMIN.out]
  refine (RNodes_calls A c l3 w6 (HR.out.ext ptR_keeps HE6.out) (by have := HL3.out; omega)).mono ?_
  rintro e w7 ⟨A7, c7, rfl, hs7, he7⟩
  rw [HZ.out] at hs7 ⊢
  have HE7 := Hd.mk (HE6.out.trans he7)
  have HE67 := Hd.mk he7
  have HS7 := Hd.mk hs7
  clear he7 hs7
  go_wp2_with fail
  refine (Int_list_calls A6 A7 c6 c7 zs zs w7 (HS6.out.ext HE67.out) HS7.out).mono ?_
  rintro e w8 ⟨rfl, hd8⟩
  rw [decide_eq_true (rfl : zs = zs)]
  have HE8 := Hd.mk (HE7.out.trans hd8.ext)
  clear hd8
  go_wp2_with fail
  refine (alive14_calls w8).mono ?_
  rintro e w9 ⟨rfl, he9⟩
  have HE9 := Hd.mk (HE8.out.trans he9)
  clear he9
  go_wp2
  go_ret
  exact ⟨rfl, HE9.out⟩
end Go.Proofs.Ytipoegmheiapgaa
