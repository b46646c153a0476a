/- The parts of an op: Ops. -/
import Derived.Test.YtipoegmheiapgaaP3
namespace Go.Proofs.Ytipoegmheiapgaa
set_option linter.unusedVariables false
set_option linter.unusedSimpArgs false
open Go.RowKit

def partOf (o : VOp) (f k : Int) : VOp := if o.kind = 2 then ⟨2, f, k, []⟩ else ⟨1, f, 0, (o.data.take ((f - o.off).toNat + k.toNat)).drop (f - o.off).toNat⟩
theorem fun_Ops1 : Fun 79 := fun _ _ => by simp [callFunc, Try.func79, go_sem]; rfl

set_option maxHeartbeats 4000000 in
set_option maxRecDepth 100000 in
theorem Ops1_calls (o : VOp) (B : Option Addr) (d b1 b2 : Nat) (f k : Int) (w : World) (h1 : w.heap[b1]? = some (.cells #[.int .i64 o.kind, .int .i64 o.off, .int .i64 o.len, .slice B o.data.length d] 56 (0, 0))) (h2 : w.heap[b2]? = some (.cells #[.int .i64 o.off] 3 (0, 0)))
    (hs : Sc vU w B d o.data) (hk1 : 1 ≤ k) (hf : o.off ≤ f) (hw : o.kind ≠ 2 → f - o.off + k ≤ o.data.length ∧ o.data.length ≤ 64) (hf0 : 0 ≤ o.off) (hfn : f + k ≤ 1024) :
    Calls Try.prog 79 #[.int .i64 f, .int .i64 k, .pointer (some ⟨b1, 0, none⟩), .pointer (some ⟨b2, 0, none⟩)] w fun e w' => ∃ A' c', e = .returned (opV (partOf o f k) A' c') ∧ Os vU w' w.heap.size 54 (.slice A' (partOf o f k).data.length c') (partOf o f k).data ∧ Ext w w' := by
  have hb1 := obj_lt h1
  have hb2 := obj_lt h2
  have E0 := Hd.mk (show Ext w (w.alloc (.cells #[.int .i64 0, .int .i64 0, .int .i64 0, .slice none 0 0] 56)) from (Ext.refl w).alloc _)
  have H1 := Hd.mk h1
  have H2 := Hd.mk h2
  have k0 : (w.alloc (.cells #[.int .i64 0, .int .i64 0, .int .i64 0, .slice none 0 0] 56)).cell? ⟨b1, 0, none⟩ = some _ := E0.out.cell (cell_obj (i := 0) h1)
  by_cases hk : o.kind = 2
  · have g1 : (o.kind == 2) = true := by simpa using hk
    have HP := Hd.mk (show partOf o f k = ⟨2, f, k, []⟩ from by rw [partOf, if_pos hk])
    clear h1 h2 hs hw hk
    go_enter Try.func79, Try.ntmps79
    go_wp2_with fail
    refine bodyPost_ret (v := .agg #[.int .i64 2, .int .i64 f, .int .i64 k, .slice none 0 0]) (by simp [results, Try.results79, go_sem]) rfl ?_
    rw [HP.out]
    refine ⟨none, 0, rfl, Os.nil _ _ _ _, ?_⟩
    (repeat (first | exact Ext.refl _ | (refine Ext.set ?_ (by simp) _) | refine Ext.alloc ?_ _ | refine Ext.drew ?_))
  · have g1 : (o.kind == 2) = false := by simpa using hk
    obtain ⟨hd1, hd2⟩ := hw hk
    obtain ⟨lo, hlo⟩ : ∃ lo : Nat, f - o.off = lo := ⟨(f - o.off).toNat, by omega⟩
    obtain ⟨kn, hkn⟩ : ∃ kn : Nat, k = kn := ⟨k.toNat, by omega⟩
    subst hkn
    have HP := Hd.mk (show partOf o f kn = ⟨1, f, 0, (o.data.take (lo + kn)).drop lo⟩ from by rw [partOf, if_neg hk, hlo]; simp)
    obtain ⟨b, off, rfl, _⟩ := hs.2.2 (by omega)
    have k3 : (w.alloc (.cells #[.int .i64 0, .int .i64 0, .int .i64 0, .slice none 0 0] 56)).cell? ⟨b1, 3, none⟩ = some _ := E0.out.cell (cell_obj (i := 3) h1)
    have p0 : (w.alloc (.cells #[.int .i64 0, .int .i64 0, .int .i64 0, .slice none 0 0] 56)).cell? ⟨b2, 0, none⟩ = some _ := E0.out.cell (cell_obj (i := 0) h2)
    have hc1 := hs.1
    have hc2 := hs.2.1
    unfold maxLen at hc2
    have HS := Hd.mk hs
    have HLO := Hd.mk hlo
    have hdl : lo + kn ≤ o.data.length := by omega
    have hld : ¬ d = lo := by omega
    clear h1 h2 hs hw hk
    go_enter Try.func79, Try.ntmps79
    go_wp2_with fail
    obtain ⟨ys, hys⟩ : ∃ ys, ys = (o.data.take (lo + kn)).drop lo := ⟨_, rfl⟩
    have hyl : ys.length = kn := by rw [hys]; simp; omega
    have HCUT := Hd.mk (show Sc vU w (some ⟨b, off + lo, none⟩) (d - lo) ys from by
      have h9 := HS.out.cut (i := lo) (j := lo + kn) (by omega) hdl
      rw [← hys] at h9; exact h9)
    have HY := Hd.mk hys
    have HYL := Hd.mk hyl
    rw [← hyl]
    clear hys hyl k0 k3 p0
    refine (Clone_uint64 _ (d - lo) ys _ (HCUT.out.ext E0.out) (by rw [HYL.out]; omega)).mono ?_
    rintro e w1 ⟨v1, rfl, hos1, he1⟩
    obtain ⟨A1, c1, rfl, _⟩ := hos1.sc
    have q := he1.obj (heap_new w (.cells #[.int .i64 0, .int .i64 0, .int .i64 0, .slice none 0 0] 56))
    have q0 := cell_obj (i := 0) q
    have q1 := cell_obj (i := 1) q
    have q2 := cell_obj (i := 2) q
    have q3 := cell_obj (i := 3) q
    have y0 := frozen_obj q 0
    have y1 := frozen_obj q 1
    have y2 := frozen_obj q 2
    have y3 := frozen_obj q 3
    have HO1 := Hd.mk hos1
    have HE1 := Hd.mk (E0.out.trans he1)
    clear hos1 he1 q
    go_wp2_with fail
    refine bodyPost_ret (v := .agg #[.int .i64 1, .int .i64 f, .int .i64 0, .slice A1 ys.length c1]) (by simp [results, Try.results79, go_sem, q0, q1, q2, q3]) rfl ?_
    rw [HP.out, ← HY.out]
    refine ⟨A1, c1, rfl, ?_, ?_⟩
    · have hb0 := HO1.out.base (show w.heap.size + 1 ≤ _ by simp)
      exact Os.base ((((hb0.set (p := ⟨w.heap.size, 0, none⟩) (by simp) (.int .i64 1)).set (p := ⟨w.heap.size, 1, none⟩) (by simp) (.int .i64 f)).set (p := ⟨w.heap.size, 2, none⟩) (by simp) (.int .i64 0)).set (p := ⟨w.heap.size, 3, none⟩) (by simp) (.slice A1 ys.length c1)) (by omega)
    · exact ((((HE1.out.set (p := ⟨w.heap.size, 0, none⟩) (Nat.le_refl _) (.int .i64 1)).set (p := ⟨w.heap.size, 1, none⟩) (Nat.le_refl _) (.int .i64 f)).set (p := ⟨w.heap.size, 2, none⟩) (Nat.le_refl _) (.int .i64 0)).set (p := ⟨w.heap.size, 3, none⟩) (Nat.le_refl _) (.slice A1 ys.length c1))

set_option maxHeartbeats 4000000 in
set_option maxRecDepth 100000 in
theorem planOps_no (v n : Int) (A : Option Addr) (c : Nat) (ps : List Pc) (o : VOp) (B : Option Addr) (d : Nat) (w : World) (hr : Sm 3 pcR w A c ps) (hne : planRight v n ps o ≠ 0) :
    Calls Try.prog 52 #[mapV v n A ps.length c, opV o B d] w fun e w' => e = .returned (.tuple #[.slice none 0 0, .int .i64 (planRight v n ps o)]) ∧ Ext w w' := by
  have HR := Hd.mk hr
  clear hr
  go_enter Try.func52, Try.ntmps52
  go_wp2_with fail
  have e0 : Ext w ((w.alloc (.cells #[.int .i64 v, .int .i64 n, .slice A ps.length c] 106)).alloc (.cells #[.int .i64 o.kind, .int .i64 o.off, .int .i64 o.len, .slice B o.data.length d] 56)) := ((Ext.refl w).alloc _).alloc _
  refine (planRight_calls v n A c ps o B d _ (HR.out.ext pcR_keeps e0)).mono ?_
  rintro e w1 ⟨rfl, he1⟩
  have HE1 := Hd.mk (e0.trans he1)
  generalize hz : planRight v n ps o = z at hne ⊢
  have HZ := Hd.mk hz
  have g1 : (z != 0) = true := by simpa using hne
  clear e0 he1 hz
  go_wp2
  go_ret2
  exact ⟨by rw [HZ.out]; rfl, HE1.out⟩

set_option maxHeartbeats 4000000 in
set_option maxRecDepth 100000 in
theorem planOps_ok (v n : Int) (A : Option Addr) (c : Nat) (ps : List Pc) (o : VOp) (B : Option Addr) (d : Nat) (w : World) (hr : Sm 3 pcR w A c ps) (hs : Sc vU w B d o.data) (hm : mapR v n ps = true) (hok : right n o = true) :
    Calls Try.prog 52 #[mapV v n A ps.length c, opV o B d] w fun e w' => ∃ v', e = .returned (.tuple #[v', .int .i64 0]) ∧ Omx (fun q => q < w.heap.size) 6 ptR w' w.heap.size 96 v' (cutL o.o (o.o + o.n) (partOf o) 0 ps) ∧ Ext w w' := by
  have HR := Hd.mk hr
  have HS := Hd.mk hs
  have HM := Hd.mk hm
  have HOK := Hd.mk hok
  have hrr := (right_iff n o).1 hok
  have hkind : o.kind = 1 ∨ o.kind = 2 := by omega
  have hoff : o.o = o.off := by rcases hkind with h | h <;> simp [VOp.o, h]
  have HOFF := Hd.mk hoff
  have HKW := Hd.mk (show o.kind ≠ 2 → o.n = o.data.length ∧ o.data.length ≤ 64 from fun h => by
    have h1 : o.kind = 1 := by omega
    have h2 : o.n = o.data.length := by simp [VOp.n, h1]
    exact ⟨h2, by omega⟩)
  have HRR := Hd.mk hrr
  clear hr hs hm hok hrr hkind hoff
  go_enter Try.func52, Try.ntmps52
  go_wp2_with fail
  have e0 : Ext w ((w.alloc (.cells #[.int .i64 v, .int .i64 n, .slice A ps.length c] 106)).alloc (.cells #[.int .i64 o.kind, .int .i64 o.off, .int .i64 o.len, .slice B o.data.length d] 56)) := ((Ext.refl w).alloc _).alloc _
  refine (planRight_calls v n A c ps o B d _ (HR.out.ext pcR_keeps e0)).mono ?_
  rintro e w1 ⟨rfl, he1⟩
  rw [show planRight v n ps o = 0 by rw [planRight, if_pos HM.out, if_pos HOK.out]]
  have HQ := Hd.mk (he1.obj (((Ext.refl _).alloc _).obj (heap_new w (.cells #[.int .i64 v, .int .i64 n, .slice A ps.length c] 106))) : w1.heap[w.heap.size]? = some (.cells #[.int .i64 v, .int .i64 n, .slice A ps.length c] 106 (0, 0)))
  have HP := Hd.mk (he1.obj (heap_at (by simp)) : w1.heap[w.heap.size + 1]? = some (.cells #[.int .i64 o.kind, .int .i64 o.off, .int .i64 o.len, .slice B o.data.length d] 56 (0, 0)))
  have HE1 := Hd.mk (e0.trans he1)
  have q0 := cell_obj (i := 0) HQ.out
  have q1 := cell_obj (i := 1) HQ.out
  have q2 := cell_obj (i := 2) HQ.out
  have p0 := cell_obj (i := 0) HP.out
  have p1 := cell_obj (i := 1) HP.out
  have p2 := cell_obj (i := 2) HP.out
  have p3 := cell_obj (i := 3) HP.out
  clear e0 he1
  go_wp2_with fail
  refine (blocks_Range_calls o B d _).mono ?_
  rintro e w2 ⟨rfl, he2⟩
  rw [HOFF.out]
  have q0 := he2.cell q0
  have q1 := he2.cell q1
  have q2 := he2.cell q2
  have HP2 := Hd.mk (he2.obj HP.out)
  have HE2 := Hd.mk (HE1.out.trans he2)
  have hlt2 : w.heap.size < w2.heap.size := by have := obj_lt HP2.out; omega
  clear he2 p0 p1 p2 p3
  go_wp2_with fail
  have hrr := HRR.out
  have hcut := cut_calls v n o.off o.n A c ps 79 #[.pointer (some ⟨w.heap.size + 1, 0, none⟩), .pointer (some ⟨w2.heap.size, 0, none⟩)] (partOf o) (w2.alloc (.cells #[.int .i64 o.off] 3)) (HR.out.ext pcR_keeps (HE2.out.alloc _)) HM.out (by have := HOFF.out; omega) (by omega) (by have := HOFF.out; omega) fun_Ops1
    (fun f j w3 he3 hf hj hfj => Ops1_calls o B d (w.heap.size + 1) w2.heap.size f j w3 (he3.obj (((Ext.refl w2).alloc _).obj HP2.out)) (he3.obj (heap_new w2 _)) (HS.out.ext ((HE2.out.alloc _).trans he3)) hj hf (fun hk => by have := HKW.out hk; omega) (by have := HOFF.out; omega) (by have := HOFF.out; omega))
  refine hcut.mono ?_
  rintro e w3 ⟨v3, rfl, hom3, he3⟩
  have HOM3 := Hd.mk ((hom3.mono (G' := fun q => q < w.heap.size) (fun q hq => by have := HE2.out.size; simp; omega)).base' (show w.heap.size ≤ _ by have := HE2.out.size; simp; omega))
  have HE3 := Hd.mk ((HE2.out.alloc _).trans he3)
  clear hom3 he3 hcut hrr q0 q1 q2
  go_wp2_with fail
  go_ret2
  rw [HOFF.out]
  exact ⟨_, rfl, HOM3.out, HE3.out⟩
end Go.Proofs.Ytipoegmheiapgaa
