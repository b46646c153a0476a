/- Ops cut by a map: right, cut, Ops. -/
import Derived.Test.YtipoegmheiapgaaP2
import Derived.Test.YtipoegmheiapgaaJ6
import Derived.Test.YtipoegmheiapgaaA5
namespace Go.Proofs.Ytipoegmheiapgaa
set_option linter.unusedVariables false
set_option linter.unusedSimpArgs false
open Go.RowKit

def ptR (w : World) (p : Pt) (cs : List Value) : Prop := ∃ A c, cs = [.int .i64 p.piece, .int .i64 p.node, .int .i64 p.op.kind, .int .i64 p.op.off, .int .i64 p.op.len, .slice A p.op.data.length c] ∧ Sc vU w A c p.op.data
theorem ptR_keeps : Keeps ptR := fun _ _ _ _ he ⟨A, c, h, hs⟩ => ⟨A, c, h, hs.ext he⟩
theorem tPt : ElT Try.prog 63 96 6 64 := ElT.mk' Try.underlying63 (z := .agg #[.int .i64 0, .int .i64 0, .int .i64 0, .int .i64 0, .int .i64 0, .slice none 0 0]) (by kernel_rfl) rfl (by omega) (by omega)

def planRight (v n : Int) (ps : List Pc) (o : VOp) : Int := if mapR v n ps = true then (if right n o = true then 0 else 9) else 1
set_option maxHeartbeats 2000000 in
set_option maxRecDepth 100000 in
theorem planRight_calls (v n : Int) (A : Option Addr) (c : Nat) (ps : List Pc) (o : VOp) (B : Option Addr) (d : Nat) (w : World) (hr : Sm 3 pcR w A c ps) :
    Calls Try.prog 77 #[mapV v n A ps.length c, opV o B d] w fun e w' => e = .returned (.int .i64 (planRight v n ps o)) ∧ Ext w w' := by
  have HR := Hd.mk hr
  clear hr
  go_enter Try.func77, Try.ntmps77
  go_wp2_with fail
  have e0 : Ext w ((w.alloc (.cells #[.int .i64 v, .int .i64 n, .slice A ps.length c] 106)).alloc (.cells #[.int .i64 o.kind, .int .i64 o.off, .int .i64 o.len, .slice B o.data.length d] 56)) := ((Ext.refl w).alloc _).alloc _
  refine (smapRight_calls v n A c ps _ (HR.out.ext pcR_keeps e0)).mono ?_
  rintro e w1 ⟨rfl, he1⟩
  have q : w1.heap[w.heap.size]? = some (.cells #[.int .i64 v, .int .i64 n, .slice A ps.length c] 106 (0, 0)) := he1.obj (((Ext.refl _).alloc _).obj (heap_new w _))
  have p : w1.heap[w.heap.size + 1]? = some (.cells #[.int .i64 o.kind, .int .i64 o.off, .int .i64 o.len, .slice B o.data.length d] 56 (0, 0)) := he1.obj (heap_at (by simp))
  have q1 := cell_obj (i := 1) q
  have p0 := cell_obj (i := 0) p
  have p1 := cell_obj (i := 1) p
  have p2 := cell_obj (i := 2) p
  have p3 := cell_obj (i := 3) p
  have HE1 := Hd.mk (e0.trans he1)
  generalize hz : mapR v n ps = z
  have HZ := Hd.mk hz
  clear e0 he1 hz q p
  cases z with
  | false =>
    go_wp2
    go_ret
    exact ⟨by rw [planRight, if_neg (by rw [HZ.out]; simp)]; rfl, HE1.out⟩
  | true =>
    go_wp2_with fail
    refine (Right_calls n o B d _).mono ?_
    rintro e w2 ⟨rfl, he2⟩
    have HE2 := Hd.mk (HE1.out.trans he2)
    generalize hy : right n o = y
    have HY := Hd.mk hy
    clear hy he2 q1 p0 p1 p2 p3
    cases y with
    | false =>
      go_wp2
      go_ret
      exact ⟨by rw [planRight, if_pos HZ.out, if_neg (by rw [HY.out]; simp)]; rfl, HE2.out⟩
    | true =>
      go_wp2
      go_ret
      exact ⟨by rw [planRight, if_pos HZ.out, if_pos HY.out]; rfl, HE2.out⟩

theorem mapR_iff {v n : Int} {ps : List Pc} (h : mapR v n ps = true) : (1 ≤ v ∧ v ≤ 1099511627776) ∧ (1 ≤ n ∧ n ≤ 1024) ∧ ps.length ≤ 16 ∧ runs 0 ps = some n := by
  simp only [mapR, Bool.and_eq_true, decide_eq_true_eq] at h
  exact ⟨⟨h.1.1, h.1.2.1⟩, ⟨h.1.2.2.1, h.1.2.2.2.1⟩, h.1.2.2.2.2, h.2⟩

set_option maxHeartbeats 8000000 in
set_option maxRecDepth 100000 in
theorem cut_calls (v n off k : Int) (A : Option Addr) (c : Nat) (ps : List Pc) (g : Nat) (cap : Array Value) (part : Int → Int → VOp) (w : World) (hr : Sm 3 pcR w A c ps) (hm : mapR v n ps = true) (h0 : 0 ≤ off) (hk : 1 ≤ k) (hkn : off + k ≤ n) (hg : Fun g)
    (hp : ∀ from_ j w1, Ext w w1 → off ≤ from_ → 1 ≤ j → from_ + j ≤ off + k → Calls Try.prog g (#[.int .i64 from_, .int .i64 j] ++ cap) w1 fun e w2 => ∃ A' c', e = .returned (opV (part from_ j) A' c') ∧ Os vU w2 w1.heap.size 54 (.slice A' (part from_ j).data.length c') (part from_ j).data ∧ Ext w1 w2) :
    Calls Try.prog 78 #[mapV v n A ps.length c, .int .i64 off, .int .i64 k, .func (.func g) #[] cap] w fun e w' => ∃ v', e = .returned v' ∧ Omx (fun q => q < w.heap.size) 6 ptR w' w.heap.size 96 v' (cutL off (off + k) part 0 ps) ∧ Ext w w' := by
  have hc1 := hr.1
  have hc2 := hr.2.1
  unfold maxLen at hc2
  obtain ⟨⟨hv1, hv2⟩, ⟨hn1, hn2⟩, hpl, hruns⟩ := mapR_iff hm
  have HR := Hd.mk hr
  have HM := Hd.mk hm
  have HP := Hd.mk hp
  have HRU := Hd.mk hruns
  unfold Fun at hg
  clear hr hm hp hruns
  go_enter Try.func78, Try.ntmps78
  go_wp2_with fail
  obtain ⟨W0, hW0⟩ : ∃ W0, W0 = w.alloc (.cells #[.int .i64 v, .int .i64 n, .slice A ps.length c] 106) := ⟨_, rfl⟩
  have HE0 := Hd.mk (show Ext w W0 from by rw [hW0]; exact (Ext.refl w).alloc _)
  have HQ := Hd.mk (show W0.heap[w.heap.size]? = some (.cells #[.int .i64 v, .int .i64 n, .slice A ps.length c] 106 (0, 0)) from by rw [hW0]; exact heap_new _ _)
  have HS0 := Hd.mk (show W0.heap.size ≤ w.heap.size + 1 from by rw [hW0]; simp)
  rw [← hW0]
  clear hW0
  go_loopw [9, 10] (fun t9 t10 w1 => ∃ (j m : Nat) (a : Int) (A2 : Option Addr) (c2 : Nat), j ≤ ps.length ∧ t10 = .int .i64 a ∧ t9 = .slice A2 m c2 ∧ m ≤ 16 ∧ m = (cutL off (off + k) part 0 (ps.take j)).length ∧ Omx (fun q => q < w.heap.size) 6 ptR w1 (w.heap.size + 1) 96 (.slice A2 m c2) (cutL off (off + k) part 0 (ps.take j)) ∧ CutAt off (off + k) ps j a ∧ Ext W0 w1) (fun _ t10 _ => (off + k - intOf t10).toNat)
  case atStart => exact ⟨0, 0, off, none, 0, Nat.zero_le _, rfl, rfl, by omega, by simp [cutL], by simpa [cutL] using Omx.nil _ _ _ _ _ _, cut_start ps (by omega), Ext.refl _⟩
  case round =>
    obtain ⟨j, m, a, A2, c2, hj, rfl, rfl, hm16, hml, hom, hcut, he⟩ := hrel
    have hca := hcut.1
    have hcb := hcut.2.1
    have HOM := Hd.mk hom
    have HE := Hd.mk he
    have HC := Hd.mk hcut
    have HML := Hd.mk hml
    have q := he.obj HQ.out
    have q0 := cell_obj (i := 0) q
    have q1 := cell_obj (i := 1) q
    have q2 := cell_obj (i := 2) q
    clear hom he hcut hml q
    by_cases hlt : a < off + k
    · go_wp2_with fail
      obtain ⟨i, hi, hidx, hto, hcl, hca'⟩ := cut_step part HRU.out h0 hkn hj HC.out hlt
      refine (Find_calls v n a A c ps wr (HR.out.ext pcR_keeps (HE0.out.trans HE.out))).mono ?_
      rintro e w2 ⟨rfl, he2⟩
      rw [show findM v n ps a = ((i : Int), 0) by rw [findM, if_pos HM.out, if_neg (by omega), hidx]]
      obtain ⟨b, off2, p, cs, rfl, hx, hcs, _, hcx⟩ := HR.out.at hi
      rw [hcs] at hcx
      have heall := (HE0.out.trans HE.out).trans he2
      have hbw : b < w.heap.size := cell_lt (hcx 0 _ rfl)
      have k0 : w2.cell? ⟨b, off2 + i * 3, none⟩ = some _ := heall.cell (hcx 0 _ rfl)
      have k1 := heall.cell (hcx 1 _ rfl)
      have k2 := heall.cell (hcx 2 _ rfl)
      have q0 := he2.cell q0
      have q1 := he2.cell q1
      have q2 := he2.cell q2
      rw [hx] at hto hcl hca'
      have hpto : p.to ≤ n := by rw [← hx]; exact ((runs_at ps 0 n HRU.out).1 i hi).2.2.1
      have HE2 := Hd.mk (HE.out.trans he2)
      have HOM2 := Hd.mk (HOM.out.ext he2)
      have HCL := Hd.mk hcl
      have HCA := Hd.mk hca'
      obtain ⟨t, ht⟩ : ∃ t, t = min (off + k) p.to := ⟨_, rfl⟩
      rw [← ht] at HCL HCA
      have ht1 : a < t := by omega
      have ht2 : t ≤ off + k := by omega
      have HT := Hd.mk ht
      clear he2 hcs hcx hx hidx hcl hca' ht heall
      have hor : (t = p.to ∧ p.to < off + k) ∨ (t = off + k ∧ ¬ p.to < off + k) := by have := HT.out; omega
      rcases hor with ⟨htt, hmn⟩ | ⟨htt, hmn⟩
      all_goals
        have HTT := Hd.mk htt
        clear htt
        go_wp2_with fail
        rw [← HTT.out]
        have l0 : ∀ q : FrOf (ownF (.slice A2 m c2)) w2, q.1.cell? ⟨w.heap.size, 2, none⟩ = some (.slice (some ⟨b, off2, none⟩) ps.length c) := fun q => q.cell (fun ho => absurd (HOM2.out.block w.heap.size ho) (by omega)) q2
        have l2 := fun q : FrOf (ownF (.slice A2 m c2)) w2 => q.cell (fun ho => absurd (HOM2.out.block b ho) (by omega)) k2
        clear q0 q1 q2 k0 k1 k2
        refine wp_region_pl (ownF (.slice A2 m c2)) w2 (.pur 0 (.pur 1 (.pur 2 (.pur 3 (.pur 4 (.pur 5 (.pur 6 (.pur 7 (.pur 8 (.pur 9 (.pur 10 (.pur 11 (.pur 12 (.one 13 (.pur 14 (.one 15 (.one 16 (.pur 17 (.done))))))))))))))))))) (by kernel_rfl) (by kernel_rfl) (by kernel_rfl) (fun _ _ d _ _ h => by cases d <;> exact h) (Fr.refl _ _) ?_
        (repeat (refine wpPl_pur (by rfl) (by rfl) ?_; apply Exists.intro; refine ⟨fun x => ?_, ?_⟩; (focus (go_simp <;> with_reducible rfl)); simp only [Act.put, List.setIfInBounds_toArray, List.set_cons_zero, List.set_cons_succ]))
        refine wpPl_one (by rfl) (by rfl) (fun K hK => ?_)
        go_wp2_with fail
        refine (HP.out a (t - a) w2.drew ((HE0.out.trans HE2.out).drew) hca (by omega) (by omega)).mono ?_
        rintro e w3 ⟨A4, c4, rfl, hos3, he3⟩
        obtain ⟨y, hy⟩ : ∃ y, y = part a (t - a) := ⟨_, rfl⟩
        rw [← hy] at hos3 HCL ⊢
        have HO3 := Hd.mk hos3
        have HE23 := Hd.mk (show Ext w2 w3 from (Ext.refl w2).drew.trans he3)
        have hs23 := HE23.out.size
        clear hos3 he3 hy
        refine hK _ _ (HE23.out.fr _) ?_
        clear hK
        (repeat (refine wpPl_pur (by rfl) (by rfl) ?_; apply Exists.intro; refine ⟨fun x => ?_, ?_⟩; (focus (go_simp <;> with_reducible rfl)); simp only [Act.put, List.setIfInBounds_toArray, List.set_cons_zero, List.set_cons_succ]))
        refine wpPl_one (by rfl) (by rfl) (fun K hK => ?_)
        go_wp2_with fail
        refine hK _ _ ((HE23.out.alloc _).fr _) ?_
        clear hK
        have HEX := Hd.mk (show Ext w3 (w3.alloc (.cells #[.int .i64 (i : Int), .int .i64 p.node, .int .i64 y.kind, .int .i64 y.off, .int .i64 y.len, .slice A4 y.data.length c4] 96)) from (Ext.refl w3).alloc _)
        have hsw := HE0.out.size
        have hsw2 := HE2.out.size
        have HST := Hd.mk (show St (gF (fun q => q < w.heap.size) (.slice A2 m c2)) ptR (w3.alloc (.cells #[.int .i64 (i : Int), .int .i64 p.node, .int .i64 y.kind, .int .i64 y.off, .int .i64 y.len, .slice A4 y.data.length c4] 96)) ⟨(i : Int), p.node, y⟩ [.int .i64 (i : Int), .int .i64 p.node, .int .i64 y.kind, .int .i64 y.off, .int .i64 y.len, .slice A4 y.data.length c4] from
          fun w'' hf => ⟨A4, c4, rfl, ((HO3.out.ext HEX.out).fr (F := gF (fun q => q < w.heap.size) (.slice A2 m c2)) (fun q hq => by rcases hq with hq | hq; (simp; omega); exact HOM2.out.lt q hq) hf).sc2⟩)
        refine wpPl_one (by rfl) (by rfl) (fun K hK => ?_)
        refine wp_push tPt (.tmp 38) (.tmp 53) rfl rfl (HOM2.out.ext (HE23.out.trans HEX.out)) (some ⟨w3.heap.size, 0, none⟩) 1 ⟨(i : Int), p.node, y⟩ [.int .i64 (i : Int), .int .i64 p.node, .int .i64 y.kind, .int .i64 y.off, .int .i64 y.len, .slice A4 y.data.length c4] rfl rfl (Fl.new (heap_at rfl)) (by intro u hu; simp at hu; rcases hu with rfl | rfl | rfl | rfl | rfl | rfl <;> rfl) HST.out (by rw [← HML.out]; omega) (by simp; omega) (fun q hq => by simp; omega) ?_
        rintro A8 c8 w8 hom8 hf8 hq8
        rw [← HCL.out] at hom8
        rw [← HML.out] at hom8 hq8 ⊢
        have HF8 := Hd.mk (((HE23.out.trans HEX.out).fr (ownF (.slice A2 m c2))).trans hf8)
        have HE8 := Hd.mk (ext_fr (HE0.out.trans HE2.out) HF8.out (fun q hq => by have := HOM2.out.block q hq; omega))
        have HE80 := Hd.mk (ext_fr HE2.out HF8.out (fun q hq => by have := HOM2.out.block q hq; have := HS0.out; omega))
        have HOM8 := Hd.mk hom8
        refine hK _ _ HF8.out ?_
        clear hK hom8 hf8 hq8
        simp only [Act.put, List.setIfInBounds_toArray, List.set_cons_zero, List.set_cons_succ]
        (repeat (refine wpPl_pur (by rfl) (by rfl) ?_; apply Exists.intro; refine ⟨fun x => ?_, ?_⟩; (focus (go_simp <;> with_reducible rfl)); simp only [Act.put, List.setIfInBounds_toArray, List.set_cons_zero, List.set_cons_succ]))
        refine wpPl_done ?_
        clear l0 l2
        go_wp2_with fail
        have hm9 : m + 1 = (cutL off (off + k) part 0 (ps.take (i + 1))).length := by rw [HCL.out, List.length_append, ← HML.out]; rfl
        have hm10 := cutL_le off (off + k) part 0 (ps.take (i + 1))
        have hm11 : (ps.take (i + 1)).length ≤ ps.length := by rw [List.length_take]; omega
        exact ⟨⟨i + 1, m + 1, t, A8, c8, hi, rfl, rfl, by omega, hm9, HOM8.out, HCA.out, HE80.out⟩, by simp [intOf]; omega⟩
    · have hae : a = off + k := by omega
      have hend := cut_end part HRU.out (by omega : off < off + k) hj (by have := HC.out; rwa [hae] at this)
      have HEND := Hd.mk hend
      clear hend hae
      go_wp2
      go_ret
      rw [HEND.out] at HOM
      exact ⟨_, rfl, HOM.out.base' (by omega), HE0.out.trans HE.out⟩
end Go.Proofs.Ytipoegmheiapgaa
