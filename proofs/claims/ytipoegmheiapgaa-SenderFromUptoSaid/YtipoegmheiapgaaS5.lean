/- The reference's records: May, op, order. -/
import Derived.Test.YtipoegmheiapgaaS4
import Derived.Deep.CutBlock
namespace Go.Proofs.Ytipoegmheiapgaa
set_option linter.unusedVariables false
set_option linter.unusedSimpArgs false
open Go.RowKit

def xOf (r : Rc) : Rc :=
  if r.kind = 1 then ⟨r.kind, r.shard, r.snap, r.base, r.map, 0, r.len, []⟩
  else if r.kind = 2 then ⟨r.kind, 0, 0, 0, 0, r.off, 0, r.data⟩
  else if r.kind = 3 then ⟨r.kind, 0, 0, 0, 0, r.off, r.len, []⟩
  else if r.kind = 4 then ⟨r.kind, 0, 0, 0, 0, 0, r.len, []⟩
  else ⟨r.kind, 0, 0, 0, 0, 0, 0, []⟩
def okOf (r : Rc) : Bool :=
  if r.kind = 1 then true else if r.kind = 2 then decide (1 ≤ r.data.length ∧ r.data.length ≤ 64) else if r.kind = 3 then decide (1 ≤ r.len) else decide (r.kind = 4)
theorem may_ref (r : Rc) : may r = (okOf r && decide (xOf r = r) && small r.shard && small r.snap && small r.base && small r.map && small r.off && small r.len) := by
  rw [Bool.eq_iff_iff]
  obtain ⟨k, s, n, b, m, f, l, d⟩ := r
  by_cases h1 : k = 1
  · subst h1
    simp [may, Rc.small, Rc.nums, Rc.form, okOf, xOf, Rc.ext_iff', small]
    constructor
    · rintro ⟨⟨_, h⟩, h2, h3⟩; subst h3; simp; omega
    · rintro h; obtain ⟨⟨⟨⟨⟨⟨⟨h2, h3⟩, _⟩, _⟩, _⟩, _⟩, _⟩, _⟩ := h; subst h3; simp; omega
  · by_cases h2 : k = 2
    · subst h2
      simp [may, Rc.small, Rc.nums, Rc.form, okOf, xOf, Rc.ext_iff', small]
      omega
    · by_cases h3 : k = 3
      · subst h3
        simp [may, Rc.small, Rc.nums, Rc.form, okOf, xOf, Rc.ext_iff', small]
        constructor
        · intro h; simp [h]
        · intro h
          have hd : d = [] := by
            have := h.1.1.1.1.1.1.2
            exact this.2.2.2.2
          subst hd; simp; omega
      · by_cases h4 : k = 4
        · subst h4
          simp [may, Rc.small, Rc.nums, Rc.form, okOf, xOf, Rc.ext_iff', small]
          constructor
          · intro h; simp [h]
          · intro h
            have hd : d = [] := by
              have := h.1.1.1.1.1.1
              exact this.2.2.2.2.2
            subst hd; simp; omega
        · simp [may, Rc.form, okOf, h1, h2, h3, h4]

set_option maxHeartbeats 4000000 in
set_option maxRecDepth 100000 in
theorem RMay_calls (r : Rc) (A : Option Addr) (c : Nat) (w : World) (hs : Sc vU w A c r.data) :
    Calls Try.prog 40 #[rcV r A c] w fun e w' => e = .returned (.bool (may r)) ∧ Ext w w' := by
  have HS := Hd.mk hs
  clear hs
  go_enter Try.func40, Try.ntmps40
  go_upto_block 0 with fail
  obtain ⟨W1, hW1⟩ : ∃ W1, W1 = (w.alloc (.cells #[.int .i64 r.kind, .int .i64 r.shard, .int .i64 r.snap, .int .i64 r.base, .int .i64 r.map, .int .i64 r.off, .int .i64 r.len, .slice A r.data.length c] 24)) := ⟨_, rfl⟩
  obtain ⟨W2, hW2⟩ : ∃ W2, W2 = W1.alloc (.cells #[.int .i64 r.kind, .int .i64 0, .int .i64 0, .int .i64 0, .int .i64 0, .int .i64 0, .int .i64 0, .slice none 0 0] 24) := ⟨_, rfl⟩
  obtain ⟨b1, hb1⟩ : ∃ b1, b1 = w.heap.size := ⟨_, rfl⟩
  obtain ⟨b3, hb3⟩ : ∃ b3, b3 = b1 + 1 := ⟨_, rfl⟩
  have HR1 := Hd.mk (show W1.heap[b1]? = some (.cells #[.int .i64 r.kind, .int .i64 r.shard, .int .i64 r.snap, .int .i64 r.base, .int .i64 r.map, .int .i64 r.off, .int .i64 r.len, .slice A r.data.length c] 24 (0, 0)) from by rw [hW1, hb1]; exact heap_new _ _)
  have hs1 : W1.heap.size = b3 := by rw [hW1, hb3, hb1]; simp
  have HR3 := Hd.mk (show W2.heap[b3]? = some (.cells #[.int .i64 r.kind, .int .i64 0, .int .i64 0, .int .i64 0, .int .i64 0, .int .i64 0, .int .i64 0, .slice none 0 0] 24 (0, 0)) from by rw [hW2, ← hs1]; exact heap_new _ _)
  have HE1 := Hd.mk (show Ext w W1 from by rw [hW1]; exact (Ext.refl w).alloc _)
  have HE2 := Hd.mk (show Ext W1 W2 from by rw [hW2]; exact (Ext.refl W1).alloc _)
  have HB3 := Hd.mk (show W1.heap.size ≤ b3 from by omega)
  rw [← hW1, ← hW2, ← hb1, ← hb3]
  clear hW1 hW2 hs1 hb1 hb3
  go_cut [4] (fun t4 w' => t4 = .bool (okOf r) ∧ (∃ A1 c1, w'.heap[b3]? = some (.cells #[.int .i64 (xOf r).kind, .int .i64 (xOf r).shard, .int .i64 (xOf r).snap, .int .i64 (xOf r).base, .int .i64 (xOf r).map, .int .i64 (xOf r).off, .int .i64 (xOf r).len, .slice A1 (xOf r).data.length c1] 24 (0, 0)) ∧ Sc vU w' A1 c1 (xOf r).data) ∧ Ext W1 w')
  case first =>
    have hr1 := HE2.out.obj HR1.out
    have q0 := cell_obj (i := 0) hr1
    have q1 := cell_obj (i := 1) hr1
    have q2 := cell_obj (i := 2) hr1
    have q3 := cell_obj (i := 3) hr1
    have q4 := cell_obj (i := 4) hr1
    have q5 := cell_obj (i := 5) hr1
    have q6 := cell_obj (i := 6) hr1
    have q7 := cell_obj (i := 7) hr1
    have z0 := cell_obj (i := 0) HR3.out
    have z1 := cell_obj (i := 1) HR3.out
    have z2 := cell_obj (i := 2) HR3.out
    have z3 := cell_obj (i := 3) HR3.out
    have z4 := cell_obj (i := 4) HR3.out
    have z5 := cell_obj (i := 5) HR3.out
    have z6 := cell_obj (i := 6) HR3.out
    have z7 := cell_obj (i := 7) HR3.out
    have y0 := frozen_obj HR3.out 0
    have y1 := frozen_obj HR3.out 1
    have y2 := frozen_obj HR3.out 2
    have y3 := frozen_obj HR3.out 3
    have y4 := frozen_obj HR3.out 4
    have y5 := frozen_obj HR3.out 5
    have y6 := frozen_obj HR3.out 6
    have y7 := frozen_obj HR3.out 7
    clear hr1
    by_cases e1 : r.kind = 1
    · have g1 : (r.kind == 1) = true := by simpa using e1
      have E1 := Hd.mk e1
      clear e1
      go_wp2_with fail
      go_region
      go_wp2_with fail
      go_meet
      case rel =>
        rw [okOf, if_pos E1.out, xOf, if_pos E1.out]
        exact ⟨rfl, ⟨none, 0, obj_set (i := 6) (obj_set (i := 4) (obj_set (i := 3) (obj_set (i := 2) (obj_set (i := 1) HR3.out)))), Sc.nil _ _⟩, (((((HE2.out.set (p := ⟨b3, 1, none⟩) HB3.out _).set (p := ⟨b3, 2, none⟩) HB3.out _).set (p := ⟨b3, 3, none⟩) HB3.out _).set (p := ⟨b3, 4, none⟩) HB3.out _).set (p := ⟨b3, 6, none⟩) HB3.out _).drew⟩
    · have g1 : (r.kind == 1) = false := by simpa using e1
      have E1 := Hd.mk e1
      clear e1
      by_cases e2 : r.kind = 2
      · have g2 : (r.kind == 2) = true := by simpa using e2
        have E2 := Hd.mk e2
        clear e2
        go_wp2_with fail
        go_region
        have HE3 := Hd.mk ((((HE2.out.set (p := ⟨b3, 5, none⟩) HB3.out (.int .i64 r.off)).set (p := ⟨b3, 7, none⟩) HB3.out (.slice A r.data.length c)).drew))
        have HQ := Hd.mk (HE3.out.obj HR1.out)
        have n7 := cell_obj (i := 7) HQ.out
        go_wp2_with fail
        all_goals
          go_meet
          case rel =>
            rw [okOf, if_neg E1.out, if_pos E2.out, xOf, if_neg E1.out, if_pos E2.out]
            refine ⟨?_, ⟨A, c, obj_set (i := 7) (obj_set (i := 5) HR3.out), HS.out.ext (HE1.out.trans HE3.out)⟩, HE3.out⟩
            first
              | (congr 1; rw [decide_eq_decide]; omega)
              | rw [decide_eq_false (by omega)]
      · have g2 : (r.kind == 2) = false := by simpa using e2
        have E2 := Hd.mk e2
        clear e2
        by_cases e3 : r.kind = 3
        · have g3 : (r.kind == 3) = true := by simpa using e3
          have E3 := Hd.mk e3
          clear e3
          go_wp2_with fail
          go_region
          have HE3 := Hd.mk ((((HE2.out.set (p := ⟨b3, 5, none⟩) HB3.out (.int .i64 r.off)).set (p := ⟨b3, 6, none⟩) HB3.out (.int .i64 r.len)).drew))
          have HQ := Hd.mk (HE3.out.obj HR1.out)
          have n6 := cell_obj (i := 6) HQ.out
          go_wp2_with fail
          go_meet
          case rel =>
            rw [okOf, if_neg E1.out, if_neg E2.out, if_pos E3.out, xOf, if_neg E1.out, if_neg E2.out, if_pos E3.out]
            refine ⟨?_, ⟨none, 0, obj_set (i := 6) (obj_set (i := 5) HR3.out), Sc.nil _ _⟩, HE3.out⟩
            rfl
        · have g3 : (r.kind == 3) = false := by simpa using e3
          have E3 := Hd.mk e3
          clear e3
          by_cases e4 : r.kind = 4
          · have g4 : (r.kind == 4) = true := by simpa using e4
            have E4 := Hd.mk e4
            clear e4
            go_wp2_with fail
            go_meet
            case rel =>
              rw [okOf, if_neg E1.out, if_neg E2.out, if_neg E3.out, decide_eq_true E4.out, xOf, if_neg E1.out, if_neg E2.out, if_neg E3.out, if_pos E4.out]
              exact ⟨rfl, ⟨none, 0, obj_set (i := 6) HR3.out, Sc.nil _ _⟩, HE2.out.set (p := ⟨b3, 6, none⟩) HB3.out _⟩
          · have g4 : (r.kind == 4) = false := by simpa using e4
            have E4 := Hd.mk e4
            clear e4
            go_wp2_with fail
            go_meet
            case rel =>
              rw [okOf, if_neg E1.out, if_neg E2.out, if_neg E3.out, decide_eq_false E4.out, xOf, if_neg E1.out, if_neg E2.out, if_neg E3.out, if_neg E4.out]
              exact ⟨rfl, ⟨none, 0, HR3.out, Sc.nil _ _⟩, HE2.out⟩
  case rest =>
    obtain ⟨rfl, ⟨A1, c1, hx3, hsx⟩, hew⟩ := hcut
    have HSX := Hd.mk hsx
    have HX3 := Hd.mk hx3
    have HEW := Hd.mk hew
    have HQ1 := Hd.mk (hew.obj HR1.out)
    have HMAY := Hd.mk (may_ref r)
    have p0 := cell_obj (i := 0) hx3
    have p1 := cell_obj (i := 1) hx3
    have p2 := cell_obj (i := 2) hx3
    have p3 := cell_obj (i := 3) hx3
    have p4 := cell_obj (i := 4) hx3
    have p5 := cell_obj (i := 5) hx3
    have p6 := cell_obj (i := 6) hx3
    have p7 := cell_obj (i := 7) hx3
    have q0 := cell_obj (i := 0) HQ1.out
    have q1 := cell_obj (i := 1) HQ1.out
    have q2 := cell_obj (i := 2) HQ1.out
    have q3 := cell_obj (i := 3) HQ1.out
    have q4 := cell_obj (i := 4) HQ1.out
    have q5 := cell_obj (i := 5) HQ1.out
    have q6 := cell_obj (i := 6) HQ1.out
    have q7 := cell_obj (i := 7) HQ1.out
    clear hx3 hsx hew
    generalize hok : okOf r = k at HMAY
    have HOK := Hd.mk hok
    clear hok
    cases k with
    | false =>
      go_wp2_with fail
      go_ret
      exact ⟨ret_bool (by rw [HMAY.out]; simp), HE1.out.trans HEW.out⟩
    | true =>
      go_wp2_with fail
      refine (One_calls (xOf r) r A1 A c1 c _ HSX.out (HS.out.ext (HE1.out.trans HEW.out))).mono ?_
      rintro e w5 ⟨rfl, he5⟩
      have HE5 := Hd.mk (HE1.out.trans (HEW.out.trans he5))
      have q0 := he5.cell q0
      have q1 := he5.cell q1
      have q2 := he5.cell q2
      have q3 := he5.cell q3
      have q4 := he5.cell q4
      have q5 := he5.cell q5
      have q6 := he5.cell q6
      have q7 := he5.cell q7
      clear he5 p0 p1 p2 p3 p4 p5 p6 p7
      generalize hz : decide (xOf r = r) = z at HMAY ⊢
      clear hz
      cases z with
      | false =>
        go_wp2_with fail
        go_ret
        exact ⟨ret_bool (by rw [HMAY.out]; simp), HE5.out⟩
      | true =>
        go_wp2_with (go_at_call 66; refine (number_calls _ _).mono ?_; rintro e w' ⟨rfl, rfl⟩)
        all_goals go_ret
        all_goals refine ⟨ret_bool ?_, HE5.out⟩
        all_goals rw [HMAY.out]
        all_goals simp only [*, Bool.and_true, Bool.true_and, Bool.and_false, Bool.false_and]
end Go.Proofs.Ytipoegmheiapgaa
