/- Parts put together: Whole, the program's and the reference's. -/
import Derived.Test.YtipoegmheiapgaaP4
import Derived.Deep.DeepCutAuto
import Derived.Deep.CutBlock
namespace Go.Proofs.Ytipoegmheiapgaa
set_option linter.unusedVariables false
set_option linter.unusedSimpArgs false
open Go.RowKit

def fits (k0 off0 used : Int) (x : VOp) : Bool := decide ((x.kind = 1 ∧ x.len = 0 ∨ x.kind = 2 ∧ x.data.length = 0) ∧ x.kind = k0 ∧ 0 ≤ x.off ∧ x.off ≤ 1024 ∧ x.off - off0 = used ∧ 1 ≤ x.n ∧ x.n ≤ 1024 - used)
def wh (k0 off0 : Int) : Int → List UInt64 → Int → List VOp → Option (List UInt64 × Int)
  | _, data, len, [] => some (data, len)
  | used, data, len, x :: xs => if fits k0 off0 used x = true then wh k0 off0 (used + x.n) (data ++ x.data) (len + x.len) xs else none
def whole : List VOp → VOp × Int
  | [] => (⟨0, 0, 0, []⟩, 9)
  | x :: xs => match wh x.kind x.off 0 [] 0 (x :: xs) with
    | some p => (⟨x.kind, x.off, p.2, p.1⟩, 0)
    | none => (⟨0, 0, 0, []⟩, 5)
theorem whole_some {x : VOp} {xs : List VOp} {p : List UInt64 × Int} (h : wh x.kind x.off 0 [] 0 (x :: xs) = some p) : whole (x :: xs) = (⟨x.kind, x.off, p.2, p.1⟩, 0) := by
  simp only [whole, h]
theorem whole_none {x : VOp} {xs : List VOp} (h : wh x.kind x.off 0 [] 0 (x :: xs) = none) : whole (x :: xs) = (⟨0, 0, 0, []⟩, 5) := by
  simp only [whole, h]

theorem unfit {k0 o0 used : Int} {y : VOp} (g : Bool) (hg : g = true ↔ y.off - o0 ≠ used) (hoo : (-1024 ≤ o0 ∧ o0 ≤ 1024) ∨ y.off = o0) (h : ¬ fits k0 o0 used y = true) :
    ((y.kind == 1) = true ∧ (y.len == 0) = false ∧ (y.kind == 2) = false ∨ (y.kind == 1) = false ∧ (y.kind == 2) = false ∨ (y.kind == 1) = false ∧ (y.kind == 2) = true ∧ ((y.data.length : Int) == 0) = false) ∨
    (((y.kind == 1) = true ∧ (y.len == 0) = true ∨ (y.kind == 1) = false ∧ (y.kind == 2) = true ∧ ((y.data.length : Int) == 0) = true) ∧
    ((y.kind != k0) = true ∨ (y.kind != k0) = false ∧ (decide (y.off < 0) = true ∨ decide (y.off < 0) = false ∧ (decide (1024 < y.off) = true ∨ decide (1024 < y.off) = false ∧ (0 ≤ y.off ∧ y.off ≤ 1024) ∧ (-1024 ≤ o0 ∧ o0 ≤ 1024) ∧ (g = true ∨ g = false ∧ (decide (y.n < 1) = true ∨ decide (y.n < 1) = false ∧ decide (1024 - used < y.n) = true)))))) := by
  have hg2 : g = false ↔ ¬ (y.off - o0 ≠ used) := by rw [← hg]; cases g <;> simp
  simp only [fits, decide_eq_true_eq] at h
  simp only [hg, hg2, beq_iff_eq, beq_eq_false_iff_ne, bne_iff_ne, bne_eq_false_iff_eq, decide_eq_true_eq, decide_eq_false_iff_not]
  omega

set_option maxHeartbeats 16000000 in
set_option maxRecDepth 100000 in
theorem Whole_calls (A : Option Addr) (c : Nat) (l : List Pt) (w : World) (hr : Sm 6 ptR w A c l) (hN : l.length ≤ 4096) :
    Calls Try.prog 22 #[.slice A l.length c] w fun e w' => ∃ A' c', e = .returned (.tuple #[opV (whole (l.map Pt.op)).1 A' c', .int .i64 (whole (l.map Pt.op)).2]) ∧ Sc vU w' A' c' (whole (l.map Pt.op)).1.data ∧ Ext w w' := by
  have hc1 := hr.1
  have hc2 := hr.2.1
  unfold maxLen at hc2
  have HR := Hd.mk hr
  clear hr
  have E0 := Hd.mk (show Ext w (w.alloc (.cells #[.int .i64 0, .int .i64 0, .int .i64 0, .slice none 0 0] 56)) from (Ext.refl w).alloc _)
  rcases Nat.eq_zero_or_pos l.length with h0 | h0
  · have hl := List.eq_nil_of_length_eq_zero h0
    subst hl
    go_enter Try.func22, Try.ntmps22
    go_wp2_with fail
    refine bodyPost_ret (v := .tuple #[.agg #[.int .i64 0, .int .i64 0, .int .i64 0, .slice none 0 0], .int .i64 9]) (by simp [results, Try.results22, go_sem]) rfl ?_
    refine ⟨none, 0, rfl, Sc.nil _ _, ?_⟩
    (repeat (first | exact Ext.refl _ | (refine Ext.set ?_ (by simp) _) | refine Ext.alloc ?_ _ | refine Ext.drew ?_))
  · obtain ⟨b, off, x0, cs, rfl, hx0, ⟨A0, c0, rfl, hd0⟩, _, hcx⟩ := HR.out.at h0
    have hbw : b < w.heap.size := cell_lt (hcx 0 _ rfl)
    have m2 : (w.alloc (.cells #[.int .i64 0, .int .i64 0, .int .i64 0, .slice none 0 0] 56)).cell? ⟨b, off + 2, none⟩ = some (.int .i64 x0.op.kind) := by
      have := E0.out.cell (hcx 2 _ rfl); simpa using this
    have m3 : (w.alloc (.cells #[.int .i64 0, .int .i64 0, .int .i64 0, .slice none 0 0] 56)).cell? ⟨b, off + 2 + 1, none⟩ = some (.int .i64 x0.op.off) := by
      have := E0.out.cell (hcx 3 _ rfl); simpa using this
    obtain ⟨W0, hW0⟩ : ∃ W0, W0 = w.alloc (.cells #[.int .i64 0, .int .i64 0, .int .i64 0, .slice none 0 0] 56) := ⟨_, rfl⟩
    rw [← hW0] at m2 m3
    have HE0 := Hd.mk (show Ext w W0 from by rw [hW0]; exact E0.out)
    have HZ0 := Hd.mk (show W0.heap[w.heap.size]? = some (.cells #[.int .i64 0, .int .i64 0, .int .i64 0, .slice none 0 0] 56 (0, 0)) from by rw [hW0]; exact heap_new _ _)
    have HL0 := Hd.mk (show l.map Pt.op = x0.op :: (l.map Pt.op).drop 1 from by
      have h1 : 0 < (l.map Pt.op).length := by simpa using h0
      have h2 : (l.map Pt.op)[0] = x0.op := by rw [List.getElem_map, hx0]
      rw [← h2, ← List.drop_eq_getElem_cons h1, List.drop_zero])
    have HX00 := Hd.mk hx0
    clear hx0 hd0 hcx
    have gz : ((l.length : Int) == 0) = false := by rw [beq_eq_false_iff_ne]; omega
    go_enter Try.func22, Try.ntmps22
    go_upto_region 3 with fail
    rw [← hW0]
    have l2 := fun q : FrOf NoF W0 => q.c m2
    have l3 := fun q : FrOf NoF W0 => q.c m3
    clear hW0
    refine wp_region_pl NoF W0 (.pur 0 (.pur 1 (.pur 2 (.pur 3 (.pur 4 (.pur 5 (.pur 6 (.pur 7 (.pur 8 (.pur 9 (.pur 10 (.one 11 (.one 12 (.done)))))))))))))) (by kernel_rfl) (by kernel_rfl) (by kernel_rfl) (fun _ _ d _ _ h => by cases d <;> exact h) (Fr.refl _ _) ?_
    (repeat (refine wpPl_pur (by rfl) (by rfl) ?_; apply Exists.intro; refine ⟨fun x => ?_, ?_⟩; (focus (go_simp <;> with_reducible rfl)); simp only [Act.put, List.setIfInBounds_toArray, List.set_cons_zero, List.set_cons_succ]))
    refine wpPl_one (by rfl) (by rfl) (fun K hK => ?_)
    go_wp2_with fail
    refine hK _ _ (((Ext.refl W0).drew.alloc _).fr NoF) ?_
    clear hK
    refine wpPl_one (by rfl) (by rfl) (fun K hK => ?_)
    go_wp2_with fail
    obtain ⟨W1, hW1⟩ : ∃ W1, W1 = (W0.alloc (.cells #[.int .i64 x0.op.kind, .int .i64 x0.op.off, .int .i64 0, .slice none 0 0] 56)).drew := ⟨_, rfl⟩
    obtain ⟨b4, hb4⟩ : ∃ b4, b4 = W0.heap.size := ⟨_, rfl⟩
    have HE1 := Hd.mk (show Ext W0 W1 from by rw [hW1]; exact ((Ext.refl W0).alloc _).drew)
    have HB4 := Hd.mk (show W1.heap[b4]? = some (.cells #[.int .i64 x0.op.kind, .int .i64 x0.op.off, .int .i64 0, .slice none 0 0] 56 (0, 0)) from by rw [hW1, hb4]; exact heap_new W0 _)
    have HS4 := Hd.mk (show W1.heap.size ≤ b4 + 1 from by rw [hW1, hb4]; simp [World.drew])
    have HWB := Hd.mk (show W0.heap.size ≤ b4 from by omega)
    have HW0B := Hd.mk (show w.heap.size < b4 from by rw [hb4]; exact obj_lt HZ0.out)
    rw [← hW1]
    refine hK _ _ (HE1.out.fr NoF) ?_
    rw [← hb4]
    clear hK hW1 hb4 l2 l3 m2 m3
    refine wpPl_done ?_
    obtain ⟨k0, hk0⟩ : ∃ k0, k0 = x0.op.kind := ⟨_, rfl⟩
    obtain ⟨o0, ho0⟩ : ∃ o0, o0 = x0.op.off := ⟨_, rfl⟩
    rw [← hk0, ← ho0] at HB4
    have HK0 := Hd.mk hk0
    have HO0 := Hd.mk ho0
    rw [← hk0, ← ho0]
    clear hk0 ho0
    go_wp2_with fail
    go_loopw [5, 29] (fun t5 t29 w1 => ∃ (i : Nat) (used len : Int) (data : List UInt64) (A1 : Option Addr) (c1 : Nat), i ≤ l.length ∧ t29 = .int .i64 (i : Int) ∧ t5 = .int .i64 (1024 - used) ∧ 0 ≤ used ∧ used ≤ 1024 ∧ 0 ≤ len ∧ (data.length : Int) + len = used ∧ (0 < i → -1024 ≤ o0 ∧ o0 ≤ 1024) ∧ w1.heap[b4]? = some (.cells #[.int .i64 k0, .int .i64 o0, .int .i64 len, .slice A1 data.length c1] 56 (0, 0)) ∧ Os vU w1 (b4 + 1) 54 (.slice A1 data.length c1) data ∧ wh k0 o0 0 [] 0 (l.map Pt.op) = wh k0 o0 used data len ((l.map Pt.op).drop i) ∧ Fr (fun q => q = b4) W1 w1) (fun _ t29 _ => l.length - (intOf t29).toNat)
    case atStart => exact ⟨0, 0, 0, [], none, 0, Nat.zero_le _, rfl, rfl, by omega, by omega, by omega, by simp, fun h => absurd h (Nat.lt_irrefl _), HB4.out, Os.nil _ _ _ _, by simp, Fr.refl _ _⟩
    case round =>
      obtain ⟨i, used, len, data, A1, c1, hi, rfl, rfl, hu0, hu1, hl0, hdl, ho00, hob, hos, hrun, hfr⟩ := hrel
      have HOB := Hd.mk hob
      have HOS := Hd.mk hos
      have HRUN := Hd.mk hrun
      have HFR := Hd.mk hfr
      have HX1 := Hd.mk (ext_fr HE1.out hfr (fun q hq => by rw [hq]; exact HWB.out))
      have hlim : data.length ≤ 1024 := by omega
      have hll : len ≤ 1024 := by omega
      have HDL := Hd.mk hdl
      have HO00 := Hd.mk ho00
      clear hob hos hrun hfr hdl ho00
      by_cases hlt : i < l.length
      · obtain ⟨b', off', x, cs, hb', hx, ⟨A3, c3, hcs, hd3⟩, _, hcx⟩ := HR.out.at hlt
        injection hb' with hb'
        injection hb' with e1 e2 _
        subst e1; subst e2; subst hcs
        have hew := HE0.out.trans HX1.out
        have j0 : wr.cell? ⟨b, off + i * 6, none⟩ = some _ := hew.cell (hcx 0 _ rfl)
        have j1 := hew.cell (hcx 1 _ rfl)
        have j2 := hew.cell (hcx 2 _ rfl)
        have j3 := hew.cell (hcx 3 _ rfl)
        have j4 := hew.cell (hcx 4 _ rfl)
        have j5 := hew.cell (hcx 5 _ rfl)
        have HEW := Hd.mk hew
        have HD3 := Hd.mk hd3
        have HSTEP := Hd.mk (show wh k0 o0 0 [] 0 (l.map Pt.op) = if fits k0 o0 used x.op = true then wh k0 o0 (used + x.op.n) (data ++ x.op.data) (len + x.op.len) ((l.map Pt.op).drop (i + 1)) else none from by
          have h1 : i < (l.map Pt.op).length := by simpa using hlt
          rw [HRUN.out, List.drop_eq_getElem_cons h1, List.getElem_map, hx, wh])
        have HOO := Hd.mk (show (-1024 ≤ o0 ∧ o0 ≤ 1024) ∨ x.op.off = o0 from by
          rcases Nat.eq_zero_or_pos i with hi0 | hi0
          · subst hi0
            right
            rw [HO0.out, ← hx, HX00.out]
          · exact .inl (HO00.out hi0))
        generalize x.op = y at *
        clear hcx hx hd3 hew
        have hb4r := obj_lt HOB.out
        go_wp2_with fail
        refine (blocks_Range_calls y A3 c3 _).mono ?_
        rintro e w2 ⟨rfl, he2⟩
        have HW2 := Hd.mk (show Ext wr w2 from (((Ext.refl wr).alloc _).alloc _).trans he2)
        have HBX := Hd.mk (he2.obj (heap_at (by simp)) : w2.heap[wr.heap.size + 1]? = some (.cells #[.int .i64 y.kind, .int .i64 y.off, .int .i64 y.len, .slice A3 y.data.length c3] 56 (0, 0)))
        have HB42 := Hd.mk (HW2.out.obj HOB.out)
        have HZ2 := Hd.mk (HW2.out.obj (HFR.out.obj (show ¬ w.heap.size = b4 by have := HW0B.out; omega) (HE1.out.obj HZ0.out)))
        have HOS2 := Hd.mk (HOS.out.ext HW2.out)
        have HEWW := Hd.mk (HEW.out.trans HW2.out)
        have y0 := cell_obj (i := 0) HBX.out
        have y1 := cell_obj (i := 1) HBX.out
        have y2 := cell_obj (i := 2) HBX.out
        have y3 := cell_obj (i := 3) HBX.out
        have r0 := cell_obj (i := 0) HB42.out
        have r1 := cell_obj (i := 1) HB42.out
        have r2 := cell_obj (i := 2) HB42.out
        have r3 := cell_obj (i := 3) HB42.out
        have z0 := cell_obj (i := 0) HZ2.out
        have z1 := cell_obj (i := 1) HZ2.out
        have z2 := cell_obj (i := 2) HZ2.out
        have z3 := cell_obj (i := 3) HZ2.out
        have v0 := frozen_obj HZ2.out 0
        have v1 := frozen_obj HZ2.out 1
        have v2 := frozen_obj HZ2.out 2
        have v3 := frozen_obj HZ2.out 3
        clear he2 j0 j1 j2 j3 j4 j5
        by_cases hfit : fits k0 o0 used y = true
        · rw [if_pos hfit] at HSTEP
          simp only [fits, decide_eq_true_eq] at hfit
          obtain ⟨hpure, hkk, ho1, ho2, ho3, hn1, hn2⟩ := hfit
          have g5 : (y.kind != k0) = false := by simpa using hkk
          have g6 : (y.off - o0 != 1024 - (1024 - used)) = false := by rw [bne_eq_false_iff_eq]; omega
          have g7 : decide (y.off < 0) = false := decide_eq_false (by omega)
          have g8 : decide (1024 < y.off) = false := decide_eq_false (by omega)
          have g9 : decide (y.n < 1) = false := decide_eq_false (by omega)
          have g10 : decide (1024 - used < y.n) = false := decide_eq_false (by omega)
          have hoa : -1024 ≤ o0 := by omega
          have HO3 := Hd.mk ho3
          have hob2 : o0 ≤ 1024 := by omega
          clear ho3
          have HKK := Hd.mk hkk
          clear v0 v1 v2 v3 z0 z1 z2 z3 hkk
          have hsum : ((data ++ y.data).length : Int) + (len + y.len) = used + y.n ∧ 0 ≤ y.len := by
            have := HDL.out
            rw [List.length_append]
            rcases hpure with ⟨hp1, hp2⟩ | ⟨hp1, hp2⟩
            · have hn : y.n = y.data.length := by simp [VOp.n, hp1]
              omega
            · have hn : y.n = y.len := by simp [VOp.n, hp1]
              omega
          obtain ⟨hsum, hyl⟩ := hsum
          have HSUM := Hd.mk hsum
          have hyd : y.data.length ≤ 1024 := by rw [List.length_append] at hsum; omega
          have hyl2 : y.len ≤ 1024 := by omega
          rw [List.length_append] at hsum
          clear hsum
          rcases hpure with ⟨hp1, hp2⟩ | ⟨hp1, hp2⟩
          case' inl =>
            have g1 : (y.kind == 1) = true := by simpa using hp1
            have g2 : (y.len == 0) = true := by simpa using hp2
            clear hp1 hp2
          case' inr =>
            have g1 : (y.kind == 1) = false := by rw [beq_eq_false_iff_ne]; omega
            have g2 : (y.kind == 2) = true := by simpa using hp1
            have g3 : ((y.data.length : Int) == 0) = true := by rw [beq_iff_eq]; omega
            clear hp1 hp2
          all_goals
            go_wp2_with (at_builtin; refine wpList_app _ tU rfl (.tmp 102) (.tmp 104) rfl (b4 + 1) (.slice A1 data.length c1) data.length (data.map vU) rfl HOS2.out A3 y.data.length c3 (y.data.map vU) rfl (by simp) (HD3.out.ext HEWW.out).fl (one_int .u64 (fun b : UInt64 => (b.toNat : Int)) y.data) (by omega) (by have := HW2.out.size; omega) ?_)
            rintro v4 w4 hown4 hg4 hv4
            have hos4 : Os vU w4 (b4 + 1) 54 v4 (data ++ y.data) := by
              unfold Os
              rw [List.length_append, List.map_append]
              exact hown4
            have hf4 := grown_fr1 hg4
            obtain ⟨A4, c4, rfl, _⟩ := hos4.sc
            have hno4 : ¬ ownF (.slice A1 data.length c1) b4 := fun ho => absurd (owns_block HOS2.out b4 ho) (by omega)
            have hbxr := obj_lt HBX.out
            have hnox : ¬ ownF (.slice A1 data.length c1) (wr.heap.size + 1) := fun ho => absurd (owns_lt HOS.out (wr.heap.size + 1) ho) (by omega)
            have HB44 := Hd.mk (hf4.obj hno4 HB42.out)
            have HBX4 := Hd.mk (hf4.obj hnox HBX.out)
            have HOS4 := Hd.mk hos4
            have hbw4 : w.heap.size ≤ b4 := by have := HW0B.out; omega
            have HF4 := Hd.mk ((HFR.out.trans (HW2.out.fr _)).under hf4 (fun q hq => .inr (by have := owns_block HOS2.out q hq; have := HS4.out; omega)))
            clear hown4 hg4 hv4 hos4 hf4 y0 y1 y2 y3 r0 r1 r2 r3
            have y2 := cell_obj (i := 2) HBX4.out
            have r2 := cell_obj (i := 2) HB44.out
            have r3 := cell_obj (i := 3) HB44.out
            have f2 := frozen_obj HB44.out 2
            have f3 := frozen_obj HB44.out 3
            have hbne : (wr.heap.size + 1) ≠ b4 := by omega
            go_wp2_with fail
            refine ⟨⟨i + 1, used + y.n, len + y.len, data ++ y.data, A4, c4, by omega, by go_num, by congr 1; omega, by omega, by omega, by omega, HSUM.out, fun _ => ⟨hoa, hob2⟩, ?_, ?_, ?_, ?_⟩, by simp [intOf]; omega⟩
            · have h9 := obj_set (i := 2) (v := .int .i64 (len + y.len)) (obj_set (i := 3) (v := .slice A4 (data ++ y.data).length c4) HB44.out)
              simpa using h9
            · have h9 := (HOS4.out.set (p := ⟨b4, 3, none⟩) (by simp) (.slice A4 (data ++ y.data).length c4)).set (p := ⟨b4, 2, none⟩) (by simp) (.int .i64 (len + y.len))
              simpa using h9
            · exact HSTEP.out
            · have h9 := (HF4.out.set (p := ⟨b4, 3, none⟩) (.inl rfl) (.slice A4 (data ++ y.data).length c4)).set (p := ⟨b4, 2, none⟩) (.inl rfl) (.int .i64 (len + y.len))
              simpa using h9
        · rw [if_neg hfit] at HSTEP
          have hun := unfit (y.off - o0 != 1024 - (1024 - used)) (by rw [bne_iff_ne]; omega) HOO.out hfit
          clear hfit
          have HN := Hd.mk (whole_none (x := x0.op) (by rw [← HL0.out, ← HK0.out, ← HO0.out]; exact HSTEP.out))
          rcases hun with (⟨g1, g2, g3⟩ | ⟨g1, g2⟩ | ⟨g1, g2, g3⟩) | ⟨⟨g1, g2⟩ | ⟨g1, g2, g3⟩, g4 | ⟨g4, g5 | ⟨g5, g6 | ⟨g6, ⟨ho1, ho2⟩, ⟨ho3, ho4⟩, g7 | ⟨g7, g8 | ⟨g8, g9⟩⟩⟩⟩⟩⟩
          all_goals
            go_wp2_with fail
            have e0 := obj_set (i := 0) (v := .int .i64 0) HZ2.out
            have e1 := obj_set (i := 1) (v := .int .i64 0) e0
            have e2 := obj_set (i := 2) (v := .int .i64 0) e1
            have e3 := obj_set (i := 3) (v := .slice none 0 0) e2
            have q0 := cell_obj (i := 0) e0
            have q1 := cell_obj (i := 1) e1
            have q2 := cell_obj (i := 2) e2
            have q3 := cell_obj (i := 3) e3
            refine bodyPost_ret (v := .tuple #[.agg #[.int .i64 0, .int .i64 0, .int .i64 0, .slice none 0 0], .int .i64 5]) (by simp [results, Try.results22, go_sem, q0, q1, q2, q3]) rfl ?_
            clear e0 e1 e2 e3 q0 q1 q2 q3
            rw [HL0.out, HN.out]
            refine ⟨none, 0, rfl, Sc.nil _ _, ?_⟩
            (repeat (first | exact HEWW.out | (refine Ext.set ?_ (by simp) _) | refine Ext.alloc ?_ _ | refine Ext.drew ?_))
      · have hie : i = l.length := by omega
        subst hie
        have HN := Hd.mk (whole_some (x := x0.op) (p := (data, len)) (by
          rw [← HL0.out, ← HK0.out, ← HO0.out, HRUN.out, List.drop_eq_nil_of_le (by simp)]
          rfl))
        have r0 := cell_obj (i := 0) HOB.out
        have r1 := cell_obj (i := 1) HOB.out
        have r2 := cell_obj (i := 2) HOB.out
        have r3 := cell_obj (i := 3) HOB.out
        have HZR := Hd.mk (HFR.out.obj (show ¬ w.heap.size = b4 by have := HW0B.out; omega) (HE1.out.obj HZ0.out))
        have v0 := frozen_obj HZR.out 0
        have v1 := frozen_obj HZR.out 1
        have v2 := frozen_obj HZR.out 2
        have v3 := frozen_obj HZR.out 3
        have z0 := cell_obj (i := 0) HZR.out
        have z1 := cell_obj (i := 1) HZR.out
        have z2 := cell_obj (i := 2) HZR.out
        have z3 := cell_obj (i := 3) HZR.out
        go_wp2_with fail
        have e0 := obj_set (i := 0) (v := .int .i64 k0) HZR.out
        have e1 := obj_set (i := 1) (v := .int .i64 o0) e0
        have e2 := obj_set (i := 2) (v := .int .i64 len) e1
        have e3 := obj_set (i := 3) (v := .slice A1 data.length c1) e2
        have q0 := cell_obj (i := 0) e0
        have q1 := cell_obj (i := 1) e1
        have q2 := cell_obj (i := 2) e2
        have q3 := cell_obj (i := 3) e3
        refine bodyPost_ret (v := .tuple #[.agg #[.int .i64 k0, .int .i64 o0, .int .i64 len, .slice A1 data.length c1], .int .i64 0]) (by simp [results, Try.results22, go_sem, q0, q1, q2, q3]) rfl ?_
        clear e0 e1 e2 e3 q0 q1 q2 q3
        rw [HL0.out, HN.out]
        have hlt9 : w.heap.size < b4 + 1 := by have := HW0B.out; omega
        have h8 := (((HOS.out.set (p := ⟨w.heap.size, 0, none⟩) hlt9 (.int .i64 k0)).set (p := ⟨w.heap.size, 1, none⟩) hlt9 (.int .i64 o0)).set (p := ⟨w.heap.size, 2, none⟩) hlt9 (.int .i64 len)).set (p := ⟨w.heap.size, 3, none⟩) hlt9 (.slice A1 data.length c1)
        refine ⟨A1, c1, by rw [HK0.out, HO0.out], by obtain ⟨A9, c9, e9, h9⟩ := h8.sc; injection e9 with e9 _ e10; subst e9; subst e10; exact h9, ?_⟩
        (repeat (first | exact HE0.out.trans HX1.out | (refine Ext.set ?_ (by simp) _) | refine Ext.alloc ?_ _ | refine Ext.drew ?_))
end Go.Proofs.Ytipoegmheiapgaa
