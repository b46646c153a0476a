/- Records held against one another. -/
import Derived.Test.YtipoegmheiapgaaJ4
namespace Go.Proofs.Ytipoegmheiapgaa
set_option linter.unusedVariables false
set_option linter.unusedSimpArgs false
open Go.RowKit

set_option maxHeartbeats 2000000 in
set_option maxRecDepth 100000 in
theorem One_calls (x y : Rc) (A B : Option Addr) (c d : Nat) (w : World) (hx : Sc vU w A c x.data) (hy : Sc vU w B d y.data) :
    Calls Try.prog 13 #[rcV x A c, rcV y B d] w fun e w' => e = .returned (.bool (decide (x = y))) ∧ Ext w w' := by
  have HE := Hd.mk (((Ext.refl w).alloc (.cells #[.int .i64 x.kind, .int .i64 x.shard, .int .i64 x.snap, .int .i64 x.base, .int .i64 x.map, .int .i64 x.off, .int .i64 x.len, .slice A x.data.length c] 24)).alloc (.cells #[.int .i64 y.kind, .int .i64 y.shard, .int .i64 y.snap, .int .i64 y.base, .int .i64 y.map, .int .i64 y.off, .int .i64 y.len, .slice B y.data.length d] 24))
  have HX := Hd.mk hx
  have HY := Hd.mk hy
  clear hx hy
  go_enter Try.func13, Try.ntmps13
  by_cases e : x.kind = y.kind ∧ x.shard = y.shard ∧ x.snap = y.snap ∧ x.base = y.base ∧ x.map = y.map ∧ x.off = y.off ∧ x.len = y.len
  · have g0 : (x.kind == y.kind) = true := by simpa using e.1
    have g1 : (x.shard == y.shard) = true := by simpa using e.2.1
    have g2 : (x.snap == y.snap) = true := by simpa using e.2.2.1
    have g3 : (x.base == y.base) = true := by simpa using e.2.2.2.1
    have g4 : (x.map == y.map) = true := by simpa using e.2.2.2.2.1
    have g5 : (x.off == y.off) = true := by simpa using e.2.2.2.2.2.1
    have g6 : (x.len == y.len) = true := by simpa using e.2.2.2.2.2.2
    have E := Hd.mk e
    clear e
    go_wp2_with fail
    refine (Words_calls A B c d x.data y.data _ (HX.out.ext HE.out) (HY.out.ext HE.out)).mono ?_
    rintro e w2 ⟨rfl, hd⟩
    have HD := Hd.mk hd
    clear hd
    go_wp2
    all_goals go_ret
    all_goals exact ⟨ret_bool (by have e := E.out; simp [Rc.ext_iff', e]), HE.out.trans HD.out.ext⟩
  · have E := Hd.mk e
    have hno : decide (x = y) = false := decide_eq_false (fun h => e (by rw [h]; simp))
    have HN := Hd.mk hno
    clear e hno
    go_wp2_with fail
    all_goals first
      | (exfalso; apply E.out; refine ⟨?_, ?_, ?_, ?_, ?_, ?_, ?_⟩ <;> assumption)
      | (go_ret; exact ⟨ret_bool HN.out.symm, ((Ext.refl _).alloc _).alloc _⟩)

set_option maxHeartbeats 2000000 in
set_option maxRecDepth 100000 in
theorem RSame_calls (A B : Option Addr) (c d : Nat) (xs ys : List Rc) (w : World) (hx : Sm 8 rcR w A c xs) (hy : Sm 8 rcR w B d ys) :
    Calls Try.prog 20 #[.slice A xs.length c, .slice B ys.length d] w
      fun e w' => e = .returned (.bool (decide (xs = ys))) ∧ Ext w w' := by
  have b1 := hx.1
  have b2 := hx.2.1
  unfold maxLen at b2
  go_enter Try.func20, Try.ntmps20
  by_cases hl : xs.length = ys.length
  · have g1 : ((xs.length : Int) != (ys.length : Int)) = false := by rw [bne_eq_false_iff_eq]; omega
    have HL := Hd.mk hl
    clear hl
    go_wp2
    go_loopw [5] (fun i w1 => ∃ k : Nat, k ≤ xs.length ∧ i = .int .i64 k ∧ Ext w w1 ∧ (∀ j (h1 : j < xs.length) (h2 : j < ys.length), j < k → xs[j] = ys[j])) (fun i _ => xs.length - (intOf i).toNat)
    case atStart => exact ⟨0, Nat.zero_le _, rfl, Ext.refl _, fun j _ _ h => absurd h (by omega)⟩
    case round =>
      obtain ⟨k, hk, rfl, hext, hf⟩ := hrel
      have HF := Hd.mk hf
      clear hf
      by_cases hlt : k < xs.length
      · have hlt2 : k < ys.length := by have := HL.out; omega
        obtain ⟨b, off, x, cs, rfl, hxk, ⟨A1, c1, rfl, hd1⟩, _, hcx⟩ := (hx.ext rcR_keeps hext).at hlt
        obtain ⟨b', off', y, cs', rfl, hyk, ⟨A2, c2, rfl, hd2⟩, _, hcy⟩ := (hy.ext rcR_keeps hext).at hlt2
        have x0 : ∀ q : ExtOf wr, q.1.cell? ⟨b, off + k * 8, none⟩ = some _ := fun q => q.cell (hcx 0 _ rfl)
        have x1 := fun q : ExtOf wr => q.cell (hcx 1 _ rfl)
        have x2 := fun q : ExtOf wr => q.cell (hcx 2 _ rfl)
        have x3 := fun q : ExtOf wr => q.cell (hcx 3 _ rfl)
        have x4 := fun q : ExtOf wr => q.cell (hcx 4 _ rfl)
        have x5 := fun q : ExtOf wr => q.cell (hcx 5 _ rfl)
        have x6 := fun q : ExtOf wr => q.cell (hcx 6 _ rfl)
        have x7 := fun q : ExtOf wr => q.cell (hcx 7 _ rfl)
        have y0 : ∀ q : ExtOf wr, q.1.cell? ⟨b', off' + k * 8, none⟩ = some _ := fun q => q.cell (hcy 0 _ rfl)
        have y1 := fun q : ExtOf wr => q.cell (hcy 1 _ rfl)
        have y2 := fun q : ExtOf wr => q.cell (hcy 2 _ rfl)
        have y3 := fun q : ExtOf wr => q.cell (hcy 3 _ rfl)
        have y4 := fun q : ExtOf wr => q.cell (hcy 4 _ rfl)
        have y5 := fun q : ExtOf wr => q.cell (hcy 5 _ rfl)
        have y6 := fun q : ExtOf wr => q.cell (hcy 6 _ rfl)
        have y7 := fun q : ExtOf wr => q.cell (hcy 7 _ rfl)
        have HX := Hd.mk hxk
        have HY := Hd.mk hyk
        have HE := Hd.mk hext
        have HD := Hd.mk (fun q : ExtOf wr => calls_ext (One_calls x y A1 A2 c1 c2 q.1 (hd1.ext q.2) (hd2.ext q.2)))
        clear hxk hyk hx hy hcx hcy hd1 hd2 hext
        generalize hdd : decide (x = y) = z at HD
        have HZ := Hd.mk hdd
        clear hdd
        cases z with
        | true =>
          go_wp2
          refine wp_region_ext (by kernel_rfl) (by kernel_rfl) ?_
          repeat (any_goals (first | go_big_quiet_step ((go_at_call 13; exact HD.out _)) | quiet_step ((go_at_call 13; exact HD.out _))))
          refine wpQuiet_nil ?_
          rintro _ ⟨⟨w2, he2⟩, rfl⟩
          have HE2 := Hd.mk he2
          clear he2 x0 x1 x2 x3 x4 x5 x6 x7 y0 y1 y2 y3 y4 y5 y6 y7
          go_wp2
          go_roundw
          case rel => exact ⟨k + 1, by omega, by go_num, HE.out.trans HE2.out, fun j h1 h2 hjk => by
              rcases Nat.lt_or_ge j k with h | h
              · exact HF.out j h1 h2 h
              · obtain rfl : j = k := by omega
                rw [HX.out, HY.out]; exact of_decide_eq_true HZ.out⟩
          case measure => simp [intOf]; omega
        | false =>
          go_wp2
          refine wp_region_ext (by kernel_rfl) (by kernel_rfl) ?_
          repeat (any_goals (first | go_big_quiet_step ((go_at_call 13; exact HD.out _)) | quiet_step ((go_at_call 13; exact HD.out _))))
          refine wpQuiet_nil ?_
          rintro _ ⟨⟨w2, he2⟩, rfl⟩
          have HE2 := Hd.mk he2
          clear he2 x0 x1 x2 x3 x4 x5 x6 x7 y0 y1 y2 y3 y4 y5 y6 y7
          go_wp2
          go_ret
          exact ⟨ret_bool (decide_eq_false (list_ne hlt hlt2 (by rw [HX.out, HY.out]; exact of_decide_eq_false HZ.out))).symm, HE.out.trans HE2.out⟩
      · go_wp2
        go_ret
        exact ⟨ret_bool (decide_eq_true (list_eq HL.out fun j h1 h2 => HF.out j h1 h2 (by omega))).symm, hext⟩
  · have g1 : ((xs.length : Int) != (ys.length : Int)) = true := by rw [bne_iff_ne]; omega
    have HL := Hd.mk hl
    clear hl
    go_wp2
    go_ret
    exact ⟨ret_bool (by simp; rintro rfl; exact HL.out rfl), Ext.refl _⟩
end Go.Proofs.Ytipoegmheiapgaa
