/- Which records and ops may be: the program's own tests. -/
import Derived.Test.YtipoegmheiapgaaJ1
namespace Go.Proofs.Ytipoegmheiapgaa
set_option linter.unusedVariables false
set_option linter.unusedSimpArgs false
open Go.RowKit

theorem ret_tuple2 {a b a' b' : Value} (h : a = a') (h' : b = b') : Ending.returned (.tuple #[a, b]) = .returned (.tuple #[a', b']) := by rw [h, h']

theorem fun_zeros1 : Fun 81 := fun _ _ => by simp [callFunc, Try.func81, go_sem]; rfl

set_option maxRecDepth 100000 in
theorem zeros1_calls (x : Int) (w : World) : Calls Try.prog 81 #[.int .i64 x] w fun e w' => e = .returned (.bool (x != 0)) ∧ Ext w w' := by
  go_enter Try.func81, Try.ntmps81
  go_wp2
  go_ret
  exact ⟨rfl, Ext.refl _⟩

set_option maxRecDepth 100000 in
theorem zeros_calls (A : Option Addr) (c : Nat) (xs : List Int) (w : World) (hr : Sc vI w A c xs) :
    Calls Try.prog 54 #[.slice A xs.length c] w fun e w' => e = .returned (.bool (!(xs.any (· != 0)))) ∧ Ext w w' := by
  have HR := Hd.mk hr
  clear hr
  go_enter Try.func54, Try.ntmps54
  go_wp2_with fail
  refine (ContainsFunc_int A c xs _ _ (· != 0) w HR.out fun_zeros1 (fun i hi w1 _ => by rw [Array.append_empty]; exact zeros1_calls _ w1)).mono ?_
  rintro e w1 ⟨rfl, he⟩
  go_wp2
  go_ret
  exact ⟨rfl, he⟩

set_option maxRecDepth 100000 in
theorem numbers_calls (b : Nat) (w : World) :
    Calls Try.prog 53 #[.pointer (some ⟨b, 0, none⟩)] w fun e w' => e = .returned (.slice (some ⟨w.heap.size, 0, none⟩) 7 7) ∧ (∀ j, j < 7 → w'.cell? ⟨w.heap.size, j, none⟩ = some (.pointer (some ⟨b, j, none⟩))) ∧ Ext w w' := by
  go_enter Try.func53, Try.ntmps53
  go_wp2
  go_region
  go_wp2
  go_ret
  refine ⟨rfl, ?_, ?_⟩
  · intro j hj
    match j, hj with
    | 0, _ | 1, _ | 2, _ | 3, _ | 4, _ | 5, _ | 6, _ => go_simp
  · exact ((Ext.refl w).drew.alloc _)

theorem small_all (r : Rc) : (∀ j, j < 7 → small (r.num j) = true) → r.small = true := by
  intro h
  have := h 0 (by omega); have := h 1 (by omega); have := h 2 (by omega); have := h 3 (by omega); have := h 4 (by omega); have := h 5 (by omega); have := h 6 (by omega)
  simp_all [Rc.small, Rc.nums, Rc.num]
theorem small_not (r : Rc) (k : Nat) (hk : k < 7) (h : small (r.num k) = false) : r.small = false := by
  have : r.num k ∈ r.nums := by
    match k, hk with
    | 0, _ | 1, _ | 2, _ | 3, _ | 4, _ | 5, _ | 6, _ => simp [Rc.num, Rc.nums]
  unfold Rc.small
  rw [List.all_eq_false]
  exact ⟨_, this, by simp [h]⟩
theorem small_iff (n : Int) : (small n = true) = (0 ≤ n ∧ n ≤ 2147483648) := by simp [small]

theorem may_eq1 {r : Rc} (hs : r.small = true) (h : r.kind = 1) : may r = true ↔ r.off = 0 ∧ r.data.length = 0 := by
  simp [may, hs, Rc.form, h]
theorem may_eq2 {r : Rc} (hs : r.small = true) (h : r.kind = 2) (hz : (!(List.any [r.shard, r.snap, r.base, r.map, r.len] (· != 0))) = true) : may r = true ↔ 1 ≤ r.data.length ∧ r.data.length ≤ 64 := by
  simp at hz; simp [may, hs, Rc.form, h, hz]
theorem may_eq3 {r : Rc} (hs : r.small = true) (h : r.kind = 3) (hz : (!(List.any [r.shard, r.snap, r.base, r.map] (· != 0))) = true) : may r = true ↔ 1 ≤ r.len ∧ r.data.length = 0 := by
  simp at hz; simp [may, hs, Rc.form, h, hz]
theorem may_eq4 {r : Rc} (hs : r.small = true) (h : r.kind = 4) (hz : (!(List.any [r.shard, r.snap, r.base, r.map, r.off] (· != 0))) = true) : may r = true ↔ r.data.length = 0 := by
  simp at hz; simp [may, hs, Rc.form, h, hz]
theorem may_no2 {r : Rc} (h : r.kind = 2) (hz : (!(List.any [r.shard, r.snap, r.base, r.map, r.len] (· != 0))) = false) : may r = false := by
  simp at hz; simp [may, Rc.form, h]; omega
theorem may_no3 {r : Rc} (h : r.kind = 3) (hz : (!(List.any [r.shard, r.snap, r.base, r.map] (· != 0))) = false) : may r = false := by
  simp at hz; simp [may, Rc.form, h]; omega
theorem may_no4 {r : Rc} (h : r.kind = 4) (hz : (!(List.any [r.shard, r.snap, r.base, r.map, r.off] (· != 0))) = false) : may r = false := by
  simp at hz; simp [may, Rc.form, h]; omega
theorem len0 {α : Type} (l : List α) : ((l.length : Int) == 0) = decide (l = []) := by cases l <;> simp; omega
theorem small_no {n : Int} (h : ¬ (0 ≤ n ∧ n ≤ 2147483648)) : small n = false := decide_eq_false h
theorem small_yes {n : Int} (h : 0 ≤ n) (h' : n ≤ 2147483648) : small n = true := decide_eq_true ⟨h, h'⟩
set_option maxHeartbeats 1000000 in
set_option maxRecDepth 100000 in
theorem May_calls (r : Rc) (A : Option Addr) (c : Nat) (w : World) :
    Calls Try.prog 29 #[rcV r A c] w fun e w' => e = .returned (.bool (may r)) ∧ Ext w w' := by
  go_enter Try.func29, Try.ntmps29
  go_wp2_with fail
  refine (numbers_calls _ _).mono ?_
  rintro e w1 ⟨rfl, hp, he⟩
  simp only [World.size_alloc] at hp
  have k0 : w1.cell? ⟨w.heap.size, 0, none⟩ = some (.int .i64 r.kind) := he.cell (by go_simp)
  have k1 : w1.cell? ⟨w.heap.size, 1, none⟩ = some (.int .i64 r.shard) := he.cell (by go_simp)
  have k2 : w1.cell? ⟨w.heap.size, 2, none⟩ = some (.int .i64 r.snap) := he.cell (by go_simp)
  have k3 : w1.cell? ⟨w.heap.size, 3, none⟩ = some (.int .i64 r.base) := he.cell (by go_simp)
  have k4 : w1.cell? ⟨w.heap.size, 4, none⟩ = some (.int .i64 r.map) := he.cell (by go_simp)
  have k5 : w1.cell? ⟨w.heap.size, 5, none⟩ = some (.int .i64 r.off) := he.cell (by go_simp)
  have k6 : w1.cell? ⟨w.heap.size, 6, none⟩ = some (.int .i64 r.len) := he.cell (by go_simp)
  have k7 : w1.cell? ⟨w.heap.size, 7, none⟩ = some (.slice A r.data.length c) := he.cell (by go_simp)
  have kn : ∀ j, j < 7 → w1.cell? ⟨w.heap.size, j, none⟩ = some (.int .i64 (r.num j)) := by
    intro j hj
    match j, hj with
    | 0, _ | 1, _ | 2, _ | 3, _ | 4, _ | 5, _ | 6, _ => assumption
  have hext : Ext w w1 := ((Ext.refl w).alloc _).trans he
  clear he
  have HE := Hd.mk hext
  have HN := Hd.mk kn
  have HP := Hd.mk hp
  clear hext kn hp
  go_wp2
  go_loop [7] (fun i => ∃ k : Nat, k ≤ 7 ∧ i = .int .i64 k ∧ (∀ j, j < k → small (r.num j) = true)) (fun i => 7 - (intOf i).toNat)
  case atStart => exact ⟨0, Nat.zero_le _, rfl, fun j h => absurd h (by omega)⟩
  case round =>
    obtain ⟨k, hk, rfl, hs⟩ := hrel
    by_cases hlt : k < 7
    · have HS := Hd.mk hs
      clear hs
      have ka := HP.out k hlt
      have kb := HN.out k hlt
      obtain ⟨n, hn⟩ : ∃ n, r.num k = n := ⟨_, rfl⟩
      rw [hn] at kb
      have HK := Hd.mk hn
      clear hn
      go_wp2
      all_goals first
        | (go_ret; exact ⟨ret_bool (by rw [may, small_not r k hlt (by rw [HK.out]; exact small_no (by omega))]; rfl), HE.out⟩)
        | (go_round
           case rel => exact ⟨k + 1, by omega, by go_num, fun j hj => by
              rcases Nat.lt_or_ge j k with h | h
              · exact HS.out j h
              · obtain rfl : j = k := by omega
                rw [HK.out]; exact small_yes (by omega) (by omega)⟩
           case measure => simp [intOf]; omega)
    · obtain rfl : k = 7 := by omega
      have HS := Hd.mk (small_all r hs)
      clear hs
      by_cases e1 : r.kind = 1
      · have g1 : (r.kind == 1) = true := by simpa using e1
        have E1 := Hd.mk e1
        clear e1
        go_wp2
        all_goals go_ret
        all_goals exact ⟨ret_bool (by rw [Bool.eq_iff_iff, may_eq1 HS.out E1.out]; simp only [beq_iff_eq, decide_eq_true_eq, Bool.false_eq_true, false_iff]; omega), HE.out⟩
      · have g1 : (r.kind == 1) = false := by simpa using e1
        have E1 := Hd.mk e1
        clear e1
        by_cases e2 : r.kind = 2
        · have g2 : (r.kind == 2) = true := by simpa using e2
          have E2 := Hd.mk e2
          clear e2
          go_wp2_with fail
          refine (zeros_calls _ _ [r.shard, r.snap, r.base, r.map, r.len] _ (Sc.new (heap_new _ _) rfl (by simp) (by simp [maxLen]))).mono ?_
          rintro e w2 ⟨rfl, he2⟩
          have he3 : Ext w1 w2 := ((Ext.refl w1).alloc _).trans he2
          have m6 := he3.cell k6
          have m7 := he3.cell k7
          have HE2 := Hd.mk (HE.out.trans he3)
          clear he2 he3
          generalize hz : (!(List.any [r.shard, r.snap, r.base, r.map, r.len] (· != 0))) = z
          have HZ := Hd.mk hz
          clear hz
          cases z with
          | false =>
            go_wp2
            all_goals go_ret
            all_goals exact ⟨ret_bool (may_no2 E2.out HZ.out).symm, HE2.out⟩
          | true =>
            go_wp2
            all_goals go_ret
            all_goals exact ⟨ret_bool (by rw [Bool.eq_iff_iff, may_eq2 HS.out E2.out HZ.out]; simp only [beq_iff_eq, decide_eq_true_eq, Bool.false_eq_true, false_iff]; omega), HE2.out⟩
        · have g2 : (r.kind == 2) = false := by simpa using e2
          have E2 := Hd.mk e2
          clear e2
          by_cases e3 : r.kind = 3
          · have g3 : (r.kind == 3) = true := by simpa using e3
            have E3 := Hd.mk e3
            clear e3
            go_wp2_with fail
            refine (zeros_calls _ _ [r.shard, r.snap, r.base, r.map] _ (Sc.new (heap_new _ _) rfl (by simp) (by simp [maxLen]))).mono ?_
            rintro e w2 ⟨rfl, he2⟩
            have he3 : Ext w1 w2 := ((Ext.refl w1).alloc _).trans he2
            have m6 := he3.cell k6
            have m7 := he3.cell k7
            have HE2 := Hd.mk (HE.out.trans he3)
            clear he2 he3
            generalize hz : (!(List.any [r.shard, r.snap, r.base, r.map] (· != 0))) = z
            have HZ := Hd.mk hz
            clear hz
            cases z with
            | false =>
              go_wp2
              all_goals go_ret
              all_goals exact ⟨ret_bool (may_no3 E3.out HZ.out).symm, HE2.out⟩
            | true =>
              go_wp2
              all_goals go_ret
              all_goals exact ⟨ret_bool (by rw [Bool.eq_iff_iff, may_eq3 HS.out E3.out HZ.out]; simp only [beq_iff_eq, decide_eq_true_eq, Bool.false_eq_true, false_iff]; omega), HE2.out⟩
          · have g3 : (r.kind == 3) = false := by simpa using e3
            have E3 := Hd.mk e3
            clear e3
            by_cases e4 : r.kind = 4
            · have g4 : (r.kind == 4) = true := by simpa using e4
              have E4 := Hd.mk e4
              clear e4
              go_wp2_with fail
              refine (zeros_calls _ _ [r.shard, r.snap, r.base, r.map, r.off] _ (Sc.new (heap_new _ _) rfl (by simp) (by simp [maxLen]))).mono ?_
              rintro e w2 ⟨rfl, he2⟩
              have he3 : Ext w1 w2 := ((Ext.refl w1).alloc _).trans he2
              have m6 := he3.cell k6
              have m7 := he3.cell k7
              have HE2 := Hd.mk (HE.out.trans he3)
              clear he2 he3
              generalize hz : (!(List.any [r.shard, r.snap, r.base, r.map, r.off] (· != 0))) = z
              have HZ := Hd.mk hz
              clear hz
              cases z with
              | false =>
                go_wp2
                all_goals go_ret
                all_goals exact ⟨ret_bool (may_no4 E4.out HZ.out).symm, HE2.out⟩
              | true =>
                go_wp2
                all_goals go_ret
                all_goals exact ⟨ret_bool (by rw [Bool.eq_iff_iff, may_eq4 HS.out E4.out HZ.out]; simp only [beq_iff_eq, decide_eq_true_eq, Bool.false_eq_true, false_iff]; omega), HE2.out⟩
            · have g4 : (r.kind == 4) = false := by simpa using e4
              have E4 := Hd.mk e4
              clear e4
              go_wp2
              all_goals go_ret
              all_goals exact ⟨ret_bool (by rw [may, HS.out]; simp [Rc.form, E1.out, E2.out, E3.out, E4.out]), HE.out⟩
end Go.Proofs.Ytipoegmheiapgaa
