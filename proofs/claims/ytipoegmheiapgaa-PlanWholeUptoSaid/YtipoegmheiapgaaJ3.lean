/- Ops: where they lie, and whether they may be; what lists are held against. -/
import Derived.Test.YtipoegmheiapgaaJ2
namespace Go.Proofs.Ytipoegmheiapgaa
set_option linter.unusedVariables false
set_option linter.unusedSimpArgs false
open Go.RowKit

theorem right_iff (n : Int) (o : VOp) : right n o = true ↔ 0 ≤ n ∧ n ≤ 1024 ∧ 1 ≤ o.n ∧ 0 ≤ o.o ∧ o.n ≤ n ∧ o.o ≤ n - o.n ∧ (o.kind = 2 ∧ o.data.length = 0 ∨ o.kind = 1 ∧ o.len = 0 ∧ o.n ≤ 64) := by
  simp [right]
theorem lies_iff (n off k : Int) : lies n off k = true ↔ 0 ≤ off ∧ 0 ≤ k ∧ k ≤ n ∧ off ≤ n - k := by simp [lies]
theorem bool_of {a b : Bool} (h : a = true ↔ b = true) : a = b := Bool.eq_iff_iff.2 h

set_option maxRecDepth 100000 in
theorem blocks_Range_calls (o : VOp) (A : Option Addr) (c : Nat) (w : World) :
    Calls Try.prog 48 #[opV o A c] w fun e w' => e = .returned (.tuple #[.int .i64 o.o, .int .i64 o.n]) ∧ Ext w w' := by
  by_cases h1 : o.kind = 1
  · have g1 : (o.kind == 1) = true := by simpa using h1
    have H1 := Hd.mk h1
    clear h1
    go_enter Try.func48, Try.ntmps48
    go_wp2
    go_quiet (fail)
    go_wp2
    go_ret2
    exact ⟨ret_tuple2 (by simp [VOp.o, H1.out]) (by simp [VOp.n, H1.out]), ((Ext.refl w).alloc _).drewN _⟩
  · have g1 : (o.kind == 1) = false := by simpa using h1
    by_cases h2 : o.kind = 2
    · have g2 : (o.kind == 2) = true := by simpa using h2
      have H1 := Hd.mk h1
      have H2 := Hd.mk h2
      clear h1 h2
      go_enter Try.func48, Try.ntmps48
      go_wp2
      go_quiet (fail)
      go_wp2
      go_ret2
      exact ⟨ret_tuple2 (by simp [VOp.o, H2.out]) (by simp [VOp.n, H2.out]), ((Ext.refl w).alloc _).drewN _⟩
    · have g2 : (o.kind == 2) = false := by simpa using h2
      have H1 := Hd.mk h1
      have H2 := Hd.mk h2
      clear h1 h2
      go_enter Try.func48, Try.ntmps48
      go_wp2
      go_ret2
      exact ⟨ret_tuple2 (by simp [VOp.o, H1.out, H2.out]) (by simp [VOp.n, H1.out, H2.out]), ((Ext.refl w).alloc _)⟩
set_option maxRecDepth 100000 in
theorem jackstayref08_Range_calls (o : VOp) (A : Option Addr) (c : Nat) (w : World) :
    Calls Try.prog 49 #[opV o A c] w fun e w' => e = .returned (.tuple #[.int .i64 o.o, .int .i64 o.n]) ∧ Ext w w' := by
  by_cases h1 : o.kind = 1
  · have g1 : (o.kind == 1) = true := by simpa using h1
    have H1 := Hd.mk h1
    clear h1
    go_enter Try.func49, Try.ntmps49
    go_wp2
    go_quiet (fail)
    go_wp2
    go_ret2
    exact ⟨ret_tuple2 (by simp [VOp.o, H1.out]) (by simp [VOp.n, H1.out]), ((Ext.refl w).alloc _).drewN _⟩
  · have g1 : (o.kind == 1) = false := by simpa using h1
    by_cases h2 : o.kind = 2
    · have g2 : (o.kind == 2) = true := by simpa using h2
      have H1 := Hd.mk h1
      have H2 := Hd.mk h2
      clear h1 h2
      go_enter Try.func49, Try.ntmps49
      go_wp2
      go_quiet (fail)
      go_wp2
      go_ret2
      exact ⟨ret_tuple2 (by simp [VOp.o, H2.out]) (by simp [VOp.n, H2.out]), ((Ext.refl w).alloc _).drewN _⟩
    · have g2 : (o.kind == 2) = false := by simpa using h2
      have H1 := Hd.mk h1
      have H2 := Hd.mk h2
      clear h1 h2
      go_enter Try.func49, Try.ntmps49
      go_wp2
      go_ret2
      exact ⟨ret_tuple2 (by simp [VOp.o, H1.out, H2.out]) (by simp [VOp.n, H1.out, H2.out]), ((Ext.refl w).alloc _)⟩

set_option maxRecDepth 100000 in
theorem lies_calls (n off k : Int) (w : World) (hn : n ≤ 1024) :
    Calls Try.prog 83 #[.int .i64 n, .int .i64 off, .int .i64 k] w fun e w' => e = .returned (.bool (lies n off k)) ∧ Ext w w' := by
  go_enter Try.func83, Try.ntmps83
  go_wp2
  all_goals go_ret
  all_goals exact ⟨ret_bool (bool_of (by rw [lies_iff]; simp only [decide_eq_true_eq, Bool.false_eq_true, false_iff]; omega)), Ext.refl _⟩

set_option maxHeartbeats 1000000 in
set_option maxRecDepth 100000 in
theorem Right_calls (n : Int) (o : VOp) (A : Option Addr) (c : Nat) (w : World) :
    Calls Try.prog 59 #[.int .i64 n, opV o A c] w fun e w' => e = .returned (.bool (right n o)) ∧ Ext w w' := by
  go_enter Try.func59, Try.ntmps59
  go_wp2_with fail
  refine (blocks_Range_calls o A c _).mono ?_
  rintro e w1 ⟨rfl, he⟩
  have k0 : w1.cell? ⟨w.heap.size, 0, none⟩ = some (.int .i64 o.kind) := he.cell (by go_simp)
  have k1 : w1.cell? ⟨w.heap.size, 1, none⟩ = some (.int .i64 o.off) := he.cell (by go_simp)
  have k2 : w1.cell? ⟨w.heap.size, 2, none⟩ = some (.int .i64 o.len) := he.cell (by go_simp)
  have k3 : w1.cell? ⟨w.heap.size, 3, none⟩ = some (.slice A o.data.length c) := he.cell (by go_simp)
  have HE := Hd.mk (((Ext.refl w).alloc _).trans he)
  clear he
  by_cases h : n < 0 ∨ 1024 < n ∨ o.n < 1
  · by_cases h1 : n < 0
    · go_wp2
      all_goals go_ret
      all_goals exact ⟨ret_bool (bool_of (by rw [right_iff]; simp only [Bool.false_eq_true, false_iff]; omega)), HE.out⟩
    · by_cases h2 : 1024 < n
      · go_wp2
        all_goals go_ret
        all_goals exact ⟨ret_bool (bool_of (by rw [right_iff]; simp only [Bool.false_eq_true, false_iff]; omega)), HE.out⟩
      · have h3 : o.n < 1 := by omega
        go_wp2
        all_goals go_ret
        all_goals exact ⟨ret_bool (bool_of (by rw [right_iff]; simp only [Bool.false_eq_true, false_iff]; omega)), HE.out⟩
  · have h1 : ¬ n < 0 := by omega
    have h2 : ¬ 1024 < n := by omega
    have h3 : ¬ o.n < 1 := by omega
    go_wp2_with fail
    refine (lies_calls n o.o o.n w1 (by omega)).mono ?_
    rintro e w2 ⟨rfl, he2⟩
    have m0 := he2.cell k0
    have m1 := he2.cell k1
    have m2 := he2.cell k2
    have m3 := he2.cell k3
    have HE2 := Hd.mk (HE.out.trans he2)
    clear he2 k0 k1 k2 k3 h
    generalize hl : lies n o.o o.n = l
    have HL := Hd.mk hl
    clear hl
    cases l with
    | false =>
      go_wp2
      all_goals go_ret
      all_goals exact ⟨ret_bool (bool_of (by have hl := HL.out; rw [right_iff]; simp [lies] at hl; simp only [Bool.false_eq_true, false_iff]; omega)), HE2.out⟩
    | true =>
      go_wp2
      all_goals go_ret
      all_goals exact ⟨ret_bool (bool_of (by have hl := HL.out; rw [right_iff]; simp [lies] at hl; simp only [beq_iff_eq, decide_eq_true_eq, Bool.false_eq_true, false_iff, true_iff]; (try simp only [← List.length_eq_zero_iff] at *); omega)), HE2.out⟩
end Go.Proofs.Ytipoegmheiapgaa
