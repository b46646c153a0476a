/- The reference's records: which may be, where ops lie. -/
import Derived.Test.YtipoegmheiapgaaJ9
import Derived.Test.YtipoegmheiapgaaA4
namespace Go.Proofs.Ytipoegmheiapgaa
set_option linter.unusedVariables false
set_option linter.unusedSimpArgs false
open Go.RowKit

set_option maxRecDepth 100000 in
theorem number_calls (n : Int) (w : World) : Calls Try.prog 66 #[.int .i64 n] w fun e w' => e = .returned (.bool (small n)) ∧ w = w' := by
  go_enter Try.func66, Try.ntmps66
  go_wp2
  all_goals go_ret
  all_goals exact ⟨ret_bool (bool_of (by rw [small_iff]; simp only [decide_eq_true_eq, Bool.false_eq_true, false_iff]; omega)), rfl⟩
def manyB (n : Int) : Bool := decide (0 ≤ n ∧ n ≤ 1024)
theorem many_iff (n : Int) : manyB n = true ↔ 0 ≤ n ∧ n ≤ 1024 := by simp [manyB]
set_option maxRecDepth 100000 in
theorem many_calls (n : Int) (w : World) : Calls Try.prog 90 #[.int .i64 n] w fun e w' => e = .returned (.bool (manyB n)) ∧ w = w' := by
  go_enter Try.func90, Try.ntmps90
  go_wp2
  all_goals go_ret
  all_goals exact ⟨ret_bool (bool_of (by rw [many_iff]; simp only [decide_eq_true_eq, Bool.false_eq_true, false_iff]; omega)), rfl⟩
def inB (n off k : Int) : Bool := decide (0 ≤ off ∧ off ≤ n ∧ k ≤ n - off)
theorem in_iff (n off k : Int) : inB n off k = true ↔ 0 ≤ off ∧ off ≤ n ∧ k ≤ n - off := by simp [inB]
set_option maxRecDepth 100000 in
theorem in_calls (n off k : Int) (w : World) (h0 : 0 ≤ n) (hn : n ≤ 1024) : Calls Try.prog 91 #[.int .i64 n, .int .i64 off, .int .i64 k] w fun e w' => e = .returned (.bool (inB n off k)) ∧ w = w' := by
  go_enter Try.func91, Try.ntmps91
  go_wp2
  all_goals go_ret
  all_goals exact ⟨ret_bool (bool_of (by rw [in_iff]; simp only [decide_eq_true_eq, Bool.false_eq_true, false_iff]; omega)), rfl⟩

set_option maxHeartbeats 2000000 in
set_option maxRecDepth 100000 in
theorem RRight_calls (n : Int) (o : VOp) (A : Option Addr) (c : Nat) (w : World) :
    Calls Try.prog 69 #[.int .i64 n, opV o A c] w fun e w' => e = .returned (.bool (right n o)) ∧ Ext w w' := by
  have E0 := Hd.mk (show Ext w (w.alloc (.cells #[.int .i64 o.kind, .int .i64 o.off, .int .i64 o.len, .slice A o.data.length c] 56)) from (Ext.refl w).alloc _)
  by_cases hm : manyB n = true
  · obtain ⟨hm0, hm1⟩ := (many_iff n).1 hm
    by_cases e1 : o.kind = 1
    · have g1 : (o.kind == 1) = true := by simpa using e1
      have hn : o.n = o.data.length := by simp [VOp.n, e1]
      have ho : o.o = o.off := by simp [VOp.o, e1]
      have HN := Hd.mk hn
      have HO := Hd.mk ho
      have E1 := Hd.mk e1
      clear e1 hn ho
      go_enter Try.func69, Try.ntmps69
      go_wp2_with (first
        | (go_at_call 90; refine (many_calls n _).mono ?_; rintro e w' ⟨rfl, rfl⟩)
        | (go_at_call 91; refine (in_calls n _ _ _ hm0 hm1).mono ?_; rintro e w' ⟨rfl, rfl⟩))
      all_goals go_ret
      all_goals refine ⟨ret_bool (bool_of ?_), (Ext.refl w).alloc _⟩
      all_goals rw [right_iff, HN.out, HO.out]
      all_goals simp only [in_iff, beq_iff_eq, decide_eq_true_eq, Bool.false_eq_true, false_iff]
      all_goals have := E1.out
      all_goals (try simp only [← List.length_eq_zero_iff] at *)
      all_goals omega
    · have g1 : (o.kind == 1) = false := by simpa using e1
      by_cases e2 : o.kind = 2
      · have g2 : (o.kind == 2) = true := by simpa using e2
        have hn : o.n = o.len := by simp [VOp.n, e2]
        have ho : o.o = o.off := by simp [VOp.o, e2]
        have HN := Hd.mk hn
        have HO := Hd.mk ho
        have E1 := Hd.mk e2
        clear e1 e2 hn ho
        go_enter Try.func69, Try.ntmps69
        go_wp2_with (first
          | (go_at_call 90; refine (many_calls n _).mono ?_; rintro e w' ⟨rfl, rfl⟩)
          | (go_at_call 91; refine (in_calls n _ _ _ hm0 hm1).mono ?_; rintro e w' ⟨rfl, rfl⟩))
        all_goals go_ret
        all_goals refine ⟨ret_bool (bool_of ?_), (Ext.refl w).alloc _⟩
        all_goals rw [right_iff, HN.out, HO.out]
        all_goals simp only [in_iff, beq_iff_eq, decide_eq_true_eq, Bool.false_eq_true, false_iff]
        all_goals have := E1.out
        all_goals (try simp only [← List.length_eq_zero_iff] at *)
        all_goals omega
      · have g2 : (o.kind == 2) = false := by simpa using e2
        have E1 := Hd.mk e1
        have E2 := Hd.mk e2
        clear e1 e2
        go_enter Try.func69, Try.ntmps69
        go_wp2
        go_ret
        refine ⟨ret_bool (bool_of ?_), (Ext.refl w).alloc _⟩
        rw [right_iff]
        have h1 := E1.out
        have h2 := E2.out
        simp only [Bool.false_eq_true, false_iff]
        omega
  · have hm' : manyB n = false := by simpa using hm
    have HR := Hd.mk (show right n o = false from by
      have h1 : ¬ (0 ≤ n ∧ n ≤ 1024) := fun h => hm ((many_iff n).2 h)
      cases hr : right n o with
      | false => rfl
      | true => exact absurd ((right_iff n o).1 hr) (by omega))
    clear hm
    go_enter Try.func69, Try.ntmps69
    go_wp2_with (go_at_call 90; refine (many_calls n _).mono ?_; rintro e w' ⟨rfl, rfl⟩)
    all_goals go_ret
    all_goals exact ⟨ret_bool HR.out.symm, (Ext.refl w).alloc _⟩
end Go.Proofs.Ytipoegmheiapgaa
