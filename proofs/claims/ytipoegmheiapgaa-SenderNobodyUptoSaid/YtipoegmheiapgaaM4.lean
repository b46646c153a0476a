/- Build and Ops, as lists: one goes back to the other. No program, no memory. -/
import Derived.Test.YtipoegmheiapgaaM2
namespace Go.Proofs.Ytipoegmheiapgaa
set_option linter.unusedVariables false
set_option linter.unusedSimpArgs false

theorem op_back {o : VOp} (h : between (recOf o) = true) : opOf (recOf o) = o := by
  cases o with
  | mk k f l d =>
    simp only [between, recOf, decide_eq_true_eq] at h
    simp only [opOf, recOf, VOp.mk.injEq, and_true]
    split at h
    · rename_i h1; simp [h1]
    · split at h
      · rename_i h1 h2; simp [h2]
      · omega
theorem checkS_between {a t : Rc} {m : List Rc} (h : checkS a m t = 0) : m.all between = true := by
  unfold checkS at h
  split at h
  · rename_i h1; exact h1.2.2
  · cases h
theorem build_cases (r0 : Rc) (ops : List VOp) : (build r0 ops = (streamOf r0 ops, 0) ∧ check (streamOf r0 ops) = 0 ∧ opsL (streamOf r0 ops) = (ops, 0)) ∨ ((build r0 ops).1 = [] ∧ (build r0 ops).2 ≠ 0) := by
  unfold build
  split
  · split
    · rename_i h1 h2
      refine .inl ⟨rfl, h2, ?_⟩
      have h3 := h2
      obtain ⟨hall, _⟩ := check_zero h2
      unfold streamOf at h2 hall ⊢
      rw [opsL_of h2]
      rw [check_of _ _ _ hall] at h2
      have hb := checkS_between h2
      rw [List.map_map]
      congr 1
      conv => rhs; rw [← List.map_id ops]
      refine List.map_congr_left fun o ho => ?_
      exact op_back (List.all_eq_true.1 hb _ (List.mem_map_of_mem ho))
    · rename_i h1 h2
      exact .inr ⟨rfl, h2⟩
  · exact .inr ⟨rfl, by decide⟩
end Go.Proofs.Ytipoegmheiapgaa
