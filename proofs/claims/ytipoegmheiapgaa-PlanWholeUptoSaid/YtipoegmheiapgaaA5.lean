/- append, one operation of a region that draws its order. No program in sight. -/
import Derived.Test.YtipoegmheiapgaaA4
namespace Go.Proofs.Ytipoegmheiapgaa
set_option linter.unusedVariables false
set_option linter.unusedSimpArgs false
open Go.RowKit

section
variable {α : Type} {k : Nat} {R : World → α → List Value → Prop} {G : Nat → Prop} {w : World} {base : Nat} {e : TypeId} {v : Value} {xs : List α} {P : Program}
theorem wp_push {t : TypeId} {bytes : Nat} (hT : ElT P t e k bytes) {o : Oper} {a : Act} {K : Act → World → Prop} {Q : Exit → Act → World → Prop} (s x : Operand)
    (ho : o.op = .call { callee := .builtin .append, args := #[s, x], argTypes := #[t, t] }) (hs : a.eval s = v) (h : Omx G k R w base e v xs)
    (A : Option Addr) (c : Nat) (y : α) (cy : List Value) (hx : a.eval x = .slice A 1 c) (hl : cy.length = k) (hr : Fl w A cy) (h1 : ∀ u ∈ cy, u.oneCell' = true) (hst : St (gF G v) R w y cy)
    (hbytes : (xs.length + 1) * bytes ≤ 140737488355328) (hbase : base ≤ w.heap.size) (hG : ∀ q, G q → q < w.heap.size)
    (hK : ∀ A' c' w', Omx G k R w' base e (.slice A' (xs.length + 1) c') (xs ++ [y]) → Fr (ownF v) w w' → (∀ q, ownF (.slice A' (xs.length + 1) c') q → ownF v q ∨ w.heap.size ≤ q) → K (a.put o.dst (.slice A' (xs.length + 1) c')) w') : o.wp P a w K Q := by
  obtain ⟨cs, hrows, hown⟩ := h
  refine wp_app w hT s x ho base v xs.length cs hs hown A 1 c cy hx (by omega) hr h1 hbytes hbase ?_
  intro v' w' h2 h3 h4
  have hom := Omx.grown hrows hst hl h2 h3 h4 hG
  obtain ⟨A', c', hv⟩ := hom.slice
  rw [show (xs ++ [y]).length = xs.length + 1 by simp] at hv
  subst hv
  refine hK A' c' w' hom (grown_fr1 h3) ?_
  intro q hq
  unfold ownF at hq ⊢
  rcases h4 with e | e
  · exact .inl (e ▸ hq)
  · rw [e] at hq; injection hq with hq; exact .inr (by omega)
end
end Go.Proofs.Ytipoegmheiapgaa
