/- A list that a call grows, element by element, while blocks of its own are written. No program in sight. -/
import Derived.Test.YtipoegmheiapgaaA2
namespace Go.Proofs.Ytipoegmheiapgaa
set_option linter.unusedVariables false
set_option linter.unusedSimpArgs false
open Go.RowKit

theorem Fr.under {F G : Nat → Prop} {a b c : World} (h : Fr F a b) (k : Fr G b c) (hG : ∀ x, G x → F x ∨ a.heap.size ≤ x) : Fr F a c :=
  ⟨k.1.trans h.1, k.2.1.trans h.2.1, k.2.2.1.trans h.2.2.1, Nat.le_trans h.size k.size, fun i hi hF =>
    (k.2.2.2.2 i (Nat.lt_of_lt_of_le hi h.size) (fun hg => by rcases hG i hg with e | e; exact hF e; omega)).trans (h.2.2.2.2 i hi hF)⟩

section
variable {α : Type} {k : Nat} {R : World → α → List Value → Prop} {G : Nat → Prop} {w w' : World} {base : Nat} {e : TypeId} {v : Value} {xs : List α}
def gF (G : Nat → Prop) (v : Value) : Nat → Prop := fun q => G q ∨ ownF v q
/-- A list of the call's own; its elements stay so whatever happens to its own block and to the blocks of 'G'. -/
def Omx (G : Nat → Prop) (k : Nat) (R : World → α → List Value → Prop) (w : World) (base : Nat) (e : TypeId) (v : Value) (xs : List α) : Prop :=
  ∃ cs, Rows' k (St (gF G v) R) w xs cs ∧ w.ownsRow base e k v xs.length cs
theorem Omx.om (h : Omx G k R w base e v xs) : Om k R w base e v xs :=
  let ⟨cs, h1, h2⟩ := h; ⟨cs, Rows'.imp (fun _ _ hs w' hf => hs w' (hf.mono (fun _ => .inr))) h1, h2⟩
theorem Omx.nil (G : Nat → Prop) (k : Nat) (R : World → α → List Value → Prop) (w : World) (base : Nat) (e : TypeId) : Omx G k R w base e (.slice none 0 0) [] :=
  ⟨[], rfl, (Nat.zero_mul k).symm, .inl ⟨rfl, rfl⟩⟩
theorem owns_fr {n : Nat} {cs : List Value} (h : w.ownsRow base e k v n cs) {F : Nat → Prop} (hF : ∀ b, F b → ¬ ownF v b) (hf : Fr F w w') : w'.ownsRow base e k v n cs := by
  refine ⟨h.1, ?_⟩
  rcases h.2 with h2 | ⟨g, cap, cur, hv, hb, hg, r⟩
  · exact .inl h2
  · exact .inr ⟨g, cap, cur, hv, hb, hf.obj (fun hFg => hF g hFg (by rw [hv]; rfl)) hg, r⟩
theorem Omx.block (h : Omx G k R w base e v xs) : ∀ q, ownF v q → base ≤ q := let ⟨_, _, h2⟩ := h; owns_block h2
theorem Omx.lt (h : Omx G k R w base e v xs) : ∀ q, ownF v q → q < w.heap.size := let ⟨_, _, h2⟩ := h; owns_lt h2
theorem Omx.fr (h : Omx G k R w base e v xs) (hG : ∀ q, G q → ¬ ownF v q) (hf : Fr G w w') : Omx G k R w' base e v xs :=
  let ⟨cs, h1, h2⟩ := h; ⟨cs, Rows'.imp (fun _ _ hs w'' hf' => hs w'' ((hf.mono (fun _ => .inl)).trans hf')) h1, owns_fr h2 hG hf⟩
theorem Omx.ext (h : Omx G k R w base e v xs) (he : Ext w w') : Omx G k R w' base e v xs :=
  let ⟨cs, h1, h2⟩ := h; ⟨cs, h1.ext (St_keeps _ _) he, owns_ext h2 he⟩
theorem Omx.base' {base' : Nat} (h : Omx G k R w base e v xs) (hb : base' ≤ base) : Omx G k R w base' e v xs :=
  let ⟨cs, h1, h2⟩ := h; ⟨cs, h1, owns_base h2 hb⟩
theorem Omx.slice (h : Omx G k R w base e v xs) : ∃ A c, v = .slice A xs.length c := by
  obtain ⟨A, c, h, _⟩ := h.om.sm
  exact ⟨A, c, h⟩
theorem grown_frg {v v' : Value} {w1 : World} (hg : w.grownBy w1 v.ownBlock) (hv : v'.ownBlock = v.ownBlock ∨ v'.ownBlock = some w.heap.size) (hG : ∀ q, G q → q < w.heap.size) (h : Fr (gF G v') w1 w') : Fr (gF G v) w w' := by
  refine ⟨h.1.trans hg.os, h.2.1.trans hg.tape, h.2.2.1.trans hg.output, Nat.le_trans hg.size h.size, fun b hb hF => ?_⟩
  rw [h.2.2.2.2 b (Nat.lt_of_lt_of_le hb hg.size) (by
    rintro (hF' | hF')
    · exact hF (.inl hF')
    · unfold gF ownF at hF
      unfold ownF at hF'
      rcases hv with e | e
      · exact hF (.inr (e ▸ hF'))
      · rw [e] at hF'; injection hF' with hF'; omega)]
  exact hg.block b hb (fun e => hF (.inr (by unfold ownF; exact e.symm)))
theorem Omx.grown {v' : Value} {w1 : World} {y : α} {cs c : List Value} (h : Rows' k (St (gF G v) R) w xs cs) (hx : St (gF G v) R w y c) (hl : c.length = k) (hown : w1.ownsRow base e k v' (xs.length + 1) (cs ++ c))
    (hg : w.grownBy w1 v.ownBlock) (hv : v'.ownBlock = v.ownBlock ∨ v'.ownBlock = some w.heap.size) (hG : ∀ q, G q → q < w.heap.size) : Omx G k R w1 base e v' (xs ++ [y]) :=
  ⟨cs ++ c, Rows'.imp (fun _ _ hs w' hf => hs w' (grown_frg hg hv hG hf)) (h.app (Rows'.one hx hl)), by rw [List.length_append]; exact hown⟩
theorem grown_fr1 {w1 : World} (hg : w.grownBy w1 v.ownBlock) : Fr (ownF v) w w1 :=
  ⟨hg.os, hg.tape, hg.output, hg.size, fun b hb hF => hg.block b hb (fun e => hF (by unfold ownF; exact e.symm))⟩

variable {P : Program}
/-- 'append(xs, y)'. -/
theorem wpList_push {t : TypeId} {bytes : Nat} (hT : ElT P t e k bytes) {ops : Array Oper} {rest : List Oper} {o : Oper} {a : Act} {Q : Exit → Act → World → Prop} (hgd : o.guard = none) (s x : Operand)
    (ho : o.op = .call { callee := .builtin .append, args := #[s, x], argTypes := #[t, t] }) (hs : a.eval s = v) (h : Omx G k R w base e v xs)
    (A : Option Addr) (c : Nat) (y : α) (cy : List Value) (hx : a.eval x = .slice A 1 c) (hl : cy.length = k) (hr : Fl w A cy) (h1 : ∀ u ∈ cy, u.oneCell' = true) (hst : St (gF G v) R w y cy)
    (hbytes : (xs.length + 1) * bytes ≤ 140737488355328) (hbase : base ≤ w.heap.size) (hG : ∀ q, G q → q < w.heap.size)
    (hK : ∀ A' c' w', Omx G k R w' base e (.slice A' (xs.length + 1) c') (xs ++ [y]) → Fr (ownF v) w w' → (∀ q, ownF (.slice A' (xs.length + 1) c') q → ownF v q ∨ w.heap.size ≤ q) → wpList P ops Q rest (a.put o.dst (.slice A' (xs.length + 1) c')) w') : wpList P ops Q (o :: rest) a w := by
  obtain ⟨cs, hrows, hown⟩ := h
  refine wpList_app w hT hgd s x ho base v xs.length cs hs hown A 1 c cy hx (by omega) hr h1 hbytes hbase ?_
  intro v' w' h2 h3 h4
  have hom := Omx.grown hrows hst hl h2 h3 h4 hG
  obtain ⟨A', c', hv⟩ := hom.slice
  rw [show (xs ++ [y]).length = xs.length + 1 by simp] at hv
  subst hv
  refine hK A' c' w' hom (grown_fr1 h3) ?_
  intro q hq
  unfold ownF at hq ⊢
  rcases h4 with e | e
  · exact .inl (e ▸ hq)
  · rw [e] at hq; injection hq with hq; exact .inr (by omega)
end
end Go.Proofs.Ytipoegmheiapgaa
