/- A list that a call grows by another one. No program in sight. -/
import Derived.Test.YtipoegmheiapgaaA3
import Derived.Test.YtipoegmheiapgaaJ1
namespace Go.Proofs.Ytipoegmheiapgaa
set_option linter.unusedVariables false
set_option linter.unusedSimpArgs false
open Go.RowKit

section
variable {α : Type} {k : Nat} {R : World → α → List Value → Prop} {G : Nat → Prop} {w w' : World} {base : Nat} {e : TypeId} {v : Value} {xs ys : List α}
theorem Omx.mono {G' : Nat → Prop} (h : Omx G k R w base e v xs) (hG : ∀ q, G' q → G q) : Omx G' k R w base e v xs :=
  let ⟨cs, h1, h2⟩ := h; ⟨cs, Rows'.imp (fun _ _ hs w' hf => hs w' (hf.mono (fun q hq => hq.imp (hG q) id))) h1, h2⟩
theorem rows_one (hone : ∀ x cs, R w x cs → ∀ u ∈ cs, u.oneCell' = true) {F : Nat → Prop} : ∀ {xs : List α} {cs : List Value}, Rows' k (St F R) w xs cs → ∀ u ∈ cs, u.oneCell' = true
  | [], _, h => by rw [h]; intro u hu; cases hu
  | x :: xs, _, ⟨c1, c2, h, hr, _, h2⟩ => by
    rw [h]
    intro u hu
    rcases List.mem_append.1 hu with hu | hu
    · exact hone x c1 (hr w (Fr.refl _ _)) u hu
    · exact rows_one hone h2 u hu
theorem Omx.rows {A : Option Addr} {n c : Nat} (h : Omx G k R w base e (.slice A n c) xs) : ∃ ds, Rows' k (St (gF G (.slice A n c)) R) w xs ds ∧ Fl w A ds := by
  obtain ⟨ds, h1, h2⟩ := h
  refine ⟨ds, h1, fun hpos => ?_⟩
  rcases h2.2 with ⟨hv, h0⟩ | ⟨g, cap, cur, hv, hb, hg, hn, hm, _, ht⟩
  · have := h1.len
    rw [h0] at this
    omega
  · injection hv with hA _ _
    subst hA
    refine ⟨g, 0, rfl, fun j v hj => ?_⟩
    rw [cell_obj hg, Nat.zero_add, ← Array.getElem?_toList]
    rw [← ht, List.getElem?_take] at hj
    split at hj
    · exact hj
    · cases hj
theorem Omx.growns {v' : Value} {w1 : World} {cs ds : List Value} (h : Rows' k (St (gF G v) R) w xs cs) (hx : Rows' k (St (gF G v) R) w ys ds) (hown : w1.ownsRow base e k v' (xs.length + ys.length) (cs ++ ds))
    (hg : w.grownBy w1 v.ownBlock) (hv : v'.ownBlock = v.ownBlock ∨ v'.ownBlock = some w.heap.size) (hG : ∀ q, G q → q < w.heap.size) : Omx G k R w1 base e v' (xs ++ ys) :=
  ⟨cs ++ ds, Rows'.imp (fun _ _ hs w' hf => hs w' (grown_frg hg hv hG hf)) (h.app hx), by rw [List.length_append]; exact hown⟩

variable {P : Program}
/-- 'append(xs, ys...)'. -/
theorem wpList_pushes {t : TypeId} {bytes : Nat} (hT : ElT P t e k bytes) {ops : Array Oper} {rest : List Oper} {o : Oper} {a : Act} {Q : Exit → Act → World → Prop} (hgd : o.guard = none) (s x : Operand)
    (ho : o.op = .call { callee := .builtin .append, args := #[s, x], argTypes := #[t, t] }) (hs : a.eval s = v) (h : Omx G k R w base e v xs)
    (A : Option Addr) (c : Nat) (ys : List α) (hx : a.eval x = .slice A ys.length c) (hy : ∃ ds, Rows' k (St (gF G v) R) w ys ds ∧ Fl w A ds) (hone : ∀ x cs, R w x cs → ∀ u ∈ cs, u.oneCell' = true)
    (hbytes : (xs.length + ys.length) * bytes ≤ 140737488355328) (hbase : base ≤ w.heap.size) (hG : ∀ q, G q → q < w.heap.size)
    (hK : ∀ A' c' w', Omx G k R w' base e (.slice A' (xs.length + ys.length) c') (xs ++ ys) → Fr (ownF v) w w' → (∀ q, ownF (.slice A' (xs.length + ys.length) c') q → ownF v q ∨ w.heap.size ≤ q) → wpList P ops Q rest (a.put o.dst (.slice A' (xs.length + ys.length) c')) w') : wpList P ops Q (o :: rest) a w := by
  obtain ⟨cs, hrows, hown⟩ := h
  obtain ⟨ds, hrd, hfl⟩ := hy
  refine wpList_app w hT hgd s x ho base v xs.length cs hs hown A ys.length c ds hx hrd.len hfl (rows_one hone hrd) hbytes hbase ?_
  intro v' w' h2 h3 h4
  have hom := Omx.growns hrows hrd h2 h3 h4 hG
  obtain ⟨A', c', hv⟩ := hom.slice
  rw [List.length_append] at hv
  subst hv
  refine hK A' c' w' hom (grown_fr1 h3) ?_
  intro q hq
  unfold ownF at hq ⊢
  rcases h4 with e | e
  · exact .inl (e ▸ hq)
  · rw [e] at hq; injection hq with hq; exact .inr (by omega)
end
theorem rcR_one (w : World) : ∀ x cs, rcR w x cs → ∀ u ∈ cs, u.oneCell' = true := by
  rintro x cs ⟨A, c, rfl, _⟩ u hu
  simp at hu
  rcases hu with rfl | rfl | rfl | rfl | rfl | rfl | rfl | rfl <;> rfl
end Go.Proofs.Ytipoegmheiapgaa
