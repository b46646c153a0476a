/- A region that draws its order, walked by a plan: operations that only read go first, each other one when it alone may come up (or two that may come in either order). No program in sight. -/
import Derived.Test.YtipoegmheiapgaaJ0
import Derived.OrdersHeld
namespace Go.Proofs.Ytipoegmheiapgaa
set_option linter.unusedVariables false
set_option linter.unusedSimpArgs false
open Go.RowKit

/-- All that was there is as it was, but for the blocks of 'F'. -/
def Fr (F : Nat → Prop) (w w' : World) : Prop := w'.os = w.os ∧ w'.tape = w.tape ∧ w'.output = w.output ∧ w.heap.size ≤ w'.heap.size ∧ ∀ k, k < w.heap.size → ¬ F k → w'.heap[k]? = w.heap[k]?
def NoF : Nat → Prop := fun _ => False
theorem Fr.refl (F : Nat → Prop) (w : World) : Fr F w w := ⟨rfl, rfl, rfl, Nat.le_refl _, fun _ _ _ => rfl⟩
theorem Fr.size {F : Nat → Prop} {w w' : World} (h : Fr F w w') : w.heap.size ≤ w'.heap.size := h.2.2.2.1
theorem Fr.trans {F : Nat → Prop} {a b c : World} (h : Fr F a b) (k : Fr F b c) : Fr F a c :=
  ⟨k.1.trans h.1, k.2.1.trans h.2.1, k.2.2.1.trans h.2.2.1, Nat.le_trans h.size k.size, fun i hi hF => (k.2.2.2.2 i (Nat.lt_of_lt_of_le hi h.size) hF).trans (h.2.2.2.2 i hi hF)⟩
theorem Ext.fr {w w' : World} (h : Ext w w') (F : Nat → Prop) : Fr F w w' := ⟨h.os, h.tape, h.output, h.size, fun k hk _ => h.block k hk⟩
theorem Fr.ext {w w' : World} (h : Fr NoF w w') : Ext w w' := ⟨h.1, h.2.1, h.2.2.1, h.size, fun k hk => h.2.2.2.2 k hk (fun f => f)⟩
theorem Fr.mono {F G : Nat → Prop} {w w' : World} (h : Fr F w w') (hF : ∀ k, F k → G k) : Fr G w w' := ⟨h.1, h.2.1, h.2.2.1, h.size, fun k hk hG => h.2.2.2.2 k hk (fun f => hG (hF k f))⟩
theorem Fr.cell {F : Nat → Prop} {w w' : World} (h : Fr F w w') {p : Addr} {v : Value} (hF : ¬ F p.block) (hc : w.cell? p = some v) : w'.cell? p = some v := by
  rw [World.cell?_of_block (h.2.2.2.2 p.block (cell_lt hc) hF)]; exact hc
theorem obj_lt {w : World} {b : Nat} {o : Obj} (h : w.heap[b]? = some o) : b < w.heap.size := by
  rcases Nat.lt_or_ge b w.heap.size with hlt | hge
  · exact hlt
  · rw [Array.getElem?_eq_none hge] at h; cases h
theorem Fr.obj {F : Nat → Prop} {w w' : World} (h : Fr F w w') {b : Nat} {o : Obj} (hF : ¬ F b) (hc : w.heap[b]? = some o) : w'.heap[b]? = some o := by
  rw [h.2.2.2.2 b (obj_lt hc) hF]; exact hc
theorem Fr.set {F : Nat → Prop} {a w : World} (h : Fr F a w) {p : Addr} (hp : F p.block ∨ a.heap.size ≤ p.block) (u : Value) : Fr F a (w.setCell p u) :=
  ⟨h.1, h.2.1, h.2.2.1, by have := h.size; simpa [World.setCell] using this, fun k hk hF => by
    rw [Below.heap_setCell _ _ _ _ (fun e => by subst e; rcases hp with hp | hp; exact hF hp; omega)]
    exact h.2.2.2.2 k hk hF⟩
theorem Fr.drew {F : Nat → Prop} {a w : World} (h : Fr F a w) : Fr F a w.drew := h
theorem Fr.alloc {F : Nat → Prop} {a w : World} (h : Fr F a w) (o : Obj) : Fr F a (w.alloc o) := h.trans (((Ext.refl w).alloc o).fr F)
/-- The worlds of such a frame. -/
def FrOf (F : Nat → Prop) (w : World) := { w' : World // Fr F w w' }
instance (F : Nat → Prop) (w : World) : Nonempty (FrOf F w) := ⟨⟨w, Fr.refl F w⟩⟩
theorem FrOf.cell {F : Nat → Prop} {w : World} (x : FrOf F w) {p : Addr} {v : Value} (hF : ¬ F p.block) (h : w.cell? p = some v) : x.1.cell? p = some v := x.2.cell hF h
theorem FrOf.c {w : World} (x : FrOf NoF w) {p : Addr} {v : Value} (h : w.cell? p = some v) : x.1.cell? p = some v := x.2.cell (fun f => f) h

inductive Pl where
  | done
  | pur (i : Nat) (n : Pl)
  | one (i : Nat) (n : Pl)
  | two (i : Nat) (n : Pl) (j : Nat) (m : Pl)

def Pl.ok (ops : Array Oper) : Pl → Nat → Array Bool → Bool
  | .done, _, l => (Region.ready .any ops l).isEmpty
  | .pur i n, f + 1, l => (Region.ready .any ops l).contains i && Region.free .any ops l i && n.ok ops f (l.setIfInBounds i true)
  | .one i n, f + 1, l => (Region.ready .any ops l == [i]) && n.ok ops f (l.setIfInBounds i true)
  | .two i n j m, f + 1, l => (Region.ready .any ops l == [i, j]) && n.ok ops f (l.setIfInBounds i true) && m.ok ops f (l.setIfInBounds j true)
  | _, 0, _ => false

section
variable {P : Program} {ops : Array Oper} {Q : Exit → Act → World → Prop}
def wpPl (P : Program) (ops : Array Oper) (Q : Exit → Act → World → Prop) (F : Nat → Prop) (w0 : World) : Pl → Act → World → Prop
  | .done, a, w => Q .normal a w
  | .pur i n, a, w => ∃ o v, ops[i]? = some o ∧ YieldsIf P ops (Fr F w0) o v a ∧ wpPl P ops Q F w0 n (a.put o.dst v) w
  | .one i n, a, w => wpOp P ops Q i (fun a' w' => Fr F w0 w' ∧ wpPl P ops Q F w0 n a' w') a w
  | .two i n j m, a, w => wpOp P ops Q i (fun a' w' => Fr F w0 w' ∧ wpPl P ops Q F w0 n a' w') a w ∧ wpOp P ops Q j (fun a' w' => Fr F w0 w' ∧ wpPl P ops Q F w0 m a' w') a w
variable {F : Nat → Prop} {w0 : World}
theorem wpAnyH_of_pl (hs : Region.noSelect ops = true) (hQ : ∀ c a d v w, Q (.panic c) (Act.put a d v) w → Q (.panic c) a w) :
    ∀ (p : Pl) (f : Nat) (l : Array Bool) (a : Act) (w : World), p.ok ops f l = true → Fr F w0 w → wpPl P ops Q F w0 p a w → wpAnyH P .any ops Q (Fr F w0) f l a w
  | .done, f, l, a, w, hok, _, h => by
    simp only [Pl.ok, List.isEmpty_iff] at hok
    exact wpAnyH_done hok h f
  | .pur i n, f + 1, l, a, w, hok, hS, ⟨o, v, ho, hy, h⟩ => by
    simp only [Pl.ok, Bool.and_eq_true] at hok
    exact wpAnyH_take ho hs hok.1.2 hok.1.1 (fun c a w => hQ c a _ _ w) hy hS (wpAnyH_of_pl hs hQ n f _ _ w hok.2 hS h)
  | .one i n, f + 1, l, a, w, hok, hS, h => by
    simp only [Pl.ok, Bool.and_eq_true, beq_iff_eq] at hok
    refine wpAnyH_all hok.1 (by simp) ?_
    intro j hj
    obtain rfl : j = i := by simpa using hj
    exact wpOp_mono (fun a' w' ⟨h1, h2⟩ => ⟨h1, wpAnyH_of_pl hs hQ n f _ _ w' hok.2 h1 h2⟩) h
  | .two i n j m, f + 1, l, a, w, hok, hS, ⟨h, h'⟩ => by
    simp only [Pl.ok, Bool.and_eq_true, beq_iff_eq] at hok
    refine wpAnyH_all hok.1.1 (by simp) ?_
    intro k hk
    rcases List.mem_cons.1 hk with rfl | hk
    · exact wpOp_mono (fun a' w' ⟨h1, h2⟩ => ⟨h1, wpAnyH_of_pl hs hQ n f _ _ w' hok.1.2 h1 h2⟩) h
    · obtain rfl : k = j := by simpa using hk
      exact wpOp_mono (fun a' w' ⟨h1, h2⟩ => ⟨h1, wpAnyH_of_pl hs hQ m f _ _ w' hok.2 h1 h2⟩) h'
  | .pur i n, 0, l, a, w, hok, _, _ => by simp [Pl.ok] at hok
  | .one i n, 0, l, a, w, hok, _, _ => by simp [Pl.ok] at hok
  | .two i n j m, 0, l, a, w, hok, _, _ => by simp [Pl.ok] at hok

/-- **The region, by a plan.** -/
theorem wp_region_pl {id : Nat} {a : Act} {w : World} (F : Nat → Prop) (w0 : World) (p : Pl) (hm : P.follows .mixedOrders = true) (hs : Region.noSelect ops = true)
    (hok : p.ok ops ops.size (Array.replicate ops.size false) = true) (hQ : ∀ c a d v w, Q (.panic c) (Act.put a d v) w → Q (.panic c) a w) (hS : Fr F w0 w)
    (h : wpPl P ops Q F w0 p a w.drew) : (Code.region id ops true).wp P Q a w :=
  wp_region_held (S := Fr F w0) hm (wpAnyH_of_pl hs hQ p _ _ a w.drew hok hS h)

variable {i j : Nat} {n m : Pl} {o : Oper} {a : Act} {w : World} {v : Value}
theorem wpPl_pur (ho : ops.toList[i]? = some o) (hw : Region.wanted o (yielded ops a.tmps) = true)
    (h : ∃ v, (∀ x : FrOf F w0, (execOp a.eval o).run P x.1 = .ok (.value v) x.1) ∧ wpPl P ops Q F w0 n (a.put o.dst v) w) : wpPl P ops Q F w0 (.pur i n) a w :=
  let ⟨v, hv, h⟩ := h
  ⟨o, v, by rw [← Array.getElem?_toList]; exact ho, .inl ⟨hw, fun w' hw' => hv ⟨w', hw'⟩⟩, h⟩
theorem wpPl_skip (ho : ops.toList[i]? = some o) (hw : Region.wanted o (yielded ops a.tmps) = false) (h : wpPl P ops Q F w0 n (a.put o.dst undef) w) : wpPl P ops Q F w0 (.pur i n) a w :=
  ⟨o, undef, by rw [← Array.getElem?_toList]; exact ho, .inr ⟨hw, rfl⟩, h⟩
theorem wpPl_one (ho : ops.toList[i]? = some o) (hw : Region.wanted o (yielded ops a.tmps) = true)
    (h : ∀ K : Act → World → Prop, (∀ a w', Fr F w0 w' → wpPl P ops Q F w0 n a w' → K a w') → o.wp P a w K Q) : wpPl P ops Q F w0 (.one i n) a w := by
  have ho : ops[i]? = some o := by rw [← Array.getElem?_toList]; exact ho
  show wpOp P ops Q i _ a w
  unfold wpOp
  simp only [ho, hw, if_true]
  exact .inl (h _ fun a w' h1 h2 => ⟨h1, h2⟩)
theorem wpPl_one_skip (ho : ops.toList[i]? = some o) (hw : Region.wanted o (yielded ops a.tmps) = false) (hS : Fr F w0 w) (h : wpPl P ops Q F w0 n (a.put o.dst undef) w) : wpPl P ops Q F w0 (.one i n) a w := by
  have ho : ops[i]? = some o := by rw [← Array.getElem?_toList]; exact ho
  show wpOp P ops Q i _ a w
  unfold wpOp
  simp only [ho, hw, Bool.false_eq_true, if_false]
  exact ⟨hS, h⟩
theorem wpPl_two (h : wpPl P ops Q F w0 (.one i n) a w) (h' : wpPl P ops Q F w0 (.one j m) a w) : wpPl P ops Q F w0 (.two i n j m) a w := ⟨h, h'⟩
theorem wpPl_done (h : Q .normal a w) : wpPl P ops Q F w0 .done a w := h
end
end Go.Proofs.Ytipoegmheiapgaa
