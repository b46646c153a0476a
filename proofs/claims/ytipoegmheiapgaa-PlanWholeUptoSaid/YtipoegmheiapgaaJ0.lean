/- The words of memory that all walks here use: 'Ext' (nothing that was there has turned), a slice that reads as a list. No program in sight. -/
import Derived.Test.YtipoegmheiapgaaRows
import Derived.WalkKit
import Derived.WalkSpells
import Derived.WalkLawsBesides
import Derived.BigQuiet
import Derived.BigRegion
namespace Go.Proofs.Ytipoegmheiapgaa
set_option linter.unusedVariables false
set_option linter.unusedSimpArgs false
open Go.RowKit

/-- A fact kept from the walk. -/
structure Hd (p : Prop) : Prop where
  mk ::
  out : p

theorem retV {v v' : Value} (h : v = v') : Ending.returned v = .returned v' := by rw [h]
theorem ret_int {k : IntKind} {a b : Int} (h : a = b) : Ending.returned (.int k a) = .returned (.int k b) := by rw [h]
theorem ret_bool {a b : Bool} (h : a = b) : Ending.returned (.bool a) = .returned (.bool b) := by rw [h]

/-- Whatever was there is as it was; there may be more. -/
def Ext (w w' : World) : Prop := Below w.heap.size w w'
theorem Ext.refl (w : World) : Ext w w := Below.refl _ _
theorem Ext.size {a b : World} (h : Ext a b) : a.heap.size ≤ b.heap.size := Below.size h
theorem Ext.trans {a b c : World} (h : Ext a b) (k : Ext b c) : Ext a c := Below.trans h (Below.mono k h.size)
theorem Ext.drew {a w : World} (h : Ext a w) : Ext a w.drew := Below.drew h
theorem Ext.drewN {a w : World} (h : Ext a w) (n : Nat) : Ext a (w.drewN n) := ⟨h.os, h.tape, h.output, h.size, h.block⟩
theorem Ext.alloc {a w : World} (h : Ext a w) (o : Obj) : Ext a (w.alloc o) := Below.alloc h h.size o
theorem Ext.set {a w : World} (h : Ext a w) {p : Addr} (hp : a.heap.size ≤ p.block) (u : Value) : Ext a (w.setCell p u) := Below.setCell h hp u
theorem Ext.grown {a w w' : World} {row : Option Nat} (h : Ext a w) (hg : w.grownBy w' row) (hr : ∀ k, row = some k → a.heap.size ≤ k) : Ext a w' := Below.grown h hg h.size hr
theorem cell_lt {w : World} {p : Addr} {v : Value} (h : w.cell? p = some v) : p.block < w.heap.size := by
  rcases Nat.lt_or_ge p.block w.heap.size with hlt | hge
  · exact hlt
  · unfold World.cell? at h
    rw [Array.getElem?_eq_none hge] at h
    cases h
theorem Ext.cell {a w : World} {p : Addr} {v : Value} (h : Ext a w) (hc : a.cell? p = some v) : w.cell? p = some v :=
  (Below.cell h (cell_lt hc)).trans hc
theorem Ext.obj {a w : World} {b : Nat} {o : Obj} (h : Ext a w) (hc : a.heap[b]? = some o) : w.heap[b]? = some o := by
  have hb : b < a.heap.size := by
    rcases Nat.lt_or_ge b a.heap.size with hlt | hge
    · exact hlt
    · rw [Array.getElem?_eq_none hge] at hc; cases hc
  rw [Below.block h b hb]; exact hc

section
variable {α : Type}
/-- The slice ('A', its length the list's, 'c') holds the values of a list, a cell each. -/
def Sc (f : α → Value) (w : World) (A : Option Addr) (c : Nat) (xs : List α) : Prop :=
  xs.length ≤ c ∧ c ≤ maxLen ∧ (0 < xs.length → ∃ b off, A = some ⟨b, off, none⟩ ∧ ∀ i (h : i < xs.length), w.cell? ⟨b, off + i, none⟩ = some (f xs[i]))
theorem Sc.ext {f : α → Value} {w w' : World} {A c} {xs : List α} (h : Sc f w A c xs) (he : Ext w w') : Sc f w' A c xs :=
  ⟨h.1, h.2.1, fun hx => let ⟨b, off, hA, hc⟩ := h.2.2 hx; ⟨b, off, hA, fun i hi => he.cell (hc i hi)⟩⟩
theorem Sc.nil (f : α → Value) (w : World) : Sc f w none 0 ([] : List α) := ⟨Nat.le_refl _, Nat.zero_le _, fun h => absurd h (by simp)⟩
/-- One element, under a name of its own. -/
theorem Sc.at {f : α → Value} {w : World} {A c} {xs : List α} (h : Sc f w A c xs) {k : Nat} (hk : k < xs.length) :
    ∃ b off x, A = some ⟨b, off, none⟩ ∧ xs[k] = x ∧ w.cell? ⟨b, off + k, none⟩ = some (f x) := by
  obtain ⟨b, off, hA, hc⟩ := h.2.2 (by omega)
  exact ⟨b, off, _, hA, rfl, hc k hk⟩

theorem cell_obj {w : World} {b i : Nat} {cs : Array Value} {T : TypeId} {fz : Nat × Nat} (h : w.heap[b]? = some (.cells cs T fz)) : w.cell? ⟨b, i, none⟩ = cs[i]? := by
  simp [World.cell?, h]
theorem Sc.new {f : α → Value} {w : World} {b : Nat} {cs : Array Value} {T : TypeId} {fz : Nat × Nat} {c : Nat} {xs : List α} (h : w.heap[b]? = some (.cells cs T fz))
    (hc : cs.toList.take xs.length = xs.map f) (hl : xs.length ≤ c) (hm : c ≤ maxLen) : Sc f w (some ⟨b, 0, none⟩) c xs :=
  ⟨hl, hm, fun _ => ⟨b, 0, rfl, fun i hi => by
    rw [cell_obj h, ← Array.getElem?_toList]
    have : (cs.toList.take xs.length)[i]? = some (f xs[i]) := by rw [hc]; simp [hi]
    rw [List.getElem?_take, if_pos hi] at this
    simpa using this⟩⟩
theorem heap_new (w : World) (o : Obj) : (w.alloc o).heap[w.heap.size]? = some o := by
  show (w.heap.push o)[w.heap.size]? = _
  simp

/-- The slice holds the elements of a list, 'k' cells each, as 'R' says. -/
def Sm (k : Nat) (R : World → α → List Value → Prop) (w : World) (A : Option Addr) (c : Nat) (xs : List α) : Prop :=
  xs.length ≤ c ∧ c ≤ maxLen ∧ (0 < xs.length → ∃ b off, A = some ⟨b, off, none⟩ ∧ ∀ i (h : i < xs.length), ∃ cs, R w xs[i] cs ∧ cs.length = k ∧ ∀ j v, cs[j]? = some v → w.cell? ⟨b, off + i * k + j, none⟩ = some v)
def Keeps (R : World → α → List Value → Prop) : Prop := ∀ w w' x cs, Ext w w' → R w x cs → R w' x cs
theorem Sm.ext {k : Nat} {R : World → α → List Value → Prop} (hR : Keeps R) {w w' : World} {A c} {xs : List α} (h : Sm k R w A c xs) (he : Ext w w') : Sm k R w' A c xs :=
  ⟨h.1, h.2.1, fun hx => let ⟨b, off, hA, hc⟩ := h.2.2 hx; ⟨b, off, hA, fun i hi => let ⟨cs, h1, h2, h3⟩ := hc i hi; ⟨cs, hR _ _ _ _ he h1, h2, fun j v hj => he.cell (h3 j v hj)⟩⟩⟩
theorem Sm.nil (k : Nat) (R : World → α → List Value → Prop) (w : World) : Sm k R w none 0 ([] : List α) := ⟨Nat.le_refl _, Nat.zero_le _, fun h => absurd h (by simp)⟩
theorem Sm.at {k : Nat} {R : World → α → List Value → Prop} {w : World} {A c} {xs : List α} (h : Sm k R w A c xs) {i : Nat} (hi : i < xs.length) :
    ∃ b off x cs, A = some ⟨b, off, none⟩ ∧ xs[i] = x ∧ R w x cs ∧ cs.length = k ∧ ∀ j v, cs[j]? = some v → w.cell? ⟨b, off + i * k + j, none⟩ = some v := by
  obtain ⟨b, off, hA, hc⟩ := h.2.2 (by omega)
  obtain ⟨cs, h1, h2, h3⟩ := hc i hi
  exact ⟨b, off, _, cs, hA, rfl, h1, h2, h3⟩
end

/-- Some draws, and nothing else. -/
def Dr (w w' : World) : Prop := ∃ n, w' = w.drewN n
theorem Dr.refl (w : World) : Dr w w := ⟨0, rfl⟩
theorem Dr.drewN (w : World) (n : Nat) : Dr w (w.drewN n) := ⟨n, rfl⟩
theorem Dr.trans {a b c : World} (h : Dr a b) (k : Dr b c) : Dr a c := by
  obtain ⟨n, rfl⟩ := h
  obtain ⟨m, rfl⟩ := k
  exact ⟨n + m, World.drewN_drewN _ _ _⟩
theorem Dr.ext {a b : World} (h : Dr a b) : Ext a b := by obtain ⟨n, rfl⟩ := h; exact (Ext.refl a).drewN n
theorem Dr.cell {a b : World} (h : Dr a b) (p : Addr) : b.cell? p = a.cell? p := by obtain ⟨n, rfl⟩ := h; rfl
theorem calls_dr {P : Program} {f : FuncId} {args : Array Value} {w : World} {n : Nat} {v : Value}
    (h : Calls P f args (w.drewN n) fun e w' => e = .returned v ∧ Dr (w.drewN n) w') : Calls P f args (w.drewN n) fun e w'' => e = .returned v ∧ ∃ m, w'' = w.drewN m :=
  h.mono fun _ w' ⟨he, hw⟩ => ⟨he, (Dr.drewN w n).trans hw⟩

/-- The worlds that have all that 'w' has. -/
def ExtOf (w : World) := { w' : World // Ext w w' }
instance (w : World) : Nonempty (ExtOf w) := ⟨⟨w, Ext.refl w⟩⟩
theorem ExtOf.cell {w : World} (x : ExtOf w) {p : Addr} {v : Value} (h : w.cell? p = some v) : x.1.cell? p = some v := x.2.cell h
/-- A region that draws its order, whose operations read what was there, and whose calls turn nothing that was there: one walk, in the order of the text. -/
theorem wp_region_ext {P : Program} {id : Nat} {Q : Exit → Act → World → Prop} {a : Act} {w : World} {l : List Oper} (hm : P.follows .mixedOrders = true) (hB : Region.lexB .any l.toArray = true)
    (h : wpQuiet P l.toArray (fun w' => ∃ x : ExtOf w, w' = x.1) (fun a' => ∀ w', (∃ x : ExtOf w, w' = x.1) → Q .normal a' w') l a) : (Code.region id l.toArray true).wp P Q a w :=
  wp_region_quiet (C := fun w' => ∃ x : ExtOf w, w' = x.1) hm hB ⟨⟨_, (Ext.refl w).drew⟩, rfl⟩ (by simpa using h)
theorem calls_ext {P : Program} {f : FuncId} {args : Array Value} {w : World} {x : ExtOf w} {v : Value}
    (h : Calls P f args x.1 fun e w' => e = .returned v ∧ Ext x.1 w') : Calls P f args x.1 fun e w'' => e = .returned v ∧ ∃ y : ExtOf w, w'' = y.1 :=
  h.mono fun _ w' ⟨he, hw⟩ => ⟨he, ⟨w', x.2.trans hw⟩, rfl⟩

abbrev vI (x : Int) : Value := .int .i64 x
abbrev vU (x : UInt64) : Value := .int .u64 (x.toNat : Int)
abbrev vB (x : UInt8) : Value := .int .u8 (x.toNat : Int)
end Go.Proofs.Ytipoegmheiapgaa
