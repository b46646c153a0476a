/- The plain model: ops and records. No program, no memory. -/
import Derived.Test.YtipoegmheiapgaaJ0
namespace Go.Proofs.Ytipoegmheiapgaa
set_option linter.unusedVariables false
set_option linter.unusedSimpArgs false

structure VOp where
  kind : Int
  off : Int
  len : Int
  data : List UInt64
deriving DecidableEq
def VOp.n (o : VOp) : Int := if o.kind = 1 then o.data.length else if o.kind = 2 then o.len else 0
def VOp.o (o : VOp) : Int := if o.kind = 1 then o.off else if o.kind = 2 then o.off else 0
def lies (n off k : Int) : Bool := decide (0 ≤ off ∧ 0 ≤ k ∧ k ≤ n ∧ off ≤ n - k)
def right (n : Int) (o : VOp) : Bool :=
  decide (0 ≤ n ∧ n ≤ 1024 ∧ 1 ≤ o.n ∧ 0 ≤ o.o ∧ o.n ≤ n ∧ o.o ≤ n - o.n ∧ (o.kind = 2 ∧ o.data = [] ∨ o.kind = 1 ∧ o.len = 0 ∧ o.n ≤ 64))

structure Rc where
  kind : Int
  shard : Int
  snap : Int
  base : Int
  map : Int
  off : Int
  len : Int
  data : List UInt64
deriving DecidableEq
def Rc.num (r : Rc) (j : Nat) : Int := [r.kind, r.shard, r.snap, r.base, r.map, r.off, r.len].getD j 0
def Rc.nums (r : Rc) : List Int := [r.kind, r.shard, r.snap, r.base, r.map, r.off, r.len]
def small (n : Int) : Bool := decide (0 ≤ n ∧ n ≤ 2147483648)
def Rc.small (r : Rc) : Bool := r.nums.all Go.Proofs.Ytipoegmheiapgaa.small
def Rc.form (r : Rc) : Bool :=
  if r.kind = 1 then decide (r.off = 0 ∧ r.data = [])
  else if r.kind = 2 then decide (r.shard = 0 ∧ r.snap = 0 ∧ r.base = 0 ∧ r.map = 0 ∧ r.len = 0 ∧ 1 ≤ r.data.length ∧ r.data.length ≤ 64)
  else if r.kind = 3 then decide (r.shard = 0 ∧ r.snap = 0 ∧ r.base = 0 ∧ r.map = 0 ∧ 1 ≤ r.len ∧ r.data = [])
  else if r.kind = 4 then decide (r.shard = 0 ∧ r.snap = 0 ∧ r.base = 0 ∧ r.map = 0 ∧ r.off = 0 ∧ r.data = [])
  else false
def may (r : Rc) : Bool := r.small && r.form

/-- What two slices of numbers are held against. -/
theorem list_ne {α : Type} {xs ys : List α} {k : Nat} (h1 : k < xs.length) (h2 : k < ys.length) (h : xs[k] ≠ ys[k]) : xs ≠ ys := by
  rintro rfl; exact h rfl
theorem list_eq {α : Type} {xs ys : List α} (hl : xs.length = ys.length) (h : ∀ j (h1 : j < xs.length) (h2 : j < ys.length), xs[j] = ys[j]) : xs = ys :=
  List.ext_getElem hl fun j h1 h2 => h j h1 h2

/-- The first place at which a test holds; -1: none. -/
def idx {α : Type} (p : α → Bool) (xs : List α) : Int := if xs.findIdx p < xs.length then xs.findIdx p else -1
theorem idx_at {α : Type} (xs : List α) (p : α → Bool) (k : Nat) (hk : k < xs.length) (h : ∀ j (hj : j < xs.length), j < k → p xs[j] = false) (hp : p xs[k] = true) : idx p xs = k := by
  have : xs.findIdx p = k := (List.findIdx_eq hk).2 ⟨hp, fun j hj => h j (by omega) hj⟩
  unfold idx; rw [this, if_pos hk]
theorem idx_none {α : Type} (xs : List α) (p : α → Bool) (h : ∀ j (hj : j < xs.length), p xs[j] = false) : idx p xs = -1 := by
  have : xs.findIdx p = xs.length := List.findIdx_eq_length.2 fun x hx => by
    obtain ⟨j, hj, rfl⟩ := List.getElem_of_mem hx
    exact h j hj
  unfold idx; rw [this, if_neg (by omega)]
theorem idx_lt {α : Type} (xs : List α) (p : α → Bool) : -1 ≤ idx p xs ∧ idx p xs < xs.length := by
  unfold idx; split <;> omega
theorem idx_any {α : Type} (xs : List α) (p : α → Bool) : decide (0 ≤ idx p xs) = xs.any p := by
  unfold idx
  by_cases h : xs.findIdx p < xs.length
  · rw [if_pos h]
    have := List.findIdx_getElem (w := h)
    rw [Bool.eq_iff_iff]; simp
    exact ⟨_, List.getElem_mem h, this⟩
  · rw [if_neg h]
    have h2 : xs.findIdx p = xs.length := by have := List.findIdx_le_length (p := p) (xs := xs); omega
    have := List.findIdx_eq_length.1 h2
    rw [Bool.eq_iff_iff]; simp
    intro x hx; simpa using this x hx
end Go.Proofs.Ytipoegmheiapgaa
