/- The plain model of bytes: numbers put, sums. No program, no memory. -/
import Derived.Test.YtipoegmheiapgaaM2
namespace Go.Proofs.Ytipoegmheiapgaa
set_option linter.unusedVariables false
set_option linter.unusedSimpArgs false

def byteAt (x : UInt64) (j : Nat) : UInt8 := UInt8.ofNat (x.toNat / 2 ^ (8 * j))
def u64le (x : UInt64) : List UInt8 := (List.range 8).map (byteAt x)
def putB (ns : List UInt64) : List UInt8 := ns.flatMap u64le
theorem byteAt_toNat (x : UInt64) (j : Nat) : (byteAt x j).toNat = x.toNat / 2 ^ (8 * j) % 256 := by simp [byteAt]
theorem putB_snoc {ns : List UInt64} {k : Nat} (h : k < ns.length) : putB (ns.take k) ++ u64le ns[k] = putB (ns.take (k + 1)) := by
  rw [List.take_succ_eq_append_getElem h, putB, putB, List.flatMap_append]; simp [List.flatMap_cons]
theorem putB_len (ns : List UInt64) : (putB ns).length = 8 * ns.length := by
  induction ns with
  | nil => rfl
  | cons x xs ih => simp [putB, u64le] at ih ⊢; omega
theorem range_snoc (x : UInt64) (j : Nat) : (List.range j).map (byteAt x) ++ [byteAt x j] = (List.range (j + 1)).map (byteAt x) := by
  rw [List.range_succ]; simp

/-- A step of the sum: both numbers modulo 65521. -/
def sumStep (p : Nat × Nat) (b : UInt8) : Nat × Nat := ((p.1 + b.toNat) % 65521, (p.2 + (p.1 + b.toNat)) % 65521)
def moreF (s : Nat) (bs : List UInt8) : Nat :=
  let p := bs.foldl sumStep (s % 65536 % 65521, s / 65536 % 65521)
  p.2 * 65536 + p.1
def sumF (ps : List (List UInt8)) : Nat := ps.foldl moreF 1
def sum4 (s : Nat) : List UInt8 := [UInt8.ofNat (s / 16777216), UInt8.ofNat (s / 65536), UInt8.ofNat (s / 256), UInt8.ofNat s]
def sealF (b : List UInt8) : List UInt8 := b ++ sum4 (sumF [b])
theorem sumStep_lt (p : Nat × Nat) (b : UInt8) : (sumStep p b).1 < 65521 ∧ (sumStep p b).2 < 65521 := ⟨Nat.mod_lt _ (by omega), Nat.mod_lt _ (by omega)⟩
theorem fold_lt (bs : List UInt8) : ∀ p : Nat × Nat, p.1 < 65521 → p.2 < 65521 → (bs.foldl sumStep p).1 < 65521 ∧ (bs.foldl sumStep p).2 < 65521 := by
  induction bs with
  | nil => intro p h1 h2; exact ⟨h1, h2⟩
  | cons b bs ih => intro p _ _; exact ih _ (sumStep_lt p b).1 (sumStep_lt p b).2
theorem moreF_lt (s : Nat) (bs : List UInt8) : moreF s bs < 4294967296 := by
  have := fold_lt bs (s % 65536 % 65521, s / 65536 % 65521) (Nat.mod_lt _ (by omega)) (Nat.mod_lt _ (by omega))
  unfold moreF
  simp only
  omega
theorem foldl_snoc {α β : Type} (f : β → α → β) (b : β) (xs : List α) {k : Nat} (h : k < xs.length) : (xs.take (k + 1)).foldl f b = f ((xs.take k).foldl f b) xs[k] := by
  rw [List.take_succ_eq_append_getElem h, List.foldl_append]; rfl
def rawStep (p : Nat × Nat) (b : UInt8) : Nat × Nat := (p.1 + b.toNat, p.2 + (p.1 + b.toNat))
theorem raw_mod (bs : List UInt8) : ∀ p : Nat × Nat, ((bs.foldl rawStep p).1 % 65521, (bs.foldl rawStep p).2 % 65521) = bs.foldl sumStep (p.1 % 65521, p.2 % 65521) := by
  induction bs with
  | nil => intro p; rfl
  | cons b bs ih =>
    intro p
    rw [List.foldl_cons, List.foldl_cons, ih]
    congr 1
    simp only [rawStep, sumStep, Prod.mk.injEq]
    omega
theorem raw_bound (bs : List UInt8) (p : Nat × Nat) (h1 : p.1 ≤ 65520) (h2 : p.2 ≤ 65520) :
    (bs.foldl rawStep p).1 ≤ 65520 + 255 * bs.length ∧ 2 * (bs.foldl rawStep p).2 ≤ 131040 + 131040 * bs.length + 255 * (bs.length * bs.length + bs.length) := by
  have key : ∀ (xs : List UInt8) (q : Nat × Nat) (n : Nat), q.1 ≤ 65520 + 255 * n → 2 * q.2 ≤ 131040 + 131040 * n + 255 * (n * n + n) →
      (xs.foldl rawStep q).1 ≤ 65520 + 255 * (n + xs.length) ∧ 2 * (xs.foldl rawStep q).2 ≤ 131040 + 131040 * (n + xs.length) + 255 * ((n + xs.length) * (n + xs.length) + (n + xs.length)) := by
    intro xs
    induction xs with
    | nil => intro q n ha hb; exact ⟨by simpa using ha, by simpa using hb⟩
    | cons x xs ih =>
      intro q n ha hb
      have hx := x.toNat_lt
      have := ih (rawStep q x) (n + 1) (by simp only [rawStep]; omega) (by
        simp only [rawStep]
        have : (n + 1) * (n + 1) = n * n + 2 * n + 1 := by rw [Nat.succ_mul, Nat.mul_succ]; omega
        rw [this]; omega)
      rw [List.foldl_cons, List.length_cons, show n + (xs.length + 1) = n + 1 + xs.length by omega]
      exact this
  have := key bs p 0 (by omega) (by omega)
  simpa using this
theorem raw_small (bs : List UInt8) (p : Nat × Nat) (h1 : p.1 ≤ 65520) (h2 : p.2 ≤ 65520) (hl : bs.length ≤ 5552) :
    (bs.foldl rawStep p).1 < 4294967296 ∧ (bs.foldl rawStep p).2 < 4294967296 := by
  have h := raw_bound bs p h1 h2
  have hq : bs.length * bs.length ≤ 5552 * 5552 := Nat.mul_le_mul hl hl
  omega
end Go.Proofs.Ytipoegmheiapgaa
