/- The plain model of a stream: Check, Build, Ops. No program, no memory. -/
import Derived.Test.YtipoegmheiapgaaM1
namespace Go.Proofs.Ytipoegmheiapgaa
set_option linter.unusedVariables false
set_option linter.unusedSimpArgs false

/-- The op of a record. -/
def opOf (r : Rc) : VOp := ⟨r.kind - 2 + 1, r.off, r.len, r.data⟩
def between (r : Rc) : Bool := decide (r.kind = 2 ∨ r.kind = 3)
/-- Do ops lie in a volume, one behind the other? -/
def fit (n : Int) : Int → List Rc → Bool
  | _, [] => true
  | last, r :: rs => right n (opOf r) && decide (last ≤ (opOf r).o) && fit n ((opOf r).o + (opOf r).n) rs
/-- What is wrong with a head, what lies between, and a tail. -/
def checkS (h : Rc) (m : List Rc) (t : Rc) : Int :=
  if h.kind = 1 ∧ t.kind = 4 ∧ m.all between = true then
    if 1024 < h.len then 6 else if fit h.len 0 m then (if t.len = m.length then 0 else 3) else 5
  else 14
def check (l : List Rc) : Int :=
  if l.all may then
    match l with
    | [] => 14
    | h :: tl => match tl.getLast? with
      | none => 14
      | some t => checkS h tl.dropLast t
  else 1
theorem check_of (h : Rc) (m : List Rc) (t : Rc) (hm : (h :: (m ++ [t])).all may = true) : check (h :: (m ++ [t])) = checkS h m t := by
  unfold check
  rw [if_pos hm]
  simp
theorem check_no {l : List Rc} (hm : l.all may = false) : check l = 1 := by unfold check; rw [hm]; rfl
theorem check_short {l : List Rc} (hm : l.all may = true) (h : l.length < 2) : check l = 14 := by
  unfold check
  rw [if_pos hm]
  match l, h with
  | [], _ => rfl
  | [_], _ => rfl
theorem split_ends {l : List Rc} (h : 2 ≤ l.length) : ∃ a m t, l = a :: (m ++ [t]) := by
  match l, h with
  | a :: tl, h =>
    have hne : tl ≠ [] := by intro e; subst e; simp at h
    exact ⟨a, tl.dropLast, tl.getLast hne, by rw [List.dropLast_concat_getLast]⟩
theorem fit_not {n last : Int} {m : List Rc} (h : fit n last m = false) (rs : List Rc) : True := trivial
def recOf (o : VOp) : Rc := ⟨if o.kind = 1 then 2 else if o.kind = 2 then 3 else 0, 0, 0, 0, 0, o.off, o.len, o.data⟩
def tailOf (n : Nat) : Rc := ⟨4, 0, 0, 0, 0, 0, n, []⟩
def streamOf (h : Rc) (ops : List VOp) : List Rc := h :: (ops.map recOf ++ [tailOf ops.length])
def build (h : Rc) (ops : List VOp) : List Rc × Int :=
  if h.kind = 1 ∧ may h = true then (if check (streamOf h ops) = 0 then (streamOf h ops, 0) else ([], check (streamOf h ops))) else ([], 1)
def opsL (l : List Rc) : List VOp × Int := if check l = 0 then ((l.drop 1).dropLast.map opOf, 0) else ([], check l)
theorem check_zero {l : List Rc} (h : check l = 0) : l.all may = true ∧ ∃ r0 m t, l = r0 :: (m ++ [t]) := by
  have hm : l.all may = true := by
    cases hz : l.all may with
    | true => rfl
    | false => rw [check_no hz] at h; cases h
  refine ⟨hm, ?_⟩
  rcases Nat.lt_or_ge l.length 2 with h2 | h2
  · rw [check_short hm h2] at h; cases h
  · exact split_ends h2
theorem opsL_of {r0 : Rc} {m : List Rc} {t : Rc} (h : check (r0 :: (m ++ [t])) = 0) : opsL (r0 :: (m ++ [t])) = (m.map opOf, 0) := by
  unfold opsL
  rw [if_pos h]; simp
theorem may_num {r : Rc} (h : may r = true) : (0 ≤ r.kind ∧ r.kind ≤ 2147483648) ∧ (0 ≤ r.shard ∧ r.shard ≤ 2147483648) ∧ (0 ≤ r.snap ∧ r.snap ≤ 2147483648) ∧ (0 ≤ r.base ∧ r.base ≤ 2147483648) ∧ (0 ≤ r.map ∧ r.map ≤ 2147483648) ∧ (0 ≤ r.off ∧ r.off ≤ 2147483648) ∧ (0 ≤ r.len ∧ r.len ≤ 2147483648) := by
  simp [may, Rc.small, Rc.nums, small] at h
  exact ⟨h.1.1, h.1.2.1, h.1.2.2.1, h.1.2.2.2.1, h.1.2.2.2.2.1, h.1.2.2.2.2.2.1, h.1.2.2.2.2.2.2⟩
theorem may_data {r : Rc} (h : may r = true) : r.data.length ≤ 64 := by
  simp only [may, Bool.and_eq_true] at h
  have h := h.2
  unfold Rc.form at h
  repeat (split at h; · simp at h; first | omega | (obtain ⟨_, h⟩ := h; simp [h]) | (simp [h]))
  cases h
end Go.Proofs.Ytipoegmheiapgaa
