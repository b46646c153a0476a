/- The parts of blocks by a map, as lists. No program, no memory. -/
import Derived.Test.YtipoegmheiapgaaP1
namespace Go.Proofs.Ytipoegmheiapgaa
set_option linter.unusedVariables false
set_option linter.unusedSimpArgs false

structure Pt where
  piece : Int
  node : Int
  op : VOp
deriving DecidableEq
/-- The parts of the blocks from 'off' to ahead of 'e'; the first piece has the number 'i'. -/
def cutL (off e : Int) (part : Int → Int → VOp) : Nat → List Pc → List Pt
  | _, [] => []
  | i, p :: ps => if off < p.to ∧ p.from_ < e then ⟨(i : Int), p.node, part (max off p.from_) (min e p.to - max off p.from_)⟩ :: cutL off e part (i + 1) ps else cutL off e part (i + 1) ps
theorem cutL_app (off e : Int) (part : Int → Int → VOp) : ∀ (i : Nat) (ps qs : List Pc), cutL off e part i (ps ++ qs) = cutL off e part i ps ++ cutL off e part (i + ps.length) qs
  | i, [], qs => by simp [cutL]
  | i, p :: ps, qs => by
    rw [List.cons_append, cutL, cutL, cutL_app off e part (i + 1) ps qs, List.length_cons, show i + 1 + ps.length = i + (ps.length + 1) by omega]
    split <;> simp
theorem cutL_none (off e : Int) (part : Int → Int → VOp) : ∀ (i : Nat) (ps : List Pc), (∀ p ∈ ps, p.to ≤ off ∨ e ≤ p.from_) → cutL off e part i ps = []
  | i, [], _ => rfl
  | i, p :: ps, h => by
    rw [cutL, if_neg (by have := h p List.mem_cons_self; omega)]
    exact cutL_none off e part (i + 1) ps (fun q hq => h q (List.mem_cons_of_mem _ hq))
theorem cutL_le (off e : Int) (part : Int → Int → VOp) : ∀ (i : Nat) (ps : List Pc), (cutL off e part i ps).length ≤ ps.length
  | i, [] => Nat.le_refl _
  | i, p :: ps => by
    rw [cutL]
    have := cutL_le off e part (i + 1) ps
    split <;> simp <;> omega

/-- What 'runs' tells of each piece. -/
theorem runs_at : ∀ (ps : List Pc) (a n : Int), runs a ps = some n → (∀ i (h : i < ps.length), ps[i].from_ < ps[i].to ∧ a ≤ ps[i].from_ ∧ ps[i].to ≤ n ∧ isNodeB ps[i].node = true) ∧
    (∀ i (h : i + 1 < ps.length), ps[i + 1].from_ = ps[i].to) ∧ (∀ h : 0 < ps.length, ps[0].from_ = a ∧ ps[ps.length - 1].to = n) ∧ a ≤ n
  | [], a, n, h => by
    simp [runs] at h
    subst h
    exact ⟨fun i h => absurd h (by simp), fun i h => absurd h (by simp), fun h => absurd h (by simp), Int.le_refl _⟩
  | p :: ps, a, n, h => by
    rw [runs] at h
    split at h
    · rename_i hc
      obtain ⟨h1, h2, h3, h4⟩ := runs_at ps p.to n h
      refine ⟨fun i hi => ?_, fun i hi => ?_, fun _ => ?_, by omega⟩
      · cases i with
        | zero => simp only [List.getElem_cons_zero]; exact ⟨by omega, by omega, h4, hc.2.2⟩
        | succ i =>
          have := h1 i (by simpa using hi)
          simp only [List.getElem_cons_succ]
          exact ⟨this.1, by omega, this.2.2.1, this.2.2.2⟩
      · cases i with
        | zero =>
          have := (h3 (by simpa using hi)).1
          simpa using this
        | succ i => simpa using h2 i (by simpa using hi)
      · refine ⟨hc.1, ?_⟩
        cases ps with
        | nil => simp [runs] at h; simpa using h
        | cons q qs => simpa using (h3 (by simp)).2
    · cases h
theorem runs_mono {ps : List Pc} {a n : Int} (h : runs a ps = some n) {i j : Nat} (hij : i < j) (hj : j < ps.length) : ps[i].to ≤ ps[j].from_ := by
  obtain ⟨h1, h2, _, _⟩ := runs_at ps a n h
  induction j with
  | zero => omega
  | succ j ih =>
    rw [h2 j hj]
    rcases Nat.lt_or_ge i j with h' | h'
    · have := ih h' (by omega)
      have := (h1 j (by omega)).1
      omega
    · obtain rfl : i = j := by omega
      exact Int.le_refl _
/-- The first piece that ends behind a block has it. -/
theorem runs_find {ps : List Pc} {n : Int} (h : runs 0 ps = some n) {x : Int} (h0 : 0 ≤ x) (hx : x < n) : ∃ i, ∃ hi : i < ps.length, idx (fun p => decide (x < p.to)) ps = (i : Int) ∧ x < ps[i].to ∧ ps[i].from_ ≤ x ∧ ∀ j (hj : j < ps.length), j < i → ps[j].to ≤ x := by
  obtain ⟨h1, h2, h3, _⟩ := runs_at ps 0 n h
  have hne : 0 < ps.length := by
    rcases Nat.eq_zero_or_pos ps.length with e | e
    · obtain rfl := List.eq_nil_of_length_eq_zero e
      simp [runs] at h; omega
    · exact e
  have hlt : ps.findIdx (fun p => decide (x < p.to)) < ps.length := by
    refine List.findIdx_lt_length_of_exists ⟨ps[ps.length - 1], List.getElem_mem _, ?_⟩
    rw [(h3 hne).2]; simpa using hx
  refine ⟨ps.findIdx (fun p => decide (x < p.to)), hlt, by unfold idx; rw [if_pos hlt], ?_, ?_, ?_⟩
  · have := List.findIdx_getElem (w := hlt)
    simpa using this
  · generalize hi : ps.findIdx (fun p => decide (x < p.to)) = i at hlt
    cases i with
    | zero => rw [(h3 hne).1]; exact h0
    | succ i =>
      rw [h2 i hlt]
      have := List.not_of_lt_findIdx (p := fun p : Pc => decide (x < p.to)) (xs := ps) (i := i) (by omega)
      simpa using this
  · intro j hj hji
    have := List.not_of_lt_findIdx (p := fun p : Pc => decide (x < p.to)) (xs := ps) (i := j) hji
    simpa using this

/-- One step of cutting: where it stands ('a'), behind 'j' pieces. -/
def CutAt (off e : Int) (ps : List Pc) (j : Nat) (a : Int) : Prop := off ≤ a ∧ a ≤ e ∧ (j = 0 ∧ a = off ∨ ∃ h : j - 1 < ps.length, 0 < j ∧ a = min e ps[j - 1].to) ∧ ∀ q (h : q < ps.length), q < j → ps[q].to ≤ a ∨ a = e
theorem cut_step {ps : List Pc} {n off e : Int} (part : Int → Int → VOp) (h : runs 0 ps = some n) (h0 : 0 ≤ off) (he : e ≤ n) {j : Nat} {a : Int} (hj : j ≤ ps.length) (hc : CutAt off e ps j a) (ha : a < e) :
    ∃ i, ∃ hi : i < ps.length, idx (fun p => decide (a < p.to)) ps = (i : Int) ∧ a < ps[i].to ∧ cutL off e part 0 (ps.take (i + 1)) = cutL off e part 0 (ps.take j) ++ [⟨(i : Int), ps[i].node, part a (min e ps[i].to - a)⟩] ∧ CutAt off e ps (i + 1) (min e ps[i].to) := by
  obtain ⟨i, hi, h1, h2, h3, h4⟩ := runs_find h (x := a) (by have := hc.1; omega) (by omega)
  obtain ⟨c1, c2, c3, c4⟩ := hc
  have hr := runs_at ps 0 n h
  have hji : j ≤ i := by
    rcases Nat.lt_or_ge i j with hlt | hge
    · exfalso
      have := c4 i hi hlt
      omega
    · exact hge
  have hmax : max off ps[i].from_ = a := by
    rcases c3 with ⟨hj0, ha0⟩ | ⟨hj1, hj0, ha1⟩
    · omega
    · have hti : ps[j - 1].to ≤ a ∨ a = e := c4 (j - 1) hj1 (by omega)
      have : ps[j - 1].to ≤ ps[i].from_ := runs_mono h (by omega) hi
      omega
  refine ⟨i, hi, h1, h2, ?_, ?_⟩
  · have hsplit : ps.take (i + 1) = ps.take j ++ ((ps.take i).drop j ++ [ps[i]]) := by
      rw [List.take_succ_eq_append_getElem hi, ← List.append_assoc]
      congr 1
      have h9 := List.take_append_drop j (ps.take i)
      rw [List.take_take, Nat.min_eq_left hji] at h9
      exact h9.symm
    have hmid : cutL off e part (0 + (ps.take j).length) ((ps.take i).drop j) = [] := by
      refine cutL_none off e part _ _ (fun p hp => ?_)
      obtain ⟨q, hq, rfl⟩ := List.getElem_of_mem hp
      have hql : j + q < i := by simp at hq; omega
      have hqp : j + q < ps.length := by omega
      have hpe : ((ps.take i).drop j)[q] = ps[j + q] := by simp
      rw [hpe]
      have ht := h4 (j + q) hqp hql
      rcases c3 with ⟨rfl, rfl⟩ | ⟨hj1, hj0, ha1⟩
      · exact .inl ht
      · exfalso
        have := runs_mono h (i := j - 1) (j := j + q) (by omega) hqp
        have := (hr.1 (j + q) hqp).1
        have := c4 (j - 1) hj1 (by omega)
        omega
    rw [hsplit, cutL_app, cutL_app, hmid, List.nil_append]
    congr 1
    rw [cutL, if_pos (by omega), cutL, hmax]
    congr 2
    have : (0 + (ps.take j).length + ((ps.take i).drop j).length) = i := by simp; omega
    rw [this]
  · refine ⟨by omega, by omega, .inr ⟨by simpa using hi, by omega, by simp⟩, fun q hq hqi => ?_⟩
    rcases Nat.lt_or_ge q i with hlt | hge
    · have := h4 q hq hlt
      left; omega
    · obtain rfl : q = i := by omega
      omega
theorem cut_end {ps : List Pc} {n off e : Int} (part : Int → Int → VOp) (h : runs 0 ps = some n) (hk : off < e) {j : Nat} (hj : j ≤ ps.length) (hc : CutAt off e ps j e) : cutL off e part 0 (ps.take j) = cutL off e part 0 ps := by
  obtain ⟨c1, c2, c3, c4⟩ := hc
  have h9 := List.take_append_drop j ps
  conv => rhs; rw [← h9, cutL_app]
  rw [cutL_none off e part _ (ps.drop j), List.append_nil]
  intro p hp
  obtain ⟨q, hq, rfl⟩ := List.getElem_of_mem hp
  rcases c3 with ⟨rfl, h2⟩ | ⟨hj1, hj0, h2⟩
  · omega
  · right
    have hqp : j + q < ps.length := by simp at hq; omega
    have := runs_mono h (i := j - 1) (j := j + q) (by omega) hqp
    rw [List.getElem_drop]
    omega
theorem cut_start {off e : Int} (ps : List Pc) (h : off ≤ e) : CutAt off e ps 0 off := ⟨Int.le_refl _, h, .inl ⟨rfl, rfl⟩, fun q _ h => absurd h (by omega)⟩
end Go.Proofs.Ytipoegmheiapgaa
