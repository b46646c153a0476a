/- The nodes of parts: sorted and each once. -/
import Derived.Test.YtipoegmheiapgaaH1
import Derived.Sort.OwnSortedInts
import Derived.Lib.RowBridge
namespace Go.Proofs.Ytipoegmheiapgaa
set_option linter.unusedVariables false
set_option linter.unusedSimpArgs false
open Go.RowKit Go.Sort

theorem inc_eq : ∀ {xs ys : List Int}, xs.Pairwise (· < ·) → ys.Pairwise (· < ·) → (∀ x, x ∈ xs ↔ x ∈ ys) → xs = ys
  | [], [], _, _, _ => rfl
  | [], y :: ys, _, _, h => by have := (h y).2 (List.mem_cons_self ..); cases this
  | x :: xs, [], _, _, h => by have := (h x).1 (List.mem_cons_self ..); cases this
  | x :: xs, y :: ys, hx, hy, h => by
    rw [List.pairwise_cons] at hx hy
    have hxy : x = y := by
      rcases List.mem_cons.1 ((h x).1 (List.mem_cons_self ..)) with e | e
      · exact e
      · rcases List.mem_cons.1 ((h y).2 (List.mem_cons_self ..)) with e' | e'
        · exact e'.symm
        · have h1 := hy.1 x e
          have h2 := hx.1 y e'
          omega
    subst hxy
    congr 1
    refine inc_eq hx.2 hy.2 fun z => ⟨fun hz => ?_, fun hz => ?_⟩
    · rcases List.mem_cons.1 ((h z).1 (List.mem_cons_of_mem _ hz)) with e | e
      · have := hx.1 z hz; omega
      · exact e
    · rcases List.mem_cons.1 ((h z).2 (List.mem_cons_of_mem _ hz)) with e | e
      · have := hy.1 z hz; omega
      · exact e

theorem compactUpTo_inc (d : Array Int) (hs : ∀ i j, i ≤ j → j < d.size → d[i]! ≤ d[j]!) : ∀ m, m ≤ d.size → (Lib.compactUpTo d m).Pairwise (· < ·) ∧ ∀ x, x ∈ Lib.compactUpTo d m ↔ ∃ j, j < m ∧ d[j]! = x
  | 0, _ => ⟨List.Pairwise.nil, fun x => by simp [Lib.compactUpTo]⟩
  | m + 1, hm => by
    obtain ⟨h1, h2⟩ := compactUpTo_inc d hs m (by omega)
    rw [Lib.compactUpTo_succ]
    by_cases hk : Lib.keeps d m = true
    · rw [if_pos hk]
      simp only [Lib.keeps, decide_eq_true_eq] at hk
      refine ⟨List.pairwise_append.2 ⟨h1, List.pairwise_singleton .., fun a ha b hb => ?_⟩, fun x => ?_⟩
      · rw [List.mem_singleton] at hb
        subst hb
        obtain ⟨j, hj, rfl⟩ := (h2 a).1 ha
        rcases hk with hk | hk
        · omega
        · have a1 := hs j (m - 1) (by omega) (by omega)
          have a2 := hs (m - 1) m (by omega) (by omega)
          omega
      · rw [List.mem_append, h2, List.mem_singleton]
        constructor
        · rintro (⟨j, hj, rfl⟩ | rfl)
          · exact ⟨j, by omega, rfl⟩
          · exact ⟨m, by omega, rfl⟩
        · rintro ⟨j, hj, rfl⟩
          rcases Nat.lt_or_ge j m with h | h
          · exact .inl ⟨j, h, rfl⟩
          · exact .inr (by rw [show j = m by omega])
    · rw [if_neg hk, List.append_nil]
      simp only [Lib.keeps, decide_eq_true_eq] at hk
      refine ⟨h1, fun x => ?_⟩
      rw [h2]
      constructor
      · rintro ⟨j, hj, rfl⟩
        exact ⟨j, by omega, rfl⟩
      · rintro ⟨j, hj, rfl⟩
        rcases Nat.lt_or_ge j m with h | h
        · exact ⟨j, h, rfl⟩
        · have hm0 : m ≠ 0 := fun e => hk (.inl e)
          have he : d[m]! = d[m - 1]! := Classical.byContradiction fun e => hk (.inr e)
          exact ⟨m - 1, by omega, by rw [show j = m by omega, he]⟩

def nodesOf (zs : List Int) : List Int := Lib.compact (zs.mergeSort fun x y => decide (x ≤ y))
theorem nodesOf_inc (zs : List Int) : (nodesOf zs).Pairwise (· < ·) ∧ ∀ x, x ∈ nodesOf zs ↔ x ∈ zs := by
  have hp : (zs.mergeSort fun x y => decide (x ≤ y)).Pairwise (fun x y => (decide (x ≤ y)) = true) := List.pairwise_mergeSort (fun a b c h1 h2 => by simp at *; omega) (fun a b => by simp; omega) zs
  have hm : ∀ x, x ∈ (zs.mergeSort fun x y => decide (x ≤ y)) ↔ x ∈ zs := fun x => List.mem_mergeSort
  unfold nodesOf
  generalize (zs.mergeSort fun x y => decide (x ≤ y)) = ys at *
  have hs : ∀ i j, i ≤ j → j < ys.toArray.size → ys.toArray[i]! ≤ ys.toArray[j]! := by
    intro i j hij hj
    rw [List.size_toArray] at hj
    have e1 : ys.toArray[i]! = ys[i]'(by omega) := by simp [show i < ys.length by omega]
    have e2 : ys.toArray[j]! = ys[j]'(by omega) := by simp [hj]
    rw [e1, e2]
    rcases Nat.lt_or_ge i j with h | h
    · have := List.pairwise_iff_getElem.1 hp i j (by omega) hj h
      simpa using this
    · have : i = j := by omega
      subst this
      omega
  obtain ⟨h1, h2⟩ := compactUpTo_inc ys.toArray hs ys.length (by simp)
  refine ⟨h1, fun x => ?_⟩
  show x ∈ Lib.compactUpTo ys.toArray ys.length ↔ _
  rw [h2, ← hm x]
  constructor
  · rintro ⟨j, hj, rfl⟩
    have : ys.toArray[j]! = ys[j] := by simp [hj]
    rw [this]
    exact List.getElem_mem ..
  · intro hx
    obtain ⟨j, hj, rfl⟩ := List.getElem_of_mem hx
    exact ⟨j, hj, by simp [hj]⟩

theorem tI : ElT Try.prog 68 3 1 8 := ElT.mk' Try.underlying68 (z := .int .i64 0) (by kernel_rfl) rfl (by omega) (by omega)

theorem sort_own {w : World} {base c : Nat} {A : Option Addr} {zs : List Int} (h : Os vI w base 3 (.slice A zs.length c) zs) (hz : zs.length ≤ 4096) :
    Calls Try.prog 50 #[.slice A zs.length c] w fun e w' => e = .returned (.tuple #[]) ∧ Os vI w' base 3 (.slice A zs.length c) (zs.mergeSort fun x y => decide (x ≤ y)) ∧ Fr (ownF (.slice A zs.length c)) w w' := by
  unfold Os at h
  rcases h.2 with ⟨hv, h0⟩ | ⟨g, cap, cur, hv, hg, hb, hn, hm, hs, ht⟩
  · obtain rfl := List.eq_nil_of_length_eq_zero h0
    refine (sh_Sort_int_none A c w).mono ?_
    rintro e w' ⟨rfl, rfl⟩
    exact ⟨rfl, by rw [List.mergeSort_nil]; exact h, Fr.refl _ _⟩
  · injection hv with h1 _ h3
    subst h1; subst h3
    refine (sh_Sort_int g 0 c zs w (holds_of_blockI hb (by simpa [vI] using ht)) (obj_lt hb) (by omega)).mono ?_
    rintro e w' ⟨rfl, n, os, rfl⟩
    refine ⟨rfl, ?_, grown_fr1 (v := .slice (some ⟨g, 0, none⟩) zs.length c) (grownBy_sortedI _)⟩
    unfold Os
    rw [List.length_mergeSort]
    exact ownsRow_sortedI (by simp) hg hb hn hm hs

theorem compact_own {w : World} {base c : Nat} {A : Option Addr} {zs : List Int} (h : Os vI w base 3 (.slice A zs.length c) zs) (hz : zs.length ≤ 4096) :
    Calls Try.prog 51 #[.slice A zs.length c] w fun e w' => e = .returned (.slice A (Lib.compact zs).length c) ∧ Os vI w' base 3 (.slice A (Lib.compact zs).length c) (Lib.compact zs) ∧ Fr (ownF (.slice A zs.length c)) w w' := by
  unfold Os at h
  have hle := Lib.compact_length_le zs
  rcases h.2 with ⟨hv, h0⟩ | ⟨g, cap, cur, hv, hg, hb, hn, hm, hs, ht⟩
  · obtain rfl := List.eq_nil_of_length_eq_zero h0
    refine (sh_Compact_int_empty A c w).mono ?_
    rintro e w' ⟨rfl, rfl⟩
    exact ⟨rfl, h, Fr.refl _ _⟩
  · injection hv with h1 _ h3
    subst h1; subst h3
    refine (sh_Compact_int g 0 c zs w (holds_of_blockI hb (by simpa [vI] using ht)) (by omega) hn).mono ?_
    rintro e w' ⟨rfl, q, rfl⟩
    generalize hts : Lib.compact zs ++ List.replicate (zs.length - (Lib.compact zs).length) 0 = ts
    have hl : ts.length = zs.length := by rw [← hts, List.length_append, List.length_replicate]; omega
    have e0 : putRow (Value.int .i64) (Sort.ahead w q) g 0 ts.toArray = grow (putRow (Value.int .i64) (Sort.ahead w q) g 0 ts.toArray) #[] := by unfold grow; rw [Array.append_empty]
    rw [e0]
    refine ⟨rfl, ?_, grown_fr1 (v := .slice (some ⟨g, 0, none⟩) zs.length c) (grownBy_sortedI _)⟩
    unfold Os
    refine ⟨by simp, .inr ⟨g, c, _, rfl, hg, heap_sortedI _ hb, by omega, hm, by simp [putCells, hs], ?_⟩⟩
    have h1 := take_putCellsI cur ts (by omega)
    have h2 : ((putCells (Value.int .i64) 0 ts.toArray cur).toList.take ts.length).take (Lib.compact zs).length = (ts.map (Value.int .i64)).take (Lib.compact zs).length := by rw [h1]
    rw [List.take_take, Nat.min_eq_left (by omega), ← hts, List.map_append, List.take_left' (by simp)] at h2
    rw [Nat.mul_one, ← hts]
    exact h2
end Go.Proofs.Ytipoegmheiapgaa
