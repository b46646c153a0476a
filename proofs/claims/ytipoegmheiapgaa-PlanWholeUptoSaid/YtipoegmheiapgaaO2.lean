/- Records and ops among the arguments, opened. -/
import Derived.Test.YtipoegmheiapgaaO1
namespace Go.Proofs.Ytipoegmheiapgaa
set_option linter.unusedVariables false
set_option linter.unusedSimpArgs false
open Go.ChangeShapes Go.WideShapes Go.ChangeAt Go.RowKit Go.Deep

section
variable {H : Type} {enc : TypeId × Value → H} {w : World} {base : Nat} {spare : Nat → Bool} {held : Bool}
theorem cells_int : Try.prog.cellsOf 3 = 1 := by kernel_rfl
theorem cells_us : Try.prog.cellsOf 22 = 1 := by kernel_rfl
theorem cells_u : Try.prog.cellsOf 54 = 1 := by kernel_rfl
theorem cells_rec : Try.prog.cellsOf 24 = 8 := by kernel_rfl
theorem cells_op : Try.prog.cellsOf 56 = 4 := by kernel_rfl
theorem dec_us {n : Nat} {cs : List Value} {y : DataW H × List MemPlace} (h : DataW.trod enc Try.prog w base spare held n 22 cs = some y) : ∃ A c xs, cs = [.slice A (xs : List UInt64).length c] ∧ Sc vU w A c xs ∧ xs.length ≤ Rows.uptoBulk y.1 :=
  open_sc Try.underlying22 cells_u (fun n cs y h => dec_u64 Try.underlying54 h) h
theorem bulk_agg {ys : List (DataW H × List MemPlace)} {y : DataW H × List MemPlace} {j : Nat} (h : ys[j]? = some y) : Rows.uptoBulk y.1 ≤ Rows.uptoBulk (DataW.agg (ys.map (·.1))) := by
  simp only [Rows.uptoBulk]
  have := bulk_mem (d := y.1) (l := ys.map (·.1)) (List.mem_map.2 ⟨y, List.mem_of_getElem? h, rfl⟩)
  omega
theorem at_i {α : Type} {xs : List α} {n : Nat} (h : n < xs.length) : ∃ y, xs[n]? = some y := ⟨_, List.getElem?_eq_getElem h⟩
/-- One field. -/
theorem fld {P : Program} {t : TypeId} {o n j : Nat} {cs : List Value} {v : Value} {xs : List (DataW H × List MemPlace)} (hc : P.cellsOf t = 1) (hv : cs[o]? = some v) (hj : j < xs.length)
    (h : DataW.trod enc P w base spare held n t (List.take (P.cellsOf t) (List.drop o cs)) = xs[j]?) : ∃ y, xs[j]? = some y ∧ DataW.trod enc P w base spare held n t [v] = some y := by
  obtain ⟨y, hy⟩ := at_i hj
  refine ⟨y, hy, ?_⟩
  rw [← hy, ← h, hc]
  obtain ⟨hl, rfl⟩ := List.getElem?_eq_some_iff.1 hv
  rw [List.drop_eq_getElem_cons hl]; rfl
set_option maxRecDepth 100000 in
theorem dec_rec {n : Nat} {cs : List Value} {y : DataW H × List MemPlace} (h : DataW.trod enc Try.prog w base spare held n 24 cs = some y) : ∃ r : Rc, rcR w r cs ∧ r.data.length ≤ Rows.uptoBulk y.1 := by
  obtain ⟨xs, n', _, rfl, hl, hlen, hf⟩ := DataW.trod_struct Try.underlying24 h
  rw [cells_rec] at hl
  match cs, hl with
  | [c0, c1, c2, c3, c4, c5, c6, c7], _ =>
    obtain ⟨_, _, h0⟩ := fld cells_int rfl (by rw [hlen]; decide) (hf 0 _ rfl)
    obtain ⟨_, _, h1⟩ := fld cells_int rfl (by rw [hlen]; decide) (hf 1 _ rfl)
    obtain ⟨_, _, h2⟩ := fld cells_int rfl (by rw [hlen]; decide) (hf 2 _ rfl)
    obtain ⟨_, _, h3⟩ := fld cells_int rfl (by rw [hlen]; decide) (hf 3 _ rfl)
    obtain ⟨_, _, h4⟩ := fld cells_int rfl (by rw [hlen]; decide) (hf 4 _ rfl)
    obtain ⟨_, _, h5⟩ := fld cells_int rfl (by rw [hlen]; decide) (hf 5 _ rfl)
    obtain ⟨_, _, h6⟩ := fld cells_int rfl (by rw [hlen]; decide) (hf 6 _ rfl)
    obtain ⟨y7, e7, h7⟩ := fld cells_us rfl (by rw [hlen]; decide) (hf 7 _ rfl)
    obtain ⟨k0, g0, _⟩ := dec_i64 Try.underlying3 h0
    obtain ⟨k1, g1, _⟩ := dec_i64 Try.underlying3 h1
    obtain ⟨k2, g2, _⟩ := dec_i64 Try.underlying3 h2
    obtain ⟨k3, g3, _⟩ := dec_i64 Try.underlying3 h3
    obtain ⟨k4, g4, _⟩ := dec_i64 Try.underlying3 h4
    obtain ⟨k5, g5, _⟩ := dec_i64 Try.underlying3 h5
    obtain ⟨k6, g6, _⟩ := dec_i64 Try.underlying3 h6
    obtain ⟨A, c, xs7, g7, hs, hb⟩ := dec_us h7
    injection g0 with g0; injection g1 with g1; injection g2 with g2; injection g3 with g3; injection g4 with g4; injection g5 with g5; injection g6 with g6; injection g7 with g7
    subst g0; subst g1; subst g2; subst g3; subst g4; subst g5; subst g6; subst g7
    exact ⟨⟨k0, k1, k2, k3, k4, k5, k6, xs7⟩, ⟨A, c, rfl, hs⟩, Nat.le_trans hb (bulk_agg e7)⟩
set_option maxRecDepth 100000 in
theorem dec_op {n : Nat} {cs : List Value} {y : DataW H × List MemPlace} (h : DataW.trod enc Try.prog w base spare held n 56 cs = some y) : ∃ o : VOp, opR w o cs ∧ o.data.length ≤ Rows.uptoBulk y.1 := by
  obtain ⟨xs, n', _, rfl, hl, hlen, hf⟩ := DataW.trod_struct Try.underlying56 h
  rw [cells_op] at hl
  match cs, hl with
  | [c0, c1, c2, c3], _ =>
    obtain ⟨_, _, h0⟩ := fld cells_int rfl (by rw [hlen]; decide) (hf 0 _ rfl)
    obtain ⟨_, _, h1⟩ := fld cells_int rfl (by rw [hlen]; decide) (hf 1 _ rfl)
    obtain ⟨_, _, h2⟩ := fld cells_int rfl (by rw [hlen]; decide) (hf 2 _ rfl)
    obtain ⟨y7, e7, h7⟩ := fld cells_us rfl (by rw [hlen]; decide) (hf 3 _ rfl)
    obtain ⟨k0, g0, _⟩ := dec_i64 Try.underlying3 h0
    obtain ⟨k1, g1, _⟩ := dec_i64 Try.underlying3 h1
    obtain ⟨k2, g2, _⟩ := dec_i64 Try.underlying3 h2
    obtain ⟨A, c, xs7, g7, hs, hb⟩ := dec_us h7
    injection g0 with g0; injection g1 with g1; injection g2 with g2; injection g7 with g7
    subst g0; subst g1; subst g2; subst g7
    exact ⟨⟨k0, k1, k2, xs7⟩, ⟨A, c, rfl, hs⟩, Nat.le_trans hb (bulk_agg e7)⟩
set_option maxRecDepth 100000 in
theorem open_ops {r : Reach} {b0 : Nat} {v : Value} {d : DataW H} {p : List MemPlace} (hv : Value.okWide Try.prog w r b0 25 v) (h : DataW.Trod enc Try.prog w base spare held 25 v d p) :
    ∃ A c ops, v = .slice A (ops : List VOp).length c ∧ Sm 4 opR w A c ops ∧ ops.length ≤ Rows.uptoBulk d ∧ ∀ i (hi : i < ops.length), ops[i].data.length ≤ Rows.uptoBulk d := by
  obtain ⟨A, n, c, rfl⟩ := slice_val Try.underlying25 hv
  obtain ⟨fuel, hf⟩ := h
  obtain ⟨A', c', xs, h1, h2, h3, h4⟩ := open_sm (μ := fun o : VOp => o.data.length) Try.underlying25 cells_op (by omega) (fun n cs y h => dec_op h) hf
  simp only [Value.cells] at h1
  injection h1 with h1
  exact ⟨A', c', xs, h1, h2, h3, h4⟩
set_option maxRecDepth 100000 in
theorem open_rec {r : Reach} {b0 : Nat} {v : Value} {d : DataW H} {p : List MemPlace} (hv : Value.okWide Try.prog w r b0 24 v) (h : DataW.Trod enc Try.prog w base spare held 24 v d p) :
    ∃ A c r, v = rcV r A c ∧ Sc vU w A c r.data ∧ r.data.length ≤ Rows.uptoBulk d := by
  obtain ⟨cs, rfl, hsz⟩ := okWide_struct Try.underlying24 hv
  obtain ⟨fuel, hf⟩ := h
  obtain ⟨r, ⟨A, c, h1, h2⟩, h3⟩ := dec_rec hf
  simp only [Value.cells] at h1
  refine ⟨A, c, r, ?_, h2, h3⟩
  obtain ⟨l⟩ := cs
  simp only at h1
  rw [h1]
end
end Go.Proofs.Ytipoegmheiapgaa
