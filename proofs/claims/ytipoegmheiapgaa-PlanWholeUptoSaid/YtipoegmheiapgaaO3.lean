/- Parts among the arguments, opened. -/
import Derived.Test.YtipoegmheiapgaaO2
import Derived.Test.YtipoegmheiapgaaP3
namespace Go.Proofs.Ytipoegmheiapgaa
set_option linter.unusedVariables false
set_option linter.unusedSimpArgs false
open Go.ChangeShapes Go.WideShapes Go.ChangeAt Go.RowKit Go.Deep

section
variable {H : Type} {enc : TypeId × Value → H} {w : World} {base : Nat} {spare : Nat → Bool} {held : Bool}
theorem cells_part : Try.prog.cellsOf 99 = 6 := by kernel_rfl
set_option maxRecDepth 100000 in
theorem dec_part {n : Nat} {cs : List Value} {y : DataW H × List MemPlace} (h : DataW.trod enc Try.prog w base spare held n 99 cs = some y) : ∃ p : Pt, ptR w p cs := by
  obtain ⟨xs, n', _, rfl, hl, hlen, hf⟩ := DataW.trod_struct Try.underlying99 h
  rw [cells_part] at hl
  match cs, hl with
  | [c0, c1, c2, c3, c4, c5], _ =>
    obtain ⟨_, _, h0⟩ := fld cells_int rfl (by rw [hlen]; decide) (hf 0 _ rfl)
    obtain ⟨_, _, h1⟩ := fld cells_int rfl (by rw [hlen]; decide) (hf 1 _ rfl)
    have h2 : DataW.trod enc Try.prog w base spare held n' 56 (List.take (Try.prog.cellsOf 56) [c2, c3, c4, c5]) = xs[2]? := hf 2 _ rfl
    obtain ⟨y2, e2⟩ := at_i (xs := xs) (n := 2) (by rw [hlen]; decide)
    rw [e2, cells_op] at h2
    obtain ⟨o, ⟨A, c, ho, hs⟩, _⟩ := dec_op h2
    obtain ⟨k0, g0, _⟩ := dec_i64 Try.underlying3 h0
    obtain ⟨k1, g1, _⟩ := dec_i64 Try.underlying3 h1
    injection g0 with g0; injection g1 with g1
    have ho' : [c2, c3, c4, c5] = _ := ho
    injection ho' with i2 ho'; injection ho' with i3 ho'; injection ho' with i4 ho'; injection ho' with i5 _
    subst g0; subst g1; subst i2; subst i3; subst i4; subst i5
    exact ⟨⟨k0, k1, o⟩, A, c, rfl, hs⟩
set_option maxRecDepth 100000 in
theorem open_parts {r : Reach} {b0 : Nat} {v : Value} {d : DataW H} {p : List MemPlace} (hv : Value.okWide Try.prog w r b0 60 v) (h : DataW.Trod enc Try.prog w base spare held 60 v d p) :
    ∃ A c l, v = .slice A (l : List Pt).length c ∧ Sm 6 ptR w A c l := by
  obtain ⟨A, n, c, rfl⟩ := slice_val Try.underlying60 hv
  obtain ⟨fuel, hf⟩ := h
  obtain ⟨A', c', xs, h1, h2, _, _⟩ := open_sm (μ := fun _ : Pt => 0) Try.underlying60 cells_part (by omega) (fun n cs y h => let ⟨p, hp⟩ := dec_part h; ⟨p, hp, Nat.zero_le _⟩) hf
  simp only [Value.cells] at h1
  injection h1 with h1
  exact ⟨A', c', xs, h1, h2⟩
end
end Go.Proofs.Ytipoegmheiapgaa
