/- A writer's parts: Part. -/
import Derived.Test.YtipoegmheiapgaaK3
namespace Go.Proofs.Ytipoegmheiapgaa
set_option linter.unusedVariables false
set_option linter.unusedSimpArgs false
open Go.RowKit

def partB (x : List UInt8) : List UInt8 := u64le (UInt64.ofNat x.length) ++ x
def partsB (ps : List (List UInt8)) : List UInt8 := ps.flatMap partB
theorem partsB_snoc (ps : List (List UInt8)) (k : Nat) (hk : k < ps.length) : partsB (ps.take (k + 1)) = partsB (ps.take k) ++ partB ps[k] := by
  rw [partsB, partsB, List.take_succ_eq_append_getElem hk, List.flatMap_append]; simp
theorem partsB_le (ps : List (List UInt8)) (k : Nat) : (partsB (ps.take k)).length ≤ (partsB ps).length := by
  have := congrArg List.length (congrArg partsB (List.take_append_drop k ps))
  rw [partsB, List.flatMap_append, List.length_append] at this
  rw [partsB]; omega
/-- Behind more bytes. -/
theorem Wr.grows {w w0 w1 : World} {base p : Nat} {v v' : Value} {bs ys : List UInt8} (h : Wr w base p v bs) (he : Ext w w0) (hown : w1.ownsRow base 5 1 v' (bs.length + ys.length) (bs.map vB ++ ys.map vB))
    (hg : w0.grownBy w1 v.ownBlock) (hv : v'.ownBlock = v.ownBlock ∨ v'.ownBlock = some w0.heap.size) :
    Wr (w1.setCell ⟨p, 0, none⟩ v') base p v' (bs ++ ys) ∧ Fr (wF p v) w (w1.setCell ⟨p, 0, none⟩ v') ∧ (∀ q, ownF v' q → ownF v q ∨ w.heap.size ≤ q) := by
  have hpl := obj_lt h.obj
  have hp1 : w1.heap[p]? = some (.cells #[v] 88 (0, 0)) := by
    rw [hg.block p (Nat.lt_of_lt_of_le hpl he.size) (fun e => h.ne e.symm)]; exact he.obj h.obj
  have hne : ¬ ownF v' p := by
    intro hF
    unfold ownF at hF
    rcases hv with e | e
    · exact h.ne (by unfold ownF; rw [← e]; exact hF)
    · rw [e] at hF; injection hF with hF; have := he.size; omega
  refine ⟨⟨by have := obj_set (i := 0) (v := v') hp1; simpa using this, ?_, hne⟩, ?_, ?_⟩
  · have h2 : Os vB w1 base 5 v' (bs ++ ys) := by
      unfold Os; rw [List.map_append, List.length_append]; exact hown
    refine h2.fr' (F := fun q => q = p) (fun q hq => by subst hq; exact hne) ?_
    exact Fr.set (F := fun q => q = p) (p := ⟨p, 0, none⟩) (Fr.refl _ _) (.inl rfl) _
  · refine (((he.fr (wF p v)).trans ⟨hg.os, hg.tape, hg.output, hg.size, fun q hq hF => hg.block q hq (fun e => hF (.inr e.symm))⟩)).set (.inl (.inl rfl)) _
  · intro q hq
    unfold ownF at hq ⊢
    rcases hv with e | e
    · exact .inl (by rw [← e]; exact hq)
    · rw [e] at hq; injection hq with hq; exact .inr (by have := he.size; omega)
/-- Parts that stand as they are whatever happens to the blocks of 'F'. -/
def PS (F : Nat → Prop) (w : World) (A : Option Addr) (c : Nat) (ps : List (List UInt8)) : Prop :=
  ps.length ≤ c ∧ c ≤ maxLen ∧ (0 < ps.length → ∃ b off, A = some ⟨b, off, none⟩ ∧ ¬ F b ∧ ∀ i (h : i < ps.length), ∃ A' c', w.cell? ⟨b, off + i, none⟩ = some (.slice A' ps[i].length c') ∧ ∀ w', Fr F w w' → Sc vB w' A' c' ps[i])
theorem PS.at {F : Nat → Prop} {w : World} {A : Option Addr} {c : Nat} {ps : List (List UInt8)} (h : PS F w A c ps) {i : Nat} (hi : i < ps.length) :
    ∃ b off x A' c', A = some ⟨b, off, none⟩ ∧ ps[i] = x ∧ ¬ F b ∧ w.cell? ⟨b, off + i, none⟩ = some (.slice A' x.length c') ∧ ∀ w', Fr F w w' → Sc vB w' A' c' x := by
  obtain ⟨b, off, hA, hF, hc⟩ := h.2.2 (by omega)
  obtain ⟨A', c', h1, h2⟩ := hc i hi
  exact ⟨b, off, _, A', c', hA, rfl, hF, h1, h2⟩
theorem u64_of (n : Nat) (h : n < 18446744073709551616) : vU (UInt64.ofNat n) = .int .u64 (n : Int) := by
  unfold vU; congr 1; simp; omega

set_option maxHeartbeats 4000000 in
set_option maxRecDepth 100000 in
theorem Part_calls (base p : Nat) (v : Value) (bs : List UInt8) (A : Option Addr) (c : Nat) (ps : List (List UInt8)) (w : World) (hw : Wr w base p v bs) (hb : base ≤ w.heap.size)
    (hs : PS (wF p v) w A c ps) (hN : bs.length + (partsB ps).length ≤ 1099511627000) :
    Calls Try.prog 62 #[.pointer (some ⟨p, 0, none⟩), .slice A ps.length c] w
      fun e w' => e = .returned (.tuple #[]) ∧ ∃ v', Wr w' base p v' (bs ++ partsB ps) ∧ Fr (wF p v) w w' ∧ (∀ q, ownF v' q → ownF v q ∨ w.heap.size ≤ q) := by
  have t1 : ElT Try.prog 42 5 1 1 := ElT.mk' Try.underlying42 (z := .int .u8 0) (by kernel_rfl) rfl (by omega) (by omega)
  have hc1 := hs.1
  have hc2 := hs.2.1
  unfold maxLen at hc2
  have HS := Hd.mk hs
  have HW := Hd.mk hw
  clear hs hw
  go_enter Try.func62, Try.ntmps62
  go_wp2
  go_loopw [10] (fun i w1 => ∃ (k : Nat) (v1 : Value), k ≤ ps.length ∧ i = .int .i64 k ∧ Wr w1 base p v1 (bs ++ partsB (ps.take k)) ∧ Fr (wF p v) w w1 ∧ (∀ q, ownF v1 q → ownF v q ∨ w.heap.size ≤ q)) (fun i _ => ps.length - (intOf i).toNat)
  case atStart => exact ⟨0, v, Nat.zero_le _, rfl, by simpa [partsB] using HW.out, Fr.refl _ _, fun q hq => .inl hq⟩
  case round =>
    obtain ⟨k, v1, hk, rfl, hw1, hf1, hq1⟩ := hrel
    have HW1 := Hd.mk hw1
    have HF1 := Hd.mk hf1
    have HQ1 := Hd.mk hq1
    clear hw1 hf1 hq1
    by_cases hlt : k < ps.length
    · obtain ⟨b, off, x, A3, c3, rfl, hx, hFb, hcx, hd3⟩ := HS.out.at hlt
      have m0 : wr.cell? ⟨b, off + k, none⟩ = some _ := HF1.out.cell hFb hcx
      have hsn := partsB_snoc ps k hlt
      rw [hx] at hsn
      have hsum := partsB_le ps (k + 1)
      rw [hsn, List.length_append] at hsum
      have hpl : (partB x).length = 8 + x.length := by simp [partB, u64le]
      have hst : ∀ w', Fr (wF p v1) wr w' → Sc vB w' A3 c3 x := fun w' hf => hd3 w' (HF1.out.comp HQ1.out hf)
      have hcc := (hst wr (Fr.refl _ _)).1
      have hcd := (hst wr (Fr.refl _ _)).2.1
      unfold maxLen at hcd
      have hxl : x.length ≤ 1099511627000 := by omega
      have HSN := Hd.mk hsn
      have HX := Hd.mk hst
      have hbs : base ≤ wr.heap.size := Nat.le_trans hb HF1.out.size
      have HV := Hd.mk (u64_of x.length (by omega))
      clear hcx hx hsn hst hd3
      go_wp2_with fail
      have hnew : ¬ wF p v1 wr.heap.size := by
        rintro (h | h)
        · have := obj_lt HW1.out.obj; omega
        · have := owns_lt HW1.out.own _ h; omega
      refine (Put_calls base p v1 _ _ 1 [UInt64.ofNat x.length] _ (HW1.out.ext ((Ext.refl wr).alloc _)) (by simp; omega) (fun w' hf => Sc.new (hf.obj hnew (heap_new wr _)) (by rw [List.map_cons, HV.out]; rfl) (Nat.le_refl _) (by simp [maxLen])) (by simp; omega)).mono ?_
      rintro e w4 ⟨rfl, v2, hw2, hf2, hq2⟩
      have HW2 := Hd.mk hw2
      have HF2 := Hd.mk ((((Ext.refl wr).alloc _).fr (wF p v1)).trans hf2)
      have HQ2 := Hd.mk (fun q hq => (hq2 q hq).imp (fun h => h) (fun h => Nat.le_trans (((Ext.refl wr).alloc _).size) h))
      clear hw2 hf2 hq2 hnew
      obtain ⟨A2, n2, c2, rfl⟩ : ∃ A2 n2 c2, v2 = .slice A2 n2 c2 := by obtain ⟨A3, c3, h, _⟩ := HW2.out.own.sc; exact ⟨A3, _, c3, h⟩
      have t0 := cell_obj (i := 0) HW2.out.obj
      have hb4 : base ≤ w4.heap.size := Nat.le_trans hbs HF2.out.size
      go_wp2_with (at_builtin; refine wpList_app _ t1 rfl (.tmp 24) (.tmp 25) rfl base _ _ _ rfl HW2.out.own A3 x.length c3 (x.map vB) rfl (by simp) (HX.out _ HF2.out).fl (by intro u hu; obtain ⟨y, _, rfl⟩ := List.mem_map.1 hu; rfl) (by simp [putB, u64le]; omega) hb4 ?_)
      rintro v3 w3 hown hgr hv
      have HGW := Hd.mk (HW2.out.grows (ys := x) (Ext.refl w4) (by simpa [Nat.add_assoc] using hown) hgr hv)
      have hp3 : w3.heap[p]? = some (.cells #[.slice A2 n2 c2] 88 (0, 0)) := by
        rw [hgr.block p (obj_lt HW2.out.obj) (fun e => HW2.out.ne e.symm)]; exact HW2.out.obj
      have p0 := cell_obj (i := 0) hp3
      have pf := frozen_obj hp3 0
      obtain ⟨A4, n4, c4, rfl⟩ : ∃ A3 n3 c3, v3 = .slice A3 n3 c3 := by obtain ⟨A3, c3, h, _⟩ := owns_slice hown; exact ⟨A3, _, c3, h⟩
      clear hown hgr hv hp3
      have HHH := Hd.mk (show bs ++ partsB (ps.take k) ++ putB [UInt64.ofNat x.length] ++ x = bs ++ partsB (ps.take (k + 1)) from by rw [HSN.out, partB]; simp [putB])
      rw [HHH.out] at HGW
      clear HHH
      go_wp2
      refine ⟨?_, by simp [intOf]; omega⟩
      exact ⟨k + 1, _, by omega, by go_num, HGW.out.1, (HF1.out.comp HQ1.out HF2.out).comp (fun q hq => (HQ2.out q hq).elim (fun h => HQ1.out q h) (fun h => .inr (Nat.le_trans HF1.out.size h))) HGW.out.2.1, fun q hq => (HGW.out.2.2 q hq).elim (fun h => (HQ2.out q h).elim (fun h => HQ1.out q h) (fun h => .inr (Nat.le_trans HF1.out.size h))) (fun h => .inr (Nat.le_trans HF1.out.size (Nat.le_trans HF2.out.size h)))⟩
    · obtain rfl : k = ps.length := by omega
      rw [List.take_length] at HW1
      go_wp2
      go_end0
      exact ⟨rfl, v1, HW1.out, HF1.out, HQ1.out⟩
end Go.Proofs.Ytipoegmheiapgaa
