/- A writer of numbers and parts: Put, Bytes. -/
import Derived.Test.YtipoegmheiapgaaJ9
import Derived.Test.YtipoegmheiapgaaM3
namespace Go.Proofs.Ytipoegmheiapgaa
set_option linter.unusedVariables false
set_option linter.unusedSimpArgs false
open Go.RowKit

/-- A writer at block 'p' with the slice 'v', which holds 'bs'. -/
structure Wr (w : World) (base p : Nat) (v : Value) (bs : List UInt8) : Prop where
  obj : w.heap[p]? = some (.cells #[v] 88 (0, 0))
  own : Os vB w base 5 v bs
  ne : ¬ ownF v p
/-- The blocks that a writer may write. -/
def wF (p : Nat) (v : Value) : Nat → Prop := fun b => b = p ∨ ownF v b
theorem Wr.ext {w w' : World} {base p : Nat} {v : Value} {bs : List UInt8} (h : Wr w base p v bs) (he : Ext w w') : Wr w' base p v bs := ⟨he.obj h.obj, h.own.ext he, h.ne⟩

theorem shr_run (x : UInt64) (j : Nat) (hj : j < 8) (w : World) : (binOp .shr 54 (.int .u64 (x.toNat : Int)) (.int .i64 ((8 * j : Nat) : Int))).run Try.prog w = .ok (.int .u64 ((x.toNat / 2 ^ (8 * j) : Nat) : Int)) w := by
  have hx : x.toNat < 2 ^ 64 := x.toNat_lt
  match j, hj with
  | 0, _ | 1, _ | 2, _ | 3, _ | 4, _ | 5, _ | 6, _ | 7, _ =>
    simp [binOp, Op.shift, go_sem]
    try (simp [IntKind.wrap]; omega)
theorem u8_byte (x : UInt64) (j : Nat) : IntKind.u8.wrap ((x.toNat / 2 ^ (8 * j) : Nat) : Int) = ((byteAt x j).toNat : Int) := by
  rw [byteAt_toNat]; simp [IntKind.wrap, IntKind.signed, IntKind.bits]
/-- Behind one more byte. -/
theorem Wr.grow {w w0 w1 : World} {base p : Nat} {v v' : Value} {bs : List UInt8} {b : UInt8} (h : Wr w base p v bs) (he : Ext w w0) (hown : w1.ownsRow base 5 1 v' (bs.length + 1) (bs.map vB ++ [vB b]))
    (hg : w0.grownBy w1 v.ownBlock) (hv : v'.ownBlock = v.ownBlock ∨ v'.ownBlock = some w0.heap.size) :
    Wr (w1.setCell ⟨p, 0, none⟩ v') base p v' (bs ++ [b]) ∧ Fr (wF p v) w (w1.setCell ⟨p, 0, none⟩ v') ∧ (∀ q, ownF v' q → ownF v q ∨ w.heap.size ≤ q) := by
  have hpl := obj_lt h.obj
  have hp1 : w1.heap[p]? = some (.cells #[v] 88 (0, 0)) := by
    rw [hg.block p (Nat.lt_of_lt_of_le hpl he.size) (fun e => h.ne e.symm)]; exact he.obj h.obj
  have hne : ¬ ownF v' p := by
    intro hF
    unfold ownF at hF
    rcases hv with e | e
    · exact h.ne (by unfold ownF; rw [← e]; exact hF)
    · rw [e] at hF; injection hF with hF; have := he.size; omega
  refine ⟨⟨by have := obj_set (i := 0) (v := v') hp1; simpa using this, ?_, hne⟩, ?_, ?_⟩
  · have h2 : Os vB w1 base 5 v' (bs ++ [b]) := by
      unfold Os; rw [List.map_append, List.length_append]; exact hown
    refine h2.fr' (F := fun q => q = p) (fun q hq => by subst hq; exact hne) ?_
    exact Fr.set (F := fun q => q = p) (p := ⟨p, 0, none⟩) (Fr.refl _ _) (.inl rfl) _
  · refine (((he.fr (wF p v)).trans ⟨hg.os, hg.tape, hg.output, hg.size, fun q hq hF => hg.block q hq (fun e => hF (.inr e.symm))⟩)).set (.inl (.inl rfl)) _
  · intro q hq
    unfold ownF at hq ⊢
    rcases hv with e | e
    · exact .inl (by rw [← e]; exact hq)
    · rw [e] at hq; injection hq with hq; exact .inr (by have := he.size; omega)

/-- What a writer may write, step by step. -/
theorem Fr.comp {a b c : World} {p : Nat} {v v' : Value} (h : Fr (wF p v) a b) (hq : ∀ q, ownF v' q → ownF v q ∨ a.heap.size ≤ q) (k : Fr (wF p v') b c) : Fr (wF p v) a c :=
  ⟨k.1.trans h.1, k.2.1.trans h.2.1, k.2.2.1.trans h.2.2.1, Nat.le_trans h.size k.size, fun i hi hF =>
    (k.2.2.2.2 i (Nat.lt_of_lt_of_le hi h.size) (fun hF' => by
      rcases hF' with e | e
      · exact hF (.inl e)
      · rcases hq i e with e | e
        · exact hF (.inr e)
        · omega)).trans (h.2.2.2.2 i hi hF)⟩
set_option maxHeartbeats 4000000 in
set_option maxRecDepth 100000 in
theorem Put_calls (base p : Nat) (v : Value) (bs : List UInt8) (A : Option Addr) (c : Nat) (ns : List UInt64) (w : World) (hw : Wr w base p v bs) (hb : base ≤ w.heap.size)
    (hs : ∀ w', Fr (wF p v) w w' → Sc vU w' A c ns) (hN : bs.length + 8 * ns.length ≤ 1099511627776) :
    Calls Try.prog 42 #[.pointer (some ⟨p, 0, none⟩), .slice A ns.length c] w
      fun e w' => e = .returned (.tuple #[]) ∧ ∃ v', Wr w' base p v' (bs ++ putB ns) ∧ Fr (wF p v) w w' ∧ (∀ q, ownF v' q → ownF v q ∨ w.heap.size ≤ q) := by
  have hc1 := (hs w (Fr.refl _ _)).1
  have hc2 := (hs w (Fr.refl _ _)).2.1
  unfold maxLen at hc2
  have HS := Hd.mk hs
  have HW := Hd.mk hw
  clear hs hw
  go_enter Try.func42, Try.ntmps42
  go_wp2
  go_loopw [11] (fun i w1 => ∃ (k : Nat) (v1 : Value), k ≤ ns.length ∧ i = .int .i64 k ∧ Wr w1 base p v1 (bs ++ putB (ns.take k)) ∧ Fr (wF p v) w w1 ∧ (∀ q, ownF v1 q → ownF v q ∨ w.heap.size ≤ q)) (fun i _ => ns.length - (intOf i).toNat)
  case atStart => exact ⟨0, v, Nat.zero_le _, rfl, by simpa [putB] using HW.out, Fr.refl _ _, fun q hq => .inl hq⟩
  case round =>
    obtain ⟨k, v1, hk, rfl, hw1, hf1, hq1⟩ := hrel
    have HW1 := Hd.mk hw1
    have HF1 := Hd.mk hf1
    have HQ1 := Hd.mk hq1
    clear hw1 hf1 hq1
    by_cases hlt : k < ns.length
    · obtain ⟨b, off, x, rfl, hx, hcell⟩ := (HS.out wr HF1.out).at hlt
      have HX := Hd.mk hx
      clear hx
      go_wp2
      obtain ⟨wo, hwo⟩ : ∃ wo : World, wo = wr := ⟨_, rfl⟩
      rw [← hwo] at HW1 HF1 hcell
      have HWO := Hd.mk hwo
      clear hwo
      go_loopw [6] (fun u w2 => ∃ (j : Nat) (v2 : Value), j ≤ 8 ∧ u = .int .i64 ((8 * j : Nat) : Int) ∧ Wr w2 base p v2 (bs ++ putB (ns.take k) ++ (List.range j).map (byteAt x)) ∧ Fr (wF p v1) wo w2 ∧ (∀ q, ownF v2 q → ownF v1 q ∨ wo.heap.size ≤ q)) (fun u _ => 64 - (intOf u).toNat)
      case atStart => exact ⟨0, v1, by omega, rfl, by have := HWO.out; subst this; simpa using HW1.out, by have := HWO.out; subst this; exact Fr.refl _ _, fun q hq => .inl hq⟩
      case round =>
        obtain ⟨j, v2, hj, rfl, hw2, hf2, hq2⟩ := hrel
        have HW2 := Hd.mk hw2
        have HF2 := Hd.mk hf2
        have HQ2 := Hd.mk hq2
        clear hw2 hf2 hq2
        by_cases hj8 : j < 8
        · have hsh := shr_run x j hj8
          have hby : ((x.toNat : Int) / 2 ^ (8 * j) % 256) = ((byteAt x j).toNat : Int) := by rw [byteAt_toNat]; simp
          have hbs : base ≤ wr.heap.size := Nat.le_trans hb (Nat.le_trans HF1.out.size HF2.out.size)
          have t0 := cell_obj (i := 0) HW2.out.obj
          have hlen := putB_len (ns.take k)
          have hlen2 : (ns.take k).length = k := by simp; omega
          go_wp2_with fail
          refine wp_region_pl (wF p v2) wr (.pur 0 (.pur 1 (.pur 2 (.pur 3 (.pur 5 (.pur 6 (.pur 7 (.pur 8 (.two 4 (.one 9 (.one 10 (.pur 11 (.pur 12 (.one 13 (.done)))))) 9 (.one 4 (.one 10 (.pur 11 (.pur 12 (.one 13 (.done))))))))))))))) (by kernel_rfl) (by kernel_rfl) (by kernel_rfl) (fun _ _ d _ _ h => by cases d <;> exact h) (Fr.refl _ _) ?_
          repeat (first | (refine wpPl_skip (by rfl) (by rfl) ?_; simp only [Act.put, List.setIfInBounds_toArray, List.set_cons_zero, List.set_cons_succ]) | (refine wpPl_pur (by rfl) (by rfl) ?_; apply Exists.intro; refine ⟨fun x => ?_, ?_⟩; (focus (go_simp <;> with_reducible rfl)); simp only [Act.put, List.setIfInBounds_toArray, List.set_cons_zero, List.set_cons_succ]))
          refine wpPl_two ?_ ?_
          · refine wpPl_one (by rfl) (by rfl) (fun K hK => ?_)
            go_wp2_with fail
            refine hK _ _ (Fr.refl _ _) ?_
            clear hK
            have HEX := Hd.mk ((Ext.refl wr).drew.alloc (.cells #[.int .u8 ((byteAt x j).toNat : Int)] 5))
            refine wpPl_one (by rfl) (by rfl) (fun K hK => ?_)
            go_wp2_with fail
            refine hK _ _ (HEX.out.fr _) ?_
            clear hK
            refine wpPl_one (by rfl) (by rfl) (fun K hK => ?_)
            refine wp_app _ tB (.tmp 23) (.tmp 28) rfl base v2 _ _ rfl ((HW2.out.ext HEX.out).own) (some ⟨wr.heap.size, 0, none⟩) 1 1 [vB (byteAt x j)] rfl rfl (Fl.new (heap_at rfl)) (by intro u hu; simp at hu; subst hu; rfl) (by simp only [List.length_append, List.length_map, List.length_range]; omega) (Nat.le_trans hbs HEX.out.size) ?_
            intro v3 w3 hown hgr hv
            have HFA := Hd.mk ((HEX.out.fr (wF p v2)).trans ⟨hgr.os, hgr.tape, hgr.output, hgr.size, fun q hq hF => hgr.block q hq (fun e => hF (.inr e.symm))⟩)
            have HGW := Hd.mk (HW2.out.grow (b := byteAt x j) HEX.out (by simpa using hown) hgr hv)
            have hp3 : w3.heap[p]? = some (.cells #[v2] 88 (0, 0)) := by
              rw [hgr.block p (Nat.lt_of_lt_of_le (obj_lt HW2.out.obj) HEX.out.size) (fun e => HW2.out.ne e.symm)]; exact HEX.out.obj HW2.out.obj
            have p0 := cell_obj (i := 0) hp3
            have pf := frozen_obj hp3 0
            have hos3 := HGW.out.1.own
            obtain ⟨A3, n3, c3, rfl⟩ : ∃ A3 n3 c3, v3 = .slice A3 n3 c3 := by obtain ⟨A3, c3, h, _⟩ := hos3.sc; exact ⟨A3, _, c3, h⟩
            clear hown hgr hv hp3 hos3
            refine hK _ _ HFA.out ?_
            clear hK
            repeat (first | (refine wpPl_skip (by rfl) (by rfl) ?_; simp only [Act.put, List.setIfInBounds_toArray, List.set_cons_zero, List.set_cons_succ]) | (refine wpPl_pur (by rfl) (by rfl) ?_; apply Exists.intro; refine ⟨fun x => ?_, ?_⟩; (focus (go_simp <;> with_reducible rfl)); simp only [Act.put, List.setIfInBounds_toArray, List.set_cons_zero, List.set_cons_succ]))
            refine wpPl_one (by rfl) (by rfl) (fun K hK => ?_)
            go_wp2_with fail
            refine hK _ _ HGW.out.2.1 ?_
            clear hK
            refine wpPl_done ?_
            go_wp2
            refine ⟨?_, by simp [intOf]; omega⟩
            refine ⟨j + 1, _, by omega, by simp; omega, ?_, HF2.out.comp HQ2.out HGW.out.2.1, fun q hq => (HGW.out.2.2 q hq).elim (fun h => HQ2.out q h) (fun h => .inr (Nat.le_trans HF2.out.size h))⟩
            rw [← range_snoc, ← List.append_assoc]
            exact HGW.out.1
          · have HEX := Hd.mk ((Ext.refl wr).drew.alloc (.cells #[.int .u8 ((byteAt x j).toNat : Int)] 5))
            have t0 : (wr.alloc (.cells #[.int .u8 ((byteAt x j).toNat : Int)] 5)).cell? ⟨p, 0, none⟩ = some v2 := HEX.out.cell t0
            refine wpPl_one (by rfl) (by rfl) (fun K hK => ?_)
            go_wp2_with fail
            refine hK _ _ (HEX.out.fr _) ?_
            clear hK
            refine wpPl_one (by rfl) (by rfl) (fun K hK => ?_)
            go_wp2_with fail
            refine hK _ _ (HEX.out.fr _) ?_
            clear hK
            refine wpPl_one (by rfl) (by rfl) (fun K hK => ?_)
            refine wp_app _ tB (.tmp 23) (.tmp 28) rfl base v2 _ _ rfl ((HW2.out.ext HEX.out).own) (some ⟨wr.heap.size, 0, none⟩) 1 1 [vB (byteAt x j)] rfl rfl (Fl.new (heap_at rfl)) (by intro u hu; simp at hu; subst hu; rfl) (by simp only [List.length_append, List.length_map, List.length_range]; omega) (Nat.le_trans hbs HEX.out.size) ?_
            intro v3 w3 hown hgr hv
            have HFA := Hd.mk ((HEX.out.fr (wF p v2)).trans ⟨hgr.os, hgr.tape, hgr.output, hgr.size, fun q hq hF => hgr.block q hq (fun e => hF (.inr e.symm))⟩)
            have HGW := Hd.mk (HW2.out.grow (b := byteAt x j) HEX.out (by simpa using hown) hgr hv)
            have hp3 : w3.heap[p]? = some (.cells #[v2] 88 (0, 0)) := by
              rw [hgr.block p (Nat.lt_of_lt_of_le (obj_lt HW2.out.obj) HEX.out.size) (fun e => HW2.out.ne e.symm)]; exact HEX.out.obj HW2.out.obj
            have p0 := cell_obj (i := 0) hp3
            have pf := frozen_obj hp3 0
            have hos3 := HGW.out.1.own
            obtain ⟨A3, n3, c3, rfl⟩ : ∃ A3 n3 c3, v3 = .slice A3 n3 c3 := by obtain ⟨A3, c3, h, _⟩ := hos3.sc; exact ⟨A3, _, c3, h⟩
            clear hown hgr hv hp3 hos3
            refine hK _ _ HFA.out ?_
            clear hK
            repeat (first | (refine wpPl_skip (by rfl) (by rfl) ?_; simp only [Act.put, List.setIfInBounds_toArray, List.set_cons_zero, List.set_cons_succ]) | (refine wpPl_pur (by rfl) (by rfl) ?_; apply Exists.intro; refine ⟨fun x => ?_, ?_⟩; (focus (go_simp <;> with_reducible rfl)); simp only [Act.put, List.setIfInBounds_toArray, List.set_cons_zero, List.set_cons_succ]))
            refine wpPl_one (by rfl) (by rfl) (fun K hK => ?_)
            go_wp2_with fail
            refine hK _ _ HGW.out.2.1 ?_
            clear hK
            refine wpPl_done ?_
            go_wp2
            refine ⟨?_, by simp [intOf]; omega⟩
            refine ⟨j + 1, _, by omega, by simp; omega, ?_, HF2.out.comp HQ2.out HGW.out.2.1, fun q hq => (HGW.out.2.2 q hq).elim (fun h => HQ2.out q h) (fun h => .inr (Nat.le_trans HF2.out.size h))⟩
            rw [← range_snoc, ← List.append_assoc]
            exact HGW.out.1
        · obtain rfl : j = 8 := by omega
          go_wp2
          refine ⟨?_, by simp [intOf]; omega⟩
          refine ⟨k + 1, v2, by omega, by go_num, ?_, HF1.out.comp HQ1.out HF2.out, fun q hq => (HQ2.out q hq).elim (fun h => HQ1.out q h) (fun h => .inr (Nat.le_trans HF1.out.size h))⟩
          rw [← putB_snoc hlt, HX.out, ← List.append_assoc]
          exact HW2.out
    · obtain rfl : k = ns.length := by omega
      rw [List.take_length] at HW1
      go_wp2
      go_end0
      exact ⟨rfl, v1, HW1.out, HF1.out, HQ1.out⟩
end Go.Proofs.Ytipoegmheiapgaa
