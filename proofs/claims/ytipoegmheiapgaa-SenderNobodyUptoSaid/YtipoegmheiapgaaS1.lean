/- A sender: New, Many. -/
import Derived.Test.YtipoegmheiapgaaK11
import Derived.Test.YtipoegmheiapgaaA4
import Derived.Test.YtipoegmheiapgaaM4
namespace Go.Proofs.Ytipoegmheiapgaa
set_option linter.unusedVariables false
set_option linter.unusedSimpArgs false
open Go.RowKit

def recBy (r : Rc) : List UInt8 := partB (recB r)
theorem fileB_one (r : Rc) : fileB [r] = recBy r := by rw [fileB_cons]; simp [fileB, partsB, recBy]
theorem recBy_len (r : Rc) : (recBy r).length = 76 + 8 * r.data.length := by rw [recBy, partB, List.length_append, u64le_len, recB_len]; omega
theorem fileB_flat (rs : List Rc) : fileB rs = (rs.map recBy).flatten := by
  induction rs with
  | nil => rfl
  | cons r rs ih => rw [fileB_cons, ih]; rfl
/-- A sender's block: the slice of its records' bytes. -/
def sdC (v : Value) : Obj := .cells #[v] 52 (0, 0)
theorem tBs : ElT Try.prog 50 42 1 24 := ElT.mk' Try.underlying50 (z := .slice none 0 0) (by kernel_rfl) rfl (by omega) (by omega)

set_option maxRecDepth 100000 in
theorem Many_calls (b : Nat) (A : Option Addr) (n c : Nat) (w : World) (h : w.heap[b]? = some (sdC (.slice A n c))) :
    Calls Try.prog 17 #[.pointer (some ⟨b, 0, none⟩)] w fun e w' => e = .returned (.int .i64 (n : Int)) ∧ Dr w w' := by
  have t0 : w.cell? ⟨b, 0, none⟩ = some (.slice A n c) := cell_obj (i := 0) h
  clear h
  go_enter Try.func17, Try.ntmps17
  go_wp2
  go_ret
  exact ⟨rfl, Dr.refl _⟩

set_option maxHeartbeats 4000000 in
set_option maxRecDepth 100000 in
theorem senderNew_ok (r0 : Rc) (A : Option Addr) (c : Nat) (B : Option Addr) (d : Nat) (ops : List VOp) (w : World) (hh : Sc vU w A c r0.data) (ho : Sm 4 opR w B d ops)
    (hN : ops.length ≤ 1048576) (hD : ∀ i (hi : i < ops.length), ops[i].data.length ≤ 4294967296) (hb : build r0 ops = (streamOf r0 ops, 0)) (hck : check (streamOf r0 ops) = 0) :
    Calls Try.prog 14 #[rcV r0 A c, .slice B ops.length d] w fun e w' => ∃ b A' c', e = .returned (.tuple #[.pointer (some ⟨b, 0, none⟩), .int .i64 0]) ∧
      w'.heap[b]? = some (sdC (.slice A' (ops.length + 2) c')) ∧ Omx (fun q => q < w.heap.size) 1 byR w' w.heap.size 42 (.slice A' (ops.length + 2) c') ((streamOf r0 ops).map recBy) ∧ w.heap.size ≤ b ∧ Ext w w' := by
  have HH := Hd.mk hh
  have HO := Hd.mk ho
  have HDD := Hd.mk hD
  have HB := Hd.mk hb
  have HALL := Hd.mk (check_zero hck).1
  have HL := Hd.mk (show (streamOf r0 ops).length = ops.length + 2 by simp [streamOf])
  clear hh ho hD hb hck
  go_enter Try.func14, Try.ntmps14
  go_wp2_with fail
  have e0 : Ext w (w.alloc (.cells #[.int .i64 r0.kind, .int .i64 r0.shard, .int .i64 r0.snap, .int .i64 r0.base, .int .i64 r0.map, .int .i64 r0.off, .int .i64 r0.len, .slice A r0.data.length c] 24)) := (Ext.refl w).alloc _
  refine (Build_calls r0 A c B d ops _ (HH.out.ext e0) (HO.out.ext opR_keeps e0) hN HDD.out).mono ?_
  rintro e w1 ⟨v1, rfl, hom1, he1⟩
  rw [HB.out] at hom1 ⊢
  obtain ⟨A1, c1, rfl, hs1⟩ := hom1.sm
  rw [HL.out]
  have HE1 := Hd.mk (e0.trans he1)
  have HS1 := Hd.mk hs1
  have hc1 := hs1.1
  have hc2 := hs1.2.1
  rw [HL.out] at hc1
  unfold maxLen at hc2
  clear e0 hom1 he1 hs1
  go_wp2_with fail
  obtain ⟨W1, hW1⟩ : ∃ W1, W1 = w1.alloc (sdC (.slice none 0 0)) := ⟨_, rfl⟩
  obtain ⟨b, hb⟩ : ∃ b, b = w1.heap.size := ⟨_, rfl⟩
  have HBO := Hd.mk (show W1.heap[b]? = some (sdC (.slice none 0 0)) from by rw [hW1, hb]; exact heap_new _ _)
  have HEW := Hd.mk (show Ext w1 W1 from by rw [hW1]; exact (Ext.refl w1).alloc _)
  have hbw : w.heap.size ≤ b := by rw [hb]; exact HE1.out.size
  have HW1S := Hd.mk (show W1.heap.size ≤ b + 1 from by rw [hW1, hb]; simp)
  have HBW1 := Hd.mk (show w1.heap.size ≤ b from by rw [hb]; omega)
  unfold sdC at hW1
  rw [← hW1, ← hb]
  clear hW1 hb
  go_loopw [26] (fun t w2 => ∃ k A2 c2, k ≤ ops.length + 2 ∧ t = .int .i64 (k : Int) ∧ w2.heap[b]? = some (sdC (.slice A2 k c2)) ∧ Omx (fun q => q < b + 1) 1 byR w2 (b + 1) 42 (.slice A2 k c2) (((streamOf r0 ops).take k).map recBy) ∧ Fr (fun q => q = b) W1 w2) (fun t _ => ops.length + 2 - (intOf t).toNat)
  case atStart => exact ⟨0, none, 0, Nat.zero_le _, rfl, HBO.out, Omx.nil _ _ _ _ _ _, Fr.refl _ _⟩
  case round =>
    obtain ⟨k, A2, c2, hk, rfl, hb2, hom, hfr⟩ := hrel
    have HB2 := Hd.mk hb2
    have HOM := Hd.mk hom
    have HFR := Hd.mk hfr
    have HX2 := Hd.mk (ext_fr HEW.out hfr (fun q hq => by rw [hq]; exact HBW1.out))
    clear hb2 hom hfr
    by_cases hlt : k < ops.length + 2
    · have hlt' : k < (streamOf r0 ops).length := by rw [HL.out]; exact hlt
      obtain ⟨b3, off3, x, cs, rfl, hx, ⟨A3, c3, rfl, hd3⟩, _, hcx⟩ := (HS1.out.ext rcR_keeps HX2.out).at hlt'
      have m0 : wr.cell? ⟨b3, off3 + k * 8, none⟩ = some _ := hcx 0 _ rfl
      have m1 := hcx 1 _ rfl
      have m2 := hcx 2 _ rfl
      have m3 := hcx 3 _ rfl
      have m4 := hcx 4 _ rfl
      have m5 := hcx 5 _ rfl
      have m6 := hcx 6 _ rfl
      have m7 := hcx 7 _ rfl
      have HX := Hd.mk hx
      have HD3 := Hd.mk hd3
      have HMX := Hd.mk (show may x = true from by rw [← hx]; exact List.all_eq_true.1 HALL.out _ (List.getElem_mem hlt'))
      clear hx hd3 hcx
      go_wp2_with fail
      have hdl := may_data HMX.out
      have hsm : Sm 8 rcR ((wr.alloc (.cells #[.int .i64 x.kind, .int .i64 x.shard, .int .i64 x.snap, .int .i64 x.base, .int .i64 x.map, .int .i64 x.off, .int .i64 x.len, .slice A3 x.data.length c3] 24)).alloc (.cells #[.int .i64 x.kind, .int .i64 x.shard, .int .i64 x.snap, .int .i64 x.base, .int .i64 x.map, .int .i64 x.off, .int .i64 x.len, .slice A3 x.data.length c3] 24)) (some ⟨wr.heap.size + 1, 0, none⟩) 1 [x] :=
        Sm.one (heap_at (by simp)) ⟨A3, c3, rfl, HD3.out.ext (((Ext.refl wr).alloc _).alloc _)⟩ rfl
      refine (Encode_calls (some ⟨wr.heap.size + 1, 0, none⟩) 1 [x] _ hsm (by simp)).mono ?_
      rintro e w3 ⟨v3, rfl, hos3, he3⟩
      rw [encode_ok (by simp [HMX.out]) (by rw [fileB_one, recBy_len]; omega), fileB_one] at hos3 ⊢
      obtain ⟨A4, c4, rfl, hs4⟩ := hos3.sc
      have HE3 := Hd.mk (show Ext wr w3 from (((Ext.refl wr).alloc _).alloc _).trans he3)
      have HB3 := Hd.mk (HE3.out.obj HB2.out)
      have HO3 := Hd.mk (hos3.base (show wr.heap.size ≤ _ by simp; omega))
      have HOM3 := Hd.mk (HOM.out.ext HE3.out)
      have t0 : w3.cell? ⟨b, 0, none⟩ = some (.slice A2 k c2) := cell_obj (i := 0) HB3.out
      have t0' : (w3.alloc (.cells #[.slice A4 (recBy x).length c4] 42)).cell? ⟨b, 0, none⟩ = some (.slice A2 k c2) := ((Ext.refl w3).alloc _).cell t0
      have hbl := obj_lt HB2.out
      have hbl3 := obj_lt HB3.out
      clear hsm hos3 he3 hs4 m0 m1 m2 m3 m4 m5 m6 m7
      have hkl : k ≤ (streamOf r0 ops).length := by rw [HL.out]; exact hk
      have HST := Hd.mk (show St (gF (fun q => q < b + 1) (.slice A2 k c2)) byR (w3.alloc (.cells #[.slice A4 (recBy x).length c4] 42)) (recBy x) [.slice A4 (recBy x).length c4] from
        fun w'' hf => ⟨A4, c4, rfl, ((HO3.out.ext ((Ext.refl w3).alloc _)).fr (F := gF (fun q => q < b + 1) (.slice A2 k c2)) (fun q hq => by rcases hq with hq | hq; omega; exact HOM.out.lt q hq) hf).sc2⟩)
      go_wp2_with (at_builtin; refine wpList_push tBs rfl (.tmp 40) (.tmp 42) rfl rfl (HOM3.out.ext ((Ext.refl w3).alloc _)) (some ⟨_, 0, none⟩) 1 (recBy x) [.slice A4 (recBy x).length c4] rfl rfl (Fl.new (heap_at rfl)) (by intro u hu; simp at hu; subst hu; rfl) HST.out (by simp only [List.length_map, List.length_take]; omega) (by simp; omega) (fun q hq => by simp; omega) ?_)
      rintro A5 c5 w5 hom5 hf5 hq5
      have hf5' := (((Ext.refl w3).alloc (.cells #[.slice A4 (recBy x).length c4] 42)).fr (ownF (.slice A2 k c2))).trans hf5
      have hno : ¬ ownF (.slice A2 k c2) b := fun ho => by have := HOM.out.block b ho; omega
      have HB5 := Hd.mk (hf5'.obj hno HB3.out)
      have HF5 := Hd.mk ((HFR.out.trans (HE3.out.fr _)).under hf5' (fun q hq => .inr (by have := HOM.out.block q hq; have := HW1S.out; omega)))
      have HOM5 := Hd.mk hom5
      have hno5 : ¬ ownF (.slice A5 (k + 1) c5) b := fun ho => by have := hom5.block b ho; omega
      have t5 : w5.cell? ⟨b, 0, none⟩ = some (.slice A2 k c2) := cell_obj (i := 0) HB5.out
      have f5 := frozen_obj HB5.out 0
      clear hom5 hf5 hq5 hf5'
      go_wp2
      refine ⟨⟨k + 1, A5, c5, by omega, by go_num, obj_set (i := 0) HB5.out, ?_, HF5.out.set (p := ⟨b, 0, none⟩) (.inl rfl) _⟩, by simp [intOf]; omega⟩
      have hom6 := HOM5.out.fr (fun q hq ho => by have := HOM5.out.block q ho; omega) ((Fr.refl (fun q => q < b + 1) w5).set (p := ⟨b, 0, none⟩) (.inl (Nat.lt_succ_self b)) (.slice A5 (k + 1) c5))
      rw [← HX.out] at hom6
      rw [← take_snoc' hlt', List.map_append]
      simpa using hom6
    · obtain rfl : k = ops.length + 2 := by omega
      go_wp2
      go_ret2
      refine ⟨b, A2, c2, rfl, HB2.out, ?_, hbw, HE1.out.trans HX2.out⟩
      have hs := (HOM.out.mono (G' := fun q => q < w.heap.size) (fun q hq => by omega)).base' (show w.heap.size ≤ b + 1 by omega)
      have htl : (streamOf r0 ops).take (ops.length + 2) = streamOf r0 ops := List.take_of_length_le (by rw [HL.out]; omega)
      rw [htl] at hs
      exact hs

set_option maxHeartbeats 4000000 in
set_option maxRecDepth 100000 in
theorem senderNew_no (r0 : Rc) (A : Option Addr) (c : Nat) (B : Option Addr) (d : Nat) (ops : List VOp) (w : World) (hh : Sc vU w A c r0.data) (ho : Sm 4 opR w B d ops)
    (hN : ops.length ≤ 1048576) (hD : ∀ i (hi : i < ops.length), ops[i].data.length ≤ 4294967296) (hne : (build r0 ops).2 ≠ 0) :
    Calls Try.prog 14 #[rcV r0 A c, .slice B ops.length d] w fun e w' => e = .returned (.tuple #[.pointer none, .int .i64 (build r0 ops).2]) ∧ Ext w w' := by
  have HH := Hd.mk hh
  have HO := Hd.mk ho
  have HDD := Hd.mk hD
  clear hh ho hD
  go_enter Try.func14, Try.ntmps14
  go_wp2_with fail
  have e0 : Ext w (w.alloc (.cells #[.int .i64 r0.kind, .int .i64 r0.shard, .int .i64 r0.snap, .int .i64 r0.base, .int .i64 r0.map, .int .i64 r0.off, .int .i64 r0.len, .slice A r0.data.length c] 24)) := (Ext.refl w).alloc _
  refine (Build_calls r0 A c B d ops _ (HH.out.ext e0) (HO.out.ext opR_keeps e0) hN HDD.out).mono ?_
  rintro e w1 ⟨v1, rfl, hom1, he1⟩
  obtain ⟨A1, c1, rfl, hs1⟩ := hom1.sm
  have HE1 := Hd.mk (e0.trans he1)
  clear e0 hom1 he1 hs1
  generalize hz : (build r0 ops).2 = z at hne ⊢
  have g1 : (z != 0) = true := by simpa using hne
  have HZ := Hd.mk hz
  clear hz hne
  go_wp2
  go_ret2
  exact ⟨by rw [HZ.out]; rfl, HE1.out⟩
end Go.Proofs.Ytipoegmheiapgaa
