/- The reader of a stream, on bytes that Encode wrote. -/
import Derived.Test.YtipoegmheiapgaaK8
namespace Go.Proofs.Ytipoegmheiapgaa
set_option linter.unusedVariables false
set_option linter.unusedSimpArgs false
open Go.RowKit

/-- A stream's reader: alive, what waits, the place; no fault. -/
def rdC (v : Value) (k : Nat) : Obj := .cells #[.bool true, v, .int .i64 (k : Int), .int .i64 0, .int .i64 0] 119 (0, 0)
set_option maxRecDepth 100000 in
theorem streamNew_calls (w : World) :
    Calls Try.prog 33 #[] w fun e w' => e = .returned (.pointer (some ⟨w.heap.size, 0, none⟩)) ∧ w'.heap[w.heap.size]? = some (rdC (.slice none 0 0) 0) ∧ Ext w w' := by
  go_enter Try.func33, Try.ntmps33
  go_wp2
  go_ret
  exact ⟨rfl, heap_new _ _, (Ext.refl w).alloc _⟩
set_option maxRecDepth 100000 in
theorem rdOk_calls (b : Nat) (v : Value) (k : Nat) (w : World) (h : w.heap[b]? = some (rdC v k)) :
    Calls Try.prog 63 #[.pointer (some ⟨b, 0, none⟩)] w fun e w' => e = .returned (.bool true) ∧ Dr w w' := by
  have t0 : w.cell? ⟨b, 0, none⟩ = some (.bool true) := cell_obj (i := 0) h
  clear h
  go_enter Try.func63, Try.ntmps63
  go_wp2
  go_ret
  exact ⟨rfl, Dr.refl _⟩
set_option maxRecDepth 100000 in
theorem Waits_calls (b : Nat) (A : Option Addr) (n c k : Nat) (w : World) (h : w.heap[b]? = some (rdC (.slice A n c) k)) (hn : n ≤ 1099511627776) :
    Calls Try.prog 35 #[.pointer (some ⟨b, 0, none⟩)] w fun e w' => e = .returned (.int .i64 (n : Int)) ∧ Dr w w' := by
  have t1 : w.cell? ⟨b, 1, none⟩ = some (.slice A n c) := cell_obj (i := 1) h
  have HH := Hd.mk h
  clear h
  go_enter Try.func35, Try.ntmps35
  go_wp2_with fail
  refine (rdOk_calls _ _ _ _ HH.out).mono ?_
  rintro e w1 ⟨rfl, hd⟩
  have t1 : w1.cell? ⟨b, 1, none⟩ = some (.slice A n c) := hd.ext.cell t1
  have HD := Hd.mk hd
  clear hd
  go_wp2
  go_ret
  exact ⟨rfl, HD.out⟩
set_option maxRecDepth 100000 in
theorem rdFault_calls (b : Nat) (v : Value) (k : Nat) (w : World) (h : w.heap[b]? = some (rdC v k)) :
    Calls Try.prog 36 #[.pointer (some ⟨b, 0, none⟩)] w fun e w' => e = .returned (.agg #[.int .i64 0, .int .i64 0]) ∧ Ext w w' := by
  have HH := Hd.mk h
  clear h
  go_enter Try.func36, Try.ntmps36
  go_wp2_with fail
  refine (rdOk_calls _ _ _ _ (((Ext.refl w).alloc _).obj HH.out)).mono ?_
  rintro e w1 ⟨rfl, hd⟩
  have HE := Hd.mk (((Ext.refl w).alloc _).trans hd.ext)
  have q := hd.ext.obj (heap_new w (.cells #[.int .i64 0, .int .i64 0] 81))
  have h1 := hd.ext.obj (((Ext.refl w).alloc (.cells #[.int .i64 0, .int .i64 0] 81)).obj HH.out)
  have t3 : w1.cell? ⟨b, 3, none⟩ = some (.int .i64 0) := cell_obj (i := 3) h1
  have t4 : w1.cell? ⟨b, 4, none⟩ = some (.int .i64 0) := cell_obj (i := 4) h1
  have q0 := cell_obj (i := 0) q
  have q1 := cell_obj (i := 1) q
  have f0 := frozen_obj q 0
  have f1 := frozen_obj q 1
  clear hd h1 q
  go_wp2
  exact bodyPost_ret (v := .agg #[.int .i64 0, .int .i64 0]) (by simp [results, Try.results36, go_sem, q0, q1]) rfl ⟨rfl, (HE.out.set (p := ⟨w.heap.size, 0, none⟩) (Nat.le_refl _) (.int .i64 0)).set (p := ⟨w.heap.size, 1, none⟩) (Nat.le_refl _) (.int .i64 0)⟩

theorem part_next (x rest : List UInt8) : nextU (partB x ++ rest) 0 (UInt64.ofNat x.length) := by
  rw [nextU, partB, List.drop_zero, List.append_assoc, List.take_append, u64le_len]
  simp
  rw [List.take_of_length_le (by rw [u64le_len]; omega)]
theorem part_body (x rest : List UInt8) : ((partB x ++ rest).take (8 + x.length)).drop 8 = x := by
  rw [partB, List.append_assoc, List.take_append, u64le_len, List.take_of_length_le (by rw [u64le_len]; omega), List.drop_append, u64le_len, List.drop_eq_nil_of_le (by rw [u64le_len]; omega)]
  simp
theorem part_rest (x rest : List UInt8) : (partB x ++ rest).drop (8 + x.length) = rest := by
  rw [List.drop_append, List.drop_eq_nil_of_le (by simp [partB, u64le_len])]
  simp [partB, u64le_len]

set_option maxHeartbeats 2000000 in
set_option maxRecDepth 100000 in
theorem next_some (G : Nat → Prop) (b : Nat) (hG : G b) (A : Option Addr) (c k : Nat) (r : Rc) (bs rest : List UInt8) (w : World) (h : w.heap[b]? = some (rdC (.slice A bs.length c) k)) (hm : may r = true) (hbs : bs = partB (recB r) ++ rest)
    (hs : ∀ w', Fr G w w' → Sc vB w' A c bs) (hn : bs.length ≤ 1000000) (hk : k ≤ 1000000) :
    Calls Try.prog 64 #[.pointer (some ⟨b, 0, none⟩)] w fun e w' => ∃ v A' c', e = .returned (.tuple #[.agg #[.int .i64 r.kind, .int .i64 r.shard, .int .i64 r.snap, .int .i64 r.base, .int .i64 r.map, .int .i64 r.off, .int .i64 r.len, v], .bool true]) ∧
      Os vU w' w.heap.size 54 v r.data ∧ w'.heap[b]? = some (rdC (.slice A' rest.length c') (k + (8 + (recB r).length))) ∧ (∀ w2, Fr G w' w2 → Sc vB w2 A' c' rest) ∧ Fr (fun q => q = b) w w' := by
  obtain ⟨x, hx⟩ : ∃ x, x = recB r := ⟨_, rfl⟩
  have hxl : x.length ≤ 700 := by
    have := may_data hm
    rw [hx, recB_all, sealF_len, putB_len, allN_len]; omega
  have hx4 : 4 ≤ x.length := by rw [hx, recB_all, sealF_len]; omega
  have hc1 := (hs w (Fr.refl _ _)).1
  have hc2 := (hs w (Fr.refl _ _)).2.1
  unfold maxLen at hc2
  have hbl : bs.length = 8 + x.length + rest.length := by rw [hbs, ← hx]; simp [partB, u64le_len]; omega
  obtain ⟨d, off, rfl, _⟩ := (hs w (Fr.refl _ _)).2.2 (by omega)
  have t1 : w.cell? ⟨b, 1, none⟩ = some (.slice (some ⟨d, off, none⟩) bs.length c) := cell_obj (i := 1) h
  rw [← hx] at hbs ⊢
  have t1 : (w.alloc (.cells #[.int .i64 0, .int .i64 0, .int .i64 0, .int .i64 0, .int .i64 0, .int .i64 0, .int .i64 0, .slice none 0 0] 24)).cell? ⟨b, 1, none⟩ = some (.slice (some ⟨d, off, none⟩) bs.length c) := ((Ext.refl w).alloc _).cell t1
  have HH := Hd.mk h
  have HS := Hd.mk hs
  have HX := Hd.mk hx
  have HM := Hd.mk hm
  have HBS := Hd.mk hbs
  have hge : (8 : Int) ≤ (bs.length : Int) := by omega
  have HBL := Hd.mk hbl
  clear h hs hx hm hbs hbl
  go_enter Try.func64, Try.ntmps64
  go_wp2_with fail
  obtain ⟨W0, hW0⟩ : ∃ W0, W0 = w.alloc (.cells #[.int .i64 0, .int .i64 0, .int .i64 0, .int .i64 0, .int .i64 0, .int .i64 0, .int .i64 0, .slice none 0 0] 24) := ⟨_, rfl⟩
  have e0 : Ext w W0 := by rw [hW0]; exact (Ext.refl w).alloc _
  have HZ := Hd.mk (show W0.heap[w.heap.size]? = some (.cells #[.int .i64 0, .int .i64 0, .int .i64 0, .int .i64 0, .int .i64 0, .int .i64 0, .int .i64 0, .slice none 0 0] 24 (0, 0)) from by rw [hW0]; exact heap_new w _)
  rw [← hW0] at t1 ⊢
  have HE0 := Hd.mk e0
  clear hW0 e0
  refine (packNew_calls (some ⟨d, off, none⟩) bs.length c W0).mono ?_
  rintro e w1 ⟨rfl, hp, he1⟩
  obtain ⟨p, hpw⟩ : ∃ p, p = W0.heap.size := ⟨_, rfl⟩
  rw [← hpw] at hp ⊢
  have HP := Hd.mk hp
  have hw0 : w.heap.size < p := by rw [hpw]; exact obj_lt HZ.out
  have hbw : b < w.heap.size := obj_lt HH.out
  have t1 := he1.cell t1
  have HZ1 := Hd.mk (he1.obj HZ.out)
  have HE1 := Hd.mk (HE0.out.trans he1)
  have HSB := Hd.mk (HS.out w1 (HE1.out.fr _))
  have HN0 := Hd.mk (show nextU bs 0 (UInt64.ofNat x.length) from by rw [HBS.out]; exact part_next x rest)
  have HPW := Hd.mk hpw
  have hpl := obj_lt hp
  clear hp he1 hpw
  go_wp2_with fail
  refine (Int_calls p (some ⟨d, off, none⟩) bs c 0 700 x.length w1 HP.out HSB.out HN0.out (by omega) (by omega) (by omega)).mono ?_
  rintro e w2 ⟨rfl, _, hf2⟩
  have HE2 := Hd.mk (ext_fr HE1.out hf2 (fun q hq => by omega))
  have HF2 := Hd.mk hf2
  have HZ2 := Hd.mk (hf2.obj (show ¬ w.heap.size = p by omega) HZ1.out)
  have t1 : w2.cell? ⟨b, 1, none⟩ = some (.slice (some ⟨d, off, none⟩) bs.length c) := hf2.cell (show ¬ b = p by omega) t1
  clear hf2 HP
  go_wp2_with fail
  refine (packNew_calls (some ⟨d, off, none⟩) bs.length c w2).mono ?_
  rintro e w3 ⟨rfl, hp3, he3⟩
  obtain ⟨p3, hpw3⟩ : ∃ p, p = w2.heap.size := ⟨_, rfl⟩
  rw [← hpw3] at hp3 ⊢
  have HP3 := Hd.mk hp3
  have hw3 : w.heap.size < p3 := by rw [hpw3]; have := HF2.out.size; omega
  have t1 := he3.cell t1
  have HZ3 := Hd.mk (he3.obj HZ2.out)
  have HE3 := Hd.mk (HE2.out.trans he3)
  have HSB3 := Hd.mk (HS.out w3 (HE3.out.fr _))
  clear hp3 he3 hpw3
  go_wp2_with fail
  refine (Get_calls p3 (some ⟨d, off, none⟩) bs c 0 (UInt64.ofNat x.length) w3 HP3.out HSB3.out HN0.out (by omega)).mono ?_
  rintro e w4 ⟨rfl, _, hf4⟩
  rw [u64_of x.length (by omega)]
  have HE4 := Hd.mk (ext_fr HE3.out hf4 (fun q hq => by omega))
  have HZ4 := Hd.mk (hf4.obj (show ¬ w.heap.size = p3 by omega) HZ3.out)
  have t1 : w4.cell? ⟨b, 1, none⟩ = some (.slice (some ⟨d, off, none⟩) bs.length c) := hf4.cell (show ¬ b = p3 by omega) t1
  have hle : ((x.length : Nat) : Int) ≤ 700 := by omega
  have hle3 : (8 : Int) ≤ 8 + (x.length : Int) := by omega
  have hc8 : ¬ c = 8 := by have := HBL.out; omega
  have hcl : 8 + x.length ≤ c := by have := HBL.out; omega
  have hle2 : (8 : Int) + (x.length : Int) ≤ (bs.length : Int) := by have := HBL.out; omega
  clear hf4
  go_wp2_with fail
  have hsx : Sc vB w4 (some ⟨d, off + 8, none⟩) (c - 8) (recB r) := by
    have h1 := (HS.out w4 (HE4.out.fr _)).cut (i := 8) (j := 8 + x.length) (by omega) (by have := HBL.out; omega)
    rw [HBS.out, part_body, HX.out] at h1
    exact h1
  rw [show x.length = (recB r).length by rw [HX.out]]
  refine (decode_calls _ _ r w4 HM.out hsx).mono ?_
  rintro e w5 ⟨v5, rfl, hos, he5⟩
  rw [show (recB r).length = x.length by rw [HX.out]]
  obtain ⟨A5, c5, rfl, _⟩ := hos.sc
  have HO5 := Hd.mk (hos.base (show w.heap.size + 1 ≤ w4.heap.size from obj_lt HZ4.out))
  have HE5 := Hd.mk (HE4.out.trans he5)
  have t1 := he5.cell t1
  have HZ5 := Hd.mk (he5.obj HZ4.out)
  clear hos he5 hsx
  go_wp2_with fail
  obtain ⟨W6, hW6⟩ : ∃ W6, W6 = w5.alloc (.cells #[.int .i64 r.kind, .int .i64 r.shard, .int .i64 r.snap, .int .i64 r.base, .int .i64 r.map, .int .i64 r.off, .int .i64 r.len, .slice A5 r.data.length c5] 24) := ⟨_, rfl⟩
  have HR6 := Hd.mk (show W6.heap[w5.heap.size]? = some _ from by rw [hW6]; exact heap_new _ _)
  have HE6 := Hd.mk (show Ext w5 W6 from by rw [hW6]; exact (Ext.refl _).alloc _)
  have hb6 := HE6.out.obj (HE5.out.obj HH.out)
  have HZ6 := Hd.mk (HE6.out.obj HZ5.out)
  rw [← hW6]
  have t1 : W6.cell? ⟨b, 1, none⟩ = some (.slice (some ⟨d, off, none⟩) bs.length c) := cell_obj (i := 1) hb6
  have t2 : W6.cell? ⟨b, 2, none⟩ = some (.int .i64 (k : Int)) := cell_obj (i := 2) hb6
  have f1 := frozen_obj hb6 1
  have f2 := frozen_obj hb6 2
  have HB6 := Hd.mk hb6
  clear hW6 hb6
  go_region
  obtain ⟨A7, hA7⟩ : ∃ A7, A7 = if c = 8 + x.length then some (⟨d, off, none⟩ : Addr) else some ⟨d, off + (8 + x.length), none⟩ := ⟨_, rfl⟩
  rw [← hA7]
  obtain ⟨W7, hW7⟩ : ∃ W7, W7 = ((W6.setCell ⟨b, 1, none⟩ (.slice A7 (bs.length - (8 + x.length)) (c - (8 + x.length)))).setCell ⟨b, 2, none⟩ (.int .i64 ((k : Int) + 8 + x.length))).drew := ⟨_, rfl⟩
  rw [← hW7]
  have HF7 := Hd.mk (show Fr (fun q => q = b) W6 W7 from by rw [hW7]; exact (((Fr.refl (fun q => q = b) W6).set (p := ⟨b, 1, none⟩) (.inl rfl) _).set (p := ⟨b, 2, none⟩) (.inl rfl) _).drew)
  have HB7 := Hd.mk (show W7.heap[b]? = some (rdC (.slice A7 rest.length (c - (8 + x.length))) (k + (8 + x.length))) from by
    rw [hW7, rdC, show rest.length = bs.length - (8 + x.length) by have := HBL.out; omega, show ((k + (8 + x.length) : Nat) : Int) = (k : Int) + 8 + x.length by omega]
    exact obj_set (i := 2) (obj_set (i := 1) HB6.out))
  have HS7 := Hd.mk (show ∀ w', Fr G w w' → Sc vB w' A7 (c - (8 + x.length)) rest from fun w' hf => by
    rw [hA7]
    split
    · have h0 : rest = [] := List.eq_nil_of_length_eq_zero (by have := HBL.out; omega)
      rw [h0]; exact Sc.empty _ _ _ (by unfold maxLen; omega)
    · have h1 := (HS.out w' hf).drop (n := 8 + x.length) (by have := HBL.out; omega)
      rw [HBS.out, part_rest] at h1
      exact h1)
  clear hA7
  have hszw : w.heap.size < w5.heap.size := obj_lt HZ5.out
  have HR7 := Hd.mk (HF7.out.obj (show ¬ w5.heap.size = b by omega) HR6.out)
  have HZ7 := Hd.mk (HF7.out.obj (show ¬ w.heap.size = b by omega) HZ6.out)
  clear hW7 t1 t2 f1 f2
  have z0 := cell_obj (i := 0) HZ7.out
  have z1 := cell_obj (i := 1) HZ7.out
  have z2 := cell_obj (i := 2) HZ7.out
  have z3 := cell_obj (i := 3) HZ7.out
  have z4 := cell_obj (i := 4) HZ7.out
  have z5 := cell_obj (i := 5) HZ7.out
  have z6 := cell_obj (i := 6) HZ7.out
  have z7 := cell_obj (i := 7) HZ7.out
  have y0 := frozen_obj HZ7.out 0
  have y1 := frozen_obj HZ7.out 1
  have y2 := frozen_obj HZ7.out 2
  have y3 := frozen_obj HZ7.out 3
  have y4 := frozen_obj HZ7.out 4
  have y5 := frozen_obj HZ7.out 5
  have y6 := frozen_obj HZ7.out 6
  have y7 := frozen_obj HZ7.out 7
  have r0 := cell_obj (i := 0) HR7.out
  have r1 := cell_obj (i := 1) HR7.out
  have r2 := cell_obj (i := 2) HR7.out
  have r3 := cell_obj (i := 3) HR7.out
  have r4 := cell_obj (i := 4) HR7.out
  have r5 := cell_obj (i := 5) HR7.out
  have r6 := cell_obj (i := 6) HR7.out
  have r7 := cell_obj (i := 7) HR7.out
  go_wp2_with fail
  refine bodyPost_ret (v := .tuple #[.agg #[.int .i64 r.kind, .int .i64 r.shard, .int .i64 r.snap, .int .i64 r.base, .int .i64 r.map, .int .i64 r.off, .int .i64 r.len, .slice A5 r.data.length c5], .bool true]) (by simp [results, Try.results64, go_sem, z0, z1, z2, z3, z4, z5, z6, z7]) rfl ?_
  have HF8 := Hd.mk ((((((((((((((HE5.out.trans HE6.out).fr (fun q => q = b)).trans HF7.out)).set (p := ⟨w.heap.size, 0, none⟩) (.inr (Nat.le_refl _)) (.int .i64 r.kind)).set (p := ⟨w.heap.size, 1, none⟩) (.inr (Nat.le_refl _)) (.int .i64 r.shard)).set (p := ⟨w.heap.size, 2, none⟩) (.inr (Nat.le_refl _)) (.int .i64 r.snap)).set (p := ⟨w.heap.size, 3, none⟩) (.inr (Nat.le_refl _)) (.int .i64 r.base)).set (p := ⟨w.heap.size, 4, none⟩) (.inr (Nat.le_refl _)) (.int .i64 r.map)).set (p := ⟨w.heap.size, 5, none⟩) (.inr (Nat.le_refl _)) (.int .i64 r.off)).set (p := ⟨w.heap.size, 6, none⟩) (.inr (Nat.le_refl _)) (.int .i64 r.len)).set (p := ⟨w.heap.size, 7, none⟩) (.inr (Nat.le_refl _)) (.slice A5 r.data.length c5))))
  have HG8 := Hd.mk ((((((((((Fr.refl (fun q => q = w.heap.size) W7).set (p := ⟨w.heap.size, 0, none⟩) (.inl rfl) (.int .i64 r.kind)).set (p := ⟨w.heap.size, 1, none⟩) (.inl rfl) (.int .i64 r.shard)).set (p := ⟨w.heap.size, 2, none⟩) (.inl rfl) (.int .i64 r.snap)).set (p := ⟨w.heap.size, 3, none⟩) (.inl rfl) (.int .i64 r.base)).set (p := ⟨w.heap.size, 4, none⟩) (.inl rfl) (.int .i64 r.map)).set (p := ⟨w.heap.size, 5, none⟩) (.inl rfl) (.int .i64 r.off)).set (p := ⟨w.heap.size, 6, none⟩) (.inl rfl) (.int .i64 r.len)).set (p := ⟨w.heap.size, 7, none⟩) (.inl rfl) (.slice A5 r.data.length c5)))
  refine ⟨.slice A5 r.data.length c5, A7, c - (8 + x.length), rfl, ?_, HG8.out.obj (show ¬ b = w.heap.size by omega) HB7.out, fun w2 hf => HS7.out w2 ((HF8.out.mono (fun q hq => by rw [hq]; exact hG)).trans hf), HF8.out⟩
  exact ((((HO5.out.ext HE6.out).fr (fun q hq => by omega) HF7.out).fr (fun q hq => by omega) HG8.out)).base (by omega)
end Go.Proofs.Ytipoegmheiapgaa
