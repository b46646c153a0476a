/- What is wrong with records: Check. -/
import Derived.Test.YtipoegmheiapgaaJ6
import Derived.Test.YtipoegmheiapgaaR1
namespace Go.Proofs.Ytipoegmheiapgaa
set_option linter.unusedVariables false
set_option linter.unusedSimpArgs false
open Go.RowKit

theorem fun_check1 : Fun 56 := fun _ _ => by simp [callFunc, Try.func56, go_sem]; rfl
theorem fun_check2 : Fun 57 := fun _ _ => by simp [callFunc, Try.func57, go_sem]; rfl

set_option maxRecDepth 100000 in
theorem check1_calls (r : Rc) (A : Option Addr) (c : Nat) (w : World) :
    Calls Try.prog 56 #[rcV r A c] w fun e w' => e = .returned (.bool (!may r)) ∧ Ext w w' := by
  go_enter Try.func56, Try.ntmps56
  go_wp2_with fail
  refine (May_calls r A c _).mono ?_
  rintro e w1 ⟨rfl, he⟩
  go_wp2
  go_ret
  exact ⟨rfl, ((Ext.refl w).alloc _).trans he⟩

set_option maxRecDepth 100000 in
theorem between_calls (r : Rc) (A : Option Addr) (c : Nat) (w : World) :
    Calls Try.prog 58 #[rcV r A c] w fun e w' => e = .returned (.bool (between r)) ∧ Ext w w' := by
  go_enter Try.func58, Try.ntmps58
  go_wp2
  all_goals go_ret
  all_goals exact ⟨ret_bool (bool_of (by simp only [between, Bool.or_eq_true, beq_iff_eq, decide_eq_true_eq, Bool.false_eq_true, false_iff, true_iff]; try omega)), (Ext.refl w).alloc _⟩

set_option maxRecDepth 100000 in
theorem check2_calls (r : Rc) (A : Option Addr) (c : Nat) (w : World) :
    Calls Try.prog 57 #[rcV r A c] w fun e w' => e = .returned (.bool (!between r)) ∧ Ext w w' := by
  go_enter Try.func57, Try.ntmps57
  go_wp2_with fail
  refine (between_calls r A c _).mono ?_
  rintro e w1 ⟨rfl, he⟩
  go_wp2
  go_ret
  exact ⟨rfl, ((Ext.refl w).alloc _).trans he⟩

set_option maxHeartbeats 2000000 in
set_option maxRecDepth 100000 in
theorem Check_calls (A : Option Addr) (c : Nat) (l : List Rc) (w : World) (hr : Sm 8 rcR w A c l) (hN : l.length ≤ 4294967296) :
    Calls Try.prog 31 #[.slice A l.length c] w fun e w' => e = .returned (.int .i64 (check l)) ∧ Ext w w' := by
  have hc1 := hr.1
  have hc2 := hr.2.1
  unfold maxLen at hc2
  have HR := Hd.mk hr
  clear hr
  go_enter Try.func31, Try.ntmps31
  go_wp2_with fail
  refine (ContainsFunc_rec A c l _ _ (fun r => !may r) w HR.out fun_check1 (fun i hi w1 A c _ _ => by rw [Array.append_empty]; exact check1_calls _ A c w1)).mono ?_
  rintro e w1 ⟨rfl, he1⟩
  generalize hz : (l.any fun r => !may r) = z
  have HZ := Hd.mk hz
  have HE1 := Hd.mk he1
  clear hz he1
  cases z with
  | true =>
    go_wp2
    go_ret
    exact ⟨ret_int (check_no (by have := HZ.out; simp at this ⊢; exact this)).symm, HE1.out⟩
  | false =>
    have hall : l.all may = true := by have := HZ.out; simp at this ⊢; exact this
    have HA := Hd.mk hall
    clear hall HZ
    by_cases h2 : l.length < 2
    · go_wp2
      all_goals go_ret
      all_goals exact ⟨ret_int (check_short HA.out h2).symm, HE1.out⟩
    · obtain ⟨r0, m, t, rfl⟩ := split_ends (by omega : 2 ≤ l.length)
      have hlen : (r0 :: (m ++ [t])).length = m.length + 2 := by simp
      have HL := Hd.mk hlen
      obtain ⟨b, off, x, cs, rfl, hx, ⟨A1, c1, rfl, hd1⟩, _, hcx⟩ := HR.out.at (i := 0) (by simp)
      obtain ⟨b', off', y, cs', hb', hy, ⟨A2, c2, rfl, hd2⟩, _, hcy⟩ := HR.out.at (i := m.length + 1) (by simp)
      injection hb' with hb'
      injection hb' with hb1 hb2 _
      subst hb1; subst hb2
      simp only [List.getElem_cons_zero] at hx
      subst hx
      have hy : t = y := by simpa using hy
      subst hy
      rw [hlen] at hN hc1 h2 ⊢
      have a0 : w1.cell? ⟨b, off, none⟩ = some (.int .i64 r0.kind) := HE1.out.cell (by simpa using hcx 0 _ rfl)
      have a6 : w1.cell? ⟨b, off + 6, none⟩ = some (.int .i64 r0.len) := HE1.out.cell (by simpa using hcx 6 _ rfl)
      have b0 : w1.cell? ⟨b, off + (m.length + 1) * 8, none⟩ = some (.int .i64 t.kind) := HE1.out.cell (hcy 0 _ rfl)
      have b6 : w1.cell? ⟨b, off + (m.length + 1) * 8 + 6, none⟩ = some (.int .i64 t.len) := HE1.out.cell (hcy 6 _ rfl)
      have HB := Hd.mk (And.intro a6 b6)
      have HM := HR.out.cut (i := 1) (j := m.length + 1) (by omega) (by rw [hlen]; omega)
      rw [show (List.take (m.length + 1) (r0 :: (m ++ [t]))).drop 1 = m by simp] at HM
      simp only [Nat.one_mul] at HM
      have HM := Hd.mk HM
      clear hcx hcy hd1 hd2 hlen a6 b6
      have q3 : (0 : Int) < (m.length : Int) + 2 := by omega
      have q1 : decide ((m.length : Int) + 2 < 2) = false := decide_eq_false (by omega)
      by_cases e1 : r0.kind = 1
      · by_cases e2 : t.kind = 4
        · have g1 : (r0.kind != 1) = false := by simpa using e1
          have g2 : (t.kind != 4) = false := by simpa using e2
          have E1 := Hd.mk e1
          have E2 := Hd.mk e2
          clear e1 e2
          go_wp2_with fail
          refine (ContainsFunc_rec (some ⟨b, off + 8, none⟩) (c - 1) m _ _ (fun r => !between r) w1 (HM.out.ext rcR_keeps HE1.out) fun_check2 (fun i hi w1 A c _ _ => by rw [Array.append_empty]; exact check2_calls _ A c w1)).mono ?_
          rintro e w2 ⟨rfl, he2⟩
          generalize hz : (m.any fun r => !between r) = z
          have HZ := Hd.mk hz
          have a6 := he2.cell HB.out.1
          have b6 := he2.cell HB.out.2
          have HE2 := Hd.mk (HE1.out.trans he2)
          clear hz he2 a0 b0
          cases z with
          | true =>
            go_wp2
            go_ret
            exact ⟨ret_int (by rw [check_of r0 m t HA.out]; have := HZ.out; simp at this; simp only [checkS]; rw [if_neg]; rintro ⟨_, _, h3⟩; obtain ⟨x, hx, hb⟩ := this; rw [List.all_eq_true] at h3; rw [h3 x hx] at hb; cases hb), HE2.out⟩
          | false =>
            have HBT : Hd (m.all between = true) := ⟨by have := HZ.out; simp at this ⊢; exact this⟩
            have HCK : Hd (check (r0 :: (m ++ [t])) = if 1024 < r0.len then 6 else if fit r0.len 0 m then (if t.len = m.length then 0 else 3) else 5) := ⟨by
              rw [check_of r0 m t HA.out, checkS, if_pos ⟨E1.out, E2.out, HBT.out⟩]⟩
            by_cases h6 : 1024 < r0.len
            · go_wp2
              go_ret
              exact ⟨ret_int (by rw [HCK.out, if_pos h6]), HE2.out⟩
            · have H6 := Hd.mk h6
              have q2 : decide (1024 < r0.len) = false := decide_eq_false h6
              go_wp2
              go_loopw [4, 48] (fun v i w3 => ∃ (k : Nat) (last : Int), k ≤ m.length ∧ i = .int .i64 k ∧ v = .int .i64 last ∧ Ext w2 w3 ∧ (0 ≤ last ∧ last ≤ 1024) ∧ fit r0.len 0 m = fit r0.len last (m.drop k)) (fun _ i _ => m.length - (intOf i).toNat)
              case atStart => exact ⟨0, 0, Nat.zero_le _, rfl, rfl, Ext.refl _, by omega, by simp⟩
              case round =>
                obtain ⟨k, last, hk, rfl, rfl, he3, hla, hfit⟩ := hrel
                have HF := Hd.mk hfit
                clear hfit
                by_cases hlt : k < m.length
                · obtain ⟨b2, off2, x, cs2, hb2, hx, ⟨A3, c3, rfl, hd3⟩, _, hcx⟩ := (HM.out.ext rcR_keeps (HE2.out.trans he3)).at hlt
                  injection hb2 with hb2
                  injection hb2 with e1 e2 _
                  subst e1; subst e2
                  have k0 : wr.cell? ⟨b, off + 8 + k * 8, none⟩ = some _ := hcx 0 _ rfl
                  have k1 := hcx 1 _ rfl
                  have k2 := hcx 2 _ rfl
                  have k3 := hcx 3 _ rfl
                  have k4 := hcx 4 _ rfl
                  have k5 := hcx 5 _ rfl
                  have k6 := hcx 6 _ rfl
                  have k7 := hcx 7 _ rfl
                  have a6 := he3.cell a6
                  have hmx : may x = true := by
                    have := List.all_eq_true.1 HA.out x (by rw [← hx]; simp)
                    exact this
                  have hnum := (may_num hmx).1
                  have hdat := may_data hmx
                  have HX := Hd.mk hx
                  have HD := Hd.mk hd3
                  have HE3 := Hd.mk he3
                  clear hcx hmx hx hd3 he3
                  go_wp2_with fail
                  obtain ⟨W0, hW0⟩ : ∃ W0, W0 = wr.alloc (.cells #[.int .i64 x.kind, .int .i64 x.shard, .int .i64 x.snap, .int .i64 x.base, .int .i64 x.map, .int .i64 x.off, .int .i64 x.len, .slice A3 x.data.length c3] 24) := ⟨_, rfl⟩
                  have e0 : Ext wr W0 := by rw [hW0]; exact (Ext.refl wr).alloc _
                  have t0 : W0.cell? ⟨wr.heap.size, 0, none⟩ = some (.int .i64 x.kind) := by rw [hW0]; go_simp
                  have t1 : W0.cell? ⟨wr.heap.size, 1, none⟩ = some (.int .i64 x.shard) := by rw [hW0]; go_simp
                  have t2 : W0.cell? ⟨wr.heap.size, 2, none⟩ = some (.int .i64 x.snap) := by rw [hW0]; go_simp
                  have t3 : W0.cell? ⟨wr.heap.size, 3, none⟩ = some (.int .i64 x.base) := by rw [hW0]; go_simp
                  have t4 : W0.cell? ⟨wr.heap.size, 4, none⟩ = some (.int .i64 x.map) := by rw [hW0]; go_simp
                  have t5 : W0.cell? ⟨wr.heap.size, 5, none⟩ = some (.int .i64 x.off) := by rw [hW0]; go_simp
                  have t6 : W0.cell? ⟨wr.heap.size, 6, none⟩ = some (.int .i64 x.len) := by rw [hW0]; go_simp
                  have t7 : W0.cell? ⟨wr.heap.size, 7, none⟩ = some (.slice A3 x.data.length c3) := by rw [hW0]; go_simp
                  have a6 := e0.cell a6
                  have HD0 := Hd.mk (HD.out.ext e0)
                  have HE0 := Hd.mk (HE3.out.trans e0)
                  rw [← hW0]
                  clear k0 k1 k2 k3 k4 k5 k6 k7 hW0 e0
                  refine (op_calls x A3 c3 W0 HD0.out (by omega) hnum).mono ?_
                  rintro e w4 ⟨A4, c4, rfl, hs4, he4⟩
                  have HS4 := Hd.mk hs4
                  have HE4 := Hd.mk he4
                  clear hs4 he4
                  go_wp2_with fail
                  refine (blocks_Range_calls (opOf x) A4 c4 w4).mono ?_
                  rintro e w5 ⟨rfl, he5⟩
                  have he5 := HE4.out.trans he5
                  have HE5 := Hd.mk he5
                  have a6 := fun x : FrOf NoF w5 => x.c (he5.cell a6)
                  have t0 := fun x : FrOf NoF w5 => x.c (he5.cell t0)
                  have t1 := fun x : FrOf NoF w5 => x.c (he5.cell t1)
                  have t2 := fun x : FrOf NoF w5 => x.c (he5.cell t2)
                  have t3 := fun x : FrOf NoF w5 => x.c (he5.cell t3)
                  have t4 := fun x : FrOf NoF w5 => x.c (he5.cell t4)
                  have t5 := fun x : FrOf NoF w5 => x.c (he5.cell t5)
                  have t6 := fun x : FrOf NoF w5 => x.c (he5.cell t6)
                  have t7 := fun x : FrOf NoF w5 => x.c (he5.cell t7)
                  have HD5 := Hd.mk (HD0.out.ext he5)
                  clear he5
                  have hrc := fun A c w => Right_calls r0.len (opOf x) A c w
                  generalize hrt : right r0.len (opOf x) = z at hrc
                  have HRC := Hd.mk hrc
                  clear hrc
                  have HRT := Hd.mk hrt
                  clear hrt
                  cases z with
                  | false =>
                    go_wp2_with fail
                    refine wp_region_pl NoF w5 (.pur 0 (.pur 1 (.pur 2 (.pur 3 (.pur 4 (.one 5 (.one 6 (.pur 7 (.pur 8 (.pur 9 (.pur 10 (.pur 11 (.pur 12 (.done)))))))))))))) (by kernel_rfl) (by kernel_rfl) (by kernel_rfl) (fun _ _ d _ _ h => by cases d <;> exact h) (Fr.refl _ _) ?_
                    repeat (first | (refine wpPl_skip (by rfl) (by rfl) ?_; simp only [Act.put, List.setIfInBounds_toArray, List.set_cons_zero, List.set_cons_succ]) | (refine wpPl_pur (by rfl) (by rfl) ?_; apply Exists.intro; refine ⟨fun x => ?_, ?_⟩; (focus (go_simp <;> with_reducible rfl)); simp only [Act.put, List.setIfInBounds_toArray, List.set_cons_zero, List.set_cons_succ]))
                    refine wpPl_one (by rfl) (by rfl) (fun K hK => ?_)
                    go_wp2_with fail
                    refine (op_calls x A3 c3 w5.drew (HD5.out.ext (Ext.refl w5).drew) (by omega) hnum).mono ?_
                    rintro e w6 ⟨A6, c6, rfl, hs6, he6⟩
                    refine hK _ _ (((Ext.refl w5).drew.trans he6).fr NoF) ?_
                    clear hK
                    refine wpPl_one (by rfl) (by rfl) (fun K hK => ?_)
                    go_wp2_with fail
                    refine (HRC.out A6 c6 w6).mono ?_
                    rintro e w7 ⟨rfl, he7⟩
                    have HE7 := Hd.mk (((Ext.refl w5).drew.trans he6).trans he7)
                    refine hK _ _ (HE7.out.fr NoF) ?_
                    clear hK he6 he7 hs6
                    repeat (first | (refine wpPl_skip (by rfl) (by rfl) ?_; simp only [Act.put, List.setIfInBounds_toArray, List.set_cons_zero, List.set_cons_succ]) | (refine wpPl_pur (by rfl) (by rfl) ?_; apply Exists.intro; refine ⟨fun x => ?_, ?_⟩; (focus (go_simp <;> with_reducible rfl)); simp only [Act.put, List.setIfInBounds_toArray, List.set_cons_zero, List.set_cons_succ]))
                    refine wpPl_done ?_
                    clear a6 t0 t1 t2 t3 t4 t5 t6 t7
                    go_wp2
                    go_ret
                    exact ⟨ret_int (by
                      have hf : fit r0.len 0 m = false := by rw [HF.out, List.drop_eq_getElem_cons hlt, fit, HX.out, HRT.out]; rfl
                      rw [HCK.out, if_neg (by have := H6.out; omega), hf]; rfl), (HE2.out.trans (HE0.out.trans (HE5.out.trans HE7.out)))⟩
                  | true =>
                    have hrr := HRT.out
                    rw [right_iff] at hrr
                    have hlo := hrr.2.2.1
                    have hlo2 := hrr.2.2.2.1
                    have hlo3 := hrr.2.2.2.2.1
                    have hlo4 := hrr.2.2.2.2.2.1
                    clear hrr
                    by_cases hll : (opOf x).o < last
                    · have hb : decide ((opOf x).o < last) = true := decide_eq_true hll
                      go_wp2_with fail
                      refine wp_region_pl NoF w5 (.pur 0 (.pur 1 (.pur 2 (.pur 3 (.pur 4 (.one 5 (.one 6 (.pur 7 (.pur 8 (.pur 9 (.pur 10 (.pur 11 (.pur 12 (.done)))))))))))))) (by kernel_rfl) (by kernel_rfl) (by kernel_rfl) (fun _ _ d _ _ h => by cases d <;> exact h) (Fr.refl _ _) ?_
                      repeat (first | (refine wpPl_skip (by rfl) (by rfl) ?_; simp only [Act.put, List.setIfInBounds_toArray, List.set_cons_zero, List.set_cons_succ]) | (refine wpPl_pur (by rfl) (by rfl) ?_; apply Exists.intro; refine ⟨fun x => ?_, ?_⟩; (focus (go_simp <;> with_reducible rfl)); simp only [Act.put, List.setIfInBounds_toArray, List.set_cons_zero, List.set_cons_succ]))
                      refine wpPl_one (by rfl) (by rfl) (fun K hK => ?_)
                      go_wp2_with fail
                      refine (op_calls x A3 c3 w5.drew (HD5.out.ext (Ext.refl w5).drew) (by omega) hnum).mono ?_
                      rintro e w6 ⟨A6, c6, rfl, hs6, he6⟩
                      refine hK _ _ (((Ext.refl w5).drew.trans he6).fr NoF) ?_
                      clear hK
                      refine wpPl_one (by rfl) (by rfl) (fun K hK => ?_)
                      go_wp2_with fail
                      refine (HRC.out A6 c6 w6).mono ?_
                      rintro e w7 ⟨rfl, he7⟩
                      have HE7 := Hd.mk (((Ext.refl w5).drew.trans he6).trans he7)
                      refine hK _ _ (HE7.out.fr NoF) ?_
                      clear hK he6 he7 hs6
                      repeat (first | (refine wpPl_skip (by rfl) (by rfl) ?_; simp only [Act.put, List.setIfInBounds_toArray, List.set_cons_zero, List.set_cons_succ]) | (refine wpPl_pur (by rfl) (by rfl) ?_; apply Exists.intro; refine ⟨fun x => ?_, ?_⟩; (focus (go_simp <;> with_reducible rfl)); simp only [Act.put, List.setIfInBounds_toArray, List.set_cons_zero, List.set_cons_succ]))
                      refine wpPl_done ?_
                      clear a6 t0 t1 t2 t3 t4 t5 t6 t7
                      go_wp2
                      go_ret
                      exact ⟨ret_int (by
                        have hf : fit r0.len 0 m = false := by rw [HF.out, List.drop_eq_getElem_cons hlt, fit, HX.out, HRT.out]; simp; omega
                        rw [HCK.out, if_neg (by have := H6.out; omega), hf]; rfl), (HE2.out.trans (HE0.out.trans (HE5.out.trans HE7.out)))⟩
                    · have hb : decide ((opOf x).o < last) = false := decide_eq_false hll
                      go_wp2_with fail
                      refine wp_region_pl NoF w5 (.pur 0 (.pur 1 (.pur 2 (.pur 3 (.pur 4 (.one 5 (.one 6 (.pur 7 (.pur 8 (.pur 9 (.pur 10 (.pur 11 (.pur 12 (.done)))))))))))))) (by kernel_rfl) (by kernel_rfl) (by kernel_rfl) (fun _ _ d _ _ h => by cases d <;> exact h) (Fr.refl _ _) ?_
                      repeat (first | (refine wpPl_skip (by rfl) (by rfl) ?_; simp only [Act.put, List.setIfInBounds_toArray, List.set_cons_zero, List.set_cons_succ]) | (refine wpPl_pur (by rfl) (by rfl) ?_; apply Exists.intro; refine ⟨fun x => ?_, ?_⟩; (focus (go_simp <;> with_reducible rfl)); simp only [Act.put, List.setIfInBounds_toArray, List.set_cons_zero, List.set_cons_succ]))
                      refine wpPl_one (by rfl) (by rfl) (fun K hK => ?_)
                      go_wp2_with fail
                      refine (op_calls x A3 c3 w5.drew (HD5.out.ext (Ext.refl w5).drew) (by omega) hnum).mono ?_
                      rintro e w6 ⟨A6, c6, rfl, hs6, he6⟩
                      refine hK _ _ (((Ext.refl w5).drew.trans he6).fr NoF) ?_
                      clear hK
                      refine wpPl_one (by rfl) (by rfl) (fun K hK => ?_)
                      go_wp2_with fail
                      refine (HRC.out A6 c6 w6).mono ?_
                      rintro e w7 ⟨rfl, he7⟩
                      have HE7 := Hd.mk (((Ext.refl w5).drew.trans he6).trans he7)
                      refine hK _ _ (HE7.out.fr NoF) ?_
                      clear hK he6 he7 hs6
                      repeat (first | (refine wpPl_skip (by rfl) (by rfl) ?_; simp only [Act.put, List.setIfInBounds_toArray, List.set_cons_zero, List.set_cons_succ]) | (refine wpPl_pur (by rfl) (by rfl) ?_; apply Exists.intro; refine ⟨fun x => ?_, ?_⟩; (focus (go_simp <;> with_reducible rfl)); simp only [Act.put, List.setIfInBounds_toArray, List.set_cons_zero, List.set_cons_succ]))
                      refine wpPl_done ?_
                      clear a6 t0 t1 t2 t3 t4 t5 t6 t7
                      go_wp2
                      refine ⟨?_, by simp [intOf]; omega⟩
                      (repeat apply Exists.intro)
                      refine ⟨⟨k + 1, (opOf x).o + (opOf x).n, by omega, by go_num, rfl, HE0.out.trans (HE5.out.trans HE7.out), by omega, by
                        rw [HF.out, List.drop_eq_getElem_cons hlt, fit, HX.out, HRT.out, decide_eq_true (by omega : last ≤ (opOf x).o)]; rfl⟩, ?_⟩
                      rfl
                · have b6 := he3.cell b6
                  have HE3 := Hd.mk (HE2.out.trans he3)
                  have hkk : m.drop k = [] := by simp; omega
                  have HT : Hd (fit r0.len 0 m = true) := ⟨by rw [HF.out, hkk]; rfl⟩
                  clear hkk
                  by_cases ht : t.len = m.length
                  · have g9 : (t.len != (m.length : Int)) = false := by simpa using ht
                    have H9 := Hd.mk ht
                    clear ht
                    go_wp2
                    go_ret
                    exact ⟨ret_int (by rw [HCK.out, if_neg (by have := H6.out; omega), HT.out, if_pos rfl, if_pos H9.out]), HE3.out⟩
                  · have g9 : (t.len != (m.length : Int)) = true := by simpa using ht
                    have H9 := Hd.mk ht
                    clear ht
                    go_wp2
                    go_ret
                    exact ⟨ret_int (by rw [HCK.out, if_neg (by have := H6.out; omega), HT.out, if_pos rfl, if_neg H9.out]), HE3.out⟩
        · have g1 : (r0.kind != 1) = false := by simpa using e1
          have g2 : (t.kind != 4) = true := by simpa using e2
          have E2 := Hd.mk e2
          clear e1 e2
          go_wp2_with fail
          all_goals go_ret
          all_goals exact ⟨ret_int (by rw [check_of r0 m t HA.out]; simp [checkS, E2.out]), HE1.out⟩
      · have g1 : (r0.kind != 1) = true := by simpa using e1
        have E1 := Hd.mk e1
        clear e1
        go_wp2_with fail
        all_goals go_ret
        all_goals exact ⟨ret_int (by rw [check_of r0 m t HA.out]; simp [checkS, E1.out]), HE1.out⟩
end Go.Proofs.Ytipoegmheiapgaa
