/- The reference's records: Check. -/
import Derived.Test.YtipoegmheiapgaaS6
namespace Go.Proofs.Ytipoegmheiapgaa
set_option linter.unusedVariables false
set_option linter.unusedSimpArgs false
open Go.RowKit

theorem kind_may {r : Rc} (h : may r = true) : r.kind = 1 ∨ r.kind = 2 ∨ r.kind = 3 ∨ r.kind = 4 := by
  rcases Int.lt_or_le r.kind 1 with h1 | h1
  · exfalso
    have : r.form = true := by simp [may] at h; exact h.2
    unfold Rc.form at this
    rw [if_neg (by omega), if_neg (by omega), if_neg (by omega), if_neg (by omega)] at this
    cases this
  · rcases Int.lt_or_le 4 r.kind with h2 | h2
    · exfalso
      have : r.form = true := by simp [may] at h; exact h.2
      unfold Rc.form at this
      rw [if_neg (by omega), if_neg (by omega), if_neg (by omega), if_neg (by omega)] at this
      cases this
    · omega
theorem order_eq {a t : Rc} {m : List Rc} (h : (a :: (m ++ [t])).all may = true) : orderB a m t = true ↔ a.kind = 1 ∧ t.kind = 4 ∧ m.all between = true := by
  have hm : ∀ r ∈ m, (!(r.kind == 1) && !(r.kind == 4)) = between r := by
    intro r hr
    have := kind_may (List.all_eq_true.1 h r (by simp [hr]))
    rw [Bool.eq_iff_iff]
    simp [between]
    omega
  rw [orderB, Bool.and_eq_true, Bool.and_eq_true, decide_eq_true_eq, decide_eq_true_eq, and_assoc]
  have : m.all (fun r => !(r.kind == 1) && !(r.kind == 4)) = m.all between := by
    rw [Bool.eq_iff_iff, List.all_eq_true, List.all_eq_true]
    exact ⟨fun h x hx => by rw [← hm x hx]; exact h x hx, fun h x hx => by rw [hm x hx]; exact h x hx⟩
  rw [this]
theorem check_order {a t : Rc} {m : List Rc} (h : (a :: (m ++ [t])).all may = true) (ho : orderB a m t = false) : check (a :: (m ++ [t])) = 14 := by
  rw [check_of a m t h, checkS, if_neg]
  intro h2
  rw [(order_eq h).2 h2] at ho
  cases ho

set_option maxHeartbeats 4000000 in
set_option maxRecDepth 100000 in
theorem RCheck_calls (A : Option Addr) (c : Nat) (l : List Rc) (w : World) (hr : Sm 8 rcR w A c l) (hN : l.length ≤ 4294967296) :
    Calls Try.prog 41 #[.slice A l.length c] w fun e w' => e = .returned (.int .i64 (check l)) ∧ Ext w w' := by
  have hc1 := hr.1
  have hc2 := hr.2.1
  unfold maxLen at hc2
  have HR := Hd.mk hr
  obtain ⟨n, hn⟩ : ∃ n, l.length = n := ⟨_, rfl⟩
  rw [hn] at hc1 hN ⊢
  have HN := Hd.mk hn
  clear hr hn
  go_enter Try.func41, Try.ntmps41
  go_wp2
  go_loopw [3] (fun i w1 => ∃ k : Nat, k ≤ n ∧ i = .int .i64 k ∧ Ext w w1 ∧ ∀ j (hj : j < l.length), j < k → may l[j] = true) (fun i _ => n - (intOf i).toNat)
  case atStart => exact ⟨0, Nat.zero_le _, rfl, Ext.refl _, fun j _ h => absurd h (by omega)⟩
  case round =>
    obtain ⟨k, hk, rfl, he, hf⟩ := hrel
    have HF := Hd.mk hf
    have HE := Hd.mk he
    clear hf he
    by_cases hlt : k < n
    · have hlt' : k < l.length := by rw [HN.out]; exact hlt
      obtain ⟨b, off, x, cs, rfl, hx, ⟨A', c', rfl, hd⟩, _, hcx⟩ := (HR.out.ext rcR_keeps HE.out).at hlt'
      have k0 : wr.cell? ⟨b, off + k * 8, none⟩ = some _ := hcx 0 _ rfl
      have k1 := hcx 1 _ rfl
      have k2 := hcx 2 _ rfl
      have k3 := hcx 3 _ rfl
      have k4 := hcx 4 _ rfl
      have k5 := hcx 5 _ rfl
      have k6 := hcx 6 _ rfl
      have k7 := hcx 7 _ rfl
      have HX := Hd.mk hx
      have HD := Hd.mk hd
      clear hx hd hcx
      go_wp2_with fail
      refine (RMay_calls x A' c' _ HD.out).mono ?_
      rintro e w2 ⟨rfl, he2⟩
      have HE2 := Hd.mk (HE.out.trans he2)
      clear he2 k0 k1 k2 k3 k4 k5 k6 k7
      generalize hz : may x = z
      have HZ := Hd.mk hz
      clear hz
      cases z with
      | false =>
        go_wp2
        go_ret
        exact ⟨ret_int (check_no (List.all_eq_false.2 ⟨_, List.getElem_mem hlt', by rw [HX.out, HZ.out]; simp⟩)).symm, HE2.out⟩
      | true =>
        go_wp2
        go_roundw
        case rel => exact ⟨k + 1, by omega, by go_num, HE2.out, fun j hj hjk => by
            rcases Nat.lt_or_ge j k with h | h
            · exact HF.out j hj h
            · obtain rfl : j = k := by omega
              rw [HX.out]; exact HZ.out⟩
        case measure => simp [intOf]; omega
    · have HA := Hd.mk (show l.all may = true from List.all_eq_true.2 fun x hx => by
        obtain ⟨j, hj, rfl⟩ := List.getElem_of_mem hx
        exact HF.out j hj (by have := HN.out; omega))
      by_cases h2 : n < 2
      · go_wp2_with fail
        rw [← HN.out]
        refine (order_short A c l wr (by rw [HN.out]; exact h2)).mono ?_
        rintro e w1 ⟨rfl, he1⟩
        have HE1 := Hd.mk (HE.out.trans he1)
        clear he1
        go_wp2
        go_ret
        exact ⟨ret_int (check_short HA.out (by rw [HN.out]; exact h2)).symm, HE1.out⟩
      · obtain ⟨r0, m, t, rfl⟩ := split_ends (by rw [HN.out]; omega : 2 ≤ l.length)
        have hlen : (r0 :: (m ++ [t])).length = m.length + 2 := by simp
        have hnm : n = m.length + 2 := by rw [← HN.out, hlen]
        subst hnm
        obtain rfl : k = m.length + 2 := by omega
        have HL := Hd.mk hlen
        clear hlen hlt
        go_wp2_with fail
        refine (order_calls A c r0 t m wr (HR.out.ext rcR_keeps HE.out) (by omega)).mono ?_
        rintro e w1 ⟨rfl, rfl⟩
        generalize hz : orderB r0 m t = z
        have HZ := Hd.mk hz
        clear hz
        cases z with
        | false =>
          go_wp2
          go_ret
          exact ⟨ret_int (check_order HA.out HZ.out).symm, HE.out⟩
        | true =>
          obtain ⟨e1, e2, e3⟩ := (order_eq HA.out).1 HZ.out
          have HBT := Hd.mk e3
          have HCK := Hd.mk (show check (r0 :: (m ++ [t])) = if 1024 < r0.len then 6 else if fit r0.len 0 m then (if t.len = m.length then 0 else 3) else 5 from by
            rw [check_of r0 m t HA.out, checkS, if_pos ⟨e1, e2, e3⟩])
          clear e1 e2 e3
          obtain ⟨b, off, x, cs, rfl, hx, ⟨A1, c1, rfl, hd1⟩, _, hcx⟩ := (HR.out.ext rcR_keeps HE.out).at (i := 0) (by simp)
          obtain ⟨b', off', y, cs', hb', hy, ⟨A2, c2, rfl, hd2⟩, _, hcy⟩ := (HR.out.ext rcR_keeps HE.out).at (i := m.length + 1) (by simp)
          injection hb' with hb'
          injection hb' with hb1 hb2 _
          subst hb1; subst hb2
          simp only [List.getElem_cons_zero] at hx
          subst hx
          have hy : t = y := by simpa using hy
          subst hy
          have a6 : wr.cell? ⟨b, off + 6, none⟩ = some (.int .i64 r0.len) := by simpa using hcx 6 _ rfl
          have b6 : wr.cell? ⟨b, off + (m.length + 1) * 8 + 6, none⟩ = some (.int .i64 t.len) := hcy 6 _ rfl
          have HM := (HR.out.ext rcR_keeps HE.out).cut (i := 1) (j := m.length + 1) (by omega) (by rw [HL.out]; omega)
          rw [show (List.take (m.length + 1) (r0 :: (m ++ [t]))).drop 1 = m by simp] at HM
          simp only [Nat.one_mul] at HM
          have HM := Hd.mk HM
          clear hcx hcy hd1 hd2
          have q3 : (0 : Int) < (m.length : Int) + 2 := by omega
          by_cases h6 : 1024 < r0.len
          · go_wp2
            go_ret
            exact ⟨ret_int (by rw [HCK.out, if_pos h6]), HE.out⟩
          · have H6 := Hd.mk h6
            have q2 : decide (1024 < r0.len) = false := decide_eq_false h6
            go_wp2
            go_loopw [4, 5] (fun v i w3 => ∃ (k : Nat) (last : Int), k ≤ m.length ∧ i = .int .i64 ((k : Int) + 1) ∧ v = .int .i64 last ∧ Ext wr w3 ∧ (0 ≤ last ∧ last ≤ 1024) ∧ fit r0.len 0 m = fit r0.len last (m.drop k)) (fun _ i _ => m.length + 1 - (intOf i).toNat)
            case atStart => exact ⟨0, 0, Nat.zero_le _, rfl, rfl, Ext.refl _, by omega, by simp⟩
            case round =>
              obtain ⟨k, last, hk, rfl, rfl, he3, hla, hfit⟩ := hrel
              have HF := Hd.mk hfit
              have HE3 := Hd.mk he3
              clear hfit he3
              by_cases hlt : k < m.length
              · obtain ⟨b2, off2, x, cs2, hb2, hx, ⟨A3, c3, rfl, hd3⟩, _, hcx⟩ := (HM.out.ext rcR_keeps HE3.out).at hlt
                injection hb2 with hb2
                injection hb2 with e1 e2 _
                subst e1; subst e2
                have k0 : wr.cell? ⟨b, off + (k + 1) * 8, none⟩ = some (.int .i64 x.kind) := by rw [show off + (k + 1) * 8 = off + 8 + k * 8 + 0 by omega]; exact hcx 0 _ rfl
                have k1 : wr.cell? ⟨b, off + (k + 1) * 8 + 1, none⟩ = some (.int .i64 x.shard) := by rw [show off + (k + 1) * 8 + 1 = off + 8 + k * 8 + 1 by omega]; exact hcx 1 _ rfl
                have k2 : wr.cell? ⟨b, off + (k + 1) * 8 + 2, none⟩ = some (.int .i64 x.snap) := by rw [show off + (k + 1) * 8 + 2 = off + 8 + k * 8 + 2 by omega]; exact hcx 2 _ rfl
                have k3 : wr.cell? ⟨b, off + (k + 1) * 8 + 3, none⟩ = some (.int .i64 x.base) := by rw [show off + (k + 1) * 8 + 3 = off + 8 + k * 8 + 3 by omega]; exact hcx 3 _ rfl
                have k4 : wr.cell? ⟨b, off + (k + 1) * 8 + 4, none⟩ = some (.int .i64 x.map) := by rw [show off + (k + 1) * 8 + 4 = off + 8 + k * 8 + 4 by omega]; exact hcx 4 _ rfl
                have k5 : wr.cell? ⟨b, off + (k + 1) * 8 + 5, none⟩ = some (.int .i64 x.off) := by rw [show off + (k + 1) * 8 + 5 = off + 8 + k * 8 + 5 by omega]; exact hcx 5 _ rfl
                have k6 : wr.cell? ⟨b, off + (k + 1) * 8 + 6, none⟩ = some (.int .i64 x.len) := by rw [show off + (k + 1) * 8 + 6 = off + 8 + k * 8 + 6 by omega]; exact hcx 6 _ rfl
                have k7 : wr.cell? ⟨b, off + (k + 1) * 8 + 7, none⟩ = some (.slice A3 x.data.length c3) := by rw [show off + (k + 1) * 8 + 7 = off + 8 + k * 8 + 7 by omega]; exact hcx 7 _ rfl
                have a6 := HE3.out.cell a6
                have hmx := List.all_eq_true.1 HA.out x (by rw [← hx]; simp)
                have hbx := List.all_eq_true.1 HBT.out x (by rw [← hx]; exact List.getElem_mem hlt)
                have HMX := Hd.mk hmx
                have HBX := Hd.mk hbx
                have HX := Hd.mk hx
                have HD := Hd.mk hd3
                clear hcx hmx hx hd3 hbx
                go_wp2_with fail
                refine (Rop_calls x A3 c3 _ HD.out HMX.out HBX.out).mono ?_
                rintro e w4 ⟨A4, c4, rfl, hs4, he4⟩
                have HS4 := Hd.mk hs4
                have HE4 := Hd.mk he4
                have a6 := he4.cell a6
                clear hs4 he4 k0 k1 k2 k3 k4 k5 k6 k7
                go_wp2_with fail
                refine (jackstayref08_Range_calls (opOf x) A4 c4 _).mono ?_
                rintro e w5 ⟨rfl, he5⟩
                have HE5 := Hd.mk (((Ext.refl w4).alloc _).trans he5)
                have HT := Hd.mk (he5.obj (heap_new w4 (.cells #[.int .i64 (opOf x).kind, .int .i64 (opOf x).off, .int .i64 (opOf x).len, .slice A4 (opOf x).data.length c4] 56)))
                clear he5
                have m6 : ∀ q : ExtOf w5, q.1.cell? ⟨b, off + 6, none⟩ = some (.int .i64 r0.len) := fun q => q.cell (HE5.out.cell a6)
                have t0 : ∀ q : ExtOf w5, q.1.cell? ⟨w4.heap.size, 0, none⟩ = some (.int .i64 (opOf x).kind) := fun q => q.cell (cell_obj (i := 0) HT.out)
                have t1 : ∀ q : ExtOf w5, q.1.cell? ⟨w4.heap.size, 1, none⟩ = some (.int .i64 (opOf x).off) := fun q => q.cell (cell_obj (i := 1) HT.out)
                have t2 : ∀ q : ExtOf w5, q.1.cell? ⟨w4.heap.size, 2, none⟩ = some (.int .i64 (opOf x).len) := fun q => q.cell (cell_obj (i := 2) HT.out)
                have t3 : ∀ q : ExtOf w5, q.1.cell? ⟨w4.heap.size, 3, none⟩ = some (.slice A4 (opOf x).data.length c4) := fun q => q.cell (cell_obj (i := 3) HT.out)
                have HRC := Hd.mk (fun q : ExtOf w5 => calls_ext (RRight_calls r0.len (opOf x) A4 c4 q.1))
                generalize hrt : right r0.len (opOf x) = z at HRC
                have HRT := Hd.mk hrt
                clear hrt
                cases z with
                | false =>
                  have HNO := Hd.mk (show fit r0.len 0 m = false from by rw [HF.out, List.drop_eq_getElem_cons hlt, fit, HX.out, HRT.out]; rfl)
                  go_wp2_with fail
                  refine wp_region_ext (by kernel_rfl) (by kernel_rfl) ?_
                  repeat (any_goals (first | go_big_quiet_step ((go_at_call 69; exact HRC.out _)) | quiet_step ((go_at_call 69; exact HRC.out _))))
                  refine wpQuiet_nil ?_
                  rintro _ ⟨⟨w6, he6⟩, rfl⟩
                  have HE6 := Hd.mk (HE.out.trans (HE3.out.trans (HE4.out.trans (HE5.out.trans he6))))
                  clear he6 m6 t0 t1 t2 t3
                  go_wp2
                  go_ret
                  exact ⟨ret_int (by rw [HCK.out, if_neg (by have := H6.out; omega), HNO.out]; rfl), HE6.out⟩
                | true =>
                  have hrr := HRT.out
                  rw [right_iff] at hrr
                  have hlo := hrr.2.2.1
                  have hlo2 := hrr.2.2.2.1
                  have hlo3 := hrr.2.2.2.2.1
                  have hlo4 := hrr.2.2.2.2.2.1
                  clear hrr
                  by_cases hll : (opOf x).o < last
                  · have hb : decide ((opOf x).o < last) = true := decide_eq_true hll
                    have HNO := Hd.mk (show fit r0.len 0 m = false from by rw [HF.out, List.drop_eq_getElem_cons hlt, fit, HX.out, HRT.out]; simp; omega)
                    go_wp2_with fail
                    refine wp_region_ext (by kernel_rfl) (by kernel_rfl) ?_
                    repeat (any_goals (first | go_big_quiet_step ((go_at_call 69; exact HRC.out _)) | quiet_step ((go_at_call 69; exact HRC.out _))))
                    refine wpQuiet_nil ?_
                    rintro _ ⟨⟨w6, he6⟩, rfl⟩
                    have HE6 := Hd.mk (HE.out.trans (HE3.out.trans (HE4.out.trans (HE5.out.trans he6))))
                    clear he6 m6 t0 t1 t2 t3
                    go_wp2
                    go_ret
                    exact ⟨ret_int (by rw [HCK.out, if_neg (by have := H6.out; omega), HNO.out]; rfl), HE6.out⟩
                  · have hb : decide ((opOf x).o < last) = false := decide_eq_false hll
                    go_wp2_with fail
                    refine wp_region_ext (by kernel_rfl) (by kernel_rfl) ?_
                    repeat (any_goals (first | go_big_quiet_step ((go_at_call 69; exact HRC.out _)) | quiet_step ((go_at_call 69; exact HRC.out _))))
                    refine wpQuiet_nil ?_
                    rintro _ ⟨⟨w6, he6⟩, rfl⟩
                    have HE6 := Hd.mk (HE3.out.trans (HE4.out.trans (HE5.out.trans he6)))
                    clear he6 m6 t0 t1 t2 t3
                    go_wp2
                    refine ⟨⟨k + 1, (opOf x).o + (opOf x).n, by omega, by go_num, rfl, HE6.out, by omega, ?_⟩, by simp [intOf]; omega⟩
                    rw [HF.out, List.drop_eq_getElem_cons hlt, fit, HX.out, HRT.out, decide_eq_true (by omega : last ≤ (opOf x).o)]; rfl
              · have b6 := HE3.out.cell b6
                have hkk : m.drop k = [] := by simp; omega
                have HT := Hd.mk (show fit r0.len 0 m = true from by rw [HF.out, hkk]; rfl)
                clear hkk
                by_cases ht : t.len = m.length
                · have g9 : (t.len != (m.length : Int)) = false := by simpa using ht
                  have H9 := Hd.mk ht
                  clear ht
                  go_wp2
                  go_ret
                  exact ⟨ret_int (by rw [HCK.out, if_neg (by have := H6.out; omega), HT.out, if_pos rfl, if_pos H9.out]), HE.out.trans HE3.out⟩
                · have g9 : (t.len != (m.length : Int)) = true := by simpa using ht
                  have H9 := Hd.mk ht
                  clear ht
                  go_wp2
                  go_ret
                  exact ⟨ret_int (by rw [HCK.out, if_neg (by have := H6.out; omega), HT.out, if_pos rfl, if_neg H9.out]), HE.out.trans HE3.out⟩
end Go.Proofs.Ytipoegmheiapgaa
