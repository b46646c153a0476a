/- The reference's records: op, order, Check. -/
import Derived.Test.YtipoegmheiapgaaS5
namespace Go.Proofs.Ytipoegmheiapgaa
set_option linter.unusedVariables false
set_option linter.unusedSimpArgs false
open Go.RowKit

theorem opOf_w {r : Rc} (h : may r = true) (hk : r.kind = 2) : opOf r = ⟨1, r.off, 0, r.data⟩ := by
  simp [may, Rc.form, hk] at h
  simp [opOf, hk, h.2]
theorem opOf_t {r : Rc} (h : may r = true) (hk : r.kind = 3) : opOf r = ⟨2, r.off, r.len, []⟩ := by
  simp [may, Rc.form, hk] at h
  simp [opOf, hk, h.2]

set_option maxHeartbeats 1000000 in
set_option maxRecDepth 100000 in
theorem Rop_calls (r : Rc) (A : Option Addr) (c : Nat) (w : World) (hs : Sc vU w A c r.data) (hm : may r = true) (hb : between r = true) :
    Calls Try.prog 68 #[rcV r A c] w fun e w' => ∃ A' c', e = .returned (opV (opOf r) A' c') ∧ Sc vU w' A' c' (opOf r).data ∧ Ext w w' := by
  have HS := Hd.mk hs
  clear hs
  obtain ⟨W0, hW0⟩ : ∃ W0, W0 = (w.alloc (.cells #[.int .i64 r.kind, .int .i64 r.shard, .int .i64 r.snap, .int .i64 r.base, .int .i64 r.map, .int .i64 r.off, .int .i64 r.len, .slice A r.data.length c] 24)).alloc (.cells #[.int .i64 0, .int .i64 0, .int .i64 0, .slice none 0 0] 56) := ⟨_, rfl⟩
  by_cases hk : r.kind = 2
  · have g1 : (r.kind == 2) = true := by simpa using hk
    have HO := Hd.mk (opOf_w hm hk)
    clear hk hm hb hW0
    go_enter Try.func68, Try.ntmps68
    go_wp2_with fail
    refine bodyPost_ret (v := .agg #[.int .i64 1, .int .i64 r.off, .int .i64 0, .slice A r.data.length c]) (by simp [results, Try.results68, go_sem]) rfl ?_
    rw [HO.out]
    refine ⟨A, c, rfl, HS.out.ext ?_, ?_⟩ <;> (repeat (first | exact Ext.refl _ | (refine Ext.set ?_ (by simp) _) | refine Ext.alloc ?_ _ | refine Ext.drew ?_))
  · have g1 : (r.kind == 2) = false := by simpa using hk
    have h3 : r.kind = 3 := by simp [between] at hb; omega
    have HO := Hd.mk (opOf_t hm h3)
    clear hk hm hb hW0 h3
    go_enter Try.func68, Try.ntmps68
    go_wp2_with fail
    refine bodyPost_ret (v := .agg #[.int .i64 2, .int .i64 r.off, .int .i64 r.len, .slice none 0 0]) (by simp [results, Try.results68, go_sem]) rfl ?_
    rw [HO.out]
    refine ⟨none, 0, rfl, Sc.nil _ _, ?_⟩ <;> (repeat (first | exact Ext.refl _ | (refine Ext.set ?_ (by simp) _) | refine Ext.alloc ?_ _ | refine Ext.drew ?_))

def orderB (a : Rc) (m : List Rc) (t : Rc) : Bool := decide (a.kind = 1) && decide (t.kind = 4) && m.all (fun r => !(r.kind == 1) && !(r.kind == 4))
set_option maxHeartbeats 2000000 in
set_option maxRecDepth 100000 in
theorem order_short (A : Option Addr) (c : Nat) (l : List Rc) (w : World) (hl : l.length < 2) :
    Calls Try.prog 67 #[.slice A l.length c] w fun e w' => e = .returned (.bool false) ∧ Ext w w' := by
  go_enter Try.func67, Try.ntmps67
  go_wp2
  go_ret
  exact ⟨rfl, Ext.refl _⟩
set_option maxHeartbeats 2000000 in
set_option maxRecDepth 100000 in
theorem order_calls (A : Option Addr) (c : Nat) (a t : Rc) (m : List Rc) (w : World) (hr : Sm 8 rcR w A c (a :: (m ++ [t]))) (hN : m.length ≤ 4294967296) :
    Calls Try.prog 67 #[.slice A (m.length + 2) c] w fun e w' => e = .returned (.bool (orderB a m t)) ∧ w = w' := by
  have hc1 := hr.1
  have hc2 := hr.2.1
  unfold maxLen at hc2
  have hlen : (a :: (m ++ [t])).length = m.length + 2 := by simp
  rw [hlen] at hc1
  obtain ⟨b, off, x, cs, rfl, hx, ⟨A1, c1, rfl, hd1⟩, _, hcx⟩ := hr.at (i := 0) (by simp)
  obtain ⟨b', off', y, cs', hb', hy, ⟨A2, c2, rfl, hd2⟩, _, hcy⟩ := hr.at (i := m.length + 1) (by simp)
  injection hb' with hb'
  injection hb' with hb1 hb2 _
  subst hb1; subst hb2
  simp only [List.getElem_cons_zero] at hx
  subst hx
  have hy : t = y := by simpa using hy
  subst hy
  have a0 : w.cell? ⟨b, off, none⟩ = some (.int .i64 a.kind) := by simpa using hcx 0 _ rfl
  have b0 : w.cell? ⟨b, off + (m.length + 1) * 8, none⟩ = some (.int .i64 t.kind) := hcy 0 _ rfl
  have HM := hr.cut (i := 1) (j := m.length + 1) (by omega) (by rw [hlen]; omega)
  rw [show (List.take (m.length + 1) (a :: (m ++ [t]))).drop 1 = m by simp] at HM
  simp only [Nat.one_mul] at HM
  have HM := Hd.mk HM
  clear hcx hcy hd1 hd2 hlen hr
  have q3 : (0 : Int) < (m.length : Int) + 2 := by omega
  have q1 : decide ((m.length : Int) + 2 < 2) = false := decide_eq_false (by omega)
  by_cases e1 : a.kind = 1
  · by_cases e2 : t.kind = 4
    · have g1 : (a.kind != 1) = false := by simpa using e1
      have g2 : (t.kind != 4) = false := by simpa using e2
      have E1 := Hd.mk e1
      have E2 := Hd.mk e2
      clear e1 e2
      go_enter Try.func67, Try.ntmps67
      go_wp2_with fail
      go_loop [4] (fun i => ∃ k : Nat, k ≤ m.length ∧ i = .int .i64 ((k : Int) + 1) ∧ ∀ j (hj : j < m.length), j < k → (!(m[j].kind == 1) && !(m[j].kind == 4)) = true) (fun i => m.length + 1 - (intOf i).toNat)
      case atStart => exact ⟨0, Nat.zero_le _, rfl, fun j _ h => absurd h (by omega)⟩
      case round =>
        obtain ⟨k, hk, rfl, hf⟩ := hrel
        have HF := Hd.mk hf
        clear hf
        by_cases hlt : k < m.length
        · obtain ⟨b2, off2, x, cs2, hb2, hx, ⟨A3, c3, rfl, hd3⟩, _, hcx⟩ := HM.out.at hlt
          injection hb2 with hb2
          injection hb2 with e1 e2 _
          subst e1; subst e2
          have k0 : w.cell? ⟨b, off + (k + 1) * 8, none⟩ = some (.int .i64 x.kind) := by
            have := hcx 0 _ rfl
            rw [show off + 8 + k * 8 + 0 = off + (k + 1) * 8 by omega] at this
            exact this
          have HX := Hd.mk hx
          clear hx hd3 hcx
          by_cases h1 : x.kind = 1 ∨ x.kind = 4
          · have HNO := Hd.mk (show orderB a m t = false from by
              rw [orderB, Bool.and_eq_false_iff]
              refine .inr (List.all_eq_false.2 ⟨m[k], List.getElem_mem hlt, ?_⟩)
              rw [HX.out]
              rcases h1 with h | h <;> simp [h])
            by_cases h1' : x.kind = 1
            · have g3 : (x.kind == 1) = true := by simpa using h1'
              clear h1 h1'
              go_wp2
              go_ret
              exact ⟨ret_bool HNO.out.symm, rfl⟩
            · have g3 : (x.kind == 1) = false := by simpa using h1'
              have g4 : (x.kind == 4) = true := by simpa using h1.resolve_left h1'
              clear h1 h1'
              go_wp2
              go_ret
              exact ⟨ret_bool HNO.out.symm, rfl⟩
          · have g3 : (x.kind == 1) = false := by simpa using fun h => h1 (.inl h)
            have g4 : (x.kind == 4) = false := by simpa using fun h => h1 (.inr h)
            have HG := Hd.mk (And.intro g3 g4)
            clear h1
            go_wp2
            go_round
            case rel => exact ⟨k + 1, by omega, by go_num, fun j hj hjk => by
                rcases Nat.lt_or_ge j k with h | h
                · exact HF.out j hj h
                · obtain rfl : j = k := by omega
                  rw [HX.out, HG.out.1, HG.out.2]; rfl⟩
            case measure => simp [intOf]; omega
        · go_wp2
          go_ret
          exact ⟨ret_bool (by
            rw [orderB, decide_eq_true E1.out, decide_eq_true E2.out, Bool.and_self, Bool.true_and]
            refine (List.all_eq_true.2 fun x hx => ?_).symm
            obtain ⟨j, hj, rfl⟩ := List.getElem_of_mem hx
            exact HF.out j hj (by omega)), rfl⟩
    · have g1 : (a.kind != 1) = false := by simpa using e1
      have g2 : (t.kind != 4) = true := by simpa using e2
      have E2 := Hd.mk e2
      clear e1 e2
      go_enter Try.func67, Try.ntmps67
      go_wp2_with fail
      go_ret
      exact ⟨ret_bool (by rw [orderB, decide_eq_false E2.out]; simp), rfl⟩
  · have g1 : (a.kind != 1) = true := by simpa using e1
    have E1 := Hd.mk e1
    clear e1
    go_enter Try.func67, Try.ntmps67
    go_wp2_with fail
    go_ret
    exact ⟨ret_bool (by rw [orderB, decide_eq_false E1.out]; simp), rfl⟩
end Go.Proofs.Ytipoegmheiapgaa
