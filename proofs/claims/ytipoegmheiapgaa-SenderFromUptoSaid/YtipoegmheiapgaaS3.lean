/- What a load is: Parse, on what Load wrote; Base. -/
import Derived.Test.YtipoegmheiapgaaS2
import Derived.Test.YtipoegmheiapgaaA4
namespace Go.Proofs.Ytipoegmheiapgaa
set_option linter.unusedVariables false
set_option linter.unusedSimpArgs false
open Go.RowKit

set_option maxRecDepth 100000 in
theorem Index_int (A : Option Addr) (c : Nat) (xs : List Int) (v : Int) (w : World) (hr : Sc vI w A c xs) :
    Calls Try.prog 89 #[.slice A xs.length c, .int .i64 v] w fun e w' => e = .returned (.int .i64 (idx (· == v) xs)) ∧ Ext w w' := by
  have hc := hr.1
  have hm := hr.2.1
  unfold maxLen at hm
  go_enter Try.func89, Try.ntmps89
  go_wp2
  go_loop [5, 8] (fun _ i => ∃ k : Nat, k ≤ xs.length ∧ i = .int .i64 k ∧ ∀ j (hj : j < xs.length), j < k → (xs[j] == v) = false) (fun _ i => xs.length - (intOf i).toNat)
  case atStart => exact ⟨0, Nat.zero_le _, rfl, fun j _ h => absurd h (by omega)⟩
  case round =>
    obtain ⟨k, hk, rfl, hf⟩ := hrel
    have HF := Hd.mk hf
    clear hf
    by_cases hlt : k < xs.length
    · obtain ⟨b, off, x, rfl, hx, hcell⟩ := hr.at hlt
      have HX := Hd.mk hx
      clear hr hx
      by_cases hv : x = v
      · have g1 : (v == x) = true := by simpa using hv.symm
        have HV := Hd.mk hv
        clear hv
        go_wp2
        go_ret
        exact ⟨ret_int (idx_at xs _ k hlt HF.out (by rw [HX.out, HV.out]; simp)).symm, Ext.refl _⟩
      · have g1 : (v == x) = false := by simpa using fun e => hv e.symm
        have HV := Hd.mk hv
        clear hv
        go_wp2
        go_round
        case rel => exact ⟨k + 1, by omega, by go_num, fun j hj hjk => by
            rcases Nat.lt_or_ge j k with h | h
            · exact HF.out j hj h
            · obtain rfl : j = k := by omega
              rw [HX.out]; simpa using HV.out⟩
        case measure => simp [intOf]; omega
    · go_wp2
      go_ret
      exact ⟨ret_int (idx_none xs _ (fun j hj => HF.out j hj (by omega))).symm, Ext.refl _⟩

set_option maxRecDepth 100000 in
theorem Contains_int (A : Option Addr) (c : Nat) (xs : List Int) (v : Int) (w : World) (hr : Sc vI w A c xs) :
    Calls Try.prog 65 #[.slice A xs.length c, .int .i64 v] w fun e w' => e = .returned (.bool (xs.any (· == v))) ∧ Ext w w' := by
  have HR := Hd.mk hr
  clear hr
  go_enter Try.func65, Try.ntmps65
  go_wp2_with fail
  refine (Index_int A c xs v w HR.out).mono ?_
  rintro e w1 ⟨rfl, he⟩
  have HE := Hd.mk he
  clear he
  go_wp2
  go_ret
  exact ⟨ret_bool (idx_any xs _), HE.out⟩

def baseOf (there : Int) (mine : List Int) : Int := if mine.any (· == there) then there else 0
set_option maxRecDepth 100000 in
theorem Base_calls (there : Int) (A : Option Addr) (c : Nat) (mine : List Int) (w : World) (hr : Sc vI w A c mine) :
    Calls Try.prog 39 #[.int .i64 there, .slice A mine.length c] w fun e w' => e = .returned (.int .i64 (baseOf there mine)) ∧ Ext w w' := by
  have HR := Hd.mk hr
  clear hr
  go_enter Try.func39, Try.ntmps39
  go_wp2_with fail
  refine (Contains_int A c mine there w HR.out).mono ?_
  rintro e w1 ⟨rfl, he⟩
  have HE := Hd.mk he
  clear he
  generalize hz : mine.any (· == there) = z
  have HZ := Hd.mk hz
  clear hz
  cases z with
  | true =>
    go_wp2
    go_ret
    exact ⟨by rw [baseOf, HZ.out]; rfl, HE.out⟩
  | false =>
    go_wp2
    go_ret
    exact ⟨by rw [baseOf, HZ.out]; rfl, HE.out⟩

theorem Om.base' {α : Type} {k : Nat} {R : World → α → List Value → Prop} {w : World} {base base' : Nat} {e : TypeId} {v : Value} {xs : List α} (h : Om k R w base e v xs) (hb : base' ≤ base) : Om k R w base' e v xs :=
  let ⟨cs, h1, h2⟩ := h; ⟨cs, h1, owns_base h2 hb⟩

set_option maxHeartbeats 4000000 in
set_option maxRecDepth 100000 in
theorem Parse_calls (A : Option Addr) (c i : Nat) (rs : List Rc) (w : World) (hs : Sc vB w A c (u64le (UInt64.ofNat i) ++ fileB rs)) (hi : i ≤ 2147483648) (hm : rs.all may = true) (hn : (fileB rs).length ≤ 1100) (h0 : rs ≠ []) :
    Calls Try.prog 19 #[.slice A (8 + (fileB rs).length) c] w fun e w' => ∃ v, e = .returned (.tuple #[.int .i64 (i : Int), v, .int .i64 0]) ∧ Omx (fun q => q < w.heap.size) 8 rcR w' w.heap.size 24 v rs ∧ Ext w w' := by
  obtain ⟨n, hnl⟩ : ∃ n, (fileB rs).length = n := ⟨_, rfl⟩
  have hlen : (u64le (UInt64.ofNat i) ++ fileB rs).length = 8 + n := by rw [List.length_append, u64le_len, hnl]
  have hrl : 76 * rs.length ≤ n := by
    rw [← hnl]
    clear hs hm hn h0 hlen hnl
    induction rs with
    | nil => simp
    | cons r rs ih => rw [fileB_cons, List.length_append, partB, List.length_append, u64le_len, recB_len, List.length_cons]; omega
  have hpos : 0 < rs.length := List.length_pos_iff.2 h0
  have HS := Hd.mk hs
  have HNX := Hd.mk (show nextU (u64le (UInt64.ofNat i) ++ fileB rs) 0 (UInt64.ofNat i) from by rw [nextU, List.drop_zero, List.take_append, u64le_len]; simp; rw [List.take_of_length_le (by rw [u64le_len]; omega)])
  have hc1 := hs.1
  have hc2 := hs.2.1
  unfold maxLen at hc2
  obtain ⟨d, off, rfl, _⟩ := hs.2.2 (by omega)
  rw [hlen] at hc1
  rw [hnl] at hn ⊢
  have HL := Hd.mk hlen
  have HN := Hd.mk hnl
  have HM := Hd.mk hm
  clear hs h0 hlen hnl hm
  go_enter Try.func19, Try.ntmps19
  go_wp2_with fail
  refine (packNew_calls (some ⟨d, off, none⟩) (8 + n) c w).mono ?_
  rintro e w1 ⟨rfl, hp, he1⟩
  obtain ⟨p, hpw⟩ : ∃ p, p = w.heap.size := ⟨_, rfl⟩
  rw [← hpw] at hp ⊢
  have HP := Hd.mk hp
  have HE1 := Hd.mk he1
  have HPW := Hd.mk (show w.heap.size ≤ p from by omega)
  clear hp he1 hpw
  rw [← HL.out] at HP
  go_wp2_with fail
  refine (Int_calls p (some ⟨d, off, none⟩) _ c 0 2147483648 i w1 HP.out (HS.out.ext HE1.out) HNX.out (by first | omega | (rw [HL.out]; omega)) (by first | omega | (rw [HL.out]; omega)) (by first | omega | (rw [HL.out]; omega))).mono ?_
  rintro e w2 ⟨rfl, hp2, hf2⟩
  have HE2 := Hd.mk (ext_fr HE1.out hf2 (fun q hq => by rw [hq]; exact HPW.out))
  have HP2 := Hd.mk hp2
  clear hp2 hf2
  go_wp2_with fail
  refine (packFault_calls p _ _ _ _ _ HP2.out).mono ?_
  rintro e w3 ⟨rfl, he3⟩
  have HE3 := Hd.mk (HE2.out.trans he3)
  clear he3
  go_wp2_with fail
  refine (streamNew_calls _).mono ?_
  rintro e w4 ⟨rfl, hq4, he4⟩
  obtain ⟨q, hqw⟩ : ∃ q, q = w3.heap.size := ⟨_, rfl⟩
  rw [← hqw] at hq4 ⊢
  have HQ4 := Hd.mk hq4
  have HE4 := Hd.mk (HE3.out.trans he4)
  have HQW := Hd.mk (show w.heap.size ≤ q from by rw [hqw]; exact HE3.out.size)
  have hc8 : ¬ c = 8 := by omega
  clear hq4 he4 hqw
  go_wp2_with fail
  have hsd : Sc vB w4 (some ⟨d, off + 8, none⟩) (c - 8) (fileB rs) := by
    have h1 := (HS.out.ext HE4.out).drop (n := 8) (by rw [HL.out]; omega)
    rw [List.drop_append, u64le_len] at h1
    rw [List.drop_eq_nil_of_le (by rw [u64le_len]; omega)] at h1
    simpa using h1
  rw [← HN.out] at hn ⊢
  refine (Feed_calls q _ _ rs _ HQ4.out HM.out hsd (by omega) (by omega)).mono ?_
  rintro e w5 ⟨v5, rfl, hom5, ⟨A5, c5, hb5⟩, hf5⟩
  obtain ⟨A6, c6, rfl, _⟩ := hom5.om.sm
  have HB5 := Hd.mk hb5
  have HOM5 := Hd.mk ((hom5.base' HE4.out.size).mono (G' := fun q => q < w.heap.size) (fun q hq => Nat.lt_of_lt_of_le hq HE4.out.size))
  have HE5 := Hd.mk (ext_fr HE4.out hf5 (fun x hx => by rw [hx]; exact HQW.out))
  have hr0 : ((rs.length : Int) == 0) = false := by rw [beq_eq_false_iff_ne]; omega
  clear hom5 hb5 hf5 hsd
  go_wp2_with fail
  refine (Waits_calls q A5 0 c5 _ _ HB5.out (by omega)).mono ?_
  rintro e w6 ⟨rfl, hd6⟩
  have HE56 := Hd.mk hd6.ext
  clear hd6
  go_wp2_with fail
  refine (rdFault_calls q _ _ _ (HE56.out.obj HB5.out)).mono ?_
  rintro e w7 ⟨rfl, he7⟩
  have HE57 := Hd.mk (HE56.out.trans he7)
  clear he7
  go_wp2_with fail
  go_ret3
  exact ⟨_, rfl, HOM5.out.ext HE57.out, HE5.out.trans HE57.out⟩
end Go.Proofs.Ytipoegmheiapgaa
