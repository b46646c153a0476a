/- Sums of bytes. -/
import Derived.Test.YtipoegmheiapgaaK1
namespace Go.Proofs.Ytipoegmheiapgaa
set_option linter.unusedVariables false
set_option linter.unusedSimpArgs false
open Go.RowKit

set_option maxHeartbeats 1000000 in
set_option maxRecDepth 100000 in
theorem Bytes_calls (base p : Nat) (v : Value) (bs : List UInt8) (w : World) (hw : Wr w base p v bs) (hN : bs.length ≤ 4294967296) :
    Calls Try.prog 44 #[.pointer (some ⟨p, 0, none⟩)] w fun e w' => ∃ v', e = .returned v' ∧ Os vB w' w.heap.size 5 v' bs ∧ Ext w w' := by
  obtain ⟨A, c, rfl, hsc⟩ := hw.own.sc
  have t0 := cell_obj (i := 0) hw.obj
  have HS := Hd.mk hsc
  have HW := Hd.mk hw
  clear hsc hw
  go_enter Try.func44, Try.ntmps44
  go_wp2_with fail
  refine (Clone_uint8 A c bs w HS.out hN).mono ?_
  rintro e w1 ⟨v', rfl, ho, he⟩
  have HO := Hd.mk ho
  have HE := Hd.mk he
  clear ho he
  go_wp2
  go_ret
  exact ⟨_, rfl, HO.out, HE.out⟩

theorem u32_low (s : Nat) (hs : s < 4294967296) : (bits BinOp.and IntKind.u32 (s : Int) 65535) = ((s % 65536 : Nat) : Int) := by
  have h := u32_and_nat s 65535 hs (by omega)
  rw [show ((65535 : Int)) = ((65535 : Nat) : Int) from rfl, h]
  congr 1
  exact Nat.and_two_pow_sub_one_eq_mod s 16
theorem u32_join (a b : Nat) (ha : a < 65536) (hb : b < 65536) : (bits BinOp.or IntKind.u32 ((a : Int) * 65536) (b : Int)) = ((a * 65536 + b : Nat) : Int) := by
  have h := u32_or_nat (a * 65536) b (by omega) (by omega)
  rw [show ((a : Int) * 65536) = ((a * 65536 : Nat) : Int) by simp, h]
  congr 1
  have := Nat.two_pow_add_eq_or_of_lt (i := 16) (b := b) (by omega) a
  rw [Nat.mul_comm a 65536]
  simpa using this.symm
theorem u32_wrap {n : Int} (h0 : 0 ≤ n) (h1 : n < 4294967296) : IntKind.u32.wrap n = n := by
  simp [IntKind.wrap, IntKind.signed, IntKind.bits]; omega

set_option maxHeartbeats 4000000 in
set_option maxRecDepth 100000 in
theorem More_calls (s : Nat) (hs : s < 4294967296) (A : Option Addr) (c : Nat) (bs : List UInt8) (w : World) (hr : Sc vB w A c bs) (hN : bs.length ≤ 4294967296) :
    Calls Try.prog 108 #[.int .u32 (s : Int), .slice A bs.length c] w fun e w' => e = .returned (.int .u32 (moreF s bs : Int)) ∧ Dr w w' := by
  have hlow := u32_low s hs
  go_enter Try.func108, Try.ntmps108
  go_wp2
  go_loopw [1, 5, 6] (fun u lo hi w1 => ∃ (done rest : List UInt8) (A' : Option Addr) (c' : Nat) (P : Nat × Nat), bs = done ++ rest ∧ u = .slice A' rest.length c' ∧ Sc vB w1 A' c' rest ∧ P = done.foldl sumStep (s % 65536 % 65521, s / 65536 % 65521) ∧ lo = .int .u32 (P.1 : Int) ∧ hi = .int .u32 (P.2 : Int) ∧ Dr w w1) (fun u _ _ _ => match u with | .slice _ n _ => n | _ => 0)
  case atStart =>
    refine ⟨[], bs, A, c, _, rfl, rfl, hr, rfl, ?_, ?_, Dr.refl _⟩
    · simp [hlow]
    · simp
  case round =>
    obtain ⟨done, rest, A', c', P, hbs, rfl, hsc, hP, rfl, rfl, hdr⟩ := hrel
    have HS := Hd.mk hsc
    have HP := Hd.mk hP
    have HD := Hd.mk hdr
    have HB := Hd.mk hbs
    have hlen : rest.length ≤ bs.length := by rw [hbs]; simp
    have hlt1 : P.1 < 65521 ∧ P.2 < 65521 := by rw [hP]; exact fold_lt _ _ (Nat.mod_lt _ (by omega)) (Nat.mod_lt _ (by omega))
    have hc1 := hsc.1
    have hc2 := hsc.2.1
    unfold maxLen at hc2
    clear hbs hsc hP hdr hr
    by_cases h0 : 0 < rest.length
    · obtain ⟨b, off, rfl, hcell⟩ := HS.out.2.2 h0
      obtain ⟨n, hn⟩ : ∃ n, n = min rest.length 5552 := ⟨_, rfl⟩
      have hnl : n ≤ rest.length := by omega
      have hn5 : n ≤ 5552 := by omega
      have hn0 : 0 < n := by omega
      have HC := Hd.mk hcell
      have HN := Hd.mk hn
      have hmin : min (rest.length : Int) 5552 = (n : Int) := by omega
      clear hcell hn
      rcases Nat.lt_or_ge 5552 rest.length with hle | hle
      rotate_left
      · obtain rfl : n = rest.length := by omega
        go_wp2
        go_loop [5, 6, 26] (fun lo hi i => ∃ k : Nat, k ≤ rest.length ∧ i = .int .i64 k ∧ lo = .int .u32 (((rest.take k).foldl rawStep P).1 : Int) ∧ hi = .int .u32 (((rest.take k).foldl rawStep P).2 : Int)) (fun _ _ i => rest.length - (intOf i).toNat)
        case atStart => exact ⟨0, Nat.zero_le _, rfl, rfl, rfl⟩
        case round =>
          obtain ⟨k, hk, rfl, rfl, rfl⟩ := hrel
          by_cases hkl : k < rest.length
          · have hkr : k < rest.length := by omega
            have hcell := HC.out k hkr
            have hsn := foldl_snoc rawStep P rest hkr
            have hbd := raw_small (rest.take (k + 1)) P (by omega) (by omega) (by rw [List.length_take]; omega)
            rw [hsn] at hbd
            obtain ⟨x, hx⟩ : ∃ x, rest[k] = x := ⟨_, rfl⟩
            obtain ⟨r1, r2, hr12⟩ : ∃ r1 r2, (rest.take k).foldl rawStep P = (r1, r2) := ⟨_, _, rfl⟩
            rw [hx] at hcell hsn hbd
            rw [hr12] at hsn hbd ⊢
            have w1 : IntKind.u32.wrap ((r1 : Int) + (x.toNat : Int)) = (r1 : Int) + (x.toNat : Int) := u32_wrap (by omega) (by simp only [rawStep] at hbd; omega)
            have w2 : IntKind.u32.wrap ((r2 : Int) + ((r1 : Int) + (x.toNat : Int))) = (r2 : Int) + ((r1 : Int) + (x.toNat : Int)) := u32_wrap (by omega) (by simp only [rawStep] at hbd; omega)
            have w3 : IntKind.u32.wrap (x.toNat : Int) = (x.toNat : Int) := u32_wrap (by omega) (by have := x.toNat_lt; omega)
            have HSN := Hd.mk hsn
            clear hsn hbd hx hr12
            go_wp2
            go_round
            case rel => exact ⟨k + 1, by omega, by go_num, by rw [HSN.out]; simp [rawStep], by rw [HSN.out]; simp [rawStep]⟩
            case measure => simp [intOf]; omega
          · obtain rfl : k = rest.length := by omega
            obtain ⟨r1, r2, hr12⟩ : ∃ r1 r2, (rest.take (rest.length)).foldl rawStep P = (r1, r2) := ⟨_, _, rfl⟩
            have hmod := raw_mod (rest.take (rest.length)) P
            rw [Nat.mod_eq_of_lt hlt1.1, Nat.mod_eq_of_lt hlt1.2, hr12] at hmod
            rw [hr12]
            have HM := Hd.mk hmod
            have HRE : bs = (done ++ rest.take rest.length) ++ rest.drop rest.length := by rw [List.append_assoc, List.take_append_drop]; exact HB.out
            have HPN : (r1 % 65521, r2 % 65521) = (done ++ rest.take rest.length).foldl sumStep (s % 65536 % 65521, s / 65536 % 65521) := by
              rw [List.foldl_append, ← HP.out]
              exact HM.out
            have HDL : (rest.drop rest.length).length = rest.length - rest.length := List.length_drop
            have HRE := Hd.mk HRE
            have HPN := Hd.mk HPN
            have HDL := Hd.mk HDL
            clear hmod hr12
            by_cases hcn : c' = rest.length
            · go_wp2
              go_quiet (fail)
              go_wp2
              refine ⟨⟨done ++ rest.take rest.length, rest.drop rest.length, _, _, (r1 % 65521, r2 % 65521), HRE.out, by rw [HDL.out, Nat.sub_self], ?_, HPN.out, by simp, by simp, HD.out.trans (Dr.drewN _ _)⟩, by (try simp); omega⟩
              rw [List.drop_length]
              exact Sc.empty _ _ _ (Nat.zero_le _)
            · go_wp2
              go_quiet (fail)
              go_wp2
              refine ⟨⟨done ++ rest.take rest.length, rest.drop rest.length, _, _, (r1 % 65521, r2 % 65521), HRE.out, by rw [HDL.out, Nat.sub_self], ?_, HPN.out, by simp, by simp, HD.out.trans (Dr.drewN _ _)⟩, by (try simp); omega⟩
              exact (HS.out.ext (Dr.drewN wr nq).ext).drop (by omega)
      · obtain rfl : n = 5552 := by omega
        go_wp2
        go_loop [5, 6, 26] (fun lo hi i => ∃ k : Nat, k ≤ 5552 ∧ i = .int .i64 k ∧ lo = .int .u32 (((rest.take k).foldl rawStep P).1 : Int) ∧ hi = .int .u32 (((rest.take k).foldl rawStep P).2 : Int)) (fun _ _ i => 5552 - (intOf i).toNat)
        case atStart => exact ⟨0, Nat.zero_le _, rfl, rfl, rfl⟩
        case round =>
          obtain ⟨k, hk, rfl, rfl, rfl⟩ := hrel
          by_cases hkl : k < 5552
          · have hkr : k < rest.length := by omega
            have hcell := HC.out k hkr
            have hsn := foldl_snoc rawStep P rest hkr
            have hbd := raw_small (rest.take (k + 1)) P (by omega) (by omega) (by rw [List.length_take]; omega)
            rw [hsn] at hbd
            obtain ⟨x, hx⟩ : ∃ x, rest[k] = x := ⟨_, rfl⟩
            obtain ⟨r1, r2, hr12⟩ : ∃ r1 r2, (rest.take k).foldl rawStep P = (r1, r2) := ⟨_, _, rfl⟩
            rw [hx] at hcell hsn hbd
            rw [hr12] at hsn hbd ⊢
            have w1 : IntKind.u32.wrap ((r1 : Int) + (x.toNat : Int)) = (r1 : Int) + (x.toNat : Int) := u32_wrap (by omega) (by simp only [rawStep] at hbd; omega)
            have w2 : IntKind.u32.wrap ((r2 : Int) + ((r1 : Int) + (x.toNat : Int))) = (r2 : Int) + ((r1 : Int) + (x.toNat : Int)) := u32_wrap (by omega) (by simp only [rawStep] at hbd; omega)
            have w3 : IntKind.u32.wrap (x.toNat : Int) = (x.toNat : Int) := u32_wrap (by omega) (by have := x.toNat_lt; omega)
            have HSN := Hd.mk hsn
            clear hsn hbd hx hr12
            go_wp2
            go_round
            case rel => exact ⟨k + 1, by omega, by go_num, by rw [HSN.out]; simp [rawStep], by rw [HSN.out]; simp [rawStep]⟩
            case measure => simp [intOf]; omega
          · obtain rfl : k = 5552 := by omega
            obtain ⟨r1, r2, hr12⟩ : ∃ r1 r2, (rest.take (5552)).foldl rawStep P = (r1, r2) := ⟨_, _, rfl⟩
            have hmod := raw_mod (rest.take (5552)) P
            rw [Nat.mod_eq_of_lt hlt1.1, Nat.mod_eq_of_lt hlt1.2, hr12] at hmod
            rw [hr12]
            have HM := Hd.mk hmod
            have HRE : bs = (done ++ rest.take 5552) ++ rest.drop 5552 := by rw [List.append_assoc, List.take_append_drop]; exact HB.out
            have HPN : (r1 % 65521, r2 % 65521) = (done ++ rest.take 5552).foldl sumStep (s % 65536 % 65521, s / 65536 % 65521) := by
              rw [List.foldl_append, ← HP.out]
              exact HM.out
            have HDL : (rest.drop 5552).length = rest.length - 5552 := List.length_drop
            have HRE := Hd.mk HRE
            have HPN := Hd.mk HPN
            have HDL := Hd.mk HDL
            clear hmod hr12
            by_cases hcn : c' = 5552
            · exfalso; omega
            · go_wp2
              go_quiet (fail)
              go_wp2
              refine ⟨⟨done ++ rest.take 5552, rest.drop 5552, _, _, (r1 % 65521, r2 % 65521), HRE.out, by rw [HDL.out], ?_, HPN.out, by simp, by simp, HD.out.trans (Dr.drewN _ _)⟩, by (try simp); omega⟩
              exact (HS.out.ext (Dr.drewN wr nq).ext).drop (by omega)
    · have h0 : rest.length = 0 := by omega
      have hr0 := List.eq_nil_of_length_eq_zero h0
      have hd0 : done = bs := by have := HB.out; rw [hr0] at this; simpa using this.symm
      have hj := u32_join P.2 P.1 (by omega) (by omega)
      have hres : moreF s bs = P.2 * 65536 + P.1 := by rw [HP.out, hd0]; rfl
      have HR := Hd.mk hres
      clear hr0 hd0 hres
      go_wp2
      go_ret
      exact ⟨ret_int (by rw [HR.out]; simp), HD.out⟩
end Go.Proofs.Ytipoegmheiapgaa
