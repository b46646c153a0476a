/- The law SenderFrom, walked. -/
import Derived.Test.YtipoegmheiapgaaS10
namespace Go.Proofs.Ytipoegmheiapgaa
set_option linter.unusedVariables false
set_option linter.unusedSimpArgs false
open Go.RowKit

set_option maxHeartbeats 8000000 in
set_option maxRecDepth 100000 in
theorem SenderFrom_calls (r0 : Rc) (A : Option Addr) (c : Nat) (B : Option Addr) (d : Nat) (ops : List VOp) (x : Int) (w : World) (hh : Sc vU w A c r0.data) (ho : Sm 4 opR w B d ops)
    (hN : ops.length ≤ 1048576) (hD : ∀ i (hi : i < ops.length), ops[i].data.length ≤ 4294967296) (hx1 : -9223372036854775808 ≤ x) (hx2 : x ≤ 9223372036854775807) :
    Calls Try.prog 7 #[rcV r0 A c, .slice B ops.length d, .int .i64 x] w fun e w' => e = .returned (.bool true) ∧ Ext w w' := by
  have HH := Hd.mk hh
  have HO := Hd.mk ho
  have HDD := Hd.mk hD
  clear hh ho hD
  go_enter Try.func7, Try.ntmps7
  go_wp2_with fail
  have e0 : Ext w (w.alloc (.cells #[.int .i64 r0.kind, .int .i64 r0.shard, .int .i64 r0.snap, .int .i64 r0.base, .int .i64 r0.map, .int .i64 r0.off, .int .i64 r0.len, .slice A r0.data.length c] 24)) := (Ext.refl w).alloc _
  rcases build_cases r0 ops with ⟨hb, hck, hop⟩ | ⟨hb, hne⟩
  · refine (senderNew_ok r0 A c B d ops _ (HH.out.ext e0) (HO.out.ext opR_keeps e0) hN HDD.out hb hck).mono ?_
    rintro e w1 ⟨b, A1, c1, rfl, hb1, hs1, hbw, he1⟩
    have HQ := Hd.mk (he1.obj (heap_new w (.cells #[.int .i64 r0.kind, .int .i64 r0.shard, .int .i64 r0.snap, .int .i64 r0.base, .int .i64 r0.map, .int .i64 r0.off, .int .i64 r0.len, .slice A r0.data.length c] 24)))
    have HE1 := Hd.mk (e0.trans he1)
    have HB1 := Hd.mk hb1
    have HS1 := Hd.mk hs1.om.sm2
    have HBU := Hd.mk hb
    have HMAY := Hd.mk (check_zero hck).1
    have k0 := cell_obj (i := 0) HQ.out
    have k1 := cell_obj (i := 1) HQ.out
    have k2 := cell_obj (i := 2) HQ.out
    have k3 := cell_obj (i := 3) HQ.out
    have k4 := cell_obj (i := 4) HQ.out
    have k5 := cell_obj (i := 5) HQ.out
    have k6 := cell_obj (i := 6) HQ.out
    have k7 := cell_obj (i := 7) HQ.out
    clear e0 hb1 hs1 he1 hbw hb hck hop
    go_wp2_with fail
    refine (RBuild_calls r0 A c B d ops _ (HH.out.ext HE1.out) (HO.out.ext opR_keeps HE1.out) hN).mono ?_
    rintro e w2 ⟨v2, rfl, hom2, he2⟩
    obtain ⟨A2, c2, rfl, hs2⟩ := hom2.sm
    rw [HBU.out] at hs2 ⊢
    have HE2 := Hd.mk (HE1.out.trans he2)
    have HB2 := Hd.mk (he2.obj HB1.out)
    have HS2 := Hd.mk (HS1.out.ext byR_keeps he2)
    obtain ⟨rs, hrs⟩ : ∃ rs, rs = streamOf r0 ops := ⟨_, rfl⟩
    have hrl : rs.length = ops.length + 2 := by rw [hrs]; simp [streamOf]
    obtain ⟨n, hn⟩ : ∃ n, n = ops.length + 2 := ⟨_, rfl⟩
    rw [← hrs] at HMAY HS2 hs2
    rw [show (streamOf r0 ops, (0 : Int)).1.length = n by rw [← hrs, hrl, hn]]
    rw [← hn] at hrl HB2
    have HW2 := Hd.mk hs2
    have hc2 := hs2.1
    have hc3 := hs2.2.1
    unfold maxLen at hc3
    rw [hrl] at hc2
    have HL := Hd.mk hrl
    have hn2 : n ≤ 1048578 := by omega
    have hn0 : 0 < n := by omega
    have hq1 : -(n : Int) < x.tmod n := by
      have := Int.lt_tmod_of_pos x (show (0 : Int) < (n : Int) by omega)
      omega
    have hq2 : x.tmod n < n := Int.tmod_lt_of_pos x (by omega)
    obtain ⟨i, hi⟩ : ∃ i : Nat, (x.tmod n + n).tmod n = i := ⟨((x.tmod n + n).tmod n).toNat, by
      have := Int.tmod_nonneg (n : Int) (show 0 ≤ x.tmod n + n by omega)
      omega⟩
    have hlt : i < n := by
      have := Int.tmod_lt_of_pos (x.tmod n + n) (show (0 : Int) < (n : Int) by omega)
      omega
    have hnz : ((n : Int) == 0) = false := by rw [beq_eq_false_iff_ne]; omega
    clear k0 k1 k2 k3 k4 k5 k6 k7 hom2 he2 hs2 hrs hrl hn
    go_wp2_with fail
    have hlt' : i < rs.length := by rw [HL.out]; exact hlt
    refine (SLoad_calls b A1 c1 i rs w2 (by rw [HL.out]; exact HB2.out) HS2.out HMAY.out hlt' (by rw [HL.out]; omega)).mono ?_
    rintro e w5 ⟨v5, rfl, hos5, he5⟩
    obtain ⟨A5, c5, rfl, hs5⟩ := hos5.sc
    rw [List.length_append, u64le_len]
    have HS5 := Hd.mk hs5
    have HE25 := Hd.mk he5
    have hnr := nextR_le hlt'
    rw [HL.out] at hnr
    have hpl := partR_len hlt'
    have hsz := partR_small HMAY.out hlt'
    have HPM := Hd.mk (partR_may (i := i) HMAY.out)
    have HPN := Hd.mk (partR_ne hlt')
    have HPD := Hd.mk (show partR rs i = (rs.take (nextR rs i)).drop i from rfl)
    generalize partR rs i = pr at *
    generalize nextR rs i = nx at *
    obtain ⟨fl, hfl⟩ : ∃ fl, (fileB pr).length = fl := ⟨_, rfl⟩
    have HFL := Hd.mk hfl
    rw [hfl] at hsz ⊢
    clear hos5 hs5 he5 hfl hi hq1 hq2 hnz
    go_wp2_with fail
    rw [← HFL.out]
    refine (Parse_calls A5 c5 i pr w5 HS5.out (by omega) HPM.out (by rw [HFL.out]; exact hsz) HPN.out).mono ?_
    rintro e w6 ⟨v6, rfl, hom6, he6⟩
    obtain ⟨A6, c6, rfl⟩ := hom6.slice
    have HS6 := Hd.mk hom6.om.sm2
    rw [HFL.out]
    have HE26 := Hd.mk (HE25.out.trans he6)
    obtain ⟨b2, off2, x2, cs2, rfl, _, _, _, _⟩ := HW2.out.at (i := 0) (by rw [HL.out]; exact hn0)
    have hcut := (HW2.out.ext rcR_keeps HE26.out).cut (i := i) (j := nx) (by omega) (by rw [HL.out]; omega)
    have HCUT := Hd.mk hcut
    have hpl2 : pr.length = nx - i := hpl
    have HPL := Hd.mk hpl2
    have hci : ¬ c2 = i := by omega
    have g1 : decide (i < nx) = true := decide_eq_true (by omega)
    have g2 : decide (nx ≤ n) = true := decide_eq_true (by omega)
    have hxc : nx ≤ c2 := by omega
    have hix : i ≤ nx := by omega
    rw [hpl2]
    clear hom6 he6 hpl hcut hpl2
    go_wp2_with fail
    rw [← HPL.out]
    rw [← HPD.out] at HCUT
    refine (RSame_calls A6 _ c6 (c2 - i) pr pr _ HS6.out HCUT.out).mono ?_
    rintro e w7 ⟨rfl, he7⟩
    rw [decide_eq_true (rfl : pr = pr), HPL.out]
    have HE27 := Hd.mk (HE26.out.trans he7)
    clear he7
    go_wp2_with fail
    refine (alive19_calls _).mono ?_
    rintro e w8 ⟨rfl, he8⟩
    have HE8 := Hd.mk (HE2.out.trans (HE27.out.trans he8))
    clear he8
    go_wp2
    go_ret
    exact ⟨rfl, HE8.out⟩
  · refine (senderNew_no r0 A c B d ops _ (HH.out.ext e0) (HO.out.ext opR_keeps e0) hN HDD.out hne).mono ?_
    rintro e w1 ⟨rfl, he1⟩
    have HQ := Hd.mk (he1.obj (heap_new w (.cells #[.int .i64 r0.kind, .int .i64 r0.shard, .int .i64 r0.snap, .int .i64 r0.base, .int .i64 r0.map, .int .i64 r0.off, .int .i64 r0.len, .slice A r0.data.length c] 24)))
    have HE1 := Hd.mk (e0.trans he1)
    have k0 := cell_obj (i := 0) HQ.out
    have k1 := cell_obj (i := 1) HQ.out
    have k2 := cell_obj (i := 2) HQ.out
    have k3 := cell_obj (i := 3) HQ.out
    have k4 := cell_obj (i := 4) HQ.out
    have k5 := cell_obj (i := 5) HQ.out
    have k6 := cell_obj (i := 6) HQ.out
    have k7 := cell_obj (i := 7) HQ.out
    clear e0 he1 hb
    go_wp2_with fail
    refine (RBuild_calls r0 A c B d ops _ (HH.out.ext HE1.out) (HO.out.ext opR_keeps HE1.out) hN).mono ?_
    rintro e w2 ⟨v2, rfl, hom2, he2⟩
    obtain ⟨A2, c2, rfl, _⟩ := hom2.sm
    have HE2 := Hd.mk (HE1.out.trans he2)
    generalize (build r0 ops).2 = z at hne ⊢
    have g1 : (z != 0) = true := by simpa using hne
    clear he2 hom2 k0 k1 k2 k3 k4 k5 k6 k7 hne
    go_wp2_with fail
    refine (alive19_calls _).mono ?_
    rintro e w3 ⟨rfl, he3⟩
    have HE3 := Hd.mk (HE2.out.trans he3)
    clear he3
    go_wp2
    go_ret
    exact ⟨rfl, HE3.out⟩
end Go.Proofs.Ytipoegmheiapgaa
