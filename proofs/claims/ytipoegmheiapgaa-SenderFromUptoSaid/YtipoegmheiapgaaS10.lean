/- The law SenderAll, walked. -/
import Derived.Test.YtipoegmheiapgaaS9
namespace Go.Proofs.Ytipoegmheiapgaa
set_option linter.unusedVariables false
set_option linter.unusedSimpArgs false
open Go.RowKit

set_option maxHeartbeats 1000000 in
set_option maxRecDepth 100000 in
theorem Load_over (b : Nat) (A : Option Addr) (n c : Nat) (w : World) (h : w.heap[b]? = some (sdC (.slice A n c))) (h0 : 0 < n) :
    Calls Try.prog 18 #[.pointer (some ⟨b, 0, none⟩), .int .i64 (n : Int)] w fun e w' => e = .returned (.tuple #[.slice none 0 0, .int .i64 0, .int .i64 16]) ∧ Ext w w' := by
  have HH := Hd.mk h
  have g1 : ((n : Int) == 0) = false := by rw [beq_eq_false_iff_ne]; omega
  have g2 : decide ((n : Int) < 0) = false := decide_eq_false (by omega)
  clear h
  go_enter Try.func18, Try.ntmps18
  go_wp2_with fail
  refine (Many_calls b A n c _ HH.out).mono ?_
  rintro e w1 ⟨rfl, hd1⟩
  have HD1 := Hd.mk hd1
  clear hd1
  go_wp2_with fail
  refine (Many_calls b A n c _ (HD1.out.ext.obj HH.out)).mono ?_
  rintro e w2 ⟨rfl, hd2⟩
  have HD2 := Hd.mk (HD1.out.trans hd2)
  clear hd2
  go_wp2_with fail
  go_ret3
  exact ⟨rfl, HD2.out.ext⟩

set_option maxHeartbeats 8000000 in
set_option maxRecDepth 100000 in
theorem SenderAll_calls (r0 : Rc) (A : Option Addr) (c : Nat) (B : Option Addr) (d : Nat) (ops : List VOp) (w : World) (hh : Sc vU w A c r0.data) (ho : Sm 4 opR w B d ops)
    (hN : ops.length ≤ 1048576) (hD : ∀ i (hi : i < ops.length), ops[i].data.length ≤ 4294967296) :
    Calls Try.prog 4 #[rcV r0 A c, .slice B ops.length d] w fun e w' => e = .returned (.bool true) ∧ Ext w w' := by
  have HH := Hd.mk hh
  have HO := Hd.mk ho
  have HDD := Hd.mk hD
  clear hh ho hD
  go_enter Try.func4, Try.ntmps4
  go_wp2_with fail
  have e0 : Ext w (w.alloc (.cells #[.int .i64 r0.kind, .int .i64 r0.shard, .int .i64 r0.snap, .int .i64 r0.base, .int .i64 r0.map, .int .i64 r0.off, .int .i64 r0.len, .slice A r0.data.length c] 24)) := (Ext.refl w).alloc _
  rcases build_cases r0 ops with ⟨hb, hck, hop⟩ | ⟨hb, hne⟩
  · refine (senderNew_ok r0 A c B d ops _ (HH.out.ext e0) (HO.out.ext opR_keeps e0) hN HDD.out hb hck).mono ?_
    rintro e w1 ⟨b, A1, c1, rfl, hb1, hs1, hbw, he1⟩
    have HQ := Hd.mk (he1.obj (heap_new w (.cells #[.int .i64 r0.kind, .int .i64 r0.shard, .int .i64 r0.snap, .int .i64 r0.base, .int .i64 r0.map, .int .i64 r0.off, .int .i64 r0.len, .slice A r0.data.length c] 24)))
    have HE1 := Hd.mk (e0.trans he1)
    have HB1 := Hd.mk hb1
    have HS1 := Hd.mk hs1.om.sm2
    have HBU := Hd.mk hb
    have HMAY := Hd.mk (check_zero hck).1
    have k0 := cell_obj (i := 0) HQ.out
    have k1 := cell_obj (i := 1) HQ.out
    have k2 := cell_obj (i := 2) HQ.out
    have k3 := cell_obj (i := 3) HQ.out
    have k4 := cell_obj (i := 4) HQ.out
    have k5 := cell_obj (i := 5) HQ.out
    have k6 := cell_obj (i := 6) HQ.out
    have k7 := cell_obj (i := 7) HQ.out
    clear e0 hb1 hs1 he1 hbw hb hck hop
    go_wp2_with fail
    refine (RBuild_calls r0 A c B d ops _ (HH.out.ext HE1.out) (HO.out.ext opR_keeps HE1.out) hN).mono ?_
    rintro e w2 ⟨v2, rfl, hom2, he2⟩
    obtain ⟨A2, c2, rfl, hs2⟩ := hom2.sm
    rw [HBU.out] at hs2 ⊢
    have HE2 := Hd.mk (HE1.out.trans he2)
    have HB2 := Hd.mk (he2.obj HB1.out)
    have HS2 := Hd.mk (HS1.out.ext byR_keeps he2)
    have HW2 := Hd.mk hs2
    obtain ⟨rs, hrs⟩ : ∃ rs, rs = streamOf r0 ops := ⟨_, rfl⟩
    have hrl : rs.length = ops.length + 2 := by rw [hrs]; simp [streamOf]
    obtain ⟨n, hn⟩ : ∃ n, n = ops.length + 2 := ⟨_, rfl⟩
    rw [← hrs] at HMAY HS2 HW2
    rw [show (streamOf r0 ops, (0 : Int)).1.length = n by rw [← hrs, hrl, hn]]
    rw [← hn] at hrl HB2
    have HL := Hd.mk hrl
    have hn2 : n ≤ 1048578 := by omega
    have hn0 : 0 < n := by omega
    clear k0 k1 k2 k3 k4 k5 k6 k7 hom2 he2 hs2 hrs hrl hn
    go_wp2_with fail
    go_loopw [9, 10] (fun t9 t10 w3 => ∃ (i : Nat) (A3 : Option Addr) (c3 : Nat), i ≤ n ∧ t10 = .int .i64 (i : Int) ∧ t9 = .slice A3 i c3 ∧ Omx NoF 8 rcR w3 w2.heap.size 24 (.slice A3 i c3) (rs.take i) ∧ Ext w2 w3) (fun _ t10 _ => n - (intOf t10).toNat)
    case atStart => exact ⟨0, none, 0, Nat.zero_le _, rfl, rfl, Omx.nil _ _ _ _ _ _, Ext.refl _⟩
    case round =>
      obtain ⟨i, A3, c3, hi, rfl, rfl, hom3, he3⟩ := hrel
      have HOM := Hd.mk hom3
      have HE3 := Hd.mk he3
      clear hom3 he3
      go_wp2_with fail
      refine (Many_calls b A1 n c1 _ (HE3.out.obj HB2.out)).mono ?_
      rintro e w4 ⟨rfl, hd4⟩
      have HE4 := Hd.mk (HE3.out.trans hd4.ext)
      have HOM4 := Hd.mk (HOM.out.ext hd4.ext)
      clear hd4
      by_cases hlt : i < n
      · go_wp2_with fail
        have hlt' : i < rs.length := by rw [HL.out]; exact hlt
        refine (SLoad_calls b A1 c1 i rs w4 (by rw [HL.out]; exact HE4.out.obj HB2.out) (HS2.out.ext byR_keeps HE4.out) HMAY.out hlt' (by rw [HL.out]; omega)).mono ?_
        rintro e w5 ⟨v5, rfl, hos5, he5⟩
        obtain ⟨A5, c5, rfl, hs5⟩ := hos5.sc
        rw [List.length_append, u64le_len]
        have HS5 := Hd.mk hs5
        have HE45 := Hd.mk he5
        have hnr := nextR_le hlt'
        rw [HL.out] at hnr
        have hpl := partR_len hlt'
        have hsz := partR_small HMAY.out hlt'
        have hpm := partR_may (i := i) HMAY.out
        have hpn := partR_ne hlt'
        have HPT := Hd.mk (show rs.take i ++ partR rs i = rs.take (nextR rs i) from by
          rw [partR]
          have h2 := List.take_append_drop i (rs.take (nextR rs i))
          rwa [List.take_take, Nat.min_eq_left (by omega)] at h2)
        generalize partR rs i = pr at *
        generalize nextR rs i = nx at *
        obtain ⟨fl, hfl⟩ : ∃ fl, (fileB pr).length = fl := ⟨_, rfl⟩
        have HPM := Hd.mk hpm
        have HPN := Hd.mk hpn
        have HFL := Hd.mk hfl
        rw [hfl] at hsz ⊢
        clear hos5 hs5 he5 hpm hpn hfl
        go_wp2_with fail
        rw [← HFL.out]
        refine (Parse_calls A5 c5 i pr w5 HS5.out (by omega) HPM.out (by rw [HFL.out]; exact hsz) HPN.out).mono ?_
        rintro e w6 ⟨v6, rfl, hom6, he6⟩
        obtain ⟨A6, c6, rfl⟩ := hom6.slice
        rw [HFL.out]
        have HOM6 := Hd.mk hom6
        have HE6 := Hd.mk ((HE4.out.trans HE45.out).trans he6)
        have HOM3 := Hd.mk ((HOM4.out.ext HE45.out).ext he6)
        have HSZ5 := Hd.mk (Nat.le_trans HE4.out.size HE45.out.size)
        have hpl2 : pr.length = nx - i := hpl
        obtain ⟨ln, hln⟩ : ∃ ln, pr.length = ln := ⟨_, rfl⟩
        have HLN := Hd.mk hln
        rw [hln] at hpl2 ⊢
        have g1 : decide (nx ≤ i) = false := decide_eq_false (by omega)
        have g2 : ((ln : Int) != (nx : Int) - (i : Int)) = false := by rw [bne_eq_false_iff_eq]; omega
        have g3 : decide ((1108 : Int) < 8 + (fl : Int)) = false := decide_eq_false (by omega)
        have HP2 := Hd.mk hpl2
        have hln9 : ln ≤ 1048578 := by omega
        clear hom6 he6 hpl hln hpl2
        have hrows := HOM6.out.rows
        have HRW := Hd.mk (show ∃ ds, Rows' 8 (St (gF NoF (.slice A3 i c3)) rcR) w6 pr ds ∧ Fl w6 A6 ds from by
          rw [HLN.out] at hrows
          obtain ⟨ds, h1, h2⟩ := hrows
          exact ⟨ds, Rows'.imp (fun _ _ hs w'' hf => hs w'' (hf.mono (fun q hq => .inl (by
            rcases hq with hq | hq
            · exact hq.elim
            · exact Nat.lt_of_lt_of_le (HOM4.out.lt q hq) HE45.out.size)))) h1, h2⟩)
        clear hrows
        go_wp2_with (at_builtin; refine wpList_pushes tRec rfl (.tmp 85) (.tmp 86) rfl rfl HOM3.out A6 c6 pr (by rw [HLN.out]; rfl) HRW.out (rcR_one _) (by rw [HLN.out]; simp only [List.length_take]; omega) HE6.out.size (fun q hq => hq.elim) ?_)
        rintro A7 c7 w7 hom7 hf7 _
        have hin : i + pr.length = nx := by rw [HLN.out]; have := HP2.out; omega
        simp only [List.length_take, HL.out, Nat.min_eq_left hi, hin] at hom7 ⊢
        rw [HPT.out] at hom7
        have HOM7 := Hd.mk hom7
        have HE7 := Hd.mk (ext_fr HE6.out hf7 (fun q hq => HOM.out.block q hq))
        clear hom7 hf7 hin g1 g2 g3
        go_wp2
        exact ⟨⟨nx, A7, c7, by omega, rfl, rfl, HOM7.out, HE7.out⟩, by simp [intOf]; omega⟩
      · obtain rfl : i = n := by omega
        have hti : rs.take i = rs := List.take_of_length_le (by rw [HL.out]; omega)
        rw [hti] at HOM4
        clear hti
        have HB4 := Hd.mk (HE4.out.obj HB2.out)
        go_wp2_with fail
        refine (Many_calls b A1 i c1 _ HB4.out).mono ?_
        rintro e w5 ⟨rfl, hd5⟩
        have HE45 := Hd.mk hd5.ext
        clear hd5
        go_wp2_with fail
        refine (Load_over b A1 i c1 _ (HE45.out.obj HB4.out) hn0).mono ?_
        rintro e w6 ⟨rfl, he6⟩
        have HE46 := Hd.mk (HE45.out.trans he6)
        clear he6
        go_wp2_with fail
        rw [← HL.out]
        refine (RSame_calls A3 A2 c3 c2 rs rs _ ?_ (HW2.out.ext rcR_keeps (HE4.out.trans HE46.out))).mono ?_
        · have := (HOM4.out.ext HE46.out).om.sm2
          exact this
        rintro e w7 ⟨rfl, he7⟩
        rw [decide_eq_true (rfl : rs = rs), HL.out]
        have HE47 := Hd.mk (HE46.out.trans he7)
        clear he7
        go_wp2_with fail
        refine (alive19_calls _).mono ?_
        rintro e w8 ⟨rfl, he8⟩
        have HE8 := Hd.mk (HE2.out.trans (HE4.out.trans (HE47.out.trans he8)))
        clear he8
        go_wp2
        go_ret
        exact ⟨rfl, HE8.out⟩
  · refine (senderNew_no r0 A c B d ops _ (HH.out.ext e0) (HO.out.ext opR_keeps e0) hN HDD.out hne).mono ?_
    rintro e w1 ⟨rfl, he1⟩
    have HE1 := Hd.mk (e0.trans he1)
    generalize (build r0 ops).2 = z at hne ⊢
    have g1 : (z != 0) = true := by simpa using hne
    clear e0 he1 hb hne
    go_wp2_with fail
    refine (alive19_calls _).mono ?_
    rintro e w2 ⟨rfl, he2⟩
    have HE2 := Hd.mk (HE1.out.trans he2)
    clear he2
    go_wp2
    go_ret
    exact ⟨rfl, HE2.out⟩
end Go.Proofs.Ytipoegmheiapgaa
