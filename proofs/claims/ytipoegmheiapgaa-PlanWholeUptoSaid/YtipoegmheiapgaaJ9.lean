/- The ops of a stream: Ops. -/
import Derived.Test.YtipoegmheiapgaaJ8
namespace Go.Proofs.Ytipoegmheiapgaa
set_option linter.unusedVariables false
set_option linter.unusedSimpArgs false
open Go.RowKit

theorem tOp : ElT Try.prog 25 56 4 48 := ElT.mk' Try.underlying25 (z := .agg #[.int .i64 0, .int .i64 0, .int .i64 0, .slice none 0 0]) (by kernel_rfl) rfl (by omega) (by omega)
theorem take_op {m : List Rc} {k : Nat} (h : k < m.length) : (m.take k).map opOf ++ [opOf m[k]] = (m.take (k + 1)).map opOf := by
  rw [List.take_succ_eq_append_getElem h, List.map_append]; rfl

set_option maxHeartbeats 2000000 in
set_option maxRecDepth 100000 in
theorem Ops_calls (A : Option Addr) (c : Nat) (l : List Rc) (w : World) (hr : Sm 8 rcR w A c l) (hN : l.length ≤ 1048580) :
    Calls Try.prog 11 #[.slice A l.length c] w fun e w' => ∃ v, e = .returned (.tuple #[v, .int .i64 (opsL l).2]) ∧ Om 4 opR w' w.heap.size 56 v (opsL l).1 ∧ Ext w w' := by
  have hc1 := hr.1
  have hc2 := hr.2.1
  unfold maxLen at hc2
  have HR := Hd.mk hr
  clear hr
  go_enter Try.func11, Try.ntmps11
  go_wp2_with fail
  refine (Check_calls A c l w HR.out (by omega)).mono ?_
  rintro e w1 ⟨rfl, he1⟩
  have HE1 := Hd.mk he1
  clear he1
  by_cases hck : check l = 0
  · have g9 : (check l != 0) = false := by simpa using hck
    obtain ⟨hall, r0, m, t, rfl⟩ := check_zero hck
    have HCK := Hd.mk hck
    have HA := Hd.mk hall
    clear hck hall
    have hlen : (r0 :: (m ++ [t])).length = m.length + 2 := by simp
    obtain ⟨b, off, x0, cs, rfl, hx, _, _, _⟩ := HR.out.at (i := 0) (by simp)
    have HM := HR.out.cut (i := 1) (j := m.length + 1) (by omega) (by rw [hlen]; omega)
    rw [show (List.take (m.length + 1) (r0 :: (m ++ [t]))).drop 1 = m by simp] at HM
    simp only [Nat.one_mul] at HM
    have HM := Hd.mk HM
    rw [hlen] at hN hc1 ⊢
    clear hlen hx
    go_wp2
    go_loopw [5, 19] (fun v i w2 => ∃ (k : Nat), k ≤ m.length ∧ i = .int .i64 k ∧ Om 4 opR w2 w.heap.size 56 v ((m.take k).map opOf) ∧ Ext w w2) (fun _ i _ => m.length - (intOf i).toNat)
    case atStart => exact ⟨0, Nat.zero_le _, rfl, Om.nil _ _ _ _ _, HE1.out⟩
    case round =>
      obtain ⟨k, hk, rfl, hom, he2⟩ := hrel
      have HOM := Hd.mk hom
      have HE2 := Hd.mk he2
      clear hom he2
      by_cases hlt : k < m.length
      · obtain ⟨b2, off2, x, cs2, hb2, hx, ⟨A3, c3, rfl, hd3⟩, _, hcx⟩ := (HM.out.ext rcR_keeps HE2.out).at hlt
        injection hb2 with hb2
        injection hb2 with e1 e2 _
        subst e1; subst e2
        have m0 : wr.cell? ⟨b, off + 8 + k * 8, none⟩ = some _ := hcx 0 _ rfl
        have m1 := hcx 1 _ rfl
        have m2 := hcx 2 _ rfl
        have m3 := hcx 3 _ rfl
        have m4 := hcx 4 _ rfl
        have m5 := hcx 5 _ rfl
        have m6 := hcx 6 _ rfl
        have m7 := hcx 7 _ rfl
        have hmx : may x = true := List.all_eq_true.1 HA.out x (by rw [← hx]; simp)
        have hnum := (may_num hmx).1
        have hdat := may_data hmx
        have HX := Hd.mk hx
        have HD := Hd.mk hd3
        clear hcx hmx hx hd3
        go_wp2_with fail
        refine (op_calls' x A3 c3 _ (HD.out.ext ((Ext.refl wr).alloc _)) (by omega) hnum).mono ?_
        rintro e w4 ⟨A4, c4, rfl, hs4, he4⟩
        have HS4 := Hd.mk hs4
        have HW := Hd.mk (((Ext.refl wr).alloc _).trans he4)
        obtain ⟨cs, hrows, hown⟩ := HOM.out
        have hlt0 := owns_lt hown
        have HROWS := Hd.mk hrows
        have HOWN := Hd.mk hown
        clear hrows hown hs4 he4 m0 m1 m2 m3 m4 m5 m6 m7
        go_wp2_with (at_builtin; refine wpList_app _ tOp rfl (.tmp 23) (.tmp 26) rfl w.heap.size _ _ cs rfl (owns_ext HOWN.out (HW.out.alloc _)) (some ⟨_, 0, none⟩) 1 1 [.int .i64 (opOf x).kind, .int .i64 (opOf x).off, .int .i64 (opOf x).len, .slice A4 (opOf x).data.length c4] rfl rfl (Fl.new (heap_at (by simp))) (by intro u hu; simp at hu; rcases hu with rfl | rfl | rfl | rfl <;> rfl) (by simp only [List.length_map, List.length_take]; omega) (HE2.out.trans (HW.out.alloc _)).size ?_)
        rintro v1 w3 hown hgr hv
        have hrw := Rows'.grow (x := opOf x) (c := [.int .i64 (opOf x).kind, .int .i64 (opOf x).off, .int .i64 (opOf x).len, .slice A4 (opOf x).data.length c4]) (HROWS.out.ext (St_keeps _ _) (HW.out.alloc _)) (fun w'' hf => ⟨A4, c4, rfl, ((HS4.out.ext ((Ext.refl _).alloc _)).fr (fun b hb => by have := hlt0 b hb; simp; omega) hf).sc2⟩) rfl hgr (by simpa using hv)
        rw [show opOf x = opOf m[k] by rw [HX.out], take_op hlt] at hrw
        have HRW := Hd.mk hrw
        have HOW3 := Hd.mk hown
        have HX3 := Hd.mk ((HE2.out.trans (HW.out.alloc _)).grown hgr (fun b hb => owns_block HOWN.out b hb))
        clear hown hgr hv hrw
        go_wp2
        refine ⟨?_, by simp [intOf]; omega⟩
        (repeat apply Exists.intro)
        refine ⟨⟨k + 1, by omega, by go_num, ⟨_, HRW.out, ?_⟩, HX3.out⟩, rfl⟩
        rw [← take_op hlt, List.length_append, ← show opOf x = opOf m[k] by rw [HX.out]]
        have := HOW3.out
        simpa [Nat.min_eq_left (Nat.le_of_lt hlt)] using this
      · obtain rfl : k = m.length := by omega
        rw [List.take_length] at HOM
        go_wp2
        go_ret2
        rw [opsL_of HCK.out]
        exact ⟨_, rfl, HOM.out, HE2.out⟩
  · have g9 : (check l != 0) = true := by simpa using hck
    have HCK := Hd.mk hck
    clear hck
    go_wp2
    go_ret2
    rw [show opsL l = ([], check l) by rw [opsL, if_neg HCK.out]]
    exact ⟨_, rfl, Om.nil _ _ _ _ _, HE1.out⟩
end Go.Proofs.Ytipoegmheiapgaa
