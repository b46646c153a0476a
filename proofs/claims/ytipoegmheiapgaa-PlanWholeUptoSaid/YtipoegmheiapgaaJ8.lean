/- The records of a stream: Build. -/
import Derived.Test.YtipoegmheiapgaaJ7
import Derived.Deep.DeepCutAuto
namespace Go.Proofs.Ytipoegmheiapgaa
set_option linter.unusedVariables false
set_option linter.unusedSimpArgs false
open Go.RowKit

theorem take_rec {ops : List VOp} {k : Nat} (h : k < ops.length) (r0 : Rc) : (r0 :: (ops.take k).map recOf) ++ [recOf ops[k]] = r0 :: (ops.take (k + 1)).map recOf := by
  rw [List.take_succ_eq_append_getElem h, List.map_append]; rfl
theorem tRec : ElT Try.prog 26 24 8 80 := ElT.mk' Try.underlying26 (z := .agg #[.int .i64 0, .int .i64 0, .int .i64 0, .int .i64 0, .int .i64 0, .int .i64 0, .int .i64 0, .slice none 0 0]) (by kernel_rfl) rfl (by omega) (by omega)

set_option maxHeartbeats 2000000 in
set_option maxRecDepth 100000 in
theorem Build_calls (r0 : Rc) (A : Option Addr) (c : Nat) (B : Option Addr) (d : Nat) (ops : List VOp) (w : World) (hh : Sc vU w A c r0.data) (ho : Sm 4 opR w B d ops)
    (hN : ops.length ≤ 1048576) (hD : ∀ i (hi : i < ops.length), ops[i].data.length ≤ 4294967296) :
    Calls Try.prog 9 #[rcV r0 A c, .slice B ops.length d] w fun e w' => ∃ v, e = .returned (.tuple #[v, .int .i64 (build r0 ops).2]) ∧ Om 8 rcR w' w.heap.size 24 v (build r0 ops).1 ∧ Ext w w' := by
  have hc1 := ho.1
  have hc2 := ho.2.1
  unfold maxLen at hc2
  have HH := Hd.mk hh
  have HO := Hd.mk ho
  have HDD := Hd.mk hD
  clear hh ho hD
  go_enter Try.func9, Try.ntmps9
  by_cases e1 : r0.kind = 1
  · have g1 : (r0.kind != 1) = false := by simpa using e1
    have E1 := Hd.mk e1
    clear e1
    go_wp2_with fail
    refine (May_calls r0 A c _).mono ?_
    rintro e w1 ⟨rfl, he1⟩
    generalize hz : may r0 = z
    have HZ := Hd.mk hz
    have k0 : w1.cell? ⟨w.heap.size, 0, none⟩ = some (.int .i64 r0.kind) := he1.cell (by go_simp)
    have k1 : w1.cell? ⟨w.heap.size, 1, none⟩ = some (.int .i64 r0.shard) := he1.cell (by go_simp)
    have k2 : w1.cell? ⟨w.heap.size, 2, none⟩ = some (.int .i64 r0.snap) := he1.cell (by go_simp)
    have k3 : w1.cell? ⟨w.heap.size, 3, none⟩ = some (.int .i64 r0.base) := he1.cell (by go_simp)
    have k4 : w1.cell? ⟨w.heap.size, 4, none⟩ = some (.int .i64 r0.map) := he1.cell (by go_simp)
    have k5 : w1.cell? ⟨w.heap.size, 5, none⟩ = some (.int .i64 r0.off) := he1.cell (by go_simp)
    have k6 : w1.cell? ⟨w.heap.size, 6, none⟩ = some (.int .i64 r0.len) := he1.cell (by go_simp)
    have k7 : w1.cell? ⟨w.heap.size, 7, none⟩ = some (.slice A r0.data.length c) := he1.cell (by go_simp)
    have HE1 := Hd.mk (((Ext.refl w).alloc _).trans he1)
    clear hz he1
    cases z with
    | false =>
      go_wp2
      go_ret2
      rw [show build r0 ops = ([], 1) by rw [build, if_neg (by rintro ⟨_, h⟩; rw [HZ.out] at h; cases h)]]
      exact ⟨_, rfl, Om.nil _ _ _ _ _, HE1.out⟩
    | true =>
      go_wp2
      go_loopw [6, 23] (fun v i w2 => ∃ (k : Nat), k ≤ ops.length ∧ i = .int .i64 k ∧ Om 8 rcR w2 w.heap.size 24 v (r0 :: (ops.take k).map recOf) ∧ Ext w w2) (fun _ i _ => ops.length - (intOf i).toNat)
      case atStart =>
        refine ⟨0, Nat.zero_le _, rfl, ⟨[.int .i64 r0.kind, .int .i64 r0.shard, .int .i64 r0.snap, .int .i64 r0.base, .int .i64 r0.map, .int .i64 r0.off, .int .i64 r0.len, .slice A r0.data.length c], ?_, ?_⟩, HE1.out.alloc _⟩
        · refine Rows'.one (fun w'' hf => ⟨A, c, rfl, HH.out.ext (ext_fr (HE1.out.alloc _) hf ?_)⟩) rfl
          intro b hb
          simp [ownF, Value.ownBlock] at hb
          have := HE1.out.size
          omega
        · exact owns_new (n := 1) (heap_new _ _) HE1.out.size rfl (by simp [maxLen])
      case round =>
        obtain ⟨k, hk, rfl, hom, he2⟩ := hrel
        have HOM := Hd.mk hom
        have HE2 := Hd.mk he2
        clear hom he2 k0 k1 k2 k3 k4 k5 k6 k7
        by_cases hlt : k < ops.length
        · obtain ⟨b2, off2, x, cs2, rfl, hx, ⟨A3, c3, rfl, hd3⟩, _, hcx⟩ := (HO.out.ext opR_keeps HE2.out).at hlt
          have m0 : wr.cell? ⟨b2, off2 + k * 4, none⟩ = some _ := hcx 0 _ rfl
          have m1 := hcx 1 _ rfl
          have m2 := hcx 2 _ rfl
          have m3 := hcx 3 _ rfl
          have HX := Hd.mk hx
          have HD := Hd.mk hd3
          have hdl := HDD.out k hlt
          rw [hx] at hdl
          have HDL := Hd.mk hdl
          clear hx hd3 hcx hdl
          go_wp2_with fail
          obtain ⟨W0, hW0⟩ : ∃ W0, W0 = wr.alloc (.cells #[.int .i64 x.kind, .int .i64 x.off, .int .i64 x.len, .slice A3 x.data.length c3] 56) := ⟨_, rfl⟩
          have e0 : Ext wr W0 := by rw [hW0]; exact (Ext.refl wr).alloc _
          have t0 : W0.cell? ⟨wr.heap.size, 0, none⟩ = some (.int .i64 x.kind) := by rw [hW0]; go_simp
          have t1 : W0.cell? ⟨wr.heap.size, 1, none⟩ = some (.int .i64 x.off) := by rw [hW0]; go_simp
          have t2 : W0.cell? ⟨wr.heap.size, 2, none⟩ = some (.int .i64 x.len) := by rw [hW0]; go_simp
          have t3 : W0.cell? ⟨wr.heap.size, 3, none⟩ = some (.slice A3 x.data.length c3) := by rw [hW0]; go_simp
          have hsz : W0.heap.size = wr.heap.size + 1 := by rw [hW0]; simp
          rw [← hW0]
          have HE0 := Hd.mk e0
          have HSZ := Hd.mk hsz
          clear hW0 m0 m1 m2 m3 e0 hsz
          go_cut [9] (fun t9 w' => ∃ g A' c', t9 = .pointer (some ⟨g, 0, none⟩) ∧ W0.heap.size ≤ g ∧ w'.heap[g]? = some (.cells #[.int .i64 0, .int .i64 0, .int .i64 0, .int .i64 0, .int .i64 0, .int .i64 x.off, .int .i64 x.len, .slice A' x.data.length c'] 24 (0, 0)) ∧ (Os vU w' W0.heap.size 54 (.slice A' x.data.length c') x.data ∧ ∀ u, Os vU (w'.setCell ⟨g, 0, none⟩ u) W0.heap.size 54 (.slice A' x.data.length c') x.data) ∧ Ext W0 w')
          case first =>
            have l1 := fun q : FrOf NoF W0 => q.c t1
            have l2 := fun q : FrOf NoF W0 => q.c t2
            have l3 := fun q : FrOf NoF W0 => q.c t3
            refine wp_region_pl NoF W0 (.pur 0 (.pur 1 (.pur 2 (.pur 3 (.pur 4 (.pur 5 (.two 6 (.pur 7 (.one 8 (.one 9 (.done)))) 8 (.one 6 (.pur 7 (.one 9 (.done))))))))))) (by kernel_rfl) (by kernel_rfl) (by kernel_rfl) (fun _ _ d _ _ h => by cases d <;> exact h) (Fr.refl _ _) ?_
            repeat (first | (refine wpPl_skip (by rfl) (by rfl) ?_; simp only [Act.put, List.setIfInBounds_toArray, List.set_cons_zero, List.set_cons_succ]) | (refine wpPl_pur (by rfl) (by rfl) ?_; apply Exists.intro; refine ⟨fun x => ?_, ?_⟩; (focus (go_simp <;> with_reducible rfl)); simp only [Act.put, List.setIfInBounds_toArray, List.set_cons_zero, List.set_cons_succ]))
            refine wpPl_two ?_ ?_
            · refine wpPl_one (by rfl) (by rfl) (fun K hK => ?_)
              go_wp2_with fail
              refine (Clone_uint64 A3 c3 x.data W0.drew ((HD.out.ext HE0.out).ext (Ext.refl W0).drew) HDL.out).mono ?_
              rintro e w3 ⟨v3, rfl, hos, he3⟩
              obtain ⟨A', c', rfl, hsc⟩ := hos.sc
              have HOS := Hd.mk hos
              have HE3 := Hd.mk ((Ext.refl W0).drew.trans he3)
              have hs3 := HE3.out.size
              clear hos he3 hsc
              refine hK _ _ (HE3.out.fr NoF) ?_
              clear hK
              repeat (first | (refine wpPl_skip (by rfl) (by rfl) ?_; simp only [Act.put, List.setIfInBounds_toArray, List.set_cons_zero, List.set_cons_succ]) | (refine wpPl_pur (by rfl) (by rfl) ?_; apply Exists.intro; refine ⟨fun x => ?_, ?_⟩; (focus (go_simp <;> with_reducible rfl)); simp only [Act.put, List.setIfInBounds_toArray, List.set_cons_zero, List.set_cons_succ]))
              refine wpPl_one (by rfl) (by rfl) (fun K hK => ?_)
              go_wp2_with fail
              refine hK _ _ ((HE3.out.alloc _).fr NoF) ?_
              clear hK
              refine wpPl_one (by rfl) (by rfl) (fun K hK => ?_)
              go_wp2_with fail
              refine hK _ _ ((HE3.out.alloc _).fr NoF) ?_
              clear hK
              refine wpPl_done ?_
              go_wp2_with fail
              go_meet
              case rel => exact ⟨_, A', c', rfl, hs3, heap_new _ _, ⟨HOS.out.ext ((Ext.refl w3).alloc _), fun u => HOS.out.ext (((Ext.refl w3).alloc _).set (Nat.le_refl _) u)⟩, HE3.out.alloc _⟩
            · refine wpPl_one (by rfl) (by rfl) (fun K hK => ?_)
              go_wp2_with fail
              refine hK _ _ (((Ext.refl W0).drew.alloc _).fr NoF) ?_
              clear hK
              refine wpPl_one (by rfl) (by rfl) (fun K hK => ?_)
              go_wp2_with fail
              refine (Clone_uint64 A3 c3 x.data _ ((HD.out.ext HE0.out).ext ((Ext.refl W0).alloc _).drew) HDL.out).mono ?_
              rintro e w3 ⟨v3, rfl, hos, he3⟩
              obtain ⟨A', c', rfl, hsc⟩ := hos.sc
              have HOS := Hd.mk hos
              have HE3 := Hd.mk (((Ext.refl W0).alloc _).drew.trans he3)
              have q := he3.obj (heap_new W0 _)
              have q0 := cell_obj (i := 0) q
              have q1 := cell_obj (i := 1) q
              have q2 := cell_obj (i := 2) q
              have q3 := cell_obj (i := 3) q
              have q4 := cell_obj (i := 4) q
              have q5 := cell_obj (i := 5) q
              have q6 := cell_obj (i := 6) q
              have q7 := cell_obj (i := 7) q
              have f0 := frozen_obj q 0
              have f1 := frozen_obj q 1
              have f2 := frozen_obj q 2
              have f3 := frozen_obj q 3
              have f4 := frozen_obj q 4
              have f5 := frozen_obj q 5
              have f6 := frozen_obj q 6
              have f7 := frozen_obj q 7
              have HQ := Hd.mk q
              clear hos he3 hsc q
              refine hK _ _ (HE3.out.fr NoF) ?_
              clear hK
              repeat (first | (refine wpPl_skip (by rfl) (by rfl) ?_; simp only [Act.put, List.setIfInBounds_toArray, List.set_cons_zero, List.set_cons_succ]) | (refine wpPl_pur (by rfl) (by rfl) ?_; apply Exists.intro; refine ⟨fun x => ?_, ?_⟩; (focus (go_simp <;> with_reducible rfl)); simp only [Act.put, List.setIfInBounds_toArray, List.set_cons_zero, List.set_cons_succ]))
              refine wpPl_one (by rfl) (by rfl) (fun K hK => ?_)
              go_wp2_with fail
              have HOS2 := Hd.mk ((((((((HOS.out.set (p := ⟨W0.heap.size, 0, none⟩) (by simp) (.int .i64 0)).set (p := ⟨W0.heap.size, 1, none⟩) (by simp) (.int .i64 0)).set (p := ⟨W0.heap.size, 2, none⟩) (by simp) (.int .i64 0)).set (p := ⟨W0.heap.size, 3, none⟩) (by simp) (.int .i64 0)).set (p := ⟨W0.heap.size, 4, none⟩) (by simp) (.int .i64 0)).set (p := ⟨W0.heap.size, 5, none⟩) (by simp) (.int .i64 x.off)).set (p := ⟨W0.heap.size, 6, none⟩) (by simp) (.int .i64 x.len)).set (p := ⟨W0.heap.size, 7, none⟩) (by simp) (.slice A' x.data.length c'))
              have HF := Hd.mk ((((((((HE3.out.set (p := ⟨W0.heap.size, 0, none⟩) (Nat.le_refl _) (.int .i64 0)).set (p := ⟨W0.heap.size, 1, none⟩) (Nat.le_refl _) (.int .i64 0)).set (p := ⟨W0.heap.size, 2, none⟩) (Nat.le_refl _) (.int .i64 0)).set (p := ⟨W0.heap.size, 3, none⟩) (Nat.le_refl _) (.int .i64 0)).set (p := ⟨W0.heap.size, 4, none⟩) (Nat.le_refl _) (.int .i64 0)).set (p := ⟨W0.heap.size, 5, none⟩) (Nat.le_refl _) (.int .i64 x.off)).set (p := ⟨W0.heap.size, 6, none⟩) (Nat.le_refl _) (.int .i64 x.len)).set (p := ⟨W0.heap.size, 7, none⟩) (Nat.le_refl _) (.slice A' x.data.length c'))
              refine hK _ _ (HF.out.fr NoF) ?_
              clear hK
              refine wpPl_done ?_
              go_wp2_with fail
              go_meet
              case rel => exact ⟨_, A', c', rfl, Nat.le_refl _, obj_set (obj_set (obj_set (obj_set (obj_set (obj_set (obj_set (obj_set HQ.out))))))), ⟨HOS2.out.base (by simp), fun u => (HOS2.out.set (by simp) u).base (by simp)⟩, HF.out⟩
          case rest =>
            obtain ⟨g, A', c', rfl, hg, hgo, ⟨hos, hos2⟩, he⟩ := hcut
            have HG := Hd.mk hgo
            have HOSa := Hd.mk hos
            have HOSb := Hd.mk hos2
            have q0 := cell_obj (i := 0) hgo
            have q1 := cell_obj (i := 1) hgo
            have q2 := cell_obj (i := 2) hgo
            have q3 := cell_obj (i := 3) hgo
            have q4 := cell_obj (i := 4) hgo
            have q5 := cell_obj (i := 5) hgo
            have q6 := cell_obj (i := 6) hgo
            have q7 := cell_obj (i := 7) hgo
            have f0 := frozen_obj hgo 0
            have HC := Hd.mk he
            have t0 := he.cell t0
            clear t1 t2 t3 hgo hos hos2 he
            by_cases n1 : x.kind = 1
            · have g2 : (x.kind == 1) = true := by simpa using n1
              have N1 := Hd.mk n1
              clear n1
              have HW := Hd.mk ((HE0.out.trans HC.out).set (p := ⟨g, 0, none⟩) (Nat.le_trans HE0.out.size hg) (.int .i64 2))
              obtain ⟨cs, hrows, hown⟩ := HOM.out
              have hlt0 := owns_lt hown
              have HROWS := Hd.mk hrows
              have HOWN := Hd.mk hown
              clear hrows hown
              go_wp2_with (at_builtin; refine wpList_app _ tRec rfl (.tmp 43) (.tmp 45) rfl w.heap.size _ _ cs rfl (owns_ext HOWN.out (HW.out.alloc _)) (some ⟨_, 0, none⟩) 1 1 [.int .i64 2, .int .i64 0, .int .i64 0, .int .i64 0, .int .i64 0, .int .i64 x.off, .int .i64 x.len, .slice A' x.data.length c'] rfl rfl (Fl.new (heap_at (by simp))) (by intro u hu; simp at hu; rcases hu with rfl | rfl | rfl | rfl | rfl <;> rfl) (by simp only [List.length_cons, List.length_map, List.length_take]; omega) (HE2.out.trans (HW.out.alloc _)).size ?_)
              rintro v1 w3 hown hgr hv
              have hrw := Rows'.grow (x := recOf x) (c := [.int .i64 2, .int .i64 0, .int .i64 0, .int .i64 0, .int .i64 0, .int .i64 x.off, .int .i64 x.len, .slice A' x.data.length c']) (HROWS.out.ext (St_keeps _ _) (HW.out.alloc _)) (fun w'' hf => ⟨A', c', by simp [recOf, N1.out], (((HOSb.out _).ext ((Ext.refl _).alloc _)).fr (fun b hb => Nat.lt_of_lt_of_le (hlt0 b hb) HE0.out.size) hf).sc2⟩) rfl hgr (by simpa using hv)
              rw [show recOf x = recOf ops[k] by rw [HX.out], take_rec hlt] at hrw
              have HRW := Hd.mk hrw
              have HOW3 := Hd.mk hown
              have HX3 := Hd.mk ((HE2.out.trans (HW.out.alloc _)).grown hgr (fun b hb => owns_block HOWN.out b hb))
              clear hown hgr hv hrw
              go_wp2
              go_roundw
              case rel =>
                refine ⟨k + 1, by omega, by go_num, ⟨_, HRW.out, ?_⟩, HX3.out⟩
                rw [← take_rec hlt, List.length_append, show (r0 :: List.map recOf (List.take k ops)).length + [recOf ops[k]].length = k + 1 + 1 by simp; omega]
                exact HOW3.out
              case measure => simp [intOf]; omega
            · have g2 : (x.kind == 1) = false := by simpa using n1
              have N1 := Hd.mk n1
              clear n1
              by_cases n2 : x.kind = 2
              · have g3 : (x.kind == 2) = true := by simpa using n2
                have N2 := Hd.mk n2
                clear n2
                have HW := Hd.mk ((HE0.out.trans HC.out).set (p := ⟨g, 0, none⟩) (Nat.le_trans HE0.out.size hg) (.int .i64 3))
                obtain ⟨cs, hrows, hown⟩ := HOM.out
                have hlt0 := owns_lt hown
                have HROWS := Hd.mk hrows
                have HOWN := Hd.mk hown
                clear hrows hown
                go_wp2_with (at_builtin; refine wpList_app _ tRec rfl (.tmp 43) (.tmp 45) rfl w.heap.size _ _ cs rfl (owns_ext HOWN.out (HW.out.alloc _)) (some ⟨_, 0, none⟩) 1 1 [.int .i64 3, .int .i64 0, .int .i64 0, .int .i64 0, .int .i64 0, .int .i64 x.off, .int .i64 x.len, .slice A' x.data.length c'] rfl rfl (Fl.new (heap_at (by simp))) (by intro u hu; simp at hu; rcases hu with rfl | rfl | rfl | rfl | rfl <;> rfl) (by simp only [List.length_cons, List.length_map, List.length_take]; omega) (HE2.out.trans (HW.out.alloc _)).size ?_)
                rintro v1 w3 hown hgr hv
                have hrw := Rows'.grow (x := recOf x) (c := [.int .i64 3, .int .i64 0, .int .i64 0, .int .i64 0, .int .i64 0, .int .i64 x.off, .int .i64 x.len, .slice A' x.data.length c']) (HROWS.out.ext (St_keeps _ _) (HW.out.alloc _)) (fun w'' hf => ⟨A', c', by simp [recOf, N1.out, N2.out], (((HOSb.out _).ext ((Ext.refl _).alloc _)).fr (fun b hb => Nat.lt_of_lt_of_le (hlt0 b hb) HE0.out.size) hf).sc2⟩) rfl hgr (by simpa using hv)
                rw [show recOf x = recOf ops[k] by rw [HX.out], take_rec hlt] at hrw
                have HRW := Hd.mk hrw
                have HOW3 := Hd.mk hown
                have HX3 := Hd.mk ((HE2.out.trans (HW.out.alloc _)).grown hgr (fun b hb => owns_block HOWN.out b hb))
                clear hown hgr hv hrw
                go_wp2
                go_roundw
                case rel =>
                  refine ⟨k + 1, by omega, by go_num, ⟨_, HRW.out, ?_⟩, HX3.out⟩
                  rw [← take_rec hlt, List.length_append, show (r0 :: List.map recOf (List.take k ops)).length + [recOf ops[k]].length = k + 1 + 1 by simp; omega]
                  exact HOW3.out
                case measure => simp [intOf]; omega
              · have g3 : (x.kind == 2) = false := by simpa using n2
                have N2 := Hd.mk n2
                clear n2
                have HW := Hd.mk (HE0.out.trans HC.out)
                obtain ⟨cs, hrows, hown⟩ := HOM.out
                have hlt0 := owns_lt hown
                have HROWS := Hd.mk hrows
                have HOWN := Hd.mk hown
                clear hrows hown
                go_wp2_with (at_builtin; refine wpList_app _ tRec rfl (.tmp 43) (.tmp 45) rfl w.heap.size _ _ cs rfl (owns_ext HOWN.out (HW.out.alloc _)) (some ⟨_, 0, none⟩) 1 1 [.int .i64 0, .int .i64 0, .int .i64 0, .int .i64 0, .int .i64 0, .int .i64 x.off, .int .i64 x.len, .slice A' x.data.length c'] rfl rfl (Fl.new (heap_at (by simp))) (by intro u hu; simp at hu; rcases hu with rfl | rfl | rfl | rfl | rfl <;> rfl) (by simp only [List.length_cons, List.length_map, List.length_take]; omega) (HE2.out.trans (HW.out.alloc _)).size ?_)
                rintro v1 w3 hown hgr hv
                have hrw := Rows'.grow (x := recOf x) (c := [.int .i64 0, .int .i64 0, .int .i64 0, .int .i64 0, .int .i64 0, .int .i64 x.off, .int .i64 x.len, .slice A' x.data.length c']) (HROWS.out.ext (St_keeps _ _) (HW.out.alloc _)) (fun w'' hf => ⟨A', c', by simp [recOf, N1.out, N2.out], ((HOSa.out.ext ((Ext.refl _).alloc _)).fr (fun b hb => Nat.lt_of_lt_of_le (hlt0 b hb) HE0.out.size) hf).sc2⟩) rfl hgr (by simpa using hv)
                rw [show recOf x = recOf ops[k] by rw [HX.out], take_rec hlt] at hrw
                have HRW := Hd.mk hrw
                have HOW3 := Hd.mk hown
                have HX3 := Hd.mk ((HE2.out.trans (HW.out.alloc _)).grown hgr (fun b hb => owns_block HOWN.out b hb))
                clear hown hgr hv hrw
                go_wp2
                go_roundw
                case rel =>
                  refine ⟨k + 1, by omega, by go_num, ⟨_, HRW.out, ?_⟩, HX3.out⟩
                  rw [← take_rec hlt, List.length_append, show (r0 :: List.map recOf (List.take k ops)).length + [recOf ops[k]].length = k + 1 + 1 by simp; omega]
                  exact HOW3.out
                case measure => simp [intOf]; omega
        · obtain rfl : k = ops.length := by omega
          rw [List.take_length] at HOM
          obtain ⟨cs, hrows, hown⟩ := HOM.out
          have hlt0 := owns_lt hown
          have HROWS := Hd.mk hrows
          have HOWN := Hd.mk hown
          clear hrows hown
          go_wp2_with (at_builtin; refine wpList_app _ tRec rfl (.tmp 48) (.tmp 52) rfl w.heap.size _ _ cs rfl (owns_ext HOWN.out ((Ext.refl wr).alloc _)) (some ⟨_, 0, none⟩) 1 1 [.int .i64 4, .int .i64 0, .int .i64 0, .int .i64 0, .int .i64 0, .int .i64 0, .int .i64 ops.length, .slice none 0 0] rfl rfl (Fl.new (heap_at (by simp))) (by intro u hu; simp at hu; rcases hu with rfl | rfl | rfl | rfl <;> rfl) (by simp only [List.length_cons, List.length_map]; omega) (HE2.out.trans ((Ext.refl wr).alloc _)).size ?_)
          rintro v1 w3 hown hgr hv
          have hrw := Rows'.grow (x := tailOf ops.length) (c := [.int .i64 4, .int .i64 0, .int .i64 0, .int .i64 0, .int .i64 0, .int .i64 0, .int .i64 ops.length, .slice none 0 0]) (HROWS.out.ext (St_keeps _ _) ((Ext.refl wr).alloc _)) (fun w'' hf => ⟨none, 0, rfl, Sc.nil _ _⟩) rfl hgr (by simpa using hv)
          have hom3 : Om 8 rcR w3 w.heap.size 24 v1 (streamOf r0 ops) := ⟨_, hrw, by rw [show (streamOf r0 ops).length = ops.length + 1 + 1 by simp [streamOf]]; exact hown⟩
          have HX3 := Hd.mk ((HE2.out.trans ((Ext.refl wr).alloc _)).grown hgr (fun b hb => owns_block HOWN.out b hb))
          obtain ⟨A', c', rfl, hsm⟩ := hom3.sm
          have HOM3 := Hd.mk hom3
          have HSM := Hd.mk hsm
          clear hown hgr hv hrw hom3 hsm
          go_wp2_with fail
          refine (Check_calls A' c' (streamOf r0 ops) w3 HSM.out (by simp [streamOf]; omega)).mono ?_
          rintro e w4 ⟨rfl, he4⟩
          have HE4 := Hd.mk he4
          clear he4
          by_cases hck : check (streamOf r0 ops) = 0
          · have g9 : (check (streamOf r0 ops) != 0) = false := by simpa using hck
            have HCK := Hd.mk hck
            clear hck
            go_wp2
            go_ret2
            rw [show build r0 ops = (streamOf r0 ops, 0) by rw [build, if_pos ⟨E1.out, HZ.out⟩, if_pos HCK.out]]
            exact ⟨_, rfl, HOM3.out.ext HE4.out, HX3.out.trans HE4.out⟩
          · have g9 : (check (streamOf r0 ops) != 0) = true := by simpa using hck
            have HCK := Hd.mk hck
            clear hck
            go_wp2
            go_ret2
            rw [show build r0 ops = ([], check (streamOf r0 ops)) by rw [build, if_pos ⟨E1.out, HZ.out⟩, if_neg HCK.out]]
            exact ⟨_, rfl, Om.nil _ _ _ _ _, HX3.out.trans HE4.out⟩
  · have g1 : (r0.kind != 1) = true := by simpa using e1
    have E1 := Hd.mk e1
    clear e1
    go_wp2
    go_ret2
    rw [show build r0 ops = ([], 1) by rw [build, if_neg (fun h => E1.out h.1)]]
    exact ⟨_, rfl, Om.nil _ _ _ _ _, (Ext.refl w).alloc _⟩
end Go.Proofs.Ytipoegmheiapgaa
