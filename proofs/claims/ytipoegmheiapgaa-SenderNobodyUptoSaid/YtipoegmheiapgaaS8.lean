/- The reference's records: Build. -/
import Derived.Test.YtipoegmheiapgaaS7
namespace Go.Proofs.Ytipoegmheiapgaa
set_option linter.unusedVariables false
set_option linter.unusedSimpArgs false
open Go.RowKit

theorem take_recx {ops : List VOp} {k : Nat} (h : k < ops.length) (r0 : Rc) : (r0 :: (ops.take k).map recOf) ++ [recOf ops[k]] = r0 :: (ops.take (k + 1)).map recOf := take_rec h r0

set_option maxHeartbeats 4000000 in
set_option maxRecDepth 100000 in
theorem RBuild_calls (r0 : Rc) (A : Option Addr) (c : Nat) (B : Option Addr) (d : Nat) (ops : List VOp) (w : World) (hh : Sc vU w A c r0.data) (ho : Sm 4 opR w B d ops) (hN : ops.length ≤ 1048576) :
    Calls Try.prog 16 #[rcV r0 A c, .slice B ops.length d] w fun e w' => ∃ v, e = .returned (.tuple #[v, .int .i64 (build r0 ops).2]) ∧ Om 8 rcR w' w.heap.size 24 v (build r0 ops).1 ∧ Ext w w' := by
  have hc1 := ho.1
  have hc2 := ho.2.1
  unfold maxLen at hc2
  have HH := Hd.mk hh
  have HO := Hd.mk ho
  obtain ⟨W0, hW0⟩ : ∃ W0, W0 = w.alloc (.cells #[.int .i64 r0.kind, .int .i64 r0.shard, .int .i64 r0.snap, .int .i64 r0.base, .int .i64 r0.map, .int .i64 r0.off, .int .i64 r0.len, .slice A r0.data.length c] 24) := ⟨_, rfl⟩
  have HE0 := Hd.mk (show Ext w W0 from by rw [hW0]; exact (Ext.refl w).alloc _)
  have HQ0 := Hd.mk (show W0.heap[w.heap.size]? = some (.cells #[.int .i64 r0.kind, .int .i64 r0.shard, .int .i64 r0.snap, .int .i64 r0.base, .int .i64 r0.map, .int .i64 r0.off, .int .i64 r0.len, .slice A r0.data.length c] 24 (0, 0)) from by rw [hW0]; exact heap_new _ _)
  clear hh ho
  go_enter Try.func16, Try.ntmps16
  by_cases e1 : r0.kind = 1
  · have g1 : (r0.kind != 1) = false := by simpa using e1
    have E1 := Hd.mk e1
    clear e1
    go_wp2_with fail
    rw [← hW0]
    clear hW0
    refine (RMay_calls r0 A c _ (HH.out.ext HE0.out)).mono ?_
    rintro e w1 ⟨rfl, he1⟩
    generalize hz : may r0 = z
    have HZ := Hd.mk hz
    have HQ := Hd.mk (he1.obj HQ0.out)
    have k0 := cell_obj (i := 0) HQ.out
    have k1 := cell_obj (i := 1) HQ.out
    have k2 := cell_obj (i := 2) HQ.out
    have k3 := cell_obj (i := 3) HQ.out
    have k4 := cell_obj (i := 4) HQ.out
    have k5 := cell_obj (i := 5) HQ.out
    have k6 := cell_obj (i := 6) HQ.out
    have k7 := cell_obj (i := 7) HQ.out
    have HE1 := Hd.mk (HE0.out.trans he1)
    clear hz he1
    cases z with
    | false =>
      go_wp2
      go_ret2
      rw [show build r0 ops = ([], 1) by rw [build, if_neg (by rintro ⟨_, h⟩; rw [HZ.out] at h; cases h)]]
      exact ⟨_, rfl, Om.nil _ _ _ _ _, HE1.out⟩
    | true =>
      go_wp2_with fail
      go_loopw [6, 7] (fun v i w2 => ∃ (k : Nat) (A2 : Option Addr) (c2 : Nat), k ≤ ops.length ∧ i = .int .i64 k ∧ v = .slice A2 (k + 1) c2 ∧ Omx NoF 8 rcR w2 w.heap.size 24 v (r0 :: (ops.take k).map recOf) ∧ Ext w w2) (fun _ i _ => ops.length - (intOf i).toNat)
      case atStart =>
        refine ⟨0, _, _, Nat.zero_le _, rfl, rfl, ⟨[.int .i64 r0.kind, .int .i64 r0.shard, .int .i64 r0.snap, .int .i64 r0.base, .int .i64 r0.map, .int .i64 r0.off, .int .i64 r0.len, .slice A r0.data.length c], ?_, ?_⟩, HE1.out.alloc _⟩
        · refine Rows'.one (fun w'' hf => ⟨A, c, rfl, HH.out.ext (ext_fr (HE1.out.alloc _) hf ?_)⟩) rfl
          intro b hb
          rcases hb with hb | hb
          · exact hb.elim
          · simp [ownF, Value.ownBlock] at hb
            have := HE1.out.size
            omega
        · exact owns_new (n := 1) (heap_new _ _) HE1.out.size rfl (by simp [maxLen])
      case round =>
        obtain ⟨k, A2, c2, hk, rfl, rfl, hom, he2⟩ := hrel
        have HOM := Hd.mk hom
        have HE2 := Hd.mk he2
        clear hom he2 k0 k1 k2 k3 k4 k5 k6 k7
        by_cases hlt : k < ops.length
        · obtain ⟨b2, off2, x, cs2, rfl, hx, ⟨A3, c3, rfl, hd3⟩, _, hcx⟩ := HO.out.at hlt
          have m0 : wr.cell? ⟨b2, off2 + k * 4, none⟩ = some _ := HE2.out.cell (hcx 0 _ rfl)
          have m1 := HE2.out.cell (hcx 1 _ rfl)
          have m2 := HE2.out.cell (hcx 2 _ rfl)
          have m3 := HE2.out.cell (hcx 3 _ rfl)
          have HX := Hd.mk hx
          have HD := Hd.mk hd3
          clear hx hd3 hcx
          obtain ⟨z, hz⟩ : ∃ z, IntKind.i64.wrap (x.kind + 1) = z := ⟨_, rfl⟩
          have l0 := fun q : FrOf NoF wr => q.c m0
          have l1 := fun q : FrOf NoF wr => q.c m1
          have l2 := fun q : FrOf NoF wr => q.c m2
          have l3 := fun q : FrOf NoF wr => q.c m3
          go_wp2_with fail
          refine wp_region_pl NoF wr (.pur 0 (.pur 1 (.pur 2 (.pur 3 (.pur 4 (.pur 5 (.pur 6 (.pur 7 (.pur 8 (.pur 9 (.pur 10 (.pur 11 (.pur 12 (.pur 13 (.pur 14 (.pur 15 (.pur 16 (.pur 17 (.pur 18 (.pur 19 (.pur 20 (.pur 21 (.one 22 (.one 23 (.done))))))))))))))))))))))))) (by kernel_rfl) (by kernel_rfl) (by kernel_rfl) (fun _ _ d _ _ h => by cases d <;> exact h) (Fr.refl _ _) ?_
          (repeat (refine wpPl_pur (by rfl) (by rfl) ?_; apply Exists.intro; refine ⟨fun x => ?_, ?_⟩; (focus (go_simp <;> with_reducible rfl)); simp only [Act.put, List.setIfInBounds_toArray, List.set_cons_zero, List.set_cons_succ]))
          refine wpPl_one (by rfl) (by rfl) (fun K hK => ?_)
          go_wp2_with fail
          refine hK _ _ (((Ext.refl wr).drew.alloc _).fr NoF) ?_
          clear hK
          refine wpPl_one (by rfl) (by rfl) (fun K hK => ?_)
          go_wp2_with fail
          obtain ⟨W5, hW5⟩ : ∃ W5, W5 = (wr.alloc (.cells #[.int .i64 z, .int .i64 0, .int .i64 0, .int .i64 0, .int .i64 0, .int .i64 x.off, .int .i64 x.len, .slice A3 x.data.length c3] 24)).drew := ⟨_, rfl⟩
          have HG5 := Hd.mk (show W5.heap[wr.heap.size]? = some (.cells #[.int .i64 z, .int .i64 0, .int .i64 0, .int .i64 0, .int .i64 0, .int .i64 x.off, .int .i64 x.len, .slice A3 x.data.length c3] 24 (0, 0)) from by rw [hW5]; exact heap_new wr _)
          have HE5 := Hd.mk (show Ext wr W5 from by rw [hW5]; exact ((Ext.refl wr).alloc _).drew)
          rw [← hW5]
          clear hW5
          refine hK _ _ (HE5.out.fr NoF) ?_
          clear hK
          refine wpPl_done ?_
          have HZ2 := Hd.mk hz
          clear hz l0 l1 l2 l3
          have m0 := HE5.out.cell m0
          have n0 := cell_obj (i := 0) HG5.out
          have f0 := frozen_obj HG5.out 0
          clear m1 m2 m3
          have n1 := cell_obj (i := 1) HG5.out
          have n2 := cell_obj (i := 2) HG5.out
          have n3 := cell_obj (i := 3) HG5.out
          have n4 := cell_obj (i := 4) HG5.out
          have n5 := cell_obj (i := 5) HG5.out
          have n6 := cell_obj (i := 6) HG5.out
          have n7 := cell_obj (i := 7) HG5.out
          by_cases h1 : x.kind = 1
          · have g2 : (x.kind != 1) = false := by simpa using h1
            obtain rfl : z = 2 := by rw [← HZ2.out, h1]; rfl
            have H1 := Hd.mk h1
            clear h1
            have HST := Hd.mk (show St (gF NoF (.slice A2 (k + 1) c2)) rcR (W5.alloc (.cells #[.int .i64 2, .int .i64 0, .int .i64 0, .int .i64 0, .int .i64 0, .int .i64 x.off, .int .i64 x.len, .slice A3 x.data.length c3] 24)) (recOf x) [.int .i64 2, .int .i64 0, .int .i64 0, .int .i64 0, .int .i64 0, .int .i64 x.off, .int .i64 x.len, .slice A3 x.data.length c3] from
              fun w'' hf => ⟨A3, c3, by simp [recOf, H1.out], HD.out.ext (ext_fr (HE2.out.trans (HE5.out.alloc _)) hf (fun q hq => by rcases hq with hq | hq; exact hq.elim; exact HOM.out.block q hq))⟩)
            go_wp2_with (at_builtin; refine wpList_push tRec rfl (.tmp 63) (.tmp 65) rfl rfl (HOM.out.ext (HE5.out.alloc _)) (some ⟨_, 0, none⟩) 1 (recOf x) [.int .i64 2, .int .i64 0, .int .i64 0, .int .i64 0, .int .i64 0, .int .i64 x.off, .int .i64 x.len, .slice A3 x.data.length c3] rfl rfl (Fl.new (heap_at rfl)) (by intro u hu; simp at hu; rcases hu with rfl | rfl | rfl | rfl | rfl <;> rfl) HST.out (by simp only [List.length_cons, List.length_map, List.length_take]; omega) (HE2.out.trans (HE5.out.alloc _)).size (fun q hq => hq.elim) ?_)
            rintro A8 c8 w8 hom8 hf8 _
            have HOM8 := Hd.mk hom8
            have HF8 := Hd.mk (ext_fr (HE2.out.trans (HE5.out.alloc _)) hf8 (fun q hq => HOM.out.block q hq))
            clear hom8 hf8 n0 n1 n2 n3 n4 n5 n6 n7
            go_wp2
            refine ⟨⟨k + 1, A8, c8, by omega, by go_num, rfl, ?_, HF8.out⟩, by simp [intOf]; omega⟩
            rw [← take_rec hlt, HX.out]
            have h9 := HOM8.out
            simpa [Nat.min_eq_left hk] using h9
          · have g2 : (x.kind != 1) = true := by simpa using h1
            have H1 := Hd.mk h1
            clear h1
            by_cases h2 : x.kind = 2
            · have g3 : (x.kind != 2) = false := by simpa using h2
              obtain rfl : z = 3 := by rw [← HZ2.out, h2]; rfl
              have H2 := Hd.mk h2
              clear h2
              have HST := Hd.mk (show St (gF NoF (.slice A2 (k + 1) c2)) rcR (W5.alloc (.cells #[.int .i64 3, .int .i64 0, .int .i64 0, .int .i64 0, .int .i64 0, .int .i64 x.off, .int .i64 x.len, .slice A3 x.data.length c3] 24)) (recOf x) [.int .i64 3, .int .i64 0, .int .i64 0, .int .i64 0, .int .i64 0, .int .i64 x.off, .int .i64 x.len, .slice A3 x.data.length c3] from
                fun w'' hf => ⟨A3, c3, by simp [recOf, H2.out], HD.out.ext (ext_fr (HE2.out.trans (HE5.out.alloc _)) hf (fun q hq => by rcases hq with hq | hq; exact hq.elim; exact HOM.out.block q hq))⟩)
              go_wp2_with (at_builtin; refine wpList_push tRec rfl (.tmp 63) (.tmp 65) rfl rfl (HOM.out.ext (HE5.out.alloc _)) (some ⟨_, 0, none⟩) 1 (recOf x) [.int .i64 3, .int .i64 0, .int .i64 0, .int .i64 0, .int .i64 0, .int .i64 x.off, .int .i64 x.len, .slice A3 x.data.length c3] rfl rfl (Fl.new (heap_at rfl)) (by intro u hu; simp at hu; rcases hu with rfl | rfl | rfl | rfl | rfl <;> rfl) HST.out (by simp only [List.length_cons, List.length_map, List.length_take]; omega) (HE2.out.trans (HE5.out.alloc _)).size (fun q hq => hq.elim) ?_)
              rintro A8 c8 w8 hom8 hf8 _
              have HOM8 := Hd.mk hom8
              have HF8 := Hd.mk (ext_fr (HE2.out.trans (HE5.out.alloc _)) hf8 (fun q hq => HOM.out.block q hq))
              clear hom8 hf8 n0 n1 n2 n3 n4 n5 n6 n7
              go_wp2
              refine ⟨⟨k + 1, A8, c8, by omega, by go_num, rfl, ?_, HF8.out⟩, by simp [intOf]; omega⟩
              rw [← take_rec hlt, HX.out]
              have h9 := HOM8.out
              simpa [Nat.min_eq_left hk] using h9
            · have g3 : (x.kind != 2) = true := by simpa using h2
              have H2 := Hd.mk h2
              clear h2
              obtain ⟨W6, hW6⟩ : ∃ W6, W6 = W5.setCell ⟨wr.heap.size, 0, none⟩ (.int .i64 0) := ⟨_, rfl⟩
              have HG6 := Hd.mk (show W6.heap[wr.heap.size]? = some (.cells #[.int .i64 0, .int .i64 0, .int .i64 0, .int .i64 0, .int .i64 0, .int .i64 x.off, .int .i64 x.len, .slice A3 x.data.length c3] 24 (0, 0)) from by rw [hW6]; exact obj_set (i := 0) HG5.out)
              have HE6 := Hd.mk (show Ext wr W6 from by rw [hW6]; exact HE5.out.set (p := ⟨wr.heap.size, 0, none⟩) (Nat.le_refl _) _)
              go_upto_region 10 with fail
              rw [← hW6]
              clear hW6 n0 n1 n2 n3 n4 n5 n6 n7 f0
              have n0 := cell_obj (i := 0) HG6.out
              have n1 := cell_obj (i := 1) HG6.out
              have n2 := cell_obj (i := 2) HG6.out
              have n3 := cell_obj (i := 3) HG6.out
              have n4 := cell_obj (i := 4) HG6.out
              have n5 := cell_obj (i := 5) HG6.out
              have n6 := cell_obj (i := 6) HG6.out
              have n7 := cell_obj (i := 7) HG6.out
              have HST := Hd.mk (show St (gF NoF (.slice A2 (k + 1) c2)) rcR (W6.alloc (.cells #[.int .i64 0, .int .i64 0, .int .i64 0, .int .i64 0, .int .i64 0, .int .i64 x.off, .int .i64 x.len, .slice A3 x.data.length c3] 24)) (recOf x) [.int .i64 0, .int .i64 0, .int .i64 0, .int .i64 0, .int .i64 0, .int .i64 x.off, .int .i64 x.len, .slice A3 x.data.length c3] from
                fun w'' hf => ⟨A3, c3, by simp [recOf, H1.out, H2.out], HD.out.ext (ext_fr (HE2.out.trans (HE6.out.alloc _)) hf (fun q hq => by rcases hq with hq | hq; exact hq.elim; exact HOM.out.block q hq))⟩)
              go_wp2_with (at_builtin; refine wpList_push tRec rfl (.tmp 63) (.tmp 65) rfl rfl (HOM.out.ext (HE6.out.alloc _)) (some ⟨_, 0, none⟩) 1 (recOf x) [.int .i64 0, .int .i64 0, .int .i64 0, .int .i64 0, .int .i64 0, .int .i64 x.off, .int .i64 x.len, .slice A3 x.data.length c3] rfl rfl (Fl.new (heap_at rfl)) (by intro u hu; simp at hu; rcases hu with rfl | rfl | rfl | rfl | rfl <;> rfl) HST.out (by simp only [List.length_cons, List.length_map, List.length_take]; omega) (HE2.out.trans (HE6.out.alloc _)).size (fun q hq => hq.elim) ?_)
              rintro A8 c8 w8 hom8 hf8 _
              have HOM8 := Hd.mk hom8
              have HF8 := Hd.mk (ext_fr (HE2.out.trans (HE6.out.alloc _)) hf8 (fun q hq => HOM.out.block q hq))
              clear hom8 hf8 n0 n1 n2 n3 n4 n5 n6 n7
              go_wp2
              refine ⟨⟨k + 1, A8, c8, by omega, by go_num, rfl, ?_, HF8.out⟩, by simp [intOf]; omega⟩
              rw [← take_rec hlt, HX.out]
              have h9 := HOM8.out
              simpa [Nat.min_eq_left hk] using h9
        · obtain rfl : k = ops.length := by omega
          rw [List.take_length] at HOM
          have HST := Hd.mk (show St (gF NoF (.slice A2 (ops.length + 1) c2)) rcR (wr.alloc (.cells #[.int .i64 4, .int .i64 0, .int .i64 0, .int .i64 0, .int .i64 0, .int .i64 0, .int .i64 (ops.length : Int), .slice none 0 0] 24)) (tailOf ops.length) [.int .i64 4, .int .i64 0, .int .i64 0, .int .i64 0, .int .i64 0, .int .i64 0, .int .i64 (ops.length : Int), .slice none 0 0] from
            fun w'' hf => ⟨none, 0, rfl, Sc.nil _ _⟩)
          go_wp2_with (at_builtin; refine wpList_push tRec rfl (.tmp 67) (.tmp 71) rfl rfl (HOM.out.ext ((Ext.refl wr).alloc _)) (some ⟨_, 0, none⟩) 1 (tailOf ops.length) [.int .i64 4, .int .i64 0, .int .i64 0, .int .i64 0, .int .i64 0, .int .i64 0, .int .i64 (ops.length : Int), .slice none 0 0] rfl rfl (Fl.new (heap_at rfl)) (by intro u hu; simp at hu; rcases hu with rfl | rfl | rfl | rfl <;> rfl) HST.out (by simp only [List.length_cons, List.length_map]; omega) (HE2.out.trans ((Ext.refl wr).alloc _)).size (fun q hq => hq.elim) ?_)
          rintro A8 c8 w8 hom8 hf8 _
          have HOM8 := Hd.mk (show Omx NoF 8 rcR w8 w.heap.size 24 (.slice A8 (ops.length + 1 + 1) c8) (streamOf r0 ops) from hom8)
          have HE8 := Hd.mk (ext_fr (HE2.out.trans ((Ext.refl wr).alloc _)) hf8 (fun q hq => HOM.out.block q hq))
          have hl2 : (streamOf r0 ops).length = ops.length + 2 := by simp [streamOf]
          have HL2 := Hd.mk hl2
          clear hom8 hf8 hl2
          go_wp2_with fail
          have HS9 := Hd.mk (HOM8.out.om.sm2)
          rw [show ops.length + 1 + 1 = (streamOf r0 ops).length from HL2.out.symm]
          refine (RCheck_calls A8 c8 (streamOf r0 ops) w8 HS9.out (by rw [HL2.out]; omega)).mono ?_
          rintro e w9 ⟨rfl, he9⟩
          rw [HL2.out]
          have HE9 := Hd.mk he9
          clear he9
          by_cases hck : check (streamOf r0 ops) = 0
          · have HB := Hd.mk (show build r0 ops = (streamOf r0 ops, 0) from by rw [build, if_pos ⟨E1.out, HZ.out⟩, if_pos hck])
            rw [hck]
            clear hck
            go_wp2
            go_ret2
            rw [HB.out]
            exact ⟨_, rfl, (HOM8.out.ext HE9.out).om, HE8.out.trans HE9.out⟩
          · have g9 : (check (streamOf r0 ops) != 0) = true := by simpa using hck
            have HB := Hd.mk (show build r0 ops = ([], check (streamOf r0 ops)) from by rw [build, if_pos ⟨E1.out, HZ.out⟩, if_neg hck])
            clear hck
            go_wp2
            go_ret2
            rw [HB.out]
            exact ⟨_, rfl, Om.nil _ _ _ _ _, HE8.out.trans HE9.out⟩
  · have g1 : (r0.kind != 1) = true := by simpa using e1
    have E1 := Hd.mk e1
    clear e1
    go_wp2
    go_ret2
    rw [show build r0 ops = ([], 1) by rw [build, if_neg (by rintro ⟨h, _⟩; exact E1.out h)]]
    exact ⟨_, rfl, Om.nil _ _ _ _ _, (Ext.refl w).alloc _⟩
end Go.Proofs.Ytipoegmheiapgaa
