/- The law StreamBack, walked. -/
import Derived.Test.YtipoegmheiapgaaK11
import Derived.Test.YtipoegmheiapgaaM4
namespace Go.Proofs.Ytipoegmheiapgaa
set_option linter.unusedVariables false
set_option linter.unusedSimpArgs false
open Go.RowKit

theorem calls_of_dr {P : Program} {f : FuncId} {args : Array Value} {w : World} {v : Value} (h : Calls P f args w fun e w' => e = .returned v ∧ Dr w w') : Calls P f args w fun e w' => e = .returned v ∧ Ext w w' :=
  h.mono fun _ _ ⟨h1, h2⟩ => ⟨h1, h2.ext⟩

set_option maxHeartbeats 4000000 in
set_option maxRecDepth 100000 in
theorem StreamBack_calls (r0 : Rc) (A : Option Addr) (c : Nat) (B : Option Addr) (d : Nat) (ops : List VOp) (w : World) (hh : Sc vU w A c r0.data) (ho : Sm 4 opR w B d ops)
    (hN : ops.length ≤ 1048576) (hD : ∀ i (hi : i < ops.length), ops[i].data.length ≤ 4294967296) :
    Calls Try.prog 3 #[rcV r0 A c, .slice B ops.length d] w fun e w' => e = .returned (.bool true) ∧ Ext w w' := by
  have hd1 := ho.1
  have hd2 := ho.2.1
  unfold maxLen at hd2
  have HH := Hd.mk hh
  have HO := Hd.mk ho
  have HDD := Hd.mk hD
  clear hh ho hD
  go_enter Try.func3, Try.ntmps3
  go_wp2_with fail
  have e0 : Ext w (w.alloc (.cells #[.int .i64 r0.kind, .int .i64 r0.shard, .int .i64 r0.snap, .int .i64 r0.base, .int .i64 r0.map, .int .i64 r0.off, .int .i64 r0.len, .slice A r0.data.length c] 24)) := (Ext.refl w).alloc _
  refine (Build_calls r0 A c B d ops _ (HH.out.ext e0) (HO.out.ext opR_keeps e0) hN HDD.out).mono ?_
  rintro e w1 ⟨v1, rfl, hom1, he1⟩
  have HQ := Hd.mk (he1.obj (heap_new w (.cells #[.int .i64 r0.kind, .int .i64 r0.shard, .int .i64 r0.snap, .int .i64 r0.base, .int .i64 r0.map, .int .i64 r0.off, .int .i64 r0.len, .slice A r0.data.length c] 24)))
  have HE1 := Hd.mk (e0.trans he1)
  obtain ⟨A1, c1, rfl, hs1⟩ := hom1.sm
  clear e0 hom1 he1
  rcases build_cases r0 ops with ⟨hb, hck, hop⟩ | ⟨hb, hne⟩
  · rw [hb] at hs1 ⊢
    have HS1 := Hd.mk hs1
    have HOP := Hd.mk hop
    have hl : (streamOf r0 ops).length = ops.length + 2 := by simp [streamOf]
    rw [hl]
    clear hb hck hop hs1
    have HL := Hd.mk hl
    clear hl
    go_wp2_with fail
    rw [← HL.out]
    refine (Ops_calls A1 c1 (streamOf r0 ops) _ HS1.out (by rw [HL.out]; omega)).mono ?_
    rintro e w2 ⟨v2, rfl, hom2, he2⟩
    rw [HOP.out] at hom2 ⊢
    rw [HL.out]
    obtain ⟨A2, c2, rfl, hs2⟩ := hom2.sm
    have HE2 := Hd.mk (HE1.out.trans he2)
    have hq2 := he2.obj HQ.out
    have hs1 := HS1.out.ext rcR_keeps he2
    obtain ⟨b1, off1, x1, cs1, rfl, hx1, ⟨A3, c3, rfl, hd3⟩, _, hcx⟩ := hs1.at (i := 0) (by rw [HL.out]; omega)
    obtain rfl : x1 = r0 := by rw [← hx1]; rfl
    have m0 : ∀ q : ExtOf w2, q.1.cell? ⟨b1, off1, none⟩ = some (.int .i64 x1.kind) := fun q => q.cell (by simpa using hcx 0 _ rfl)
    have m1 : ∀ q : ExtOf w2, q.1.cell? ⟨b1, off1 + 1, none⟩ = some (.int .i64 x1.shard) := fun q => q.cell (by simpa using hcx 1 _ rfl)
    have m2 : ∀ q : ExtOf w2, q.1.cell? ⟨b1, off1 + 2, none⟩ = some (.int .i64 x1.snap) := fun q => q.cell (by simpa using hcx 2 _ rfl)
    have m3 : ∀ q : ExtOf w2, q.1.cell? ⟨b1, off1 + 3, none⟩ = some (.int .i64 x1.base) := fun q => q.cell (by simpa using hcx 3 _ rfl)
    have m4 : ∀ q : ExtOf w2, q.1.cell? ⟨b1, off1 + 4, none⟩ = some (.int .i64 x1.map) := fun q => q.cell (by simpa using hcx 4 _ rfl)
    have m5 : ∀ q : ExtOf w2, q.1.cell? ⟨b1, off1 + 5, none⟩ = some (.int .i64 x1.off) := fun q => q.cell (by simpa using hcx 5 _ rfl)
    have m6 : ∀ q : ExtOf w2, q.1.cell? ⟨b1, off1 + 6, none⟩ = some (.int .i64 x1.len) := fun q => q.cell (by simpa using hcx 6 _ rfl)
    have m7 : ∀ q : ExtOf w2, q.1.cell? ⟨b1, off1 + 7, none⟩ = some (.slice A3 x1.data.length c3) := fun q => q.cell (by simpa using hcx 7 _ rfl)
    have n0 : ∀ q : ExtOf w2, q.1.cell? ⟨w.heap.size, 0, none⟩ = some (.int .i64 x1.kind) := fun q => q.cell (cell_obj (i := 0) hq2)
    have n1 : ∀ q : ExtOf w2, q.1.cell? ⟨w.heap.size, 1, none⟩ = some (.int .i64 x1.shard) := fun q => q.cell (cell_obj (i := 1) hq2)
    have n2 : ∀ q : ExtOf w2, q.1.cell? ⟨w.heap.size, 2, none⟩ = some (.int .i64 x1.snap) := fun q => q.cell (cell_obj (i := 2) hq2)
    have n3 : ∀ q : ExtOf w2, q.1.cell? ⟨w.heap.size, 3, none⟩ = some (.int .i64 x1.base) := fun q => q.cell (cell_obj (i := 3) hq2)
    have n4 : ∀ q : ExtOf w2, q.1.cell? ⟨w.heap.size, 4, none⟩ = some (.int .i64 x1.map) := fun q => q.cell (cell_obj (i := 4) hq2)
    have n5 : ∀ q : ExtOf w2, q.1.cell? ⟨w.heap.size, 5, none⟩ = some (.int .i64 x1.off) := fun q => q.cell (cell_obj (i := 5) hq2)
    have n6 : ∀ q : ExtOf w2, q.1.cell? ⟨w.heap.size, 6, none⟩ = some (.int .i64 x1.len) := fun q => q.cell (cell_obj (i := 6) hq2)
    have n7 : ∀ q : ExtOf w2, q.1.cell? ⟨w.heap.size, 7, none⟩ = some (.slice A x1.data.length c) := fun q => q.cell (cell_obj (i := 7) hq2)
    have HVS := Hd.mk (fun q : ExtOf w2 => calls_ext (calls_of_dr (VSame_calls A2 B c2 d ops ops q.1 (hs2.ext opR_keeps q.2) (HO.out.ext opR_keeps (HE2.out.trans q.2)))))
    have HON := Hd.mk (fun q : ExtOf w2 => calls_ext (One_calls x1 x1 A3 A c3 c q.1 (hd3.ext q.2) (HH.out.ext (HE2.out.trans q.2))))
    have HAL := Hd.mk (fun q : ExtOf w2 => calls_ext (alive10_calls q.1))
    rw [decide_eq_true (rfl : ops = ops)] at HVS
    rw [decide_eq_true (rfl : x1 = x1)] at HON
    clear hq2 hs1 hcx hd3 hs2 hx1 hom2 he2
    go_wp2_with fail
    refine wp_region_ext (by kernel_rfl) (by kernel_rfl) ?_
    repeat (any_goals (first | go_big_quiet_step ((first | (go_at_call 12; exact HVS.out _) | (go_at_call 13; exact HON.out _) | (go_at_call 10; exact HAL.out _))) | quiet_step ((first | (go_at_call 12; exact HVS.out _) | (go_at_call 13; exact HON.out _) | (go_at_call 10; exact HAL.out _)))))
    refine wpQuiet_nil ?_
    rintro _ ⟨⟨w3, he3⟩, rfl⟩
    have HE3 := Hd.mk (HE2.out.trans he3)
    clear he3 m0 m1 m2 m3 m4 m5 m6 m7 n0 n1 n2 n3 n4 n5 n6 n7
    go_wp2
    go_ret
    exact ⟨by simp, HE3.out⟩
  · have hl0 : (build r0 ops).1.length = 0 := by rw [hb]; rfl
    rw [hl0]
    generalize (build r0 ops).2 = z at hne ⊢
    have g1 : (z != 0) = true := by simpa using hne
    clear hb hne hl0 hs1
    go_wp2_with fail
    refine (alive10_calls _).mono ?_
    rintro e w2 ⟨rfl, he2⟩
    have HE2 := Hd.mk (HE1.out.trans he2)
    clear he2
    go_wp2
    go_ret
    exact ⟨rfl, HE2.out⟩
end Go.Proofs.Ytipoegmheiapgaa
