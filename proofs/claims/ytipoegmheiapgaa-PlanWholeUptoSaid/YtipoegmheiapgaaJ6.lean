/- slices.Clone; the records of a stream: Check, Build, Ops. -/
import Derived.Test.YtipoegmheiapgaaJ5
import Derived.Test.YtipoegmheiapgaaA1
import Derived.Test.YtipoegmheiapgaaM2
import Derived.Deep.RegionHeld3
namespace Go.Proofs.Ytipoegmheiapgaa
set_option linter.unusedVariables false
set_option linter.unusedSimpArgs false
open Go.RowKit

theorem tU : ElT Try.prog 22 54 1 8 := ElT.mk' Try.underlying22 (z := .int .u64 0) (by kernel_rfl) rfl (by omega) (by omega)
theorem tB : ElT Try.prog 42 5 1 1 := ElT.mk' Try.underlying42 (z := .int .u8 0) (by kernel_rfl) rfl (by omega) (by omega)

set_option maxRecDepth 100000 in
theorem Clone_uint64 (A : Option Addr) (c : Nat) (xs : List UInt64) (w : World) (hr : Sc vU w A c xs) (hN : xs.length ≤ 4294967296) :
    Calls Try.prog 30 #[.slice A xs.length c] w fun e w' => ∃ v, e = .returned v ∧ Os vU w' w.heap.size 54 v xs ∧ Ext w w' := by
  have hq := fun w' : World => Lib.run_eql_slice_nil (P := Try.prog) w' 22 54 A xs.length c 0 0 Try.underlying22
  have HR := Hd.mk hr
  rcases A with _ | ad
  · have h0 : xs.length = 0 := by
      rcases Nat.eq_zero_or_pos xs.length with h0 | h0
      · exact h0
      · obtain ⟨_, _, h, _⟩ := hr.2.2 h0; cases h
    obtain rfl := List.eq_nil_of_length_eq_zero h0
    clear hr h0
    simp only [List.length_nil] at hq ⊢
    go_enter Try.func30, Try.ntmps30
    go_wp2
    go_ret
    exact ⟨_, rfl, Os.nil _ _ _ _, Ext.refl _⟩
  · clear hr
    go_enter Try.func30, Try.ntmps30
    go_wp2_with (at_builtin; refine wpList_app _ tU rfl (.tmp 5) (.tmp 6) rfl w.heap.size _ 0 [] rfl (owns_new (cs := #[]) (heap_new _ _) (Nat.le_refl _) rfl (Nat.zero_le _)) (some ad) xs.length c (xs.map vU) rfl (by simp) (Sc.fl (HR.out.ext ((Ext.refl w).alloc _))) (one_int _ _ _) (by omega) (by simp) ?_)
    rintro v1 w1 hown hg hv
    have HO := Hd.mk hown
    have HE := Hd.mk ((((Ext.refl w).alloc _).grown hg (fun k hk => by simp [Value.ownBlock] at hk; omega)))
    clear hown hg hv
    go_wp2
    go_ret
    exact ⟨v1, rfl, HO.out, HE.out⟩
set_option maxRecDepth 100000 in
theorem Clone_uint8 (A : Option Addr) (c : Nat) (xs : List UInt8) (w : World) (hr : Sc vB w A c xs) (hN : xs.length ≤ 4294967296) :
    Calls Try.prog 71 #[.slice A xs.length c] w fun e w' => ∃ v, e = .returned v ∧ Os vB w' w.heap.size 5 v xs ∧ Ext w w' := by
  have hq := fun w' : World => Lib.run_eql_slice_nil (P := Try.prog) w' 42 5 A xs.length c 0 0 Try.underlying42
  have HR := Hd.mk hr
  rcases A with _ | ad
  · have h0 : xs.length = 0 := by
      rcases Nat.eq_zero_or_pos xs.length with h0 | h0
      · exact h0
      · obtain ⟨_, _, h, _⟩ := hr.2.2 h0; cases h
    obtain rfl := List.eq_nil_of_length_eq_zero h0
    clear hr h0
    simp only [List.length_nil] at hq ⊢
    go_enter Try.func71, Try.ntmps71
    go_wp2
    go_ret
    exact ⟨_, rfl, Os.nil _ _ _ _, Ext.refl _⟩
  · clear hr
    go_enter Try.func71, Try.ntmps71
    go_wp2_with (at_builtin; refine wpList_app _ tB rfl (.tmp 5) (.tmp 6) rfl w.heap.size _ 0 [] rfl (owns_new (cs := #[]) (heap_new _ _) (Nat.le_refl _) rfl (Nat.zero_le _)) (some ad) xs.length c (xs.map vB) rfl (by simp) (Sc.fl (HR.out.ext ((Ext.refl w).alloc _))) (one_int _ _ _) (by omega) (by simp) ?_)
    rintro v1 w1 hown hg hv
    have HO := Hd.mk hown
    have HE := Hd.mk ((((Ext.refl w).alloc _).grown hg (fun k hk => by simp [Value.ownBlock] at hk; omega)))
    clear hown hg hv
    go_wp2
    go_ret
    exact ⟨v1, rfl, HO.out, HE.out⟩

set_option maxHeartbeats 1000000 in
set_option maxRecDepth 100000 in
theorem op_calls' (r : Rc) (A : Option Addr) (c : Nat) (w : World) (hr : Sc vU w A c r.data) (hN : r.data.length ≤ 4294967296) (hk : 0 ≤ r.kind ∧ r.kind ≤ 2147483648) :
    Calls Try.prog 37 #[rcV r A c] w fun e w' => ∃ A' c', e = .returned (opV (opOf r) A' c') ∧ Os vU w' w.heap.size 54 (.slice A' r.data.length c') r.data ∧ Ext w w' := by
  have s1 : IntKind.i64.wrap (r.kind - 2) = r.kind - 2 := IntWalk.i64_in _ (by omega)
  have s2 : IntKind.i64.wrap (r.kind - 2 + 1) = r.kind - 2 + 1 := IntWalk.i64_in _ (by omega)
  have HR := Hd.mk hr
  clear hr
  go_enter Try.func37, Try.ntmps37
  go_wp2_with fail
  obtain ⟨W0, hW0⟩ : ∃ W0, W0 = (w.alloc (.cells #[.int .i64 r.kind, .int .i64 r.shard, .int .i64 r.snap, .int .i64 r.base, .int .i64 r.map, .int .i64 r.off, .int .i64 r.len, .slice A r.data.length c] 24)).alloc (.cells #[.int .i64 0, .int .i64 0, .int .i64 0, .slice none 0 0] 56) := ⟨_, rfl⟩
  have e0 : Ext w W0 := by rw [hW0]; exact ((Ext.refl w).alloc _).alloc _
  have c0 : W0.cell? ⟨w.heap.size, 0, none⟩ = some (.int .i64 r.kind) := by rw [hW0]; go_simp
  have c5 : W0.cell? ⟨w.heap.size, 5, none⟩ = some (.int .i64 r.off) := by rw [hW0]; go_simp
  have c6 : W0.cell? ⟨w.heap.size, 6, none⟩ = some (.int .i64 r.len) := by rw [hW0]; go_simp
  have c7 : W0.cell? ⟨w.heap.size, 7, none⟩ = some (.slice A r.data.length c) := by rw [hW0]; go_simp
  have hres : W0.heap[w.heap.size + 1]? = some (.cells #[.int .i64 0, .int .i64 0, .int .i64 0, .slice none 0 0] 56 (0, 0)) := by rw [hW0]; have := heap_new (w.alloc (.cells #[.int .i64 r.kind, .int .i64 r.shard, .int .i64 r.snap, .int .i64 r.base, .int .i64 r.map, .int .i64 r.off, .int .i64 r.len, .slice A r.data.length c] 24)) (.cells #[.int .i64 0, .int .i64 0, .int .i64 0, .slice none 0 0] 56); rwa [World.size_alloc] at this
  rw [← hW0]
  have HW := Hd.mk hW0
  have E0 := Hd.mk e0
  clear hW0 e0
  go_region_held3 (fun w' => Ext w w' ∧ w'.cell? ⟨w.heap.size, 0, none⟩ = some (.int .i64 r.kind) ∧ w'.cell? ⟨w.heap.size, 5, none⟩ = some (.int .i64 r.off) ∧ w'.cell? ⟨w.heap.size, 6, none⟩ = some (.int .i64 r.len) ∧ w'.cell? ⟨w.heap.size, 7, none⟩ = some (.slice A r.data.length c))
    (first | exact ⟨E0.out.drew, c0, c5, c6, c7⟩ | exact ⟨E0.out.drew.trans he, he.cell c0, he.cell c5, he.cell c6, he.cell c7⟩ | exact ⟨((((E0.out.drew.trans he).set (Nat.le_succ _) _).set (Nat.le_succ _) _).set (Nat.le_succ _) _).set (Nat.le_succ _) _, by go_simp, by go_simp, by go_simp, by go_simp⟩)
    (first | (go_at_call 30; refine (Clone_uint64 A c r.data W0.drew (HR.out.ext E0.out.drew) hN).mono ?_; rintro e w1 ⟨v, rfl, hown, he⟩; obtain ⟨A', c', rfl, hsc⟩ := hown.sc; have q := he.obj (show W0.drew.heap[w.heap.size + 1]? = some _ from hres); have q0 := cell_obj (i := 0) q; have q1 := cell_obj (i := 1) q; have q2 := cell_obj (i := 2) q; have q3 := cell_obj (i := 3) q; have f0 := frozen_obj q 0; have f1 := frozen_obj q 1; have f2 := frozen_obj q 2; have f3 := frozen_obj q 3))
  go_wp2
  refine bodyPost_ret (v := opV (opOf r) A' c') (by simp [results, Try.results37, go_sem, q0, q1, q2, q3, opOf]) rfl ⟨A', c', rfl, ?_, ?_⟩
  · have hb : w.heap.size + 1 < W0.heap.size := (Array.getElem?_eq_some_iff.1 hres).1
    exact ((((hown.set (p := ⟨w.heap.size + 1, 0, none⟩) hb _).set (p := ⟨w.heap.size + 1, 1, none⟩) hb _).set (p := ⟨w.heap.size + 1, 2, none⟩) hb _).set (p := ⟨w.heap.size + 1, 3, none⟩) hb _).base (by have : W0.drew.heap.size = W0.heap.size := rfl; omega)
  · exact ((((E0.out.drew.trans he).set (Nat.le_succ _) _).set (Nat.le_succ _) _).set (Nat.le_succ _) _).set (Nat.le_succ _) _
theorem op_calls (r : Rc) (A : Option Addr) (c : Nat) (w : World) (hr : Sc vU w A c r.data) (hN : r.data.length ≤ 4294967296) (hk : 0 ≤ r.kind ∧ r.kind ≤ 2147483648) :
    Calls Try.prog 37 #[rcV r A c] w fun e w' => ∃ A' c', e = .returned (opV (opOf r) A' c') ∧ Sc vU w' A' c' r.data ∧ Ext w w' :=
  (op_calls' r A c w hr hN hk).mono fun _ _ ⟨A', c', h1, h2, h3⟩ => ⟨A', c', h1, h2.sc2, h3⟩
end Go.Proofs.Ytipoegmheiapgaa
