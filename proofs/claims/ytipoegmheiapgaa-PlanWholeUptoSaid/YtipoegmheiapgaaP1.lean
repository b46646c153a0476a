/- Maps of a volume: Right, Find. -/
import Derived.Test.YtipoegmheiapgaaJ3
import Derived.Test.YtipoegmheiapgaaA4
namespace Go.Proofs.Ytipoegmheiapgaa
set_option linter.unusedVariables false
set_option linter.unusedSimpArgs false
open Go.RowKit

structure Pc where
  from_ : Int
  to : Int
  node : Int
deriving DecidableEq
def pcR (w : World) (p : Pc) (cs : List Value) : Prop := cs = [.int .i64 p.from_, .int .i64 p.to, .int .i64 p.node]
theorem pcR_keeps : Keeps pcR := fun _ _ _ _ _ h => h
abbrev mapV (v n : Int) (A : Option Addr) (k c : Nat) : Value := .agg #[.int .i64 v, .int .i64 n, .slice A k c]
def isNodeB (n : Int) : Bool := decide (0 ≤ n ∧ n < 16)
theorem isNode_iff (n : Int) : isNodeB n = true ↔ 0 ≤ n ∧ n < 16 := by simp [isNodeB]
/-- Do pieces run on, each behind the one ahead? To where. -/
def runs : Int → List Pc → Option Int
  | a, [] => some a
  | a, p :: ps => if p.from_ = a ∧ a < p.to ∧ isNodeB p.node = true then runs p.to ps else none
def mapR (v n : Int) (ps : List Pc) : Bool := decide (1 ≤ v ∧ v ≤ 1099511627776 ∧ 1 ≤ n ∧ n ≤ 1024 ∧ ps.length ≤ 16) && decide (runs 0 ps = some n)

set_option maxRecDepth 100000 in
theorem isNode_calls (n : Int) (w : World) : Calls Try.prog 117 #[.int .i64 n] w fun e w' => e = .returned (.bool (isNodeB n)) ∧ w = w' := by
  go_enter Try.func117, Try.ntmps117
  go_wp2
  all_goals go_ret
  all_goals exact ⟨ret_bool (bool_of (by rw [isNode_iff]; simp only [decide_eq_true_eq, Bool.false_eq_true, false_iff]; omega)), rfl⟩

set_option maxHeartbeats 2000000 in
set_option maxRecDepth 100000 in
theorem smapRight_calls (v n : Int) (A : Option Addr) (c : Nat) (ps : List Pc) (w : World) (hr : Sm 3 pcR w A c ps) :
    Calls Try.prog 105 #[mapV v n A ps.length c] w fun e w' => e = .returned (.bool (mapR v n ps)) ∧ Ext w w' := by
  have hc1 := hr.1
  have hc2 := hr.2.1
  unfold maxLen at hc2
  have HR := Hd.mk hr
  clear hr
  by_cases hok : 1 ≤ v ∧ v ≤ 1099511627776 ∧ 1 ≤ n ∧ n ≤ 1024 ∧ ps.length ≤ 16
  · obtain ⟨h1, h2, h3, h4, h5⟩ := hok
    have HM := Hd.mk (show mapR v n ps = decide (runs 0 ps = some n) from by rw [mapR, decide_eq_true ⟨h1, h2, h3, h4, h5⟩, Bool.true_and])
    go_enter Try.func105, Try.ntmps105
    go_wp2_with fail
    obtain ⟨W0, hW0⟩ : ∃ W0, W0 = w.alloc (.cells #[.int .i64 v, .int .i64 n, .slice A ps.length c] 106) := ⟨_, rfl⟩
    have HE0 := Hd.mk (show Ext w W0 from by rw [hW0]; exact (Ext.refl w).alloc _)
    have HQ := Hd.mk (show W0.heap[w.heap.size]? = some (.cells #[.int .i64 v, .int .i64 n, .slice A ps.length c] 106 (0, 0)) from by rw [hW0]; exact heap_new _ _)
    rw [← hW0]
    clear hW0
    go_loopw [3, 33] (fun t3 t33 w1 => ∃ (k : Nat) (a : Int), k ≤ ps.length ∧ t33 = .int .i64 (k : Int) ∧ t3 = .int .i64 a ∧ Ext W0 w1 ∧ runs 0 ps = runs a (ps.drop k)) (fun _ t33 _ => ps.length - (intOf t33).toNat)
    case atStart => exact ⟨0, 0, Nat.zero_le _, rfl, rfl, Ext.refl _, by simp⟩
    case round =>
      obtain ⟨k, a, hk, rfl, rfl, he, hrun⟩ := hrel
      have HE := Hd.mk he
      have HRUN := Hd.mk hrun
      clear he hrun
      by_cases hlt : k < ps.length
      · obtain ⟨b, off, x, cs, rfl, hx, hcs, _, hcx⟩ := (HR.out.ext pcR_keeps (HE0.out.trans HE.out)).at hlt
        rw [hcs] at hcx
        have k0 : wr.cell? ⟨b, off + k * 3, none⟩ = some _ := hcx 0 _ rfl
        have k1 := hcx 1 _ rfl
        have k2 := hcx 2 _ rfl
        have HX := Hd.mk hx
        have HST := Hd.mk (show runs a (ps.drop k) = if x.from_ = a ∧ a < x.to ∧ isNodeB x.node = true then runs x.to (ps.drop (k + 1)) else none from by
          rw [List.drop_eq_getElem_cons hlt, hx, runs])
        clear hcs hcx hx
        by_cases hx1 : x.from_ = a
        · have g1 : (x.from_ != a) = false := by simpa using hx1
          by_cases hx2 : a < x.to
          · have g2 : decide (x.to ≤ a) = false := decide_eq_false (by omega)
            go_wp2_with fail
            refine (isNode_calls _ _).mono ?_
            rintro e w2 ⟨rfl, rfl⟩
            generalize hz : isNodeB x.node = z
            have HZ := Hd.mk hz
            clear hz
            have HX1 := Hd.mk hx1
            clear hx1
            cases z with
            | false =>
              go_wp2_with fail
              go_ret
              exact ⟨ret_bool (by rw [HM.out, HRUN.out, HST.out, if_neg (by rw [HZ.out]; simp)]; simp), (HE0.out.trans HE.out).alloc _⟩
            | true =>
              go_wp2_with fail
              exact ⟨⟨k + 1, x.to, by omega, by go_num, rfl, HE.out.alloc _, by rw [HRUN.out, HST.out, if_pos ⟨HX1.out, hx2, HZ.out⟩]⟩, by simp [intOf]; omega⟩
          · have g2 : decide (x.to ≤ a) = true := decide_eq_true (by omega)
            go_wp2_with fail
            go_ret
            exact ⟨ret_bool (by rw [HM.out, HRUN.out, HST.out, if_neg (by omega)]; simp), (HE0.out.trans HE.out).alloc _⟩
        · have g1 : (x.from_ != a) = true := by simpa using hx1
          have HX1 := Hd.mk hx1
          clear hx1
          go_wp2_with fail
          go_ret
          exact ⟨ret_bool (by rw [HM.out, HRUN.out, HST.out, if_neg (fun h => HX1.out h.1)]; simp), (HE0.out.trans HE.out).alloc _⟩
      · have q1 := cell_obj (i := 1) (HE.out.obj HQ.out)
        go_wp2_with fail
        go_ret
        refine ⟨ret_bool ?_, HE0.out.trans HE.out⟩
        rw [HM.out, HRUN.out, List.drop_eq_nil_of_le (by omega), runs, Bool.eq_iff_iff]
        simp
  · have HM := Hd.mk (show mapR v n ps = false from by rw [mapR, decide_eq_false hok, Bool.false_and])
    have HEND := Hd.mk ((Ext.refl w).alloc (.cells #[.int .i64 v, .int .i64 n, .slice A ps.length c] 106))
    by_cases q : v < 1
    · clear hok
      go_enter Try.func105, Try.ntmps105
      go_wp2
      go_ret
      exact ⟨ret_bool HM.out.symm, HEND.out⟩
    by_cases q : 1099511627776 < v
    · clear hok
      go_enter Try.func105, Try.ntmps105
      go_wp2
      go_ret
      exact ⟨ret_bool HM.out.symm, HEND.out⟩
    by_cases q : n < 1
    · clear hok
      go_enter Try.func105, Try.ntmps105
      go_wp2
      go_ret
      exact ⟨ret_bool HM.out.symm, HEND.out⟩
    by_cases q : 1024 < n
    · clear hok
      go_enter Try.func105, Try.ntmps105
      go_wp2
      go_ret
      exact ⟨ret_bool HM.out.symm, HEND.out⟩
    have q5 : (16 : Int) < (ps.length : Int) := by omega
    clear hok
    go_enter Try.func105, Try.ntmps105
    go_wp2
    go_ret
    exact ⟨ret_bool HM.out.symm, HEND.out⟩

theorem fun_Find1 : Fun 119 := fun _ _ => by simp [callFunc, Try.func119, go_sem]; rfl
set_option maxRecDepth 100000 in
theorem Find1_calls (p : Pc) (b : Nat) (x : Int) (w : World) (h : w.cell? ⟨b, 0, none⟩ = some (.int .i64 x)) :
    Calls Try.prog 119 #[.agg #[.int .i64 p.from_, .int .i64 p.to, .int .i64 p.node], .pointer (some ⟨b, 0, none⟩)] w fun e w' => e = .returned (.bool (decide (x < p.to))) ∧ Ext w w' := by
  have h0 : (w.alloc (.cells #[.int .i64 p.from_, .int .i64 p.to, .int .i64 p.node] 103)).cell? ⟨b, 0, none⟩ = some (.int .i64 x) := ((Ext.refl w).alloc _).cell h
  clear h
  go_enter Try.func119, Try.ntmps119
  go_wp2
  go_ret
  exact ⟨rfl, (Ext.refl w).alloc _⟩
set_option maxRecDepth 100000 in
theorem IndexFunc_pc (A : Option Addr) (c : Nat) (xs : List Pc) (g : Nat) (cap : Array Value) (p : Pc → Bool) (w : World) (hr : Sm 3 pcR w A c xs) (hg : Fun g)
    (hp : ∀ i (hi : i < xs.length) w1, Ext w w1 → Calls Try.prog g (#[.agg #[.int .i64 xs[i].from_, .int .i64 xs[i].to, .int .i64 xs[i].node]] ++ cap) w1 fun e w2 => e = .returned (.bool (p xs[i])) ∧ Ext w1 w2) :
    Calls Try.prog 118 #[.slice A xs.length c, .func (.func g) #[] cap] w
      fun e w' => e = .returned (.int .i64 (idx p xs)) ∧ Ext w w' := by
  have hc := hr.1
  have hm := hr.2.1
  unfold maxLen at hm
  unfold Fun at hg
  go_enter Try.func118, Try.ntmps118
  go_wp2
  go_loopw [4, 8] (fun r i w1 => ∃ k : Nat, k ≤ xs.length ∧ i = .int .i64 k ∧ Ext w w1 ∧ (∀ j (hj : j < xs.length), j < k → p xs[j] = false)) (fun _ i _ => xs.length - (intOf i).toNat)
  case atStart => exact ⟨0, Nat.zero_le _, rfl, Ext.refl _, fun j _ h => absurd h (by omega)⟩
  case round =>
    obtain ⟨k, hk, rfl, he, hf⟩ := hrel
    have HF := Hd.mk hf
    clear hf
    by_cases hlt : k < xs.length
    · obtain ⟨b, off, x, cs, rfl, hx, hcs, _, hcell⟩ := (hr.ext pcR_keeps he).at hlt
      rw [hcs] at hcell
      have k0 : wr.cell? ⟨b, off + k * 3, none⟩ = some _ := hcell 0 _ rfl
      have k1 := hcell 1 _ rfl
      have k2 := hcell 2 _ rfl
      have HP := Hd.mk (hp k hlt)
      have HX := Hd.mk hx
      clear hp hr hx hcell hcs
      go_wp2_with fail
      rw [← HX.out]
      refine (HP.out wr he).mono ?_
      rintro e w2 ⟨rfl, he2⟩
      have he3 := he.trans he2
      clear he he2 k0 k1 k2
      cases hpx : p xs[k] with
      | true =>
        have HPX := Hd.mk hpx
        clear hpx
        go_wp2
        go_ret
        exact ⟨ret_int (idx_at xs p k hlt HF.out HPX.out).symm, he3⟩
      | false =>
        have HPX := Hd.mk hpx
        clear hpx
        go_wp2
        go_roundw
        case rel => exact ⟨k + 1, by omega, by go_num, he3, fun j hj hjk => by
            rcases Nat.lt_or_ge j k with h | h
            · exact HF.out j hj h
            · obtain rfl : j = k := by omega
              exact HPX.out⟩
        case measure => simp [intOf]; omega
    · go_wp2
      go_ret
      exact ⟨ret_int (idx_none xs p (fun j hj => HF.out j hj (by omega))).symm, he⟩

/-- Which piece has a block; its error. -/
def findM (v n : Int) (ps : List Pc) (x : Int) : Int × Int := if mapR v n ps = true then (if x < 0 ∨ n ≤ x then (0, 9) else (idx (fun p => decide (x < p.to)) ps, 0)) else (0, 1)
set_option maxHeartbeats 2000000 in
set_option maxRecDepth 100000 in
theorem Find_calls (v n x : Int) (A : Option Addr) (c : Nat) (ps : List Pc) (w : World) (hr : Sm 3 pcR w A c ps) :
    Calls Try.prog 106 #[mapV v n A ps.length c, .int .i64 x] w fun e w' => e = .returned (.tuple #[.int .i64 (findM v n ps x).1, .int .i64 (findM v n ps x).2]) ∧ Ext w w' := by
  have HR := Hd.mk hr
  clear hr
  go_enter Try.func106, Try.ntmps106
  go_wp2_with fail
  have e0 : Ext w ((w.alloc (.cells #[.int .i64 v, .int .i64 n, .slice A ps.length c] 106)).alloc (.cells #[.int .i64 x] 3)) := ((Ext.refl w).alloc _).alloc _
  refine (smapRight_calls v n A c ps _ (HR.out.ext pcR_keeps e0)).mono ?_
  rintro e w1 ⟨rfl, he1⟩
  have q : w1.heap[w.heap.size]? = some (.cells #[.int .i64 v, .int .i64 n, .slice A ps.length c] 106 (0, 0)) := he1.obj (((Ext.refl _).alloc _).obj (heap_new w _))
  have q1 := cell_obj (i := 1) q
  have q2 := cell_obj (i := 2) q
  have p0 : w1.cell? ⟨w.heap.size + 1, 0, none⟩ = some (.int .i64 x) := cell_obj (i := 0) (he1.obj (heap_at (by simp)))
  have HE1 := Hd.mk (e0.trans he1)
  generalize hz : mapR v n ps = z
  have HZ := Hd.mk hz
  clear e0 he1 hz q
  cases z with
  | false =>
    go_wp2
    go_ret2
    rw [show findM v n ps x = (0, 1) by rw [findM, if_neg (by rw [HZ.out]; simp)]]
    exact ⟨rfl, HE1.out⟩
  | true =>
    by_cases hx : x < 0 ∨ n ≤ x
    · have HF := Hd.mk (show findM v n ps x = (0, 9) from by rw [findM, if_pos HZ.out, if_pos hx])
      by_cases h0 : x < 0
      · clear hx
        go_wp2
        go_ret2
        rw [HF.out]
        exact ⟨rfl, HE1.out⟩
      · have h1 : n ≤ x := by omega
        clear hx
        go_wp2
        go_ret2
        rw [HF.out]
        exact ⟨rfl, HE1.out⟩
    · have HF := Hd.mk (show findM v n ps x = (idx (fun p => decide (x < p.to)) ps, 0) from by rw [findM, if_pos HZ.out, if_neg hx])
      have h0 : 0 ≤ x := by omega
      have h1 : x < n := by omega
      clear hx
      go_wp2_with fail
      have HP := Hd.mk p0
      refine (IndexFunc_pc A c ps 119 #[.pointer (some ⟨w.heap.size + 1, 0, none⟩)] (fun p => decide (x < p.to)) w1 (HR.out.ext pcR_keeps HE1.out) fun_Find1 (fun i hi w2 he => Find1_calls ps[i] _ x w2 (he.cell HP.out))).mono ?_
      rintro e w2 ⟨rfl, he2⟩
      have HE2 := Hd.mk (HE1.out.trans he2)
      clear he2 p0 q1 q2
      go_wp2
      go_ret2
      rw [HF.out]
      exact ⟨rfl, HE2.out⟩
end Go.Proofs.Ytipoegmheiapgaa
