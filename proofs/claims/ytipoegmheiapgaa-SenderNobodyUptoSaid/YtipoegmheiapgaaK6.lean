/- A reader of numbers, where the bytes are what a writer wrote: peek, skip, Int, Get, End. -/
import Derived.Test.YtipoegmheiapgaaK5
namespace Go.Proofs.Ytipoegmheiapgaa
set_option linter.unusedVariables false
set_option linter.unusedSimpArgs false
open Go.RowKit

/-- A reader at block 'p': the slice, the place; no fault. -/
def prC (A : Option Addr) (n c k : Nat) : Obj := .cells #[.slice A n c, .int .i64 (k : Int), .int .i64 0, .int .i64 0] 129 (0, 0)

set_option maxRecDepth 100000 in
theorem well_calls (p : Nat) (A : Option Addr) (n c k : Nat) (w : World) (h : w.heap[p]? = some (prC A n c k)) :
    Calls Try.prog 92 #[.pointer (some ⟨p, 0, none⟩)] w fun e w' => e = .returned (.bool true) ∧ Dr w w' := by
  have t2 := cell_obj (i := 2) h
  have t3 := cell_obj (i := 3) h
  clear h
  go_enter Try.func92, Try.ntmps92
  go_wp2
  go_ret
  exact ⟨rfl, Dr.refl _⟩
set_option maxRecDepth 100000 in
theorem left_calls (p : Nat) (A : Option Addr) (n c k : Nat) (w : World) (h : w.heap[p]? = some (prC A n c k)) (hk : k ≤ n) (hn : n ≤ 1099511627776) :
    Calls Try.prog 93 #[.pointer (some ⟨p, 0, none⟩)] w fun e w' => e = .returned (.int .i64 ((n - k : Nat) : Int)) ∧ Dr w w' := by
  have t0 := cell_obj (i := 0) h
  have t1 := cell_obj (i := 1) h
  clear h
  go_enter Try.func93, Try.ntmps93
  go_wp2
  go_quiet (fail)
  go_wp2
  go_ret
  exact ⟨ret_int (by omega), Dr.drewN _ _⟩
set_option maxRecDepth 100000 in
theorem packNew_calls (A : Option Addr) (n c : Nat) (w : World) :
    Calls Try.prog 45 #[.slice A n c] w fun e w' => e = .returned (.pointer (some ⟨w.heap.size, 0, none⟩)) ∧ w'.heap[w.heap.size]? = some (prC A n c 0) ∧ Ext w w' := by
  go_enter Try.func45, Try.ntmps45
  go_wp2
  go_ret
  exact ⟨rfl, heap_new _ _, (Ext.refl w).alloc _⟩
set_option maxHeartbeats 2000000 in
set_option maxRecDepth 100000 in
theorem skip_calls (p : Nat) (A : Option Addr) (n c k m : Nat) (w : World) (h : w.heap[p]? = some (prC A n c k)) (hk : k + m ≤ n) (hn : n ≤ 1099511627776) (hc : n ≤ c) (hc2 : c ≤ maxLen) (hA : A = none → n = 0) :
    Calls Try.prog 74 #[.pointer (some ⟨p, 0, none⟩), .int .i64 (m : Int)] w fun e w' => (∃ v, e = .returned v) ∧ w'.heap[p]? = some (prC A n c (k + m)) ∧ Fr (fun q => q = p) w w' := by
  have t0 := cell_obj (i := 0) h
  have t1 := cell_obj (i := 1) h
  have f1 := frozen_obj h 1
  have HH := Hd.mk h
  unfold maxLen at hc2
  clear h
  go_enter Try.func74, Try.ntmps74
  rcases A with _ | ⟨b, off, sp⟩
  · obtain rfl := hA rfl
    obtain rfl : k = 0 := by omega
    obtain rfl : m = 0 := by omega
    go_wp2
    go_quiet (fail)
    go_wp2
    go_ret
    exact ⟨⟨_, rfl⟩, by have := obj_set (i := 1) (v := .int .i64 0) HH.out; simpa [prC] using (Dr.drewN _ nq).ext.obj this, (Fr.set (F := fun q => q = p) (p := ⟨p, 1, none⟩) (Fr.refl _ _) (.inl rfl) _).trans ((Dr.drewN _ _).ext.fr _)⟩
  · go_wp2
    go_quiet (fail)
    go_wp2
    all_goals go_ret
    all_goals (try subst_vars)
    all_goals exact ⟨⟨_, rfl⟩, by rw [prC, Int.natCast_add]; exact (Dr.drewN _ nq).ext.obj (obj_set (i := 1) (v := .int .i64 ((k : Int) + m)) HH.out), (Fr.set (F := fun q => q = p) (p := ⟨p, 1, none⟩) (Fr.refl _ _) (.inl rfl) _).trans ((Dr.drewN _ _).ext.fr _)⟩

theorem get8 (x : UInt64) (i : Nat) (hi : i < 8) : bits .or .u64 ((x.toNat % 2 ^ (8 * i) : Nat) : Int) (((byteAt x i).toNat * 2 ^ (8 * i) : Nat) : Int) = ((x.toNat % 2 ^ (8 * (i + 1)) : Nat) : Int) := by
  have hx : x.toNat < 18446744073709551616 := x.toNat_lt
  have hb := byteAt_toNat x i
  have hm : x.toNat % 2 ^ (8 * i) < 2 ^ (8 * i) := Nat.mod_lt _ (Nat.pow_pos (by omega))
  have hp : 2 ^ (8 * i) ≤ 2 ^ 56 := Nat.pow_le_pow_right (by omega) (by omega)
  have e : x.toNat % 2 ^ (8 * (i + 1)) = x.toNat % 2 ^ (8 * i) + 2 ^ (8 * i) * (x.toNat / 2 ^ (8 * i) % 256) := by
    rw [Nat.mul_add, Nat.pow_add]; exact Nat.mod_mul
  have h3 := Nat.two_pow_add_eq_or_of_lt (i := 8 * i) hm (byteAt x i).toNat
  rw [← hb] at e
  generalize 2 ^ (8 * i) = P at *
  generalize (byteAt x i).toNat = y at *
  generalize x.toNat = z at *
  have hy : y ≤ 255 := by omega
  have h2 : y * P < 18446744073709551616 := Nat.lt_of_le_of_lt (Nat.mul_le_mul hy hp) (by decide)
  rw [u64_or_nat _ _ (Nat.lt_of_le_of_lt (Nat.mod_le _ _) hx) h2, e]
  congr 1
  rw [Nat.or_comm, Nat.mul_comm, ← h3, Nat.add_comm]
theorem shl_run (b i : Nat) (hb : b < 256) (hi : i < 8) (w : World) : (binOp .shl 54 (.int .u64 (b : Int)) (.int .i64 (8 * (i : Int)))).run Try.prog w = .ok (.int .u64 ((b * 2 ^ (8 * i) : Nat) : Int)) w := by
  match i, hi with
  | 0, _ | 1, _ | 2, _ | 3, _ | 4, _ | 5, _ | 6, _ | 7, _ =>
    simp [binOp, Op.shift, go_sem]
    try (rw [IntKind.wrap_u64]; omega)
set_option maxHeartbeats 2000000 in
set_option maxRecDepth 100000 in
theorem peek_calls (p : Nat) (A : Option Addr) (bs : List UInt8) (c k : Nat) (x : UInt64) (w : World) (h : w.heap[p]? = some (prC A bs.length c k)) (hs : Sc vB w A c bs) (hx : (bs.drop k).take 8 = u64le x) (hn : bs.length ≤ 1099511627776) :
    Calls Try.prog 72 #[.pointer (some ⟨p, 0, none⟩)] w fun e w' => e = .returned (.tuple #[vU x, .bool true]) ∧ Dr w w' := by
  have hk8 : k + 8 ≤ bs.length := by
    have := congrArg List.length hx
    simp [u64le] at this
    omega
  have hc1 := hs.1
  have hc2 := hs.2.1
  unfold maxLen at hc2
  obtain ⟨b, off, rfl, hcell⟩ := hs.2.2 (by omega)
  have HC := Hd.mk (show ∀ i (hi : i < 8), w.cell? ⟨b, off + k + i, none⟩ = some (.int .u8 ((byteAt x i).toNat : Int)) from fun i hi => by
    rw [Nat.add_assoc, hcell (k + i) (by omega)]
    have : (u64le x)[i]? = some (byteAt x i) := by simp [u64le, hi]
    rw [← hx, List.getElem?_take, if_pos hi, List.getElem?_drop] at this
    obtain ⟨_, h2⟩ := List.getElem?_eq_some_iff.1 this
    rw [h2])
  have HH := Hd.mk h
  clear h hs hx hcell
  go_enter Try.func72, Try.ntmps72
  go_wp2_with fail
  refine (well_calls _ _ _ _ _ _ HH.out).mono ?_
  rintro e w1 ⟨rfl, hd1⟩
  have HD1 := Hd.mk hd1
  clear hd1
  go_wp2_with fail
  refine (left_calls _ _ _ _ _ _ (HD1.out.ext.obj HH.out) (by omega) hn).mono ?_
  rintro e w2 ⟨rfl, hd2⟩
  have HD2 := Hd.mk (HD1.out.trans hd2)
  have h2 := HD2.out.ext.obj HH.out
  have t0 := cell_obj (i := 0) h2
  have t1 := cell_obj (i := 1) h2
  have hge : (8 : Int) ≤ ((bs.length - k : Nat) : Int) := by omega
  clear hd2 h2
  go_wp2
  go_quiet (fail)
  go_wp2
  go_loop [4, 49] (fun v i => ∃ j : Nat, j ≤ 8 ∧ i = .int .i64 j ∧ v = .int .u64 ((x.toNat % 2 ^ (8 * j) : Nat) : Int)) (fun _ i => 8 - (intOf i).toNat)
  case atStart => exact ⟨0, by omega, rfl, by simp [Nat.mod_one]⟩
  case round =>
    obtain ⟨j, hj, rfl, rfl⟩ := hrel
    by_cases hj8 : j < 8
    · have m0 := HD2.out.ext.cell (HC.out j hj8)
      have hg := get8 x j hj8
      have hsh := shl_run (byteAt x j).toNat j (byteAt x j).toNat_lt hj8
      have hu : IntKind.u64.wrap ((byteAt x j).toNat : Int) = ((byteAt x j).toNat : Int) := by
        have := (byteAt x j).toNat_lt
        rw [IntKind.wrap_u64]; omega
      obtain ⟨V, hV⟩ : ∃ V, V = x.toNat % 2 ^ (8 * j) := ⟨_, rfl⟩
      obtain ⟨V', hV'⟩ : ∃ V', V' = x.toNat % 2 ^ (8 * (j + 1)) := ⟨_, rfl⟩
      obtain ⟨Y, hY⟩ : ∃ Y, Y = (byteAt x j).toNat * 2 ^ (8 * j) := ⟨_, rfl⟩
      have hwr : IntKind.u64.wrap (((byteAt x j).toNat : Int) * 2 ^ (8 * j)) = (Y : Int) := by
        have hlt := (byteAt x j).toNat_lt
        have hp : 2 ^ (8 * j) ≤ 2 ^ 56 := Nat.pow_le_pow_right (by omega) (by omega)
        have h2 : Y < 18446744073709551616 := by rw [hY]; exact Nat.lt_of_le_of_lt (Nat.mul_le_mul (show (byteAt x j).toNat ≤ 255 by omega) hp) (by decide)
        rw [show ((byteAt x j).toNat : Int) * 2 ^ (8 * j) = (Y : Int) by rw [hY]; push_cast; rfl, IntKind.wrap_u64]; omega
      rw [← hV, ← hV', ← hY] at hg
      rw [← hY] at hsh
      rw [← hV]
      have HV' := Hd.mk hV'
      clear hV hY hV'
      go_wp2
      go_round
      case rel => exact ⟨j + 1, by omega, by go_num, by rw [← HV'.out, ← hg]⟩
      case measure => simp [intOf]; omega
    · obtain rfl : j = 8 := by omega
      go_wp2
      go_ret2
      exact ⟨by simp [vU], HD2.out.trans (Dr.drewN _ _)⟩

/-- What a reader of the bytes 'bs' answers where they go on with a number. -/
def nextU (bs : List UInt8) (k : Nat) (x : UInt64) : Prop := (bs.drop k).take 8 = u64le x
theorem nextU_len {bs : List UInt8} {k : Nat} {x : UInt64} (h : nextU bs k x) : k + 8 ≤ bs.length := by
  have := congrArg List.length h
  simp [u64le] at this
  omega
set_option maxHeartbeats 2000000 in
set_option maxRecDepth 100000 in
theorem Get_calls (p : Nat) (A : Option Addr) (bs : List UInt8) (c k : Nat) (x : UInt64) (w : World) (h : w.heap[p]? = some (prC A bs.length c k)) (hs : Sc vB w A c bs) (hx : nextU bs k x) (hn : bs.length ≤ 1099511627776) :
    Calls Try.prog 86 #[.pointer (some ⟨p, 0, none⟩)] w fun e w' => e = .returned (vU x) ∧ w'.heap[p]? = some (prC A bs.length c (k + 8)) ∧ Fr (fun q => q = p) w w' := by
  have hk := nextU_len hx
  have hA : A = none → bs.length = 0 := fun e => by
    subst e
    obtain ⟨_, _, h, _⟩ := hs.2.2 (by omega)
    cases h
  have HH := Hd.mk h
  have HS := Hd.mk hs
  have HX := Hd.mk hx
  have HA := Hd.mk hA
  clear h hs hx hA
  go_enter Try.func86, Try.ntmps86
  go_wp2_with fail
  refine (peek_calls p A bs c k x _ HH.out HS.out HX.out hn).mono ?_
  rintro e w1 ⟨rfl, hd1⟩
  have HD1 := Hd.mk hd1
  obtain ⟨X, hX⟩ : ∃ X, X = vU x := ⟨_, rfl⟩
  rw [← hX]
  have HVX := Hd.mk hX
  clear hd1 hX
  go_wp2_with fail
  refine (skip_calls p A bs.length c k 8 _ (HD1.out.ext.obj HH.out) hk hn HS.out.1 HS.out.2.1 HA.out).mono ?_
  rintro e w2 ⟨⟨v, rfl⟩, ho2, hf2⟩
  have HO2 := Hd.mk ho2
  have HF2 := Hd.mk ((HD1.out.ext.fr _).trans hf2)
  clear ho2 hf2
  go_wp2
  go_ret
  exact ⟨by rw [← HVX.out]; rfl, HO2.out, HF2.out⟩
set_option maxHeartbeats 2000000 in
set_option maxRecDepth 100000 in
theorem Int_calls (p : Nat) (A : Option Addr) (bs : List UInt8) (c k : Nat) (m : Int) (n : Nat) (w : World) (h : w.heap[p]? = some (prC A bs.length c k)) (hs : Sc vB w A c bs) (hx : nextU bs k (UInt64.ofNat n)) (hn : bs.length ≤ 1099511627776)
    (hm : (n : Int) ≤ m) (hm2 : m ≤ 4294967296) :
    Calls Try.prog 46 #[.pointer (some ⟨p, 0, none⟩), .int .i64 m] w fun e w' => e = .returned (.int .i64 (n : Int)) ∧ w'.heap[p]? = some (prC A bs.length c (k + 8)) ∧ Fr (fun q => q = p) w w' := by
  have hk := nextU_len hx
  have hA : A = none → bs.length = 0 := fun e => by
    subst e
    obtain ⟨_, _, h, _⟩ := hs.2.2 (by omega)
    cases h
  have HH := Hd.mk h
  have HS := Hd.mk hs
  have HX := Hd.mk hx
  have HA := Hd.mk hA
  have hvu := u64_of n (by omega)
  have hw1 : IntKind.u64.wrap m = m := by rw [IntKind.wrap_u64]; omega
  have hw2 : IntKind.i64.wrap (n : Int) = (n : Int) := by rw [IntKind.wrap_i64]; omega
  have hm0 : (0 : Int) ≤ m := by omega
  clear h hs hx hA
  go_enter Try.func46, Try.ntmps46
  go_wp2_with fail
  refine (peek_calls p A bs c k (UInt64.ofNat n) _ HH.out HS.out HX.out hn).mono ?_
  rintro e w1 ⟨rfl, hd1⟩
  have HD1 := Hd.mk hd1
  rw [hvu]
  clear hd1 hvu
  go_wp2_with fail
  refine (skip_calls p A bs.length c k 8 _ (HD1.out.ext.obj HH.out) hk hn HS.out.1 HS.out.2.1 HA.out).mono ?_
  rintro e w2 ⟨⟨v, rfl⟩, ho2, hf2⟩
  have HO2 := Hd.mk ho2
  have HF2 := Hd.mk ((HD1.out.ext.fr _).trans hf2)
  clear ho2 hf2
  go_wp2
  go_ret
  exact ⟨rfl, HO2.out, HF2.out⟩
set_option maxHeartbeats 2000000 in
set_option maxRecDepth 100000 in
theorem packFault_calls (p : Nat) (A : Option Addr) (n c k : Nat) (w : World) (h : w.heap[p]? = some (prC A n c k)) :
    Calls Try.prog 47 #[.pointer (some ⟨p, 0, none⟩)] w fun e w' => e = .returned (.agg #[.int .i64 0, .int .i64 0]) ∧ Ext w w' := by
  have t2 := cell_obj (i := 2) h
  have t3 := cell_obj (i := 3) h
  have h0 := ((Ext.refl w).alloc (.cells #[.int .i64 0, .int .i64 0] 81)).obj h
  have u2 := cell_obj (i := 2) h0
  have u3 := cell_obj (i := 3) h0
  clear h h0
  go_enter Try.func47, Try.ntmps47
  go_wp2
  refine bodyPost_ret (v := .agg #[.int .i64 0, .int .i64 0]) (by simp [results, Try.results47, go_sem]) rfl ⟨rfl, (Ext.refl w).alloc _⟩
set_option maxHeartbeats 2000000 in
set_option maxRecDepth 100000 in
theorem End_calls (p : Nat) (A : Option Addr) (n c : Nat) (w : World) (h : w.heap[p]? = some (prC A n c n)) (hn : n ≤ 1099511627776) :
    Calls Try.prog 110 #[.pointer (some ⟨p, 0, none⟩)] w fun e w' => e = .returned (.agg #[.int .i64 0, .int .i64 0]) ∧ Ext w w' := by
  have HH := Hd.mk h
  clear h
  go_enter Try.func110, Try.ntmps110
  go_wp2_with fail
  refine (left_calls _ _ _ _ _ _ (((Ext.refl w).alloc _).obj HH.out) (Nat.le_refl _) hn).mono ?_
  rintro e w1 ⟨rfl, hd1⟩
  have HD1 := Hd.mk hd1
  rw [Nat.sub_self]
  clear hd1
  go_wp2_with fail
  refine (packFault_calls _ _ _ _ _ _ ((((Ext.refl w).alloc _).trans HD1.out.ext).obj HH.out)).mono ?_
  rintro e w2 ⟨rfl, he2⟩
  have HE2 := Hd.mk ((((Ext.refl w).alloc _).trans HD1.out.ext).trans he2)
  have q := (HD1.out.ext.trans he2).obj (heap_new w (.cells #[.int .i64 0, .int .i64 0] 81))
  have q0 := cell_obj (i := 0) q
  have q1 := cell_obj (i := 1) q
  have f0 := frozen_obj q 0
  have f1 := frozen_obj q 1
  have HQ := Hd.mk q
  clear he2 q
  go_wp2
  exact bodyPost_ret (v := .agg #[.int .i64 0, .int .i64 0]) (by simp [results, Try.results110, go_sem, q0, q1]) rfl ⟨rfl, (HE2.out.set (p := ⟨w.heap.size, 0, none⟩) (Nat.le_refl _) (.int .i64 0)).set (p := ⟨w.heap.size, 1, none⟩) (Nat.le_refl _) (.int .i64 0)⟩
end Go.Proofs.Ytipoegmheiapgaa
