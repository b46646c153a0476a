/- Go's slices at the types of this program: IndexFunc, ContainsFunc, and what the references hold lists against. -/
import Derived.Test.YtipoegmheiapgaaM1
namespace Go.Proofs.Ytipoegmheiapgaa
set_option linter.unusedVariables false
set_option linter.unusedSimpArgs false
open Go.RowKit

abbrev opV (o : VOp) (A : Option Addr) (c : Nat) : Value := .agg #[.int .i64 o.kind, .int .i64 o.off, .int .i64 o.len, .slice A o.data.length c]
abbrev rcV (r : Rc) (A : Option Addr) (c : Nat) : Value := .agg #[.int .i64 r.kind, .int .i64 r.shard, .int .i64 r.snap, .int .i64 r.base, .int .i64 r.map, .int .i64 r.off, .int .i64 r.len, .slice A r.data.length c]
/-- The cells of an op; of a record. -/
def opR (w : World) (o : VOp) (cs : List Value) : Prop := ∃ A c, cs = [.int .i64 o.kind, .int .i64 o.off, .int .i64 o.len, .slice A o.data.length c] ∧ Sc vU w A c o.data
def rcR (w : World) (r : Rc) (cs : List Value) : Prop := ∃ A c, cs = [.int .i64 r.kind, .int .i64 r.shard, .int .i64 r.snap, .int .i64 r.base, .int .i64 r.map, .int .i64 r.off, .int .i64 r.len, .slice A r.data.length c] ∧ Sc vU w A c r.data
theorem opR_keeps : Keeps opR := fun _ _ _ _ he ⟨A, c, h, hs⟩ => ⟨A, c, h, hs.ext he⟩
theorem rcR_keeps : Keeps rcR := fun _ _ _ _ he ⟨A, c, h, hs⟩ => ⟨A, c, h, hs.ext he⟩

/-- A function value that names a function with a body. -/
def Fun (g : Nat) : Prop := ∀ args w, (callFunc g args).run Try.prog w = .ok (.enter g args) w

set_option maxRecDepth 100000 in
theorem IndexFunc_int (A : Option Addr) (c : Nat) (xs : List Int) (g : Nat) (cap : Array Value) (p : Int → Bool) (w : World) (hr : Sc vI w A c xs) (hg : Fun g)
    (hp : ∀ i (hi : i < xs.length) w1, Ext w w1 → Calls Try.prog g (#[.int .i64 xs[i]] ++ cap) w1 fun e w2 => e = .returned (.bool (p xs[i])) ∧ Ext w1 w2) :
    Calls Try.prog 107 #[.slice A xs.length c, .func (.func g) #[] cap] w
      fun e w' => e = .returned (.int .i64 (idx p xs)) ∧ Ext w w' := by
  have hc := hr.1
  have hm := hr.2.1
  unfold maxLen at hm
  unfold Fun at hg
  go_enter Try.func107, Try.ntmps107
  go_wp2
  go_loopw [4, 8] (fun r i w1 => ∃ k : Nat, k ≤ xs.length ∧ i = .int .i64 k ∧ Ext w w1 ∧ (∀ j (hj : j < xs.length), j < k → p xs[j] = false)) (fun _ i _ => xs.length - (intOf i).toNat)
  case atStart => exact ⟨0, Nat.zero_le _, rfl, Ext.refl _, fun j _ h => absurd h (by omega)⟩
  case round =>
    obtain ⟨k, hk, rfl, he, hf⟩ := hrel
    have HF := Hd.mk hf
    clear hf
    by_cases hlt : k < xs.length
    · obtain ⟨b, off, x, rfl, hx, hcell⟩ := hr.at hlt
      have hcell2 := he.cell hcell
      have HP := Hd.mk (hp k hlt)
      have HX := Hd.mk hx
      clear hp hr hx hcell
      go_wp2_with fail
      rw [← HX.out]
      refine (HP.out wr he).mono ?_
      rintro e w2 ⟨rfl, he2⟩
      have he3 := he.trans he2
      clear he he2 hcell2
      cases hpx : p xs[k] with
      | true =>
        have HPX := Hd.mk hpx
        clear hpx
        go_wp2
        go_ret
        exact ⟨ret_int (idx_at xs p k hlt HF.out HPX.out).symm, he3⟩
      | false =>
        have HPX := Hd.mk hpx
        clear hpx
        go_wp2
        go_roundw
        case rel => exact ⟨k + 1, by omega, by go_num, he3, fun j hj hjk => by
            rcases Nat.lt_or_ge j k with h | h
            · exact HF.out j hj h
            · obtain rfl : j = k := by omega
              exact HPX.out⟩
        case measure => simp [intOf]; omega
    · go_wp2
      go_ret
      exact ⟨ret_int (idx_none xs p (fun j hj => HF.out j hj (by omega))).symm, he⟩

set_option maxRecDepth 100000 in
theorem IndexFunc_rec (A : Option Addr) (c : Nat) (xs : List Rc) (g : Nat) (cap : Array Value) (p : Rc → Bool) (w : World) (hr : Sm 8 rcR w A c xs) (hg : Fun g)
    (hp : ∀ i (hi : i < xs.length) w1 A c, Ext w w1 → Sc vU w1 A c xs[i].data → Calls Try.prog g (#[rcV xs[i] A c] ++ cap) w1 fun e w2 => e = .returned (.bool (p xs[i])) ∧ Ext w1 w2) :
    Calls Try.prog 82 #[.slice A xs.length c, .func (.func g) #[] cap] w
      fun e w' => e = .returned (.int .i64 (idx p xs)) ∧ Ext w w' := by
  have hc := hr.1
  have hm := hr.2.1
  unfold maxLen at hm
  unfold Fun at hg
  go_enter Try.func82, Try.ntmps82
  go_wp2
  go_loopw [4, 8] (fun r i w1 => ∃ k : Nat, k ≤ xs.length ∧ i = .int .i64 k ∧ Ext w w1 ∧ (∀ j (hj : j < xs.length), j < k → p xs[j] = false)) (fun _ i _ => xs.length - (intOf i).toNat)
  case atStart => exact ⟨0, Nat.zero_le _, rfl, Ext.refl _, fun j _ h => absurd h (by omega)⟩
  case round =>
    obtain ⟨k, hk, rfl, he, hf⟩ := hrel
    have HF := Hd.mk hf
    clear hf
    by_cases hlt : k < xs.length
    · obtain ⟨b, off, x, cs, rfl, hx, ⟨A', c', rfl, hd⟩, _, hcell⟩ := hr.at hlt
      have k0 : wr.cell? ⟨b, off + k * 8, none⟩ = some _ := he.cell (hcell 0 _ rfl)
      have k1 := he.cell (hcell 1 _ rfl)
      have k2 := he.cell (hcell 2 _ rfl)
      have k3 := he.cell (hcell 3 _ rfl)
      have k4 := he.cell (hcell 4 _ rfl)
      have k5 := he.cell (hcell 5 _ rfl)
      have k6 := he.cell (hcell 6 _ rfl)
      have k7 := he.cell (hcell 7 _ rfl)
      have HP := Hd.mk (hp k hlt)
      have HX := Hd.mk hx
      have HD := Hd.mk (hd.ext he)
      clear hp hr hx hcell hd
      go_wp2_with fail
      rw [← HX.out]
      refine (HP.out wr A' c' he (by rw [HX.out]; exact HD.out)).mono ?_
      rintro e w2 ⟨rfl, he2⟩
      have he3 := he.trans he2
      clear he he2 k0 k1 k2 k3 k4 k5 k6 k7
      cases hpx : p xs[k] with
      | true =>
        have HPX := Hd.mk hpx
        clear hpx
        go_wp2
        go_ret
        exact ⟨ret_int (idx_at xs p k hlt HF.out HPX.out).symm, he3⟩
      | false =>
        have HPX := Hd.mk hpx
        clear hpx
        go_wp2
        go_roundw
        case rel => exact ⟨k + 1, by omega, by go_num, he3, fun j hj hjk => by
            rcases Nat.lt_or_ge j k with h | h
            · exact HF.out j hj h
            · obtain rfl : j = k := by omega
              exact HPX.out⟩
        case measure => simp [intOf]; omega
    · go_wp2
      go_ret
      exact ⟨ret_int (idx_none xs p (fun j hj => HF.out j hj (by omega))).symm, he⟩

set_option maxRecDepth 100000 in
theorem ContainsFunc_int (A : Option Addr) (c : Nat) (xs : List Int) (g : Nat) (cap : Array Value) (p : Int → Bool) (w : World) (hr : Sc vI w A c xs) (hg : Fun g)
    (hp : ∀ i (hi : i < xs.length) w1, Ext w w1 → Calls Try.prog g (#[.int .i64 xs[i]] ++ cap) w1 fun e w2 => e = .returned (.bool (p xs[i])) ∧ Ext w1 w2) :
    Calls Try.prog 80 #[.slice A xs.length c, .func (.func g) #[] cap] w
      fun e w' => e = .returned (.bool (xs.any p)) ∧ Ext w w' := by
  have HP := Hd.mk hp
  have HR := Hd.mk hr
  clear hp hr
  go_enter Try.func80, Try.ntmps80
  go_wp2_with fail
  refine (IndexFunc_int A c xs g cap p w HR.out hg HP.out).mono ?_
  rintro e w1 ⟨rfl, he⟩
  go_wp2
  go_ret
  exact ⟨ret_bool (idx_any xs p), he⟩

set_option maxRecDepth 100000 in
theorem ContainsFunc_rec (A : Option Addr) (c : Nat) (xs : List Rc) (g : Nat) (cap : Array Value) (p : Rc → Bool) (w : World) (hr : Sm 8 rcR w A c xs) (hg : Fun g)
    (hp : ∀ i (hi : i < xs.length) w1 A c, Ext w w1 → Sc vU w1 A c xs[i].data → Calls Try.prog g (#[rcV xs[i] A c] ++ cap) w1 fun e w2 => e = .returned (.bool (p xs[i])) ∧ Ext w1 w2) :
    Calls Try.prog 55 #[.slice A xs.length c, .func (.func g) #[] cap] w
      fun e w' => e = .returned (.bool (xs.any p)) ∧ Ext w w' := by
  have HP := Hd.mk hp
  have HR := Hd.mk hr
  clear hp hr
  go_enter Try.func55, Try.ntmps55
  go_wp2_with fail
  refine (IndexFunc_rec A c xs g cap p w HR.out hg HP.out).mono ?_
  rintro e w1 ⟨rfl, he⟩
  go_wp2
  go_ret
  exact ⟨ret_bool (idx_any xs p), he⟩
end Go.Proofs.Ytipoegmheiapgaa
