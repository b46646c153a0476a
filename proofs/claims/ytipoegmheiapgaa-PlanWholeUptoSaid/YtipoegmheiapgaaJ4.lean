/- What the references hold lists, ops and records against. -/
import Derived.Test.YtipoegmheiapgaaJ3
namespace Go.Proofs.Ytipoegmheiapgaa
set_option linter.unusedVariables false
set_option linter.unusedSimpArgs false
open Go.RowKit

theorem vU_inj {x y : UInt64} : vU x = vU y ↔ x = y := by simp [vU, ← UInt64.toNat_inj]; omega
theorem u64_ne {x y : UInt64} (h : x ≠ y) : ((x.toNat : Int) != (y.toNat : Int)) = true := by
  rw [bne_iff_ne]; intro h'; exact h (UInt64.toNat_inj.1 (by omega))
theorem u8_ne {x y : UInt8} (h : x ≠ y) : ((x.toNat : Int) != (y.toNat : Int)) = true := by
  rw [bne_iff_ne]; intro h'; exact h (UInt8.toNat_inj.1 (by omega))
theorem i64_ne {x y : Int} (h : x ≠ y) : (x != y) = true := by rw [bne_iff_ne]; exact h

set_option maxRecDepth 100000 in
theorem UInt64_list_calls (A B : Option Addr) (c d : Nat) (xs ys : List UInt64) (w : World) (hx : Sc vU w A c xs) (hy : Sc vU w B d ys) :
    Calls Try.prog 38 #[.slice A xs.length c, .slice B ys.length d] w
      fun e w' => e = .returned (.bool (decide (xs = ys))) ∧ Dr w w' := by
  have b1 := hx.1
  have b2 := hx.2.1
  unfold maxLen at b2
  go_enter Try.func38, Try.ntmps38
  by_cases hl : xs.length = ys.length
  · have g1 : ((xs.length : Int) != (ys.length : Int)) = false := by rw [bne_eq_false_iff_eq]; omega
    have HL := Hd.mk hl
    clear hl
    go_wp2
    go_loopw [5] (fun i w1 => ∃ k : Nat, k ≤ xs.length ∧ i = .int .i64 k ∧ Dr w w1 ∧ (∀ j (h1 : j < xs.length) (h2 : j < ys.length), j < k → xs[j] = ys[j])) (fun i _ => xs.length - (intOf i).toNat)
    case atStart => exact ⟨0, Nat.zero_le _, rfl, Dr.refl _, fun j _ _ h => absurd h (by omega)⟩
    case round =>
      obtain ⟨k, hk, rfl, hdr, hf⟩ := hrel
      have hcw := hdr.cell
      have HR := Hd.mk hdr
      clear hdr
      have HF := Hd.mk hf
      clear hf
      by_cases hlt : k < xs.length
      · have hlt2 : k < ys.length := by have := HL.out; omega
        obtain ⟨b, off, x, rfl, hxk, hcx⟩ := hx.at hlt
        obtain ⟨b', off', y, rfl, hyk, hcy⟩ := hy.at hlt2
        have hcx := (hcw _).trans hcx
        have hcy := (hcw _).trans hcy
        have HX := Hd.mk hxk
        have HY := Hd.mk hyk
        clear hxk hyk hx hy hcw
        by_cases hxy : x = y
        · subst hxy
          go_wp2
          go_quiet (fail)
          go_wp2
          go_roundw
          case rel => exact ⟨k + 1, by omega, by go_num, HR.out.trans (Dr.drewN _ _), fun j h1 h2 hjk => by
              rcases Nat.lt_or_ge j k with h | h
              · exact HF.out j h1 h2 h
              · obtain rfl : j = k := by omega
                rw [HX.out, HY.out]⟩
          case measure => simp [intOf]; omega
        · have g2 := u64_ne hxy
          have HN := Hd.mk hxy
          clear hxy
          go_wp2
          go_quiet (fail)
          go_wp2
          go_ret
          exact ⟨ret_bool (decide_eq_false (list_ne hlt hlt2 (by rw [HX.out, HY.out]; exact HN.out))).symm, HR.out.trans (Dr.drewN _ _)⟩
      · go_wp2
        go_ret
        exact ⟨ret_bool (decide_eq_true (list_eq HL.out fun j h1 h2 => HF.out j h1 h2 (by omega))).symm, HR.out⟩
  · have g1 : ((xs.length : Int) != (ys.length : Int)) = true := by rw [bne_iff_ne]; omega
    have HL := Hd.mk hl
    clear hl
    go_wp2
    go_ret
    exact ⟨ret_bool (by simp; rintro rfl; exact HL.out rfl), Dr.refl _⟩
set_option maxRecDepth 100000 in
theorem Int_list_calls (A B : Option Addr) (c d : Nat) (xs ys : List Int) (w : World) (hx : Sc vI w A c xs) (hy : Sc vI w B d ys) :
    Calls Try.prog 25 #[.slice A xs.length c, .slice B ys.length d] w
      fun e w' => e = .returned (.bool (decide (xs = ys))) ∧ Dr w w' := by
  have b1 := hx.1
  have b2 := hx.2.1
  unfold maxLen at b2
  go_enter Try.func25, Try.ntmps25
  by_cases hl : xs.length = ys.length
  · have g1 : ((xs.length : Int) != (ys.length : Int)) = false := by rw [bne_eq_false_iff_eq]; omega
    have HL := Hd.mk hl
    clear hl
    go_wp2
    go_loopw [5] (fun i w1 => ∃ k : Nat, k ≤ xs.length ∧ i = .int .i64 k ∧ Dr w w1 ∧ (∀ j (h1 : j < xs.length) (h2 : j < ys.length), j < k → xs[j] = ys[j])) (fun i _ => xs.length - (intOf i).toNat)
    case atStart => exact ⟨0, Nat.zero_le _, rfl, Dr.refl _, fun j _ _ h => absurd h (by omega)⟩
    case round =>
      obtain ⟨k, hk, rfl, hdr, hf⟩ := hrel
      have hcw := hdr.cell
      have HR := Hd.mk hdr
      clear hdr
      have HF := Hd.mk hf
      clear hf
      by_cases hlt : k < xs.length
      · have hlt2 : k < ys.length := by have := HL.out; omega
        obtain ⟨b, off, x, rfl, hxk, hcx⟩ := hx.at hlt
        obtain ⟨b', off', y, rfl, hyk, hcy⟩ := hy.at hlt2
        have hcx := (hcw _).trans hcx
        have hcy := (hcw _).trans hcy
        have HX := Hd.mk hxk
        have HY := Hd.mk hyk
        clear hxk hyk hx hy hcw
        by_cases hxy : x = y
        · subst hxy
          go_wp2
          go_quiet (fail)
          go_wp2
          go_roundw
          case rel => exact ⟨k + 1, by omega, by go_num, HR.out.trans (Dr.drewN _ _), fun j h1 h2 hjk => by
              rcases Nat.lt_or_ge j k with h | h
              · exact HF.out j h1 h2 h
              · obtain rfl : j = k := by omega
                rw [HX.out, HY.out]⟩
          case measure => simp [intOf]; omega
        · have g2 := i64_ne hxy
          have HN := Hd.mk hxy
          clear hxy
          go_wp2
          go_quiet (fail)
          go_wp2
          go_ret
          exact ⟨ret_bool (decide_eq_false (list_ne hlt hlt2 (by rw [HX.out, HY.out]; exact HN.out))).symm, HR.out.trans (Dr.drewN _ _)⟩
      · go_wp2
        go_ret
        exact ⟨ret_bool (decide_eq_true (list_eq HL.out fun j h1 h2 => HF.out j h1 h2 (by omega))).symm, HR.out⟩
  · have g1 : ((xs.length : Int) != (ys.length : Int)) = true := by rw [bne_iff_ne]; omega
    have HL := Hd.mk hl
    clear hl
    go_wp2
    go_ret
    exact ⟨ret_bool (by simp; rintro rfl; exact HL.out rfl), Dr.refl _⟩

theorem Words_calls (A B : Option Addr) (c d : Nat) (xs ys : List UInt64) (w : World) (hx : Sc vU w A c xs) (hy : Sc vU w B d ys) :
    Calls Try.prog 38 #[.slice A xs.length c, .slice B ys.length d] w fun e w' => e = .returned (.bool (decide (xs = ys))) ∧ Dr w w' := UInt64_list_calls A B c d xs ys w hx hy

theorem VOp.ext_iff' (a b : VOp) : a = b ↔ a.kind = b.kind ∧ a.off = b.off ∧ a.len = b.len ∧ a.data = b.data := by
  cases a; cases b; simp
theorem Rc.ext_iff' (a b : Rc) : a = b ↔ a.kind = b.kind ∧ a.shard = b.shard ∧ a.snap = b.snap ∧ a.base = b.base ∧ a.map = b.map ∧ a.off = b.off ∧ a.len = b.len ∧ a.data = b.data := by
  cases a; cases b; simp

set_option maxHeartbeats 2000000 in
set_option maxRecDepth 100000 in
theorem VSame_calls (A B : Option Addr) (c d : Nat) (xs ys : List VOp) (w : World) (hx : Sm 4 opR w A c xs) (hy : Sm 4 opR w B d ys) :
    Calls Try.prog 12 #[.slice A xs.length c, .slice B ys.length d] w
      fun e w' => e = .returned (.bool (decide (xs = ys))) ∧ Dr w w' := by
  have b1 := hx.1
  have b2 := hx.2.1
  unfold maxLen at b2
  go_enter Try.func12, Try.ntmps12
  by_cases hl : xs.length = ys.length
  · have g1 : ((xs.length : Int) != (ys.length : Int)) = false := by rw [bne_eq_false_iff_eq]; omega
    have HL := Hd.mk hl
    clear hl
    go_wp2
    go_loopw [5] (fun i w1 => ∃ k : Nat, k ≤ xs.length ∧ i = .int .i64 k ∧ Dr w w1 ∧ (∀ j (h1 : j < xs.length) (h2 : j < ys.length), j < k → xs[j] = ys[j])) (fun i _ => xs.length - (intOf i).toNat)
    case atStart => exact ⟨0, Nat.zero_le _, rfl, Dr.refl _, fun j _ _ h => absurd h (by omega)⟩
    case round =>
      obtain ⟨k, hk, rfl, hdr, hf⟩ := hrel
      have hcw := hdr.cell
      have HR := Hd.mk hdr
      clear hdr
      have HF := Hd.mk hf
      clear hf
      by_cases hlt : k < xs.length
      · have hlt2 : k < ys.length := by have := HL.out; omega
        obtain ⟨b, off, x, cs, rfl, hxk, ⟨A1, c1, rfl, hd1⟩, _, hcx⟩ := hx.at hlt
        obtain ⟨b', off', y, cs', rfl, hyk, ⟨A2, c2, rfl, hd2⟩, _, hcy⟩ := hy.at hlt2
        have x0 : wr.cell? ⟨b, off + k * 4, none⟩ = some _ := (hcw _).trans (hcx 0 _ rfl)
        have x1 := (hcw _).trans (hcx 1 _ rfl)
        have x2 := (hcw _).trans (hcx 2 _ rfl)
        have x3 := (hcw _).trans (hcx 3 _ rfl)
        have y0 : wr.cell? ⟨b', off' + k * 4, none⟩ = some _ := (hcw _).trans (hcy 0 _ rfl)
        have y1 := (hcw _).trans (hcy 1 _ rfl)
        have y2 := (hcw _).trans (hcy 2 _ rfl)
        have y3 := (hcw _).trans (hcy 3 _ rfl)
        have HX := Hd.mk hxk
        have HY := Hd.mk hyk
        have HD := Hd.mk (fun n => Words_calls A1 A2 c1 c2 x.data y.data (wr.drewN n) (hd1.ext ((HR.out.trans (Dr.drewN _ n)).ext)) (hd2.ext ((HR.out.trans (Dr.drewN _ n)).ext)))
        clear hxk hyk hx hy hcx hcy hd1 hd2 hcw
        by_cases e0 : x.kind = y.kind
        · have g2 : (x.kind != y.kind) = false := by simpa using e0
          have E0 := Hd.mk e0
          clear e0
          by_cases e1 : x.off = y.off
          · have g3 : (x.off != y.off) = false := by simpa using e1
            have E1 := Hd.mk e1
            clear e1
            by_cases e2 : x.len = y.len
            · have g4 : (x.len != y.len) = false := by simpa using e2
              have E2 := Hd.mk e2
              clear e2
              generalize hdd : decide (x.data = y.data) = z at HD
              have HZ := Hd.mk hdd
              clear hdd
              cases z with
              | true =>
                go_wp2
                go_quiet ((go_at_call 38; exact calls_dr (HD.out _)))
                go_wp2
                go_roundw
                case rel => exact ⟨k + 1, by omega, by go_num, HR.out.trans (Dr.drewN _ _), fun j h1 h2 hjk => by
                    rcases Nat.lt_or_ge j k with h | h
                    · exact HF.out j h1 h2 h
                    · obtain rfl : j = k := by omega
                      rw [HX.out, HY.out, VOp.ext_iff']
                      exact ⟨E0.out, E1.out, E2.out, of_decide_eq_true HZ.out⟩⟩
                case measure => simp [intOf]; omega
              | false =>
                go_wp2
                go_quiet ((go_at_call 38; exact calls_dr (HD.out _)))
                go_wp2
                go_ret
                exact ⟨ret_bool (decide_eq_false (list_ne hlt hlt2 (by rw [HX.out, HY.out]; rintro rfl; have := HZ.out; simp at this))).symm, HR.out.trans (Dr.drewN _ _)⟩
            · have g4 : (x.len != y.len) = true := by simpa using e2
              have E2 := Hd.mk e2
              clear e2
              go_wp2
              go_quiet (fail)
              go_wp2
              go_ret
              exact ⟨ret_bool (decide_eq_false (list_ne hlt hlt2 (by rw [HX.out, HY.out]; rintro rfl; exact E2.out rfl))).symm, HR.out.trans (Dr.drewN _ _)⟩
          · have g4 : (x.off != y.off) = true := by simpa using e1
            have E2 := Hd.mk e1
            clear e1
            go_wp2
            go_quiet (fail)
            go_wp2
            go_ret
            exact ⟨ret_bool (decide_eq_false (list_ne hlt hlt2 (by rw [HX.out, HY.out]; rintro rfl; exact E2.out rfl))).symm, HR.out.trans (Dr.drewN _ _)⟩
        · have g4 : (x.kind != y.kind) = true := by simpa using e0
          have E2 := Hd.mk e0
          clear e0
          go_wp2
          go_quiet (fail)
          go_wp2
          go_ret
          exact ⟨ret_bool (decide_eq_false (list_ne hlt hlt2 (by rw [HX.out, HY.out]; rintro rfl; exact E2.out rfl))).symm, HR.out.trans (Dr.drewN _ _)⟩
      · go_wp2
        go_ret
        exact ⟨ret_bool (decide_eq_true (list_eq HL.out fun j h1 h2 => HF.out j h1 h2 (by omega))).symm, HR.out⟩
  · have g1 : ((xs.length : Int) != (ys.length : Int)) = true := by rw [bne_iff_ne]; omega
    have HL := Hd.mk hl
    clear hl
    go_wp2
    go_ret
    exact ⟨ret_bool (by simp; rintro rfl; exact HL.out rfl), Dr.refl _⟩
end Go.Proofs.Ytipoegmheiapgaa
