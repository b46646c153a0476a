/- Sealed bytes opened, a record decoded. -/
import Derived.Test.YtipoegmheiapgaaK6
namespace Go.Proofs.Ytipoegmheiapgaa
set_option linter.unusedVariables false
set_option linter.unusedSimpArgs false
open Go.RowKit

set_option maxRecDepth 100000 in
theorem EqualB_calls (A B : Option Addr) (c d : Nat) (xs ys : List UInt8) (w : World) (hx : Sc vB w A c xs) (hy : Sc vB w B d ys) :
    Calls Try.prog 120 #[.slice A xs.length c, .slice B ys.length d] w
      fun e w' => e = .returned (.bool (decide (xs = ys))) ∧ Dr w w' := by
  have b1 := hx.1
  have b2 := hx.2.1
  unfold maxLen at b2
  go_enter Try.func120, Try.ntmps120
  by_cases hl : xs.length = ys.length
  · have g1 : ((xs.length : Int) != (ys.length : Int)) = false := by rw [bne_eq_false_iff_eq]; omega
    have HL := Hd.mk hl
    clear hl
    go_wp2
    go_loopw [13] (fun i w1 => ∃ k : Nat, k ≤ xs.length ∧ i = .int .i64 k ∧ Dr w w1 ∧ (∀ j (h1 : j < xs.length) (h2 : j < ys.length), j < k → xs[j] = ys[j])) (fun i _ => xs.length - (intOf i).toNat)
    case atStart => exact ⟨0, Nat.zero_le _, rfl, Dr.refl _, fun j _ _ h => absurd h (by omega)⟩
    case round =>
      obtain ⟨k, hk, rfl, hdr, hf⟩ := hrel
      have hcw := hdr.cell
      have HR := Hd.mk hdr
      clear hdr
      have HF := Hd.mk hf
      clear hf
      by_cases hlt : k < xs.length
      · have hlt2 : k < ys.length := by have := HL.out; omega
        obtain ⟨b, off, x, rfl, hxk, hcx⟩ := hx.at hlt
        obtain ⟨b', off', y, rfl, hyk, hcy⟩ := hy.at hlt2
        have hcx := (hcw _).trans hcx
        have hcy := (hcw _).trans hcy
        have HX := Hd.mk hxk
        have HY := Hd.mk hyk
        clear hxk hyk hx hy hcw
        by_cases hxy : x = y
        · subst hxy
          go_wp2
          go_quiet (fail)
          go_wp2
          go_roundw
          case rel => exact ⟨k + 1, by omega, by go_num, HR.out.trans (Dr.drewN _ _), fun j h1 h2 hjk => by
              rcases Nat.lt_or_ge j k with h | h
              · exact HF.out j h1 h2 h
              · obtain rfl : j = k := by omega
                rw [HX.out, HY.out]⟩
          case measure => simp [intOf]; omega
        · have g2 := u8_ne hxy
          have HN := Hd.mk hxy
          clear hxy
          go_wp2
          go_quiet (fail)
          go_wp2
          go_ret
          exact ⟨ret_bool (decide_eq_false (list_ne hlt hlt2 (by rw [HX.out, HY.out]; exact HN.out))).symm, HR.out.trans (Dr.drewN _ _)⟩
      · go_wp2
        go_ret
        exact ⟨ret_bool (decide_eq_true (list_eq HL.out fun j h1 h2 => HF.out j h1 h2 (by omega))).symm, HR.out⟩
  · have g1 : ((xs.length : Int) != (ys.length : Int)) = true := by rw [bne_iff_ne]; omega
    have HL := Hd.mk hl
    clear hl
    go_wp2
    go_ret
    exact ⟨ret_bool (by simp; rintro rfl; exact HL.out rfl), Dr.refl _⟩

theorem Sc.take {α : Type} {w : World} {c b off n : Nat} {f : α → Value} {xs : List α} (h : Sc f w (some ⟨b, off, none⟩) c xs) (hn : n ≤ xs.length) : Sc f w (some ⟨b, off, none⟩) c (xs.take n) := by
  have := h.cut (i := 0) (j := n) (Nat.zero_le _) hn
  simpa using this
theorem sealF_take (x : List UInt8) : (sealF x).take x.length = x := by simp [sealF]
theorem sealF_drop (x : List UInt8) : (sealF x).drop x.length = sum4 (sumF [x]) := by simp [sealF]
set_option maxHeartbeats 4000000 in
set_option maxRecDepth 100000 in
theorem Open_calls (A : Option Addr) (c : Nat) (x : List UInt8) (w : World) (hs : Sc vB w A c (sealF x)) (hN : x.length ≤ 4294967296) :
    Calls Try.prog 109 #[.slice A (x.length + 4) c] w fun e w' => ∃ v, e = .returned (.tuple #[v, .int .i64 0]) ∧ Os vB w' w.heap.size 5 v x ∧ Ext w w' := by
  have hl := sealF_len x
  have hc1 := hs.1
  have hc2 := hs.2.1
  unfold maxLen at hc2
  obtain ⟨b, off, rfl, hcell⟩ := hs.2.2 (by omega)
  have HT := Hd.mk (hs.take (n := x.length) (by omega))
  have HD := Hd.mk (hs.drop (n := x.length) (by omega))
  rw [sealF_take] at HT
  rw [sealF_drop] at HD
  rw [hl] at hc1
  have hne : ¬ c = x.length := by omega
  have hle1 : x.length ≤ c := by omega
  have hle2 : (x.length : Int) ≤ (x.length : Int) + 4 := by omega
  clear hs hcell hl
  go_enter Try.func109, Try.ntmps109
  go_wp2_with fail
  refine wp_region_pl NoF w (.pur 0 (.pur 1 (.pur 2 (.pur 3 (.pur 4 (.pur 5 (.pur 6 (.pur 7 (.pur 8 (.one 9 (.one 10 (.one 11 (.one 12 (.pur 13 (.pur 14 (.done)))))))))))))))) (by kernel_rfl) (by kernel_rfl) (by kernel_rfl) (fun _ _ d _ _ h => by cases d <;> exact h) (Fr.refl _ _) ?_
  repeat (refine wpPl_pur (by rfl) (by rfl) ?_; apply Exists.intro; refine ⟨fun x => ?_, ?_⟩; (focus (go_simp <;> with_reducible rfl)); simp only [Act.put, List.setIfInBounds_toArray, List.set_cons_zero, List.set_cons_succ])
  refine wpPl_one (by rfl) (by rfl) (fun K hK => ?_)
  go_wp2_with fail
  refine hK _ _ (((Ext.refl w).drew.alloc _).fr NoF) ?_
  clear hK
  refine wpPl_one (by rfl) (by rfl) (fun K hK => ?_)
  go_wp2_with fail
  refine (Of_calls _ 1 [x] _ (Sm.one (heap_new w.drew _) ⟨some ⟨b, off, none⟩, c, rfl, HT.out.ext ((Ext.refl w).drew.alloc _)⟩ rfl) (by intro i h; match i, h with | 0, _ => exact hN | i + 1, h => simp at h)).mono ?_
  rintro e w1 ⟨rfl, hd1⟩
  have HE1 := Hd.mk (((Ext.refl w).drew.alloc _).trans hd1.ext)
  clear hd1
  refine hK _ _ (HE1.out.fr NoF) ?_
  clear hK
  refine wpPl_one (by rfl) (by rfl) (fun K hK => ?_)
  go_wp2_with fail
  refine (sumBytes_calls _ (foldl_lt [x] 1 (by omega)) _).mono ?_
  rintro e w2 ⟨A2, c2, rfl, hs2, he2⟩
  have HS2 := Hd.mk hs2
  have HE2 := Hd.mk (HE1.out.trans he2)
  clear hs2 he2
  refine hK _ _ (HE2.out.fr NoF) ?_
  clear hK
  refine wpPl_one (by rfl) (by rfl) (fun K hK => ?_)
  go_wp2_with fail
  refine (EqualB_calls _ _ _ _ (sum4 (sumF [x])) (sum4 (sumF [x])) _ (HD.out.ext HE2.out) HS2.out).mono ?_
  rintro e w3 ⟨rfl, hd3⟩
  rw [decide_eq_true (rfl : sum4 (sumF [x]) = sum4 (sumF [x]))]
  have HE3 := Hd.mk (HE2.out.trans hd3.ext)
  clear hd3
  refine hK _ _ (HE3.out.fr NoF) ?_
  clear hK
  repeat (refine wpPl_pur (by rfl) (by rfl) ?_; apply Exists.intro; refine ⟨fun x => ?_, ?_⟩; (focus (go_simp <;> with_reducible rfl)); simp only [Act.put, List.setIfInBounds_toArray, List.set_cons_zero, List.set_cons_succ])
  refine wpPl_done ?_
  go_wp2_with fail
  refine (Clone_uint8 _ c x _ (HT.out.ext HE3.out) hN).mono ?_
  rintro e w4 ⟨v4, rfl, hos, he4⟩
  have HO := Hd.mk (hos.base HE3.out.size)
  have HE4 := Hd.mk (HE3.out.trans he4)
  clear hos he4
  go_wp2
  go_ret2
  exact ⟨_, rfl, HO.out, HE4.out⟩
end Go.Proofs.Ytipoegmheiapgaa
