/- Sums and joins: Of, bytes, Grow, Concat, Seal. -/
import Derived.Test.YtipoegmheiapgaaK2
import Derived.Test.YtipoegmheiapgaaA2
namespace Go.Proofs.Ytipoegmheiapgaa
set_option linter.unusedVariables false
set_option linter.unusedSimpArgs false
open Go.RowKit

/-- A part: a slice of bytes in one cell. -/
def byR (w : World) (x : List UInt8) (cs : List Value) : Prop := ∃ A c, cs = [.slice A x.length c] ∧ Sc vB w A c x
theorem byR_keeps : Keeps byR := fun _ _ _ _ he ⟨A, c, h, hs⟩ => ⟨A, c, h, hs.ext he⟩
theorem Sm.one {α : Type} {k : Nat} {R : World → α → List Value → Prop} {w : World} {b : Nat} {cs : Array Value} {T : TypeId} {x : α} (h : w.heap[b]? = some (.cells cs T (0, 0))) (hr : R w x cs.toList) (hk : cs.size = k) :
    Sm k R w (some ⟨b, 0, none⟩) 1 [x] := by
  refine ⟨Nat.le_refl _, by simp [maxLen], fun _ => ⟨b, 0, rfl, fun i hi => ?_⟩⟩
  obtain rfl : i = 0 := by simpa using hi
  refine ⟨cs.toList, hr, by simpa using hk, fun j v hj => ?_⟩
  rw [cell_obj h]
  simpa using hj
theorem foldl_lt (ps : List (List UInt8)) : ∀ s, s < 4294967296 → ps.foldl moreF s < 4294967296 := by
  induction ps with
  | nil => intro s h; exact h
  | cons p ps ih => intro s _; exact ih _ (moreF_lt _ _)

set_option maxHeartbeats 2000000 in
set_option maxRecDepth 100000 in
theorem Of_calls (A : Option Addr) (c : Nat) (ps : List (List UInt8)) (w : World) (hr : Sm 1 byR w A c ps) (hN : ∀ i (h : i < ps.length), ps[i].length ≤ 4294967296) :
    Calls Try.prog 85 #[.slice A ps.length c] w fun e w' => e = .returned (.int .u32 (sumF ps : Int)) ∧ Dr w w' := by
  have hc1 := hr.1
  have hc2 := hr.2.1
  unfold maxLen at hc2
  have HR := Hd.mk hr
  have HN := Hd.mk hN
  clear hr hN
  go_enter Try.func85, Try.ntmps85
  go_wp2
  go_loopw [3, 8] (fun s i w1 => ∃ k : Nat, k ≤ ps.length ∧ i = .int .i64 k ∧ s = .int .u32 ((ps.take k).foldl moreF 1 : Nat) ∧ Dr w w1) (fun _ i _ => ps.length - (intOf i).toNat)
  case atStart => exact ⟨0, Nat.zero_le _, rfl, rfl, Dr.refl _⟩
  case round =>
    obtain ⟨k, hk, rfl, rfl, hdr⟩ := hrel
    have HD := Hd.mk hdr
    clear hdr
    by_cases hlt : k < ps.length
    · obtain ⟨b, off, x, cs, rfl, hx, ⟨A3, c3, rfl, hd3⟩, _, hcx⟩ := (HR.out.ext byR_keeps HD.out.ext).at hlt
      have m0 : wr.cell? ⟨b, off + k * 1, none⟩ = some _ := hcx 0 _ rfl
      rw [Nat.mul_one] at m0
      have hxl := HN.out k hlt
      rw [hx] at hxl
      have hsn := foldl_snoc moreF 1 ps hlt
      rw [hx] at hsn
      obtain ⟨s0, hs0⟩ : ∃ s0, (ps.take k).foldl moreF 1 = s0 := ⟨_, rfl⟩
      have hs1 : s0 < 4294967296 := by rw [← hs0]; exact foldl_lt _ _ (by omega)
      rw [hs0] at hsn ⊢
      have HSN := Hd.mk hsn
      have HX := Hd.mk hd3
      clear hcx hx hs0 hsn hd3
      go_wp2_with fail
      refine (More_calls s0 hs1 A3 c3 x _ HX.out hxl).mono ?_
      rintro e w4 ⟨rfl, he4⟩
      have HE4 := Hd.mk (HD.out.trans he4)
      clear he4
      go_wp2
      go_roundw
      case rel => exact ⟨k + 1, by omega, by go_num, by rw [HSN.out], HE4.out⟩
      case measure => simp [intOf]; omega
    · obtain rfl : k = ps.length := by omega
      rw [List.take_length]
      go_wp2
      go_ret
      exact ⟨ret_int rfl, HD.out⟩

theorem u32_shr (s : Nat) (hs : s < 4294967296) (j : Nat) (hj : j ∈ [8, 16, 24]) (w : World) : (binOp .shr 144 (.int .u32 (s : Int)) (.int .u64 (j : Int))).run Try.prog w = .ok (.int .u32 ((s / 2 ^ j : Nat) : Int)) w := by
  simp only [List.mem_cons, List.not_mem_nil, or_false] at hj
  rcases hj with rfl | rfl | rfl <;>
  · simp [binOp, Op.shift, go_sem]
    try (simp [IntKind.wrap]; omega)
theorem u8_wrap (n : Nat) : IntKind.u8.wrap (n : Int) = ((UInt8.ofNat n).toNat : Int) := by
  simp [IntKind.wrap, IntKind.signed, IntKind.bits]
set_option maxHeartbeats 2000000 in
set_option maxRecDepth 100000 in
theorem sumBytes_calls (s : Nat) (hs : s < 4294967296) (w : World) :
    Calls Try.prog 84 #[.int .u32 (s : Int)] w fun e w' => ∃ A c, e = .returned (.slice A 4 c) ∧ Sc vB w' A c (sum4 s) ∧ Ext w w' := by
  have e1 := u32_shr s hs 24 (by simp)
  have e2 := u32_shr s hs 16 (by simp)
  have e3 := u32_shr s hs 8 (by simp)
  have u1 := u8_wrap (s / 2 ^ 24)
  have u2 := u8_wrap (s / 2 ^ 16)
  have u3 := u8_wrap (s / 2 ^ 8)
  have u4 := u8_wrap s
  go_enter Try.func84, Try.ntmps84
  go_wp2
  go_ret
  refine ⟨_, _, rfl, Sc.new (heap_new _ _) ?_ (Nat.le_refl _) (by simp [maxLen]), (Ext.refl w).alloc _⟩
  simp [sum4, vB]
  omega

theorem owns_slice {w : World} {base : Nat} {e : TypeId} {n : Nat} {v : Value} {xs : List Value} {k : Nat} (h : w.ownsRow base e k v n xs) : ∃ A c, v = .slice A n c ∧ n ≤ c ∧ c ≤ maxLen := by
  rcases h.2 with ⟨rfl, rfl⟩ | ⟨g, cap, cur, rfl, hb, hg, hn, hm, hs, ht⟩
  · exact ⟨none, 0, rfl, Nat.le_refl _, Nat.zero_le _⟩
  · exact ⟨_, cap, rfl, hn, hm⟩
set_option maxHeartbeats 2000000 in
set_option maxRecDepth 100000 in
theorem GrowB_calls (n : Nat) (hn : n ≤ 4294967300) (w : World) :
    Calls Try.prog 70 #[.slice none 0 0, .int .i64 (n : Int)] w fun e w' => ∃ v, e = .returned v ∧ Os vB w' w.heap.size 5 v [] ∧ Ext w w' := by
  have t1 : ElT Try.prog 42 5 1 1 := ElT.mk' Try.underlying42 (z := .int .u8 0) (by kernel_rfl) rfl (by omega) (by omega)
  go_enter Try.func70, Try.ntmps70
  by_cases h0 : n = 0
  · subst h0
    go_wp2
    go_ret
    exact ⟨_, rfl, Os.nil _ _ _ _, Ext.refl _⟩
  · have hp : (0 : Int) < n := by omega
    go_wp2_with (at_builtin; refine wpList_zeros t1 Try.underlying3 (z := .int .u8 0) (by kernel_rfl) rfl rfl rfl rfl (.tmp 20) (.tmp 21) rfl w.heap.size (.slice none 0 0) 0 [] rfl ⟨rfl, .inl ⟨rfl, rfl⟩⟩ .i64 n rfl (by omega) (Nat.le_refl _) ?_)
    rintro v1 w3 hown hgr hv
    obtain ⟨A, c, rfl, hnc, hcm⟩ := owns_slice hown
    unfold maxLen at hcm
    have HO := Hd.mk (Os.none' vB hown)
    have HX := Hd.mk ((Ext.refl w).grown hgr (fun b hb => by cases hb))
    clear hown hgr hv
    go_wp2
    go_ret
    exact ⟨_, rfl, HO.out, HX.out⟩

/-- The first k parts, joined. -/
def joined (ps : List (List UInt8)) (k : Nat) : List UInt8 := (ps.take k).flatten
theorem joined_zero (ps : List (List UInt8)) : joined ps 0 = [] := rfl
theorem joined_all (ps : List (List UInt8)) : joined ps ps.length = ps.flatten := by rw [joined, List.take_length]
theorem joined_le (ps : List (List UInt8)) (k : Nat) : (joined ps k).length ≤ ps.flatten.length := by
  have := congrArg List.length (congrArg List.flatten (List.take_append_drop k ps))
  rw [List.flatten_append, List.length_append] at this
  rw [joined]; omega
theorem joined_snoc (ps : List (List UInt8)) (k : Nat) (hk : k < ps.length) : joined ps (k + 1) = joined ps k ++ ps[k] := by
  rw [joined, joined, List.take_succ_eq_append_getElem hk, List.flatten_append]; simp
set_option maxHeartbeats 2000000 in
set_option maxRecDepth 100000 in
theorem ConcatB_calls (A : Option Addr) (c : Nat) (ps : List (List UInt8)) (w : World) (hr : Sm 1 byR w A c ps) (hN : ps.flatten.length ≤ 4294967300) :
    Calls Try.prog 43 #[.slice A ps.length c] w fun e w' => ∃ v, e = .returned v ∧ Os vB w' w.heap.size 5 v ps.flatten ∧ Ext w w' := by
  have t1 : ElT Try.prog 42 5 1 1 := ElT.mk' Try.underlying42 (z := .int .u8 0) (by kernel_rfl) rfl (by omega) (by omega)
  have hc1 := hr.1
  have hc2 := hr.2.1
  unfold maxLen at hc2
  have HR := Hd.mk hr
  rw [← joined_all] at hN ⊢
  have HALL := Hd.mk (fun k => show (joined ps k).length ≤ (joined ps ps.length).length from by rw [joined_all]; exact joined_le ps k)
  clear hr
  go_enter Try.func43, Try.ntmps43
  go_wp2
  go_loopw [3, 11] (fun s i w1 => ∃ k : Nat, k ≤ ps.length ∧ i = .int .i64 k ∧ s = .int .i64 ((joined ps k).length : Nat) ∧ Dr w w1) (fun _ i _ => ps.length - (intOf i).toNat)
  case atStart => exact ⟨0, Nat.zero_le _, rfl, rfl, Dr.refl _⟩
  case round =>
    obtain ⟨k, hk, rfl, rfl, hdr⟩ := hrel
    have HD := Hd.mk hdr
    clear hdr
    by_cases hlt : k < ps.length
    · obtain ⟨b, off, x, cs, rfl, hx, ⟨A3, c3, rfl, hd3⟩, _, hcx⟩ := (HR.out.ext byR_keeps HD.out.ext).at hlt
      have m0 : wr.cell? ⟨b, off + k * 1, none⟩ = some _ := hcx 0 _ rfl
      rw [Nat.mul_one] at m0
      have hsn := joined_snoc ps k hlt
      rw [hx] at hsn
      have hsl := congrArg List.length hsn
      rw [List.length_append] at hsl
      have hsum := HALL.out (k + 1)
      obtain ⟨s0, hs0⟩ : ∃ s0, (joined ps k).length = s0 := ⟨_, rfl⟩
      rw [hs0] at hsl ⊢
      have hcc := hd3.1
      have hcd := hd3.2.1
      unfold maxLen at hcd
      have hs2 : s0 + x.length ≤ 4294967300 := by omega
      have HSL := Hd.mk hsl
      clear hcx hx hs0 hsn hd3 hsl hsum
      go_wp2
      go_roundw
      case rel => exact ⟨k + 1, by omega, by go_num, by rw [HSL.out]; go_num, HD.out.trans (by first | exact Dr.refl _ | exact Dr.drewN _ _)⟩
      case measure => simp [intOf]; omega
    · obtain rfl : k = ps.length := by omega
      go_wp2_with fail
      refine (GrowB_calls _ hN _).mono ?_
      rintro e w2 ⟨v2, rfl, hos, he2⟩
      have HOS := Hd.mk hos
      have HE2 := Hd.mk (HD.out.ext.trans he2)
      have HLE := Hd.mk (show w.heap.size ≤ wr.heap.size from HD.out.ext.size)
      clear hos he2
      obtain ⟨wo, hwo⟩ : ∃ wo, wo = wr := ⟨_, rfl⟩
      rw [← hwo] at HD HOS HLE
      clear hwo
      go_wp2
      go_loopw [6, 27] (fun v i w3 => ∃ k : Nat, k ≤ ps.length ∧ i = .int .i64 k ∧ Os vB w3 w.heap.size 5 v (joined ps k) ∧ Ext w w3) (fun _ i _ => ps.length - (intOf i).toNat)
      case atStart => exact ⟨0, Nat.zero_le _, rfl, HOS.out.base HLE.out, HE2.out⟩
      case round =>
        obtain ⟨k, hk, rfl, hos, he3⟩ := hrel
        have HOS := Hd.mk hos
        have HE3 := Hd.mk he3
        clear hos he3
        by_cases hlt : k < ps.length
        · obtain ⟨b, off, x, cs, rfl, hx, ⟨A3, c3, rfl, hd3⟩, _, hcx⟩ := (HR.out.ext byR_keeps HE3.out).at hlt
          have m0 : wr.cell? ⟨b, off + k * 1, none⟩ = some _ := hcx 0 _ rfl
          rw [Nat.mul_one] at m0
          have hsn := joined_snoc ps k hlt
          rw [hx] at hsn
          have hsum := HALL.out (k + 1)
          rw [hsn, List.length_append] at hsum
          have HSN := Hd.mk hsn
          have HX := Hd.mk hd3
          clear hcx hx hsn hd3
          go_wp2_with (at_builtin; refine wpList_app _ t1 rfl (.tmp 31) (.tmp 32) rfl w.heap.size _ _ _ rfl HOS.out A3 x.length c3 (x.map vB) rfl (by simp) HX.out.fl (by intro u hu; obtain ⟨y, _, rfl⟩ := List.mem_map.1 hu; rfl) (by omega) HE3.out.size ?_)
          rintro v1 w3 hown hgr hv
          have HO2 := Hd.mk (show Os vB w3 w.heap.size 5 v1 (joined ps (k + 1)) from by
            unfold Os; rw [HSN.out, List.map_append, List.length_append]; exact hown)
          have HX3 := Hd.mk (HE3.out.grown hgr (fun b hb => owns_block HOS.out b hb))
          clear hown hgr hv
          go_wp2
          go_roundw
          case rel => exact ⟨k + 1, by omega, by go_num, HO2.out, HX3.out⟩
          case measure => simp [intOf]; omega
        · obtain rfl : k = ps.length := by omega
          go_wp2
          go_ret
          exact ⟨_, rfl, HOS.out, HE3.out⟩

theorem Sm.two {α : Type} {k : Nat} {R : World → α → List Value → Prop} {w : World} {b : Nat} {cs : Array Value} {c1 c2 : List Value} {T : TypeId} {x y : α} (h : w.heap[b]? = some (.cells cs T (0, 0))) (hcs : cs.toList = c1 ++ c2) (hx : R w x c1) (hy : R w y c2) (h1 : c1.length = k) (h2 : c2.length = k) :
    Sm k R w (some ⟨b, 0, none⟩) 2 [x, y] := by
  refine ⟨Nat.le_refl _, by simp [maxLen], fun _ => ⟨b, 0, rfl, fun i hi => ?_⟩⟩
  match i, hi with
  | 0, _ =>
    refine ⟨c1, hx, h1, fun j v hj => ?_⟩
    rw [cell_obj h, ← Array.getElem?_toList, hcs, List.getElem?_append_left (by have := (List.getElem?_eq_some_iff.1 hj).1; omega)]
    simpa using hj
  | 1, _ =>
    refine ⟨c2, hy, h2, fun j v hj => ?_⟩
    rw [cell_obj h, ← Array.getElem?_toList, hcs, List.getElem?_append_right (by omega), h1, show 0 + 1 * k + j - k = j by omega]
    exact hj

set_option maxHeartbeats 2000000 in
set_option maxRecDepth 100000 in
theorem Seal_calls (A : Option Addr) (c : Nat) (x : List UInt8) (w : World) (hr : Sc vB w A c x) (hN : x.length ≤ 4294967296) :
    Calls Try.prog 61 #[.slice A x.length c] w fun e w' => ∃ v, e = .returned v ∧ Os vB w' w.heap.size 5 v (sealF x) ∧ Ext w w' := by
  have HR := Hd.mk hr
  clear hr
  go_enter Try.func61, Try.ntmps61
  go_wp2_with fail
  refine (Of_calls _ 1 [x] _ (Sm.one (heap_new w _) ⟨A, c, rfl, HR.out.ext ((Ext.refl w).alloc _)⟩ rfl) (by intro i h; match i, h with | 0, _ => exact hN | i + 1, h => simp at h)).mono ?_
  rintro e w1 ⟨rfl, hd1⟩
  have HD := Hd.mk (((Ext.refl w).alloc _).trans hd1.ext)
  clear hd1
  go_wp2_with fail
  refine (sumBytes_calls _ (foldl_lt [x] 1 (by omega)) _).mono ?_
  rintro e w2 ⟨A2, c2, rfl, hs2, he2⟩
  have HS2 := Hd.mk hs2
  have HE2 := Hd.mk (HD.out.trans he2)
  clear hs2 he2
  go_wp2_with fail
  refine (ConcatB_calls _ 2 [x, sum4 (sumF [x])] _ (Sm.two (c1 := [.slice A x.length c]) (c2 := [.slice A2 4 c2]) (heap_new w2 _) rfl ⟨A, c, rfl, HR.out.ext (HE2.out.alloc _)⟩ ⟨A2, c2, rfl, HS2.out.ext ((Ext.refl w2).alloc _)⟩ rfl rfl) (by simp [sum4]; omega)).mono ?_
  rintro e w3 ⟨v3, rfl, hs3, he3⟩
  have HS3 := Hd.mk hs3
  have HE3 := Hd.mk ((HE2.out.alloc _).trans he3)
  clear hs3 he3
  go_wp2
  go_ret
  exact ⟨_, rfl, by have := HS3.out.base (base' := w.heap.size) (by have := HE2.out.size; simp; omega); simpa [sealF] using this, HE3.out⟩
end Go.Proofs.Ytipoegmheiapgaa
