/- The nodes of parts: plan.Nodes, the reference's, and 'back'. -/
import Derived.Test.YtipoegmheiapgaaP7
namespace Go.Proofs.Ytipoegmheiapgaa
set_option linter.unusedVariables false
set_option linter.unusedSimpArgs false
open Go.RowKit Go.Sort

set_option maxHeartbeats 4000000 in
set_option maxRecDepth 100000 in
theorem Nodes_calls (A : Option Addr) (c : Nat) (l : List Pt) (w : World) (hr : Sm 6 ptR w A c l) (hN : l.length ≤ 4096) :
    Calls Try.prog 26 #[.slice A l.length c] w fun e w' => ∃ A' c', e = .returned (.slice A' (nodesOf (l.map Pt.node)).length c') ∧ Sc vI w' A' c' (nodesOf (l.map Pt.node)) ∧ Ext w w' := by
  have hc1 := hr.1
  have hc2 := hr.2.1
  unfold maxLen at hc2
  have HR := Hd.mk hr
  clear hr
  go_enter Try.func26, Try.ntmps26
  go_wp2_with fail
  go_loopw [3, 8] (fun t3 t8 w1 => ∃ (i : Nat) (A1 : Option Addr) (c1 : Nat), i ≤ l.length ∧ t8 = .int .i64 (i : Int) ∧ t3 = .slice A1 i c1 ∧ Os vI w1 w.heap.size 3 (.slice A1 i c1) ((l.map Pt.node).take i) ∧ Ext w w1) (fun _ t8 _ => l.length - (intOf t8).toNat)
  case atStart => exact ⟨0, none, 0, Nat.zero_le _, rfl, rfl, Os.nil _ _ _ _, Ext.refl _⟩
  case round =>
    obtain ⟨i, A1, c1, hi, rfl, rfl, hos, he⟩ := hrel
    have HOS := Hd.mk hos
    have HE := Hd.mk he
    clear hos he
    by_cases hlt : i < l.length
    · obtain ⟨b, off, x, cs, rfl, hx, ⟨A3, c3, rfl, hd3⟩, _, hcx⟩ := HR.out.at hlt
      have j0 : wr.cell? ⟨b, off + i * 6, none⟩ = some _ := HE.out.cell (hcx 0 _ rfl)
      have j1 := HE.out.cell (hcx 1 _ rfl)
      have j2 := HE.out.cell (hcx 2 _ rfl)
      have j3 := HE.out.cell (hcx 3 _ rfl)
      have j4 := HE.out.cell (hcx 4 _ rfl)
      have j5 := HE.out.cell (hcx 5 _ rfl)
      have HTK := Hd.mk (show (l.map Pt.node).take (i + 1) = (l.map Pt.node).take i ++ [x.node] from by
        rw [List.take_succ_eq_append_getElem (by simpa using hlt), List.getElem_map, hx])
      have hlen : ((l.map Pt.node).take i).length = i := by simp; omega
      have HLEN := Hd.mk hlen
      clear hcx hx hd3 hlen
      go_wp2_with (at_builtin; refine wpList_app _ tI rfl (.tmp 12) (.tmp 15) rfl w.heap.size (.slice A1 i c1) i (((l.map Pt.node).take i).map vI) rfl (by have h := ((HOS.out.ext (((Ext.refl _).alloc (.cells #[.int .i64 x.piece, .int .i64 x.node, .int .i64 x.op.kind, .int .i64 x.op.off, .int .i64 x.op.len, .slice A3 x.op.data.length c3] 96)).alloc (.cells #[.int .i64 x.node] 3)))); unfold Os at h; rw [HLEN.out] at h; exact h) _ 1 1 [.int .i64 x.node] rfl rfl (Fl.new (heap_at (by simp))) (by intro u hu; simp at hu; subst hu; rfl) (by omega) (by have := HE.out.size; simp; omega) ?_)
      rintro v4 w4 hown4 hg4 hv4
      have hos4 : Os vI w4 w.heap.size 3 v4 ((l.map Pt.node).take (i + 1)) := by
        rw [HTK.out]
        unfold Os
        rw [List.length_append, HLEN.out, List.map_append]
        simpa [vI] using hown4
      have hbl : ∀ q, ownF (.slice A1 i c1) q → w.heap.size ≤ q := owns_block HOS.out
      have HE4 := Hd.mk (ext_fr ((HE.out.alloc _).alloc _) (grown_fr1 hg4) hbl)
      obtain ⟨A4, c4, rfl, _⟩ := hos4.sc
      rw [show ((l.map Pt.node).take (i + 1)).length = i + 1 by simp; omega] at hos4
      have HOS4 := Hd.mk hos4
      clear hown4 hg4 hv4 hos4 hbl
      rw [show ((l.map Pt.node).take (i + 1)).length = i + 1 by simp; omega]
      go_wp2_with fail
      exact ⟨⟨i + 1, A4, c4, by omega, by go_num, rfl, HOS4.out, HE4.out⟩, by simp [intOf]; omega⟩
    · have hie : i = l.length := by omega
      subst hie
      rw [show (l.map Pt.node).take l.length = l.map Pt.node by rw [List.take_of_length_le (by simp)]] at HOS
      have HOS' := Hd.mk (show Os vI wr w.heap.size 3 (.slice A1 (l.map Pt.node).length c1) (l.map Pt.node) from by rw [List.length_map]; exact HOS.out)
      have hll : (l.map Pt.node).length = l.length := by simp
      have HLL := Hd.mk hll
      clear hll HOS
      go_wp2_with fail
      rw [← HLL.out]
      refine (sort_own HOS'.out (by simp; omega)).mono ?_
      rintro e w2 ⟨rfl, hos2, hf2⟩
      have HOS2 := Hd.mk hos2
      have HE2 := Hd.mk (ext_fr HE.out hf2 (owns_block HOS'.out))
      clear hos2 hf2
      go_wp2_with fail
      have hl2 : ((l.map Pt.node).mergeSort fun x y => decide (x ≤ y)).length = (l.map Pt.node).length := by simp
      rw [← HLL.out, ← hl2]
      rw [← hl2] at HOS2
      refine (compact_own HOS2.out (by simp; omega)).mono ?_
      rintro e w3 ⟨rfl, hos3, hf3⟩
      have HE3 := Hd.mk (ext_fr HE2.out hf3 (owns_block HOS2.out))
      have HOS3 := Hd.mk hos3
      clear hos3 hf3
      go_wp2_with fail
      go_ret
      exact ⟨A1, c1, rfl, HOS3.out.sc2, HE3.out⟩

set_option maxHeartbeats 4000000 in
set_option maxRecDepth 100000 in
theorem back_calls (A : Option Addr) (c : Nat) (l : List Pt) (w : World) (hr : Sm 6 ptR w A c l) (hN : l.length ≤ 4096) :
    Calls Try.prog 23 #[.slice A l.length c] w fun e w' => ∃ A' c', e = .returned (.slice A' l.length c') ∧ Sm 6 ptR w' A' c' l ∧ Ext w w' := by
  have hc1 := hr.1
  have hc2 := hr.2.1
  unfold maxLen at hc2
  have HR := Hd.mk hr
  clear hr
  go_enter Try.func23, Try.ntmps23
  go_wp2_with fail
  go_loopw [3, 8] (fun t3 t8 w1 => ∃ (i : Nat) (A1 : Option Addr) (c1 : Nat), i ≤ l.length ∧ t8 = .int .i64 (i : Int) ∧ t3 = .slice A1 i c1 ∧ Omx (fun _ => False) 6 ptR w1 w.heap.size 96 (.slice A1 i c1) (l.take i) ∧ Ext w w1) (fun _ t8 _ => l.length - (intOf t8).toNat)
  case atStart => exact ⟨0, none, 0, Nat.zero_le _, rfl, rfl, by simpa using Omx.nil _ _ _ _ _ _, Ext.refl _⟩
  case round =>
    obtain ⟨i, A1, c1, hi, rfl, rfl, hos, he⟩ := hrel
    have HOS := Hd.mk hos
    have HE := Hd.mk he
    clear hos he
    by_cases hlt : i < l.length
    · obtain ⟨b, off, x, cs, rfl, hx, ⟨A3, c3, rfl, hd3⟩, _, hcx⟩ := HR.out.at hlt
      have j0 : wr.cell? ⟨b, off + i * 6, none⟩ = some _ := HE.out.cell (hcx 0 _ rfl)
      have j1 := HE.out.cell (hcx 1 _ rfl)
      have j2 := HE.out.cell (hcx 2 _ rfl)
      have j3 := HE.out.cell (hcx 3 _ rfl)
      have j4 := HE.out.cell (hcx 4 _ rfl)
      have j5 := HE.out.cell (hcx 5 _ rfl)
      have HE2 := Hd.mk ((((Ext.refl wr).alloc (.cells #[.int .i64 x.piece, .int .i64 x.node, .int .i64 x.op.kind, .int .i64 x.op.off, .int .i64 x.op.len, .slice A3 x.op.data.length c3] 99)).alloc (.cells #[.int .i64 x.piece, .int .i64 x.node, .int .i64 x.op.kind, .int .i64 x.op.off, .int .i64 x.op.len, .slice A3 x.op.data.length c3] 96)))
      have HST := Hd.mk (show St (gF (fun _ => False) (.slice A1 i c1)) ptR ((wr.alloc (.cells #[.int .i64 x.piece, .int .i64 x.node, .int .i64 x.op.kind, .int .i64 x.op.off, .int .i64 x.op.len, .slice A3 x.op.data.length c3] 99)).alloc (.cells #[.int .i64 x.piece, .int .i64 x.node, .int .i64 x.op.kind, .int .i64 x.op.off, .int .i64 x.op.len, .slice A3 x.op.data.length c3] 96)) x [.int .i64 x.piece, .int .i64 x.node, .int .i64 x.op.kind, .int .i64 x.op.off, .int .i64 x.op.len, .slice A3 x.op.data.length c3] from
        fun w'' hf => ⟨A3, c3, rfl, hd3.ext (ext_fr (HE.out.trans HE2.out) hf (fun q hq => by rcases hq with hq | hq; exact hq.elim; exact HOS.out.block q hq))⟩)
      have hlen : (l.take i).length = i := by simp; omega
      have HLEN := Hd.mk hlen
      have HTK := Hd.mk (show l.take (i + 1) = l.take i ++ [x] from by rw [List.take_succ_eq_append_getElem hlt, hx])
      clear hcx hx hd3 hlen
      go_wp2_with (at_builtin; refine wpList_push tPt rfl (.tmp 12) (.tmp 20) rfl rfl (HOS.out.ext HE2.out) _ 1 x [.int .i64 x.piece, .int .i64 x.node, .int .i64 x.op.kind, .int .i64 x.op.off, .int .i64 x.op.len, .slice A3 x.op.data.length c3] rfl rfl (Fl.new (heap_at (by simp))) (by intro u hu; simp at hu; rcases hu with rfl | rfl | rfl | rfl | rfl | rfl <;> rfl) HST.out (by rw [HLEN.out]; omega) (by have := HE.out.size; simp; omega) (fun q hq => hq.elim) ?_)
      intro A4 c4 w4 hom4 hf4 hq4
      rw [← HTK.out] at hom4
      try rw [HLEN.out] at hom4
      try rw [HLEN.out]
      have HOM4 := Hd.mk hom4
      have HE4 := Hd.mk (ext_fr (HE.out.trans HE2.out) hf4 HOS.out.block)
      clear hom4 hf4 hq4
      go_wp2_with fail
      exact ⟨⟨i + 1, A4, c4, by omega, by go_num, rfl, HOM4.out, HE4.out⟩, by simp [intOf]; omega⟩
    · have hie : i = l.length := by omega
      subst hie
      rw [List.take_length] at HOS
      go_wp2_with fail
      go_ret
      exact ⟨A1, c1, rfl, HOS.out.om.sm2, HE.out⟩

def gt (any : Bool) (last x : Int) : Bool := !any || decide (last < x)
def boolOf : Value → Bool
  | .bool b => b
  | _ => false
def cnt (any : Bool) (last : Int) (zs : List Int) : Nat := (zs.filter (gt any last)).length
theorem cnt_lt {any : Bool} {last n : Int} {zs : List Int} (hm : n ∈ zs) (hg : gt any last n = true) : cnt true n zs + 1 ≤ cnt any last zs := by
  unfold cnt
  induction zs with
  | nil => cases hm
  | cons z zs ih =>
    have hle : ∀ ys : List Int, (ys.filter (gt true n)).length ≤ (ys.filter (gt any last)).length := by
      intro ys
      induction ys with
      | nil => simp
      | cons y ys ih =>
        by_cases h : gt true n y = true
        · have h2 : gt any last y = true := by
            simp only [gt, Bool.not_true, Bool.false_or, decide_eq_true_eq, Bool.or_eq_true, Bool.not_eq_true'] at h hg ⊢
            rcases hg with hg | hg
            · exact .inl hg
            · exact .inr (by omega)
          rw [List.filter_cons_of_pos h, List.filter_cons_of_pos h2]
          simp only [List.length_cons]
          omega
        · rw [List.filter_cons_of_neg h]
          have : (ys.filter (gt any last)).length ≤ ((y :: ys).filter (gt any last)).length := by
            by_cases h2 : gt any last y = true
            · rw [List.filter_cons_of_pos h2]; simp
            · rw [List.filter_cons_of_neg h2]; omega
          omega
    rcases List.mem_cons.1 hm with rfl | hm
    · have h1 : ¬ gt true n n = true := by simp [gt]
      rw [List.filter_cons_of_neg h1, List.filter_cons_of_pos hg]
      have := hle zs
      simp only [List.length_cons]
      omega
    · have := ih hm
      by_cases h : gt true n z = true
      · have h2 : gt any last z = true := by
          simp only [gt, Bool.not_true, Bool.false_or, decide_eq_true_eq, Bool.or_eq_true, Bool.not_eq_true'] at h hg ⊢
          rcases hg with hg | hg
          · exact .inl hg
          · exact .inr (by omega)
        rw [List.filter_cons_of_pos h, List.filter_cons_of_pos h2]
        simp only [List.length_cons]
        omega
      · rw [List.filter_cons_of_neg h]
        by_cases h2 : gt any last z = true
        · rw [List.filter_cons_of_pos h2]; simp only [List.length_cons]; omega
        · rw [List.filter_cons_of_neg h2]; omega

/-- What has been gathered: it goes up, is of 'zs', and lacks only what lies above the last. -/
structure Picked (zs out : List Int) (any : Bool) (last : Int) : Prop where
  up : out.Pairwise (· < ·)
  of : ∀ x, x ∈ out → x ∈ zs
  all : ∀ x, x ∈ zs → gt any last x = false → x ∈ out
  low : ∀ x, x ∈ out → gt any last x = false
  len : out.length + cnt any last zs ≤ zs.length
theorem Picked.start (zs : List Int) : Picked zs [] false 0 where
  up := List.Pairwise.nil
  of := fun x h => by cases h
  all := fun x _ h => by simp [gt] at h
  low := fun x h => by cases h
  len := by
    have := List.length_filter_le (gt false 0) zs
    unfold cnt
    simpa using this
theorem Picked.done {zs out : List Int} {any : Bool} {last : Int} (h : Picked zs out any last) (hn : ∀ j (hj : j < zs.length), gt any last zs[j] = false) : out = nodesOf zs :=
  inc_eq h.up (nodesOf_inc zs).1 fun x => by
    rw [(nodesOf_inc zs).2]
    refine ⟨h.of x, fun hx => h.all x hx ?_⟩
    obtain ⟨j, hj, rfl⟩ := List.getElem_of_mem hx
    exact hn j hj
theorem Picked.next {zs out : List Int} {any : Bool} {last n : Int} (h : Picked zs out any last) (hm : n ∈ zs) (hg : gt any last n = true) (hl : ∀ j (hj : j < zs.length), gt any last zs[j] = true → n ≤ zs[j]) : Picked zs (out ++ [n]) true n := by
  refine ⟨List.pairwise_append.2 ⟨h.up, List.pairwise_singleton .., fun a ha b hb => ?_⟩, fun x hx => ?_, fun x hx hgx => ?_, fun x hx => ?_, ?_⟩
  · rw [List.mem_singleton] at hb
    subst hb
    have := h.low a ha
    simp only [gt, Bool.or_eq_false_iff, Bool.not_eq_false', decide_eq_false_iff_not, Bool.or_eq_true, Bool.not_eq_true', decide_eq_true_eq] at this hg
    rcases hg with hg | hg
    · rw [hg] at this; exact absurd this.1 (by simp)
    · omega
  · rcases List.mem_append.1 hx with hx | hx
    · exact h.of x hx
    · rw [List.mem_singleton] at hx; subst hx; exact hm
  · have hle : x ≤ n := by simp [gt] at hgx; omega
    by_cases hga : gt any last x = true
    · obtain ⟨j, hj, rfl⟩ := List.getElem_of_mem hx
      have := hl j hj hga
      have : zs[j] = n := by omega
      rw [this]
      exact List.mem_append_right _ (List.mem_singleton.2 rfl)
    · exact List.mem_append_left _ (h.all x hx (by simpa using hga))
  · rcases List.mem_append.1 hx with hx | hx
    · have := h.low x hx
      simp only [gt, Bool.or_eq_false_iff, Bool.not_eq_false', decide_eq_false_iff_not, Bool.or_eq_true, Bool.not_eq_true', decide_eq_true_eq, Bool.not_true, Bool.false_or] at this hg ⊢
      rcases hg with hg | hg
      · rw [hg] at this; exact absurd this.1 (by simp)
      · omega
    · rw [List.mem_singleton] at hx; subst hx; simp [gt]
  · have := h.len
    have := cnt_lt hm hg
    simp only [List.length_append, List.length_singleton]
    omega

def Low (zs : List Int) (any : Bool) (last : Int) (i : Nat) (found : Bool) (next : Int) : Prop :=
  (found = false ∧ ∀ j (hj : j < zs.length), j < i → gt any last zs[j] = false) ∨
  (found = true ∧ next ∈ zs ∧ gt any last next = true ∧ ∀ j (hj : j < zs.length), j < i → gt any last zs[j] = true → next ≤ zs[j])
theorem Low.start (zs : List Int) (any : Bool) (last : Int) : Low zs any last 0 false 0 := .inl ⟨rfl, fun j _ h => absurd h (by omega)⟩
theorem Low.no {zs : List Int} {any : Bool} {last : Int} {i : Nat} {found : Bool} {next n : Int} (h : Low zs any last i found next) (hi : i < zs.length) (hn : zs[i] = n) (hg : gt any last n = false) : Low zs any last (i + 1) found next := by
  rcases h with ⟨h1, h2⟩ | ⟨h1, h2, h3, h4⟩
  · refine .inl ⟨h1, fun j hj hji => ?_⟩
    rcases Nat.lt_or_ge j i with h | h
    · exact h2 j hj h
    · have : j = i := by omega
      subst this
      rw [hn]; exact hg
  · refine .inr ⟨h1, h2, h3, fun j hj hji hgj => ?_⟩
    rcases Nat.lt_or_ge j i with h | h
    · exact h4 j hj h hgj
    · have : j = i := by omega
      subst this
      rw [hn, hg] at hgj; cases hgj
theorem Low.take {zs : List Int} {any : Bool} {last : Int} {i : Nat} {found : Bool} {next n : Int} (h : Low zs any last i found next) (hi : i < zs.length) (hn : zs[i] = n) (hg : gt any last n = true) (hf : found = false ∨ n < next) : Low zs any last (i + 1) true n := by
  refine .inr ⟨rfl, by rw [← hn]; exact List.getElem_mem .., hg, fun j hj hji hgj => ?_⟩
  rcases Nat.lt_or_ge j i with h' | h'
  · rcases h with ⟨h1, h2⟩ | ⟨h1, h2, h3, h4⟩
    · rw [h2 j hj h'] at hgj; cases hgj
    · have := h4 j hj h' hgj
      rcases hf with hf | hf
      · rw [hf] at h1; cases h1
      · omega
  · have : j = i := by omega
    subst this
    omega
theorem Low.keep {zs : List Int} {any : Bool} {last : Int} {i : Nat} {next n : Int} (h : Low zs any last i true next) (hi : i < zs.length) (hn : zs[i] = n) (hf : ¬ n < next) : Low zs any last (i + 1) true next := by
  rcases h with ⟨h1, h2⟩ | ⟨h1, h2, h3, h4⟩
  · cases h1
  · refine .inr ⟨h1, h2, h3, fun j hj hji hgj => ?_⟩
    rcases Nat.lt_or_ge j i with h | h
    · exact h4 j hj h hgj
    · have : j = i := by omega
      subst this
      omega

set_option maxHeartbeats 4000000 in
set_option maxRecDepth 100000 in
theorem RNodes_calls (A : Option Addr) (c : Nat) (l : List Pt) (w : World) (hr : Sm 6 ptR w A c l) (hN : l.length ≤ 4096) :
    Calls Try.prog 27 #[.slice A l.length c] w fun e w' => ∃ A' c', e = .returned (.slice A' (nodesOf (l.map Pt.node)).length c') ∧ Sc vI w' A' c' (nodesOf (l.map Pt.node)) ∧ Ext w w' := by
  have hc1 := hr.1
  have hc2 := hr.2.1
  unfold maxLen at hc2
  have HR := Hd.mk hr
  obtain ⟨zs, hzs⟩ : ∃ zs, zs = l.map Pt.node := ⟨_, rfl⟩
  have HZS := Hd.mk hzs
  have HZL := Hd.mk (show zs.length = l.length from by rw [hzs]; simp)
  rw [← hzs]
  clear hr hzs
  go_enter Try.func27, Try.ntmps27
  go_wp2_with fail
  go_loopw [3, 4, 5] (fun t3 t4 t5 w1 => ∃ (m : Nat) (A1 : Option Addr) (c1 : Nat) (out : List Int) (any : Bool) (last : Int), m = out.length ∧ t3 = .slice A1 m c1 ∧ t4 = .int .i64 last ∧ t5 = .bool any ∧ Os vI w1 w.heap.size 3 (.slice A1 m c1) out ∧ Picked zs out any last ∧ Ext w w1) (fun _ t4 t5 _ => cnt (boolOf t5) (intOf t4) zs)
  case atStart => exact ⟨0, none, 0, [], false, 0, rfl, rfl, rfl, rfl, Os.nil _ _ _ _, Picked.start _, Ext.refl _⟩
  case round =>
    obtain ⟨m, A1, c1, out, any, last, hm, rfl, rfl, rfl, hos, hpk, he⟩ := hrel
    have HM := Hd.mk hm
    have HOS := Hd.mk hos
    have HPK := Hd.mk hpk
    have HE := Hd.mk he
    have hm2 : m ≤ 4096 := by have := hpk.len; have := HZL.out; omega
    clear hm hos hpk he
    go_wp2_with fail
    go_loopw [6, 7, 8] (fun t6 t7 t8 w2 => ∃ (i : Nat) (next : Int) (found : Bool), i ≤ l.length ∧ t8 = .int .i64 (i : Int) ∧ t6 = .int .i64 next ∧ t7 = .bool found ∧ Low zs any last i found next ∧ Ext wr w2) (fun _ _ t8 _ => l.length - (intOf t8).toNat)
    case atStart => exact ⟨0, 0, false, Nat.zero_le _, rfl, rfl, rfl, Low.start _ _ _, Ext.refl _⟩
    case round =>
      obtain ⟨i, next, found, hi, rfl, rfl, rfl, hlow, he2⟩ := hrel
      have HLOW := Hd.mk hlow
      have HE2 := Hd.mk he2
      clear hlow he2
      by_cases hlt : i < l.length
      · obtain ⟨b, off, x, cs, rfl, hx, ⟨A3, c3, rfl, hd3⟩, _, hcx⟩ := HR.out.at hlt
        have j1 := (HE.out.trans HE2.out).cell (hcx 1 _ rfl)
        have HX := Hd.mk (show ∃ h : i < zs.length, zs[i] = x.node from ⟨by rw [HZL.out]; exact hlt, by
          have := HZS.out
          subst this
          rw [List.getElem_map, hx]⟩)
        clear hcx hx hd3
        generalize x.node = n at *
        have hor : (any = false ∨ any = true ∧ decide (last < n) = true) ∨ (any = true ∧ decide (last < n) = false) := by
          cases any <;> cases decide (last < n) <;> simp
        have hor2 : (found = false ∨ found = true ∧ decide (n < next) = true) ∨ (found = true ∧ decide (n < next) = false) := by
          cases found <;> cases decide (n < next) <;> simp
        rcases hor with hor | ⟨rfl, g1⟩
        · have HG := Hd.mk (show gt any last n = true from by
            rcases hor with rfl | ⟨rfl, g1⟩
            · rfl
            · simpa [gt] using g1)
          rcases hor with rfl | ⟨rfl, g1⟩
          all_goals
            rcases hor2 with (rfl | ⟨rfl, g2⟩) | ⟨rfl, g2⟩
            · go_wp2_with fail
              exact ⟨⟨i + 1, n, true, by omega, by go_num, rfl, rfl, HLOW.out.take HX.out.1 HX.out.2 HG.out (.inl rfl), HE2.out⟩, by simp [intOf]; omega⟩
            · have HG2 := Hd.mk (of_decide_eq_true g2)
              go_wp2_with fail
              exact ⟨⟨i + 1, n, true, by omega, by go_num, rfl, rfl, HLOW.out.take HX.out.1 HX.out.2 HG.out (.inr HG2.out), HE2.out⟩, by simp [intOf]; omega⟩
            · have HG2 := Hd.mk (of_decide_eq_false g2)
              go_wp2_with fail
              exact ⟨⟨i + 1, next, true, by omega, by go_num, rfl, rfl, HLOW.out.keep HX.out.1 HX.out.2 HG2.out, HE2.out⟩, by simp [intOf]; omega⟩
        · have HG := Hd.mk (show gt true last n = false from by simpa [gt] using g1)
          go_wp2_with fail
          exact ⟨⟨i + 1, next, found, by omega, by go_num, rfl, rfl, HLOW.out.no HX.out.1 HX.out.2 HG.out, HE2.out⟩, by simp [intOf]; omega⟩
      · have hie : i = l.length := by omega
        subst hie
        cases found with
        | false =>
          have HD := Hd.mk (HPK.out.done (by
            intro j hj
            rcases HLOW.out with ⟨_, h⟩ | ⟨h, _⟩
            · exact h j hj (by have := HZL.out; omega)
            · cases h))
          go_wp2_with fail
          go_ret
          rw [HD.out] at HM HOS
          rw [HM.out] at HOS ⊢
          exact ⟨A1, c1, rfl, (HOS.out.ext HE2.out).sc2, HE.out.trans HE2.out⟩
        | true =>
          obtain ⟨_, hl2, hl3, hl4⟩ := HLOW.out.resolve_left (fun h => by cases h.1)
          have HL2 := Hd.mk hl2
          have HL3 := Hd.mk hl3
          have HL4 := Hd.mk (HPK.out.next hl2 hl3 (fun j hj => hl4 j hj (by have := HZL.out; omega)))
          clear hl2 hl3 hl4
          go_wp2_with (at_builtin; refine wpList_app _ tI rfl (.tmp 41) (.tmp 43) rfl w.heap.size (.slice A1 m c1) m (out.map vI) rfl (by have h := HOS.out.ext ((HE2.out).alloc (.cells #[.int .i64 next] 3)); unfold Os at h; rw [← HM.out] at h; exact h) _ 1 1 [.int .i64 next] rfl rfl (Fl.new (heap_at (by simp))) (by intro u hu; simp at hu; subst hu; rfl) (by omega) (by have := (HE.out.trans HE2.out).size; simp; omega) ?_)
          rintro v4 w4 hown4 hg4 hv4
          have hos4 : Os vI w4 w.heap.size 3 v4 (out ++ [next]) := by
            unfold Os
            rw [List.length_append, ← HM.out, List.map_append]
            simpa [vI] using hown4
          have hbl : ∀ q, ownF (.slice A1 m c1) q → w.heap.size ≤ q := owns_block HOS.out
          have HE4 := Hd.mk (ext_fr ((HE.out.trans HE2.out).alloc _) (grown_fr1 hg4) hbl)
          obtain ⟨A4, c4, rfl, _⟩ := hos4.sc
          have hl : (out ++ [next]).length = m + 1 := by rw [List.length_append, ← HM.out]; rfl
          have HOS4 := Hd.mk (show Os vI w4 w.heap.size 3 (.slice A4 (m + 1) c4) (out ++ [next]) from by rw [← hl]; exact hos4)
          have HL := Hd.mk hl
          clear hown4 hg4 hv4 hos4 hbl hl
          rw [HL.out]
          go_wp2_with fail
          exact ⟨⟨m + 1, A4, c4, out ++ [next], true, next, HL.out.symm, rfl, rfl, rfl, HOS4.out, HL4.out, HE4.out⟩, by have := cnt_lt HL2.out HL3.out; simp [intOf, boolOf]; omega⟩
end Go.Proofs.Ytipoegmheiapgaa
