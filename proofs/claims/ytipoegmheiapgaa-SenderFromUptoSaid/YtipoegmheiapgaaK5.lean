/- Records in bytes: Encode. -/
import Derived.Test.YtipoegmheiapgaaK4
namespace Go.Proofs.Ytipoegmheiapgaa
set_option linter.unusedVariables false
set_option linter.unusedSimpArgs false
open Go.RowKit

def recNums (r : Rc) : List UInt64 := r.nums.map (fun i => UInt64.ofNat i.toNat)
def recB (r : Rc) : List UInt8 := sealF (putB (recNums r) ++ putB [UInt64.ofNat r.data.length] ++ putB r.data)
def fileB (rs : List Rc) : List UInt8 := partsB (rs.map recB)
def encode (rs : List Rc) : List UInt8 × Int := if rs.any (fun r => !may r) then ([], 1) else if 65536 < (fileB rs).length then ([], 6) else (fileB rs, 0)
theorem fileB_snoc (rs : List Rc) (k : Nat) (hk : k < rs.length) : fileB (rs.take (k + 1)) = fileB (rs.take k) ++ partB (recB rs[k]) := by
  rw [fileB, fileB, partsB, partsB, List.take_succ_eq_append_getElem hk, List.map_append, List.flatMap_append]; simp
theorem fileB_le (rs : List Rc) (k : Nat) : (fileB (rs.take k)).length ≤ (fileB rs).length := by
  have := congrArg List.length (congrArg fileB (List.take_append_drop k rs))
  rw [fileB, List.map_append, partsB, List.flatMap_append, List.length_append] at this
  rw [fileB, partsB]; omega
theorem sealF_len (x : List UInt8) : (sealF x).length = x.length + 4 := by simp [sealF, sum4]
theorem Wr.fr {F : Nat → Prop} {w w' : World} {base p : Nat} {v : Value} {bs : List UInt8} (h : Wr w base p v bs) (hf : Fr F w w') (hp : ¬ F p) (ho : ∀ q, F q → ¬ ownF v q) : Wr w' base p v bs :=
  ⟨hf.obj hp h.obj, h.own.fr' ho hf, h.ne⟩
theorem fun_enc1 : Fun 60 := fun _ _ => by simp [callFunc, Try.func60, go_sem]; rfl
set_option maxRecDepth 100000 in
theorem enc1_calls (r : Rc) (A : Option Addr) (c : Nat) (w : World) :
    Calls Try.prog 60 #[rcV r A c] w fun e w' => e = .returned (.bool (!may r)) ∧ Ext w w' := by
  go_enter Try.func60, Try.ntmps60
  go_wp2_with fail
  refine (May_calls r A c _).mono ?_
  rintro e w1 ⟨rfl, he⟩
  go_wp2
  go_ret
  exact ⟨rfl, ((Ext.refl w).alloc _).trans he⟩

theorem not_wF {p b : Nat} (h : b ≠ p) : ¬ wF p (.slice none 0 0) b := by
  rintro (e | e)
  · exact h e
  · simp [ownF, Value.ownBlock] at e
theorem wF_ge {p b q : Nat} (h : q ≤ p) (hb : wF p (.slice none 0 0) b) : q ≤ b := by
  rcases hb with e | e
  · omega
  · simp [ownF, Value.ownBlock] at e
theorem rec_num (x : Rc) (h : may x = true) (j : Nat) (hj : j < 7) : ∃ y, x.nums[j]? = some y ∧ 0 ≤ y ∧ y ≤ 2147483648 := by
  have hn := may_num h
  match j, hj with
  | 0, _ => exact ⟨_, rfl, hn.1⟩
  | 1, _ => exact ⟨_, rfl, hn.2.1⟩
  | 2, _ => exact ⟨_, rfl, hn.2.2.1⟩
  | 3, _ => exact ⟨_, rfl, hn.2.2.2.1⟩
  | 4, _ => exact ⟨_, rfl, hn.2.2.2.2.1⟩
  | 5, _ => exact ⟨_, rfl, hn.2.2.2.2.2.1⟩
  | 6, _ => exact ⟨_, rfl, hn.2.2.2.2.2.2⟩
theorem rec_cell (x : Rc) (A : Option Addr) (c : Nat) (j : Nat) (hj : j < 7) (y : Int) (hy : x.nums[j]? = some y) :
    (#[Value.int .i64 x.kind, .int .i64 x.shard, .int .i64 x.snap, .int .i64 x.base, .int .i64 x.map, .int .i64 x.off, .int .i64 x.len, .slice A x.data.length c] : Array Value)[j]? = some (.int .i64 y) := by
  match j, hj with
  | 0, _ | 1, _ | 2, _ | 3, _ | 4, _ | 5, _ | 6, _ => simp [Rc.nums] at hy ⊢; exact hy
theorem rec_take (x : Rc) (j : Nat) (hj : j < 7) (y : Int) (hy : x.nums[j]? = some y) : (recNums x).take j ++ [UInt64.ofNat y.toNat] = (recNums x).take (j + 1) := by
  obtain ⟨h, rfl⟩ := List.getElem?_eq_some_iff.1 hy
  rw [List.take_succ_eq_append_getElem (show j < (recNums x).length from hj)]
  simp [recNums]

set_option maxHeartbeats 4000000 in
set_option maxRecDepth 100000 in
theorem Encode_calls (A : Option Addr) (c : Nat) (rs : List Rc) (w : World) (hr : Sm 8 rcR w A c rs) (hN : rs.length ≤ 4294967296) :
    Calls Try.prog 32 #[.slice A rs.length c] w fun e w' => ∃ v, e = .returned (.tuple #[v, .int .i64 (encode rs).2]) ∧ Os vB w' w.heap.size 5 v (encode rs).1 ∧ Ext w w' := by
  have hc1 := hr.1
  have hc2 := hr.2.1
  unfold maxLen at hc2
  have HR := Hd.mk hr
  clear hr
  go_enter Try.func32, Try.ntmps32
  go_wp2_with fail
  refine (ContainsFunc_rec A c rs _ _ (fun r => !may r) w HR.out fun_enc1 (fun i hi w1 A c _ _ => by rw [Array.append_empty]; exact enc1_calls _ A c w1)).mono ?_
  rintro e w1 ⟨rfl, he1⟩
  generalize hz : (rs.any fun r => !may r) = z
  have HZ := Hd.mk hz
  have HE1 := Hd.mk he1
  clear hz he1
  cases z with
  | true =>
    go_wp2
    go_ret2
    rw [show encode rs = ([], 1) by rw [encode, if_pos HZ.out]]
    exact ⟨_, rfl, Os.nil _ _ _ _, HE1.out⟩
  | false =>
    have hall : ∀ i (hi : i < rs.length), may rs[i] = true := fun i hi => by
      have := HZ.out
      rw [List.any_eq_false] at this
      simpa using this rs[i] (List.getElem_mem hi)
    have HA := Hd.mk hall
    have hs1 := HE1.out.size
    clear hall
    go_wp2
    go_loopw [5, 16] (fun n i w3 => ∃ (k : Nat) (vf : Value), k ≤ rs.length ∧ i = .int .i64 k ∧ n = .int .i64 ((fileB (rs.take k)).length : Nat) ∧ (fileB (rs.take k)).length ≤ 65536 ∧ Wr w3 w.heap.size w1.heap.size vf (fileB (rs.take k)) ∧ Ext w w3) (fun _ i _ => rs.length - (intOf i).toNat)
    case atStart => exact ⟨0, .slice none 0 0, Nat.zero_le _, rfl, rfl, by simp [fileB, partsB], ⟨heap_new w1 _, Os.nil _ _ _ _, by simp [ownF, Value.ownBlock]⟩, HE1.out.alloc _⟩
    case round =>
      obtain ⟨k, vf, hk, rfl, rfl, hle, hwf, he3⟩ := hrel
      have HWF := Hd.mk hwf
      have HE3 := Hd.mk he3
      clear hwf he3
      by_cases hlt : k < rs.length
      · obtain ⟨b, off, x, cs, rfl, hx, ⟨A3, c3, rfl, hd3⟩, _, hcx⟩ := (HR.out.ext rcR_keeps HE3.out).at hlt
        have m0 : wr.cell? ⟨b, off + k * 8, none⟩ = some _ := hcx 0 _ rfl
        have m1 := hcx 1 _ rfl
        have m2 := hcx 2 _ rfl
        have m3 := hcx 3 _ rfl
        have m4 := hcx 4 _ rfl
        have m5 := hcx 5 _ rfl
        have m6 := hcx 6 _ rfl
        have m7 := hcx 7 _ rfl
        have hmx : may x = true := by rw [← hx]; exact HA.out k hlt
        have HX := Hd.mk hx
        have HD := Hd.mk hd3
        have HM := Hd.mk hmx
        clear hcx hx hd3 hmx
        go_wp2_with fail
        obtain ⟨W0, hW0⟩ : ∃ W0, W0 = (wr.alloc (.cells #[.int .i64 x.kind, .int .i64 x.shard, .int .i64 x.snap, .int .i64 x.base, .int .i64 x.map, .int .i64 x.off, .int .i64 x.len, .slice A3 x.data.length c3] 24)).alloc (.cells #[.slice none 0 0] 88) := ⟨_, rfl⟩
        have e0 : Ext wr W0 := by rw [hW0]; exact ((Ext.refl wr).alloc _).alloc _
        have hq : W0.heap[wr.heap.size]? = some (.cells #[.int .i64 x.kind, .int .i64 x.shard, .int .i64 x.snap, .int .i64 x.base, .int .i64 x.map, .int .i64 x.off, .int .i64 x.len, .slice A3 x.data.length c3] 24 (0, 0)) := by
          rw [hW0]; exact ((Ext.refl _).alloc _).obj (heap_new wr _)
        have hp : W0.heap[wr.heap.size + 1]? = some (.cells #[.slice none 0 0] 88 (0, 0)) := by
          rw [hW0]; exact heap_at (by simp)
        have hsz : W0.heap.size = wr.heap.size + 2 := by rw [hW0]; simp
        rw [← hW0]
        clear hW0 m0 m1 m2 m3 m4 m5 m6 m7
        refine (numbers_calls _ W0).mono ?_
        rintro e wi ⟨rfl, hpt, hei⟩
        have HQ := Hd.mk (hei.obj hq)
        have HP := Hd.mk (hei.obj hp)
        have HPT := Hd.mk hpt
        have HEI := Hd.mk (HE3.out.trans (e0.trans hei))
        have HWI := Hd.mk (HWF.out.ext (e0.trans hei))
        have HDI := Hd.mk (HD.out.ext (e0.trans hei))
        have hsi : W0.heap.size ≤ wi.heap.size := hei.size
        have hvf := owns_lt HWF.out.own
        have HVF := Hd.mk hvf
        have HE0 := Hd.mk (e0.trans hei)
        clear hpt hei e0 hq hp hvf
        obtain ⟨q, hq⟩ : ∃ q, q = wr.heap.size := ⟨_, rfl⟩
        obtain ⟨g, hg⟩ : ∃ g, g = W0.heap.size := ⟨_, rfl⟩
        have hq0 : w.heap.size ≤ q := by rw [hq]; exact HE3.out.size
        rw [← hq] at HQ HP HPT hsz HVF ⊢
        rw [← hg] at HPT hsz hsi ⊢
        have hpf : w1.heap.size < q := by rw [hq]; exact obj_lt HWF.out.obj
        have HQW := Hd.mk hq
        clear hq hg HWF HE3
        subst hsz
        have hrn : (recNums x).length = 7 := rfl
        go_wp2
        go_loopw [22] (fun i w4 => ∃ (j : Nat) (v : Value), j ≤ 7 ∧ i = .int .i64 j ∧ Wr w4 w.heap.size (q + 1) v (putB ((recNums x).take j)) ∧ Fr (wF (q + 1) (.slice none 0 0)) wi w4 ∧ (∀ b, ownF v b → ownF (.slice none 0 0) b ∨ wi.heap.size ≤ b)) (fun i _ => 7 - (intOf i).toNat)
        case atStart => exact ⟨0, .slice none 0 0, by omega, rfl, ⟨HP.out, Os.nil _ _ _ _, by simp [ownF, Value.ownBlock]⟩, Fr.refl _ _, fun b hb => .inl hb⟩
        case round =>
          obtain ⟨j, v, hj, rfl, hw4, hf4, hq4⟩ := hrel
          have HW4 := Hd.mk hw4
          have HF4 := Hd.mk hf4
          have HQ4 := Hd.mk hq4
          clear hw4 hf4 hq4
          by_cases hj7 : j < 7
          · have p0 : wr.cell? ⟨q + 2, j, none⟩ = some (.pointer (some ⟨q, j, none⟩)) := HF4.out.cell (not_wF (show q + 2 ≠ q + 1 by omega)) (HPT.out j hj7)
            obtain ⟨y, hy, hnum⟩ := rec_num x HM.out j hj7
            have c0 : wr.cell? ⟨q, j, none⟩ = some (.int .i64 y) := HF4.out.cell (not_wF (show q ≠ q + 1 by omega)) (by rw [cell_obj HQ.out]; exact rec_cell x A3 c3 j hj7 y hy)
            have hu : IntKind.u64.wrap y = y := by rw [IntKind.wrap_u64]; omega
            have hb4 : w.heap.size ≤ wr.heap.size := Nat.le_trans HEI.out.size HF4.out.size
            have hnew : ¬ wF (q + 1) v wr.heap.size := by
              rintro (h | h)
              · have := obj_lt HW4.out.obj; omega
              · have := owns_lt HW4.out.own _ h; omega
            have hvu : vU (UInt64.ofNat y.toNat) = .int .u64 y := by rw [u64_of _ (by omega)]; congr 1; omega
            have hrt := rec_take x j hj7 y hy
            have hpl := putB_len ((recNums x).take j)
            have hpm : ((recNums x).take j).length ≤ 7 := by rw [List.length_take]; omega
            have HRT := Hd.mk hrt
            have HVU := Hd.mk hvu
            have HNEW := Hd.mk hnew
            clear hrt hvu hnew hy
            go_wp2_with fail
            refine (Put_calls w.heap.size (q + 1) v _ _ 1 [UInt64.ofNat y.toNat] _ (HW4.out.ext ((Ext.refl wr).alloc _)) (by simp; omega) (fun w' hf => Sc.new (hf.obj HNEW.out (heap_new wr (.cells #[.int .u64 y] 54))) (by rw [List.map_cons, HVU.out]; rfl) (Nat.le_refl _) (by simp [maxLen])) (by simp; omega)).mono ?_
            rintro e w5 ⟨rfl, v2, hw5, hf5, hq5⟩
            have HW5 := Hd.mk hw5
            have HF5 := Hd.mk ((((Ext.refl wr).alloc _).fr (wF (q + 1) v)).trans hf5)
            have HQ5 := Hd.mk (fun b hb => (hq5 b hb).imp (fun h => h) (fun h => Nat.le_trans (((Ext.refl wr).alloc _).size) h))
            clear hw5 hf5 hq5
            go_wp2
            go_roundw
            case rel => exact ⟨j + 1, v2, by omega, by go_num, by rw [← HRT.out, putB, List.flatMap_append]; exact HW5.out, HF4.out.comp HQ4.out HF5.out, fun b hb => (HQ5.out b hb).elim (fun h => HQ4.out b h) (fun h => .inr (Nat.le_trans HF4.out.size h))⟩
            case measure => simp [intOf]; omega
          · obtain rfl : j = 7 := by omega
            rw [List.take_of_length_le (by rw [hrn]; omega)] at HW4
            have ci : wi.cell? ⟨q, 7, none⟩ = some (.slice A3 x.data.length c3) := by rw [cell_obj HQ.out]; rfl
            have c7 : wr.cell? ⟨q, 7, none⟩ = some (.slice A3 x.data.length c3) := HF4.out.cell (not_wF (show q ≠ q + 1 by omega)) ci
            have hdl := may_data HM.out
            have hpl := putB_len (recNums x)
            have hb4 : w.heap.size ≤ wr.heap.size := Nat.le_trans HEI.out.size HF4.out.size
            have hnew : ¬ wF (q + 1) v wr.heap.size := by
              rintro (h | h)
              · have := obj_lt HW4.out.obj; omega
              · have := owns_lt HW4.out.own _ h; omega
            have HNEW := Hd.mk hnew
            have HVU := Hd.mk (u64_of x.data.length (by omega))
            clear hnew
            go_wp2_with fail
            refine (Put_calls w.heap.size (q + 1) v _ _ 1 [UInt64.ofNat x.data.length] _ (HW4.out.ext ((Ext.refl wr).alloc _)) (by simp; omega) (fun w' hf => Sc.new (hf.obj HNEW.out (heap_new wr (.cells #[.int .u64 (x.data.length : Int)] 54))) (by rw [List.map_cons, HVU.out]; rfl) (Nat.le_refl _) (by simp [maxLen])) (by simp; omega)).mono ?_
            rintro e w5 ⟨rfl, v2, hw5, hf5, hq5⟩
            have HW5 := Hd.mk hw5
            have HF5 := Hd.mk (HF4.out.comp HQ4.out ((((Ext.refl wr).alloc _).fr (wF (q + 1) v)).trans hf5))
            have HQ5 := Hd.mk (show ∀ b, ownF v2 b → ownF (.slice none 0 0) b ∨ wi.heap.size ≤ b from fun b hb => (hq5 b hb).elim (fun h => HQ4.out b h) (fun h => .inr (Nat.le_trans HF4.out.size (Nat.le_trans (((Ext.refl wr).alloc _).size) h))))
            have hb5 : w.heap.size ≤ w5.heap.size := Nat.le_trans HEI.out.size HF5.out.size
            clear hw5 hf5 hq5 c7
            have c7 : w5.cell? ⟨q, 7, none⟩ = some (.slice A3 x.data.length c3) := HF5.out.cell (not_wF (show q ≠ q + 1 by omega)) ci
            go_wp2_with fail
            refine (Put_calls w.heap.size (q + 1) v2 _ A3 c3 x.data _ HW5.out hb5 (fun w' hf => HD.out.ext (ext_fr HE0.out (HF5.out.comp HQ5.out hf) (fun b hb => by rw [← HQW.out]; exact wF_ge (by omega) hb))) (by simp [putB_len]; omega)).mono ?_
            rintro e w6 ⟨rfl, v3, hw6, hf6, hq6⟩
            have HW6 := Hd.mk hw6
            have HF6 := Hd.mk (HF5.out.comp HQ5.out hf6)
            have HB := Hd.mk (show putB (recNums x) ++ putB [UInt64.ofNat x.data.length] ++ putB x.data = putB (recNums x) ++ putB [UInt64.ofNat x.data.length] ++ putB x.data from rfl)
            obtain ⟨bb, hbb⟩ : ∃ bb, bb = putB (recNums x) ++ putB [UInt64.ofNat x.data.length] ++ putB x.data := ⟨_, rfl⟩
            have hbl : bb.length ≤ 600 := by rw [hbb]; simp [putB_len]; omega
            have hrb : recB x = sealF bb := by rw [hbb]; rfl
            rw [← hbb] at HW6
            have HRB := Hd.mk hrb
            have HE6 := Hd.mk (ext_fr HE0.out HF6.out (fun b hb => by rw [← HQW.out]; exact wF_ge (by omega) hb))
            have HWI6 := Hd.mk (HWI.out.fr HF6.out (not_wF (by omega)) (fun b hb ho => by have := HVF.out b ho; have := wF_ge (q := q) (by omega) hb; omega))
            have HS6 := Hd.mk (Nat.le_trans HEI.out.size HF6.out.size)
            clear hw6 hf6 hq6 c7 HB hbb hrb
            go_wp2_with fail
            refine (Bytes_calls _ _ _ _ _ HW6.out (by omega)).mono ?_
            rintro e w7 ⟨v7, rfl, hos7, he7⟩
            obtain ⟨A7, c7, rfl, hsc7⟩ := hos7.sc
            have HS7 := Hd.mk hsc7
            have HE7 := Hd.mk he7
            clear hos7 hsc7 he7
            go_wp2_with fail
            refine (Seal_calls _ _ _ _ HS7.out (by omega)).mono ?_
            rintro e w8 ⟨v8, rfl, hos8, he8⟩
            rw [← HRB.out] at hos8
            obtain ⟨A8, c8, rfl, hsc8⟩ := hos8.sc
            have HO8 := Hd.mk hos8
            have HE8 := Hd.mk (HE7.out.trans he8)
            have HL7 := Hd.mk HE7.out.size
            have he8s := Hd.mk he8.size
            have hsl : (recB x).length ≤ 604 := by rw [HRB.out, sealF_len]; omega
            clear hos8 hsc8 he8
            go_wp2_with fail
            have hpw : ∀ b, wF w1.heap.size vf b → b < w7.heap.size := by
              intro b hb
              have := HF6.out.size
              have := HL7.out
              rcases hb with h | h
              · omega
              · have := HVF.out b h; omega
            have HPS : PS (wF w1.heap.size vf) (w8.alloc (.cells #[.slice A8 (recB x).length c8] 42)) (some ⟨w8.heap.size, 0, none⟩) 1 [recB x] := by
              refine ⟨Nat.le_refl _, by simp [maxLen], fun _ => ⟨w8.heap.size, 0, rfl, fun hF => ?_, fun i hi => ?_⟩⟩
              · have := hpw _ hF; have := HE8.out.size; have := HL7.out; have := he8s.out; omega
              · obtain rfl : i = 0 := by simpa using hi
                exact ⟨A8, c8, by rw [cell_obj (heap_new w8 _)]; rfl, fun w' hf => ((HO8.out.ext ((Ext.refl w8).alloc _)).fr hpw hf).sc2⟩
            have HPS := Hd.mk HPS
            have HEW6 := Hd.mk (ext_fr HEI.out HF6.out (fun b hb => wF_ge (by omega) hb))
            have HLF := Hd.mk (fileB_snoc rs k hlt)
            rw [HX.out] at HLF
            have hnl : (fileB (rs.take (k + 1))).length = (fileB (rs.take k)).length + (8 + (recB x).length) := by rw [HLF.out, List.length_append]; simp [partB, u64le]
            have hmon := fileB_le rs (k + 1)
            refine (Part_calls w.heap.size w1.heap.size vf _ _ 1 [recB x] _ (HWI6.out.ext (HE8.out.alloc _)) (by simp; have := HEW6.out.size; have := HE8.out.size; omega) HPS.out (by simp [partsB, partB, u64le]; omega)).mono ?_
            rintro e w9 ⟨rfl, v9, hw9, hf9, hq9⟩
            rw [show partsB [recB x] = partB (recB x) by simp [partsB], ← HLF.out] at hw9
            have HW9 := Hd.mk hw9
            have HE9 := Hd.mk (ext_fr (HEW6.out.trans (HE8.out.alloc _)) hf9 (fun b hb => by
              rcases hb with h | h
              · omega
              · exact owns_block HWI.out.own b h))
            clear hw9 hf9 hq9 hpw
            rcases Nat.lt_or_ge 65536 (fileB (rs.take (k + 1))).length with hbig | hsm
            · have hbg : (65536 : Int) < ((fileB (rs.take k)).length : Int) + (8 + ((recB x).length : Int)) := by omega
              go_wp2
              go_ret2
              rw [show encode rs = ([], 6) by rw [encode, if_neg (by rw [HZ.out]; simp), if_pos (by omega)]]
              exact ⟨_, rfl, Os.nil _ _ _ _, HE9.out⟩
            · have hbg : decide ((65536 : Int) < ((fileB (rs.take k)).length : Int) + (8 + ((recB x).length : Int))) = false := by rw [decide_eq_false_iff_not]; omega
              have HSM := Hd.mk hsm
              have HNL := Hd.mk hnl
              clear hsm hnl hmon
              go_wp2
              go_roundw
              case rel => exact ⟨k + 1, v9, by omega, by go_num, by rw [HNL.out]; go_num, HSM.out, HW9.out, HE9.out⟩
              case measure => simp [intOf]; omega
      · obtain rfl : k = rs.length := by omega
        rw [List.take_length] at HWF hle ⊢
        go_wp2_with fail
        refine (Bytes_calls _ _ _ _ _ HWF.out (by omega)).mono ?_
        rintro e w4 ⟨v', rfl, hos, he4⟩
        have HO := Hd.mk (hos.base HE3.out.size)
        have HE4 := Hd.mk (HE3.out.trans he4)
        clear hos he4
        go_wp2
        go_ret2
        rw [show encode rs = (fileB rs, 0) by rw [encode, if_neg (by rw [HZ.out]; simp), if_neg (by omega)]]
        exact ⟨_, rfl, HO.out, HE4.out⟩
end Go.Proofs.Ytipoegmheiapgaa
