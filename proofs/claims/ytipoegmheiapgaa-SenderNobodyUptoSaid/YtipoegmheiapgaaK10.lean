/- The reader of a stream, fed with what Encode wrote: all records come. -/
import Derived.Test.YtipoegmheiapgaaK9
import Derived.Test.YtipoegmheiapgaaA3
namespace Go.Proofs.Ytipoegmheiapgaa
set_option linter.unusedVariables false
set_option linter.unusedSimpArgs false
open Go.RowKit

set_option maxHeartbeats 2000000 in
set_option maxRecDepth 100000 in
theorem next_short (b : Nat) (A : Option Addr) (n c k : Nat) (w : World) (h : w.heap[b]? = some (rdC (.slice A n c) k)) (hn : n < 8) :
    Calls Try.prog 64 #[.pointer (some ⟨b, 0, none⟩)] w fun e w' => e = .returned (.tuple #[.agg #[.int .i64 0, .int .i64 0, .int .i64 0, .int .i64 0, .int .i64 0, .int .i64 0, .int .i64 0, .slice none 0 0], .bool false]) ∧ Ext w w' := by
  have t1 : (w.alloc (.cells #[.int .i64 0, .int .i64 0, .int .i64 0, .int .i64 0, .int .i64 0, .int .i64 0, .int .i64 0, .slice none 0 0] 24)).cell? ⟨b, 1, none⟩ = some (.slice A n c) := ((Ext.refl w).alloc _).cell (cell_obj (i := 1) h)
  clear h
  go_enter Try.func64, Try.ntmps64
  go_wp2_with fail
  exact bodyPost_ret (v := .tuple #[.agg #[.int .i64 0, .int .i64 0, .int .i64 0, .int .i64 0, .int .i64 0, .int .i64 0, .int .i64 0, .slice none 0 0], .bool false]) (by simp [results, Try.results64, go_sem]) rfl ⟨rfl, (Ext.refl w).alloc _⟩

theorem fileB_cons (r : Rc) (rs : List Rc) : fileB (r :: rs) = partB (recB r) ++ fileB rs := by simp [fileB, partsB]
theorem fileB_drop {rs : List Rc} {i : Nat} (h : i < rs.length) : fileB (rs.drop i) = partB (recB rs[i]) ++ fileB (rs.drop (i + 1)) := by
  rw [List.drop_eq_getElem_cons h, fileB_cons]
theorem take_snoc' {α : Type} {xs : List α} {k : Nat} (h : k < xs.length) : xs.take k ++ [xs[k]] = xs.take (k + 1) := (List.take_succ_eq_append_getElem h).symm

def lenOf : Value → Nat
  | .slice _ n _ => n
  | _ => 0
theorem fileB_drop_le (rs : List Rc) (i : Nat) : (fileB (rs.drop i)).length ≤ (fileB rs).length := by
  have h : fileB rs = fileB (rs.take i) ++ fileB (rs.drop i) := by
    rw [fileB, fileB, fileB, partsB, partsB, partsB, ← List.flatMap_append, ← List.map_append, List.take_append_drop]
  rw [h, List.length_append]; omega

set_option maxHeartbeats 4000000 in
set_option maxRecDepth 100000 in
theorem Feed_calls (b : Nat) (A : Option Addr) (c : Nat) (rs : List Rc) (w : World) (h : w.heap[b]? = some (rdC (.slice none 0 0) 0)) (hm : rs.all may = true) (hs : Sc vB w A c (fileB rs)) (hn : (fileB rs).length ≤ 1000000) (hl : rs.length ≤ 1000000) :
    Calls Try.prog 34 #[.pointer (some ⟨b, 0, none⟩), .slice A (fileB rs).length c] w fun e w' => ∃ v, e = .returned v ∧ Omx (fun q => q < w.heap.size) 8 rcR w' w.heap.size 24 v rs ∧ (∃ A' c', w'.heap[b]? = some (rdC (.slice A' 0 c') (fileB rs).length)) ∧ Fr (fun q => q = b) w w' := by
  obtain ⟨bs, hbs⟩ : ∃ bs, bs = fileB rs := ⟨_, rfl⟩
  rw [← hbs] at hs hn ⊢
  have t3 : w.cell? ⟨b, 3, none⟩ = some (.int .i64 0) := cell_obj (i := 3) h
  have t4 : w.cell? ⟨b, 4, none⟩ = some (.int .i64 0) := cell_obj (i := 4) h
  have HH := Hd.mk h
  have HS := Hd.mk hs
  have HBS := Hd.mk hbs
  have HM := Hd.mk hm
  have hbl := obj_lt h
  clear h hs hbs hm
  go_enter Try.func34, Try.ntmps34
  go_wp2_with fail
  refine (rdOk_calls _ _ _ _ HH.out).mono ?_
  rintro e w1 ⟨rfl, hd1⟩
  have HE1 := Hd.mk hd1.ext
  have t1 : w1.cell? ⟨b, 1, none⟩ = some (.slice none 0 0) := cell_obj (i := 1) (hd1.ext.obj HH.out)
  have t3 := hd1.ext.cell t3
  have t4 := hd1.ext.cell t4
  clear hd1
  go_wp2_with fail
  have HSM := Hd.mk (show Sm 1 byR (w1.alloc (.cells #[.slice none 0 0, .slice A bs.length c] 42)) (some ⟨w1.heap.size, 0, none⟩) 2 [[], bs] from
    Sm.two (heap_new _ _) (c1 := [.slice none 0 0]) (c2 := [.slice A bs.length c]) rfl ⟨none, 0, rfl, Sc.nil _ _⟩ ⟨A, c, rfl, (HS.out.ext HE1.out).ext ((Ext.refl w1).alloc _)⟩ rfl rfl)
  refine (ConcatB_calls _ 2 [[], bs] _ HSM.out (by simp; omega)).mono ?_
  rintro e w2 ⟨v2, rfl, hos2, he2⟩
  obtain ⟨A2, c2, rfl, _⟩ := hos2.sc
  have e2 : [[], bs].flatten = bs := by simp
  rw [e2] at hos2 ⊢
  have HE2 := Hd.mk ((HE1.out.trans ((Ext.refl w1).alloc _)).trans he2)
  have HB2 := Hd.mk (HE2.out.obj HH.out)
  have HSB2 := Hd.mk (hos2.base (HE1.out.trans ((Ext.refl w1).alloc _)).size)
  have t1 : w2.cell? ⟨b, 1, none⟩ = some (.slice none 0 0) := cell_obj (i := 1) HB2.out
  have f1 := frozen_obj HB2.out 1
  clear hos2 he2 e2 t3 t4
  go_wp2_with fail
  obtain ⟨W3, hW3⟩ : ∃ W3, W3 = w2.setCell ⟨b, 1, none⟩ (.slice A2 bs.length c2) := ⟨_, rfl⟩
  rw [← hW3]
  have HB3 := Hd.mk (show W3.heap[b]? = some (rdC (.slice A2 bs.length c2) 0) from by rw [hW3]; exact obj_set (i := 1) HB2.out)
  have HF3 := Hd.mk (show Fr (fun q => q = b) w W3 from by rw [hW3]; exact (HE2.out.fr (fun q => q = b)).set (p := ⟨b, 1, none⟩) (.inl rfl) _)
  have HSB3 := Hd.mk (show Os vB W3 w.heap.size 5 (.slice A2 bs.length c2) bs from by rw [hW3]; exact HSB2.out.set (p := ⟨b, 1, none⟩) hbl _)
  clear hW3 t1 f1
  obtain ⟨G, hG⟩ : ∃ G : Nat → Prop, G = fun q => ∀ o, A2 ≠ some ⟨q, o, none⟩ := ⟨_, rfl⟩
  have HSG := Hd.mk (show (∀ w4, Fr G W3 w4 → Sc vB w4 A2 c2 bs) ∧ (∀ q, G q ∨ w.heap.size ≤ q ∧ q < W3.heap.size) from by
    obtain ⟨_, h⟩ := HSB3.out
    rcases h with ⟨h1, h2⟩ | ⟨g, cap, cur, h1, h2, h3, h4⟩
    · injection h1 with h1 _ _
      subst h1
      obtain rfl := List.eq_nil_of_length_eq_zero h2
      exact ⟨fun w4 _ => Sc.empty _ _ _ HSB3.out.sc2.2.1, fun q => .inl (by rw [hG]; intro o e; cases e)⟩
    · injection h1 with h1 _ _
      subst h1
      refine ⟨fun w4 hf => (HSB3.out.fr' (F := G) ?_ hf).sc2, fun q => ?_⟩
      · intro q hq ho
        rw [hG] at hq
        simp [ownF, Value.ownBlock] at ho
        subst ho
        exact hq 0 rfl
      · rcases Nat.decEq q g with e | e
        · exact .inl (by rw [hG]; intro o e'; injection e' with e'; injection e' with e1 _ _; exact e e1.symm)
        · subst e; exact .inr ⟨h2, obj_lt h3⟩)
  clear hG
  have hGb : G b := by rcases HSG.out.2 b with h | h; exact h; omega
  have HGb := Hd.mk hGb
  clear hGb
  go_loopw [5] (fun v w3 => ∃ i, i ≤ rs.length ∧ Omx (fun q => q < w.heap.size) 8 rcR w3 w.heap.size 24 v (rs.take i) ∧ (∃ A' c', w3.heap[b]? = some (rdC (.slice A' (fileB (rs.drop i)).length c') (bs.length - (fileB (rs.drop i)).length)) ∧ ∀ w4, Fr G w3 w4 → Sc vB w4 A' c' (fileB (rs.drop i))) ∧ Fr (fun q => q = b) w w3 ∧ W3.heap.size ≤ w3.heap.size ∧ ∀ q, ownF v q → G q) (fun v _ => rs.length - lenOf v)
  case atStart =>
    refine ⟨0, Nat.zero_le _, Omx.nil _ _ _ _ _ _, ⟨A2, c2, ?_, ?_⟩, HF3.out, Nat.le_refl _, fun q hq => by simp [ownF, Value.ownBlock] at hq⟩
    · rw [List.drop_zero, ← HBS.out, Nat.sub_self]; exact HB3.out
    · intro w4 hf
      rw [List.drop_zero, ← HBS.out]
      exact HSG.out.1 w4 hf
  case round =>
    obtain ⟨i, hi, hom, ⟨A4, c4, hb4, hs4⟩, hf4, hsz, hog⟩ := hrel
    have hle := fileB_drop_le rs i
    rw [← HBS.out] at hle
    obtain ⟨A5, c5, hv5⟩ := hom.slice
    rw [List.length_take, Nat.min_eq_left hi] at hv5
    subst hv5
    have HOM := Hd.mk hom
    have HB4 := Hd.mk hb4
    have HS4 := Hd.mk hs4
    have HF4 := Hd.mk hf4
    have HOG := Hd.mk hog
    clear hom hb4 hs4 hf4 hog
    by_cases hlt : i < rs.length
    · obtain ⟨x, hx⟩ : ∃ x, rs[i] = x := ⟨_, rfl⟩
      have hmi : may x = true := by rw [← hx]; exact List.all_eq_true.1 HM.out _ (List.getElem_mem hlt)
      have hd := fileB_drop hlt
      rw [hx] at hd
      have HX := Hd.mk hx
      have HD := Hd.mk hd
      have HMI := Hd.mk hmi
      clear hx hd hmi
      go_wp2_with fail
      refine (next_some G b HGb.out A4 c4 _ x _ _ _ HB4.out HMI.out HD.out HS4.out (by omega) (by omega)).mono ?_
      rintro e w5 ⟨v6, A6, c6, rfl, hos6, hb6, hs6, hf6⟩
      obtain ⟨A7, c7, rfl, _⟩ := hos6.sc
      have HO6 := Hd.mk hos6
      have HB6 := Hd.mk hb6
      have HS6 := Hd.mk hs6
      have HF6 := Hd.mk hf6
      have HOM6 := Hd.mk (HOM.out.fr (fun q hq ho => by have := HOM.out.block q ho; omega) (hf6.mono (fun q hq => by rw [hq]; exact hbl)))
      clear hos6 hb6 hs6 hf6
      have HEX := Hd.mk (show Ext w5 ((w5.alloc (.cells #[.int .i64 x.kind, .int .i64 x.shard, .int .i64 x.snap, .int .i64 x.base, .int .i64 x.map, .int .i64 x.off, .int .i64 x.len, .slice A7 x.data.length c7] 24)).alloc (.cells #[.int .i64 x.kind, .int .i64 x.shard, .int .i64 x.snap, .int .i64 x.base, .int .i64 x.map, .int .i64 x.off, .int .i64 x.len, .slice A7 x.data.length c7] 24)) from ((Ext.refl w5).alloc _).alloc _)
      have hsw := HF4.out.size
      have hsw6 := HF6.out.size
      have HST := Hd.mk (show St (gF (fun q => q < w.heap.size) (.slice A5 i c5)) rcR ((w5.alloc (.cells #[.int .i64 x.kind, .int .i64 x.shard, .int .i64 x.snap, .int .i64 x.base, .int .i64 x.map, .int .i64 x.off, .int .i64 x.len, .slice A7 x.data.length c7] 24)).alloc (.cells #[.int .i64 x.kind, .int .i64 x.shard, .int .i64 x.snap, .int .i64 x.base, .int .i64 x.map, .int .i64 x.off, .int .i64 x.len, .slice A7 x.data.length c7] 24)) x [.int .i64 x.kind, .int .i64 x.shard, .int .i64 x.snap, .int .i64 x.base, .int .i64 x.map, .int .i64 x.off, .int .i64 x.len, .slice A7 x.data.length c7] from
        fun w'' hf => ⟨A7, c7, rfl, ((HO6.out.ext HEX.out).fr (F := gF (fun q => q < w.heap.size) (.slice A5 i c5)) (fun q hq => by rcases hq with hq | hq; (have := HF4.out.size; omega); exact HOM.out.lt q hq) hf).sc2⟩)
      go_wp2_with (at_builtin; refine wpList_push tRec rfl (.tmp 37) (.tmp 39) rfl rfl (HOM6.out.ext HEX.out) (some ⟨_, 0, none⟩) 1 x [.int .i64 x.kind, .int .i64 x.shard, .int .i64 x.snap, .int .i64 x.base, .int .i64 x.map, .int .i64 x.off, .int .i64 x.len, .slice A7 x.data.length c7] rfl rfl (Fl.new (heap_at (by simp))) (by intro u hu; simp at hu; rcases hu with rfl | rfl | rfl | rfl | rfl | rfl | rfl | rfl <;> rfl) HST.out (by simp only [List.length_take]; omega) (by simp; omega) (fun q hq => by simp; omega) ?_)
      rintro A8 c8 w8 hom8 hf8 hq8
      have hf8' := (HEX.out.fr (ownF (.slice A5 i c5))).trans hf8
      have HB8 := Hd.mk (hf8'.obj (fun ho => by have := HOM.out.block b ho; omega) HB6.out)
      have HF8 := Hd.mk ((HF4.out.trans HF6.out).under hf8' (fun q hq => .inr (HOM.out.block q hq)))
      have HOM8 := Hd.mk hom8
      have HS8 := Hd.mk (fun w4 hf => HS6.out w4 ((hf8'.mono (fun q hq => HOG.out q hq)).trans hf))
      have HOG8 := Hd.mk (show ∀ q, ownF (.slice A8 (i + 1) c8) q → G q from fun q hq => by
        rcases hq8 q (by simpa [ownF] using hq) with h | h
        · exact HOG.out q h
        · rcases HSG.out.2 q with g | ⟨_, g⟩
          · exact g
          · omega)
      have hs8 := hf8'.size
      clear hom8 hf8 hq8 hf8'
      go_wp2
      refine ⟨⟨i + 1, by omega, by rw [← take_snoc' hlt, HX.out]; exact HOM8.out, ⟨A6, c6, ?_, HS8.out⟩, HF8.out, by omega, HOG8.out⟩, by simp [lenOf]; omega⟩
      have hl2 := congrArg List.length HD.out
      rw [List.length_append, partB, List.length_append, u64le_len] at hl2
      rw [show bs.length - (fileB (List.drop (i + 1) rs)).length = bs.length - (fileB (List.drop i rs)).length + (8 + (recB x).length) by omega]
      exact HB8.out
    · obtain rfl : i = rs.length := by omega
      have h0 : fileB (rs.drop rs.length) = [] := by simp [fileB, partsB]
      rw [h0] at HB4
      rw [List.take_length] at HOM
      go_wp2_with fail
      refine (next_short b A4 0 c4 _ _ HB4.out (by omega)).mono ?_
      rintro e w5 ⟨rfl, he5⟩
      have HE5 := Hd.mk he5
      clear he5
      go_wp2
      go_ret
      exact ⟨_, rfl, (HOM.out.ext (HE5.out.trans ((Ext.refl w5).alloc _))), ⟨A4, c4, (HE5.out.trans ((Ext.refl w5).alloc _)).obj HB4.out⟩, HF4.out.trans ((HE5.out.trans ((Ext.refl w5).alloc _)).fr _)⟩
end Go.Proofs.Ytipoegmheiapgaa
