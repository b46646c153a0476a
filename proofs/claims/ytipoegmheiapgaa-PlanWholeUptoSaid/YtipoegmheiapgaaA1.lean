/- append onto a slice of the call's own, whatever the source; what such a slice reads as. No program in sight. -/
import Derived.Test.YtipoegmheiapgaaR1
import Derived.Maps.AppendAt
namespace Go.Proofs.Ytipoegmheiapgaa
set_option linter.unusedVariables false
set_option linter.unusedSimpArgs false
open Go.RowKit

/-- A slice type, its element's type, cells and bytes. -/
structure ElT (P : Program) (t e : TypeId) (size bytes : Nat) : Prop where
  under : P.underlying t = some (.slice e)
  info : ∃ i z, P.info? e = some i ∧ i.zero = some z ∧ i.size = size ∧ i.bytes = bytes ∧ z.cells.size = size
  pos : 0 < size
  posb : 0 < bytes
theorem ElT.mk' {P : Program} {t e : TypeId} {size bytes : Nat} {z : Value} (h : P.underlying t = some (.slice e)) (hi : (P.info? e).map (fun i => (i.zero, i.size, i.bytes)) = some (some z, size, bytes))
    (hz : z.cells.size = size) (hp : 0 < size) (hb : 0 < bytes) : ElT P t e size bytes := by
  obtain ⟨i, h0, h1, h2, h3⟩ := info_parts hi
  exact ⟨h, ⟨i, z, h0, h1, h2, h3, hz⟩, hp, hb⟩

/-- From 'A' on lie the cells 'cs'. -/
def Fl (w : World) (A : Option Addr) (cs : List Value) : Prop := 0 < cs.length → ∃ b off, A = some ⟨b, off, none⟩ ∧ ∀ j v, cs[j]? = some v → w.cell? ⟨b, off + j, none⟩ = some v
theorem Fl.new {w : World} {b : Nat} {cs : Array Value} {T : TypeId} {fz : Nat × Nat} (h : w.heap[b]? = some (.cells cs T fz)) : Fl w (some ⟨b, 0, none⟩) cs.toList :=
  fun _ => ⟨b, 0, rfl, fun j v hj => by rw [cell_obj h, Nat.zero_add, ← Array.getElem?_toList]; exact hj⟩

section
variable {α : Type} {f : α → Value} {w w' : World} {A : Option Addr} {c k : Nat} {R : World → α → List Value → Prop}
theorem Sc.fl {xs : List α} (h : Sc f w A c xs) : Fl w A (xs.map f) := fun hx => by
  obtain ⟨b, off, hA, hc⟩ := h.2.2 (by simpa using hx)
  refine ⟨b, off, hA, fun j v hj => ?_⟩
  rw [List.getElem?_map] at hj
  obtain ⟨x, hx', rfl⟩ := Option.map_eq_some_iff.1 hj
  obtain ⟨hl, rfl⟩ := List.getElem?_eq_some_iff.1 hx'
  exact hc j hl

/-- The cells of a list's elements, one element behind the other. -/
def Rows' (k : Nat) (R : World → α → List Value → Prop) (w : World) : List α → List Value → Prop
  | [], cs => cs = []
  | x :: xs, cs => ∃ c1 c2, cs = c1 ++ c2 ∧ R w x c1 ∧ c1.length = k ∧ Rows' k R w xs c2
theorem Rows'.len : ∀ {xs : List α} {cs : List Value}, Rows' k R w xs cs → cs.length = xs.length * k
  | [], _, h => by rw [h]; simp
  | x :: xs, cs, ⟨c1, c2, h, _, h1, h2⟩ => by rw [h, List.length_append, h1, Rows'.len h2, List.length_cons, Nat.succ_mul, Nat.add_comm]
theorem Rows'.ext (hR : Keeps R) (he : Ext w w') : ∀ {xs : List α} {cs : List Value}, Rows' k R w xs cs → Rows' k R w' xs cs
  | [], _, h => h
  | _ :: _, _, ⟨c1, c2, h, hr, h1, h2⟩ => ⟨c1, c2, h, hR _ _ _ _ he hr, h1, Rows'.ext hR he h2⟩
theorem Rows'.app : ∀ {xs ys : List α} {cs ds : List Value}, Rows' k R w xs cs → Rows' k R w ys ds → Rows' k R w (xs ++ ys) (cs ++ ds)
  | [], _, _, _, h, h' => by rw [h]; exact h'
  | x :: xs, ys, cs, ds, ⟨c1, c2, h, hr, h1, h2⟩, h' => ⟨c1, c2 ++ ds, by rw [h, List.append_assoc], hr, h1, Rows'.app h2 h'⟩
theorem Rows'.one {x : α} {cs : List Value} (h : R w x cs) (hl : cs.length = k) : Rows' k R w [x] cs := ⟨cs, [], by simp, h, hl, rfl⟩
theorem Rows'.at : ∀ {xs : List α} {cs : List Value}, Rows' k R w xs cs → ∀ i (hi : i < xs.length), ∃ c, R w xs[i] c ∧ c.length = k ∧ ∀ j v, c[j]? = some v → cs[i * k + j]? = some v
  | x :: xs, cs, ⟨c1, c2, h, hr, h1, h2⟩, 0, _ => ⟨c1, hr, h1, fun j v hj => by
      rw [h, Nat.zero_mul, Nat.zero_add, List.getElem?_append_left (by have := (List.getElem?_eq_some_iff.1 hj).1; omega)]; exact hj⟩
  | x :: xs, cs, ⟨c1, c2, h, hr, h1, h2⟩, i + 1, hi => by
      obtain ⟨c, hc, hl, hj⟩ := Rows'.at h2 i (by simpa using hi)
      refine ⟨c, by simpa using hc, hl, fun j v hv => ?_⟩
      rw [h, List.getElem?_append_right (by rw [h1, Nat.succ_mul]; omega), h1, Nat.succ_mul, show i * k + k + j - k = i * k + j by omega]
      exact hj j v hv
theorem Sm.fl {xs : List α} (hk : 0 < k) (h : Sm k R w A c xs) : ∃ cs, Rows' k R w xs cs ∧ Fl w A cs := by
  rcases Nat.eq_zero_or_pos xs.length with h0 | h0
  · obtain rfl := List.eq_nil_of_length_eq_zero h0
    exact ⟨[], rfl, fun h => absurd h (by simp)⟩
  · obtain ⟨b, off, hA, hc⟩ := h.2.2 h0
    have key : ∀ (ys : List α) (o : Nat), (∀ i (hi : i < ys.length), ∃ cs, R w ys[i] cs ∧ cs.length = k ∧ ∀ j v, cs[j]? = some v → w.cell? ⟨b, o + i * k + j, none⟩ = some v) →
        ∃ cs, Rows' k R w ys cs ∧ ∀ j v, cs[j]? = some v → w.cell? ⟨b, o + j, none⟩ = some v := by
      intro ys
      induction ys with
      | nil => intro o _; exact ⟨[], rfl, fun j v h => by simp at h⟩
      | cons y ys ih =>
        intro o h
        obtain ⟨c1, hr, h1, hj⟩ := h 0 (by simp)
        obtain ⟨c2, h2, hj2⟩ := ih (o + k) (fun i hi => by
          obtain ⟨cs, a, b, c⟩ := h (i + 1) (by simpa using hi)
          exact ⟨cs, by simpa using a, b, fun j v hv => by have := c j v hv; rw [Nat.succ_mul] at this; rw [← this]; congr 2; omega⟩)
        refine ⟨c1 ++ c2, ⟨c1, c2, rfl, by simpa using hr, h1, h2⟩, fun j v hv => ?_⟩
        rcases Nat.lt_or_ge j c1.length with hlt | hge
        · rw [List.getElem?_append_left hlt] at hv
          simpa using hj j v hv
        · rw [List.getElem?_append_right hge] at hv
          have := hj2 _ _ hv
          rw [← this]; congr 2; omega
    obtain ⟨cs, h1, h2⟩ := key xs off hc
    exact ⟨cs, h1, fun _ => ⟨b, off, hA, h2⟩⟩

/-- A slice of the call's own that reads as a list: cells of one, and of many. -/
def Os (f : α → Value) (w : World) (base : Nat) (e : TypeId) (v : Value) (xs : List α) : Prop := w.ownsRow base e 1 v xs.length (xs.map f)
/-- What stays so whatever happens to the blocks of 'F'. -/
def St (F : Nat → Prop) (R : World → α → List Value → Prop) (w : World) (x : α) (cs : List Value) : Prop := ∀ w', Fr F w w' → R w' x cs
def ownF (v : Value) : Nat → Prop := fun b => v.ownBlock = some b
theorem St_keeps (F : Nat → Prop) (R : World → α → List Value → Prop) : Keeps (St F R) := fun _ _ _ _ he h w'' hf => h w'' ((he.fr F).trans hf)
theorem Rows'.imp {R' : World → α → List Value → Prop} {w' : World} (hR : ∀ x cs, R w x cs → R' w' x cs) : ∀ {xs : List α} {cs : List Value}, Rows' k R w xs cs → Rows' k R' w' xs cs
  | [], _, h => h
  | _ :: _, _, ⟨c1, c2, h, hr, h1, h2⟩ => ⟨c1, c2, h, hR _ _ hr, h1, Rows'.imp hR h2⟩
def Om (k : Nat) (R : World → α → List Value → Prop) (w : World) (base : Nat) (e : TypeId) (v : Value) (xs : List α) : Prop := ∃ cs, Rows' k (St (ownF v) R) w xs cs ∧ w.ownsRow base e k v xs.length cs
theorem Os.sc {base : Nat} {e : TypeId} {v : Value} {xs : List α} (h : Os f w base e v xs) : ∃ A c, v = .slice A xs.length c ∧ Sc f w A c xs := by
  rcases h.2 with ⟨rfl, h0⟩ | ⟨g, cap, cur, rfl, _, hg, hn, hm, _, ht⟩
  · obtain rfl := List.eq_nil_of_length_eq_zero h0
    exact ⟨none, 0, rfl, Sc.nil _ _⟩
  · exact ⟨_, cap, rfl, Sc.new hg (by simpa using ht) hn hm⟩
theorem Om.sm {base : Nat} {e : TypeId} {v : Value} {xs : List α} (h : Om k R w base e v xs) : ∃ A c, v = .slice A xs.length c ∧ Sm k R w A c xs := by
  obtain ⟨cs, hr, h⟩ := h
  rcases h.2 with ⟨rfl, h0⟩ | ⟨g, cap, cur, rfl, _, hg, hn, hm, _, ht⟩
  · obtain rfl := List.eq_nil_of_length_eq_zero h0
    exact ⟨none, 0, rfl, Sm.nil _ _ _⟩
  · refine ⟨_, cap, rfl, hn, hm, fun _ => ⟨g, 0, rfl, fun i hi => ?_⟩⟩
    obtain ⟨c, hc, hl, hj⟩ := hr.at i hi
    refine ⟨c, hc _ (Fr.refl _ _), hl, fun j v hv => ?_⟩
    rw [cell_obj hg, ← Array.getElem?_toList, Nat.zero_add]
    have := hj j v hv
    rw [← ht, List.getElem?_take] at this
    split at this
    · exact this
    · cases this
theorem Os.sc2 {base : Nat} {e : TypeId} {n : Nat} {xs : List α} (h : Os f w base e (.slice A n c) xs) : Sc f w A c xs := by
  obtain ⟨A', c', h1, h2⟩ := h.sc
  injection h1 with h1 _ h3
  subst h1; subst h3
  exact h2
theorem Om.sm2 {base : Nat} {e : TypeId} {n : Nat} {xs : List α} (h : Om k R w base e (.slice A n c) xs) : Sm k R w A c xs := by
  obtain ⟨A', c', h1, h2⟩ := h.sm
  injection h1 with h1 _ h3
  subst h1; subst h3
  exact h2
theorem Os.set {base : Nat} {e : TypeId} {v : Value} {xs : List α} (h : Os f w base e v xs) {p : Addr} (hp : p.block < base) (u : Value) : Os f (w.setCell p u) base e v xs := ownsRow_setCell_below h hp u
theorem Os.base {base base' : Nat} {e : TypeId} {v : Value} {xs : List α} (h : Os f w base e v xs) (hb : base' ≤ base) : Os f w base' e v xs := by
  refine ⟨h.1, ?_⟩
  rcases h.2 with h2 | ⟨g, cap, cur, hv, hb', r⟩
  · exact .inl h2
  · exact .inr ⟨g, cap, cur, hv, Nat.le_trans hb hb', r⟩
theorem Os.nil (f : α → Value) (w : World) (base : Nat) (e : TypeId) : Os f w base e (.slice none 0 0) [] := ⟨rfl, .inl ⟨rfl, rfl⟩⟩
theorem Om.nil (k : Nat) (R : World → α → List Value → Prop) (w : World) (base : Nat) (e : TypeId) : Om k R w base e (.slice none 0 0) [] := ⟨[], rfl, (Nat.zero_mul k).symm, .inl ⟨rfl, rfl⟩⟩
/-- A new block's empty slice; a new block's slice. -/
theorem owns_new {w : World} {base b : Nat} {e : TypeId} {k n : Nat} {cs : Array Value} (h : w.heap[b]? = some (.cells cs e (0, 0))) (hb : base ≤ b) (hl : cs.size = n * k) (hn : n ≤ maxLen) :
    w.ownsRow base e k (.slice (some ⟨b, 0, none⟩) n n) n cs.toList :=
  ⟨hl, .inr ⟨b, n, cs, rfl, hb, h, Nat.le_refl _, hn, hl, by rw [← hl, ← Array.length_toList, List.take_length]⟩⟩
theorem owns_ext {w w' : World} {base : Nat} {e : TypeId} {k n : Nat} {v : Value} {cs : List Value} (h : w.ownsRow base e k v n cs) (he : Ext w w') : w'.ownsRow base e k v n cs := by
  refine ⟨h.1, ?_⟩
  rcases h.2 with h2 | ⟨g, cap, cur, hv, hb, hg, r⟩
  · exact .inl h2
  · exact .inr ⟨g, cap, cur, hv, hb, he.obj hg, r⟩
theorem owns_base {w : World} {base base' : Nat} {e : TypeId} {k n : Nat} {v : Value} {cs : List Value} (h : w.ownsRow base e k v n cs) (hb : base' ≤ base) : w.ownsRow base' e k v n cs := by
  refine ⟨h.1, ?_⟩
  rcases h.2 with h2 | ⟨g, cap, cur, hv, hb', r⟩
  · exact .inl h2
  · exact .inr ⟨g, cap, cur, hv, by omega, r⟩
theorem Os.ext {base : Nat} {e : TypeId} {v : Value} {xs : List α} (h : Os f w base e v xs) (he : Ext w w') : Os f w' base e v xs := owns_ext h he
theorem Om.ext {base : Nat} {e : TypeId} {v : Value} {xs : List α} (h : Om k R w base e v xs) (he : Ext w w') : Om k R w' base e v xs :=
  let ⟨cs, h1, h2⟩ := h; ⟨cs, h1.ext (St_keeps _ _) he, owns_ext h2 he⟩
theorem grown_fr {v v' : Value} {w w1 w' : World} (hg : w.grownBy w1 v.ownBlock) (hv : v'.ownBlock = v.ownBlock ∨ v'.ownBlock = some w.heap.size) (h : Fr (ownF v') w1 w') : Fr (ownF v) w w' := by
  refine ⟨h.1.trans hg.os, h.2.1.trans hg.tape, h.2.2.1.trans hg.output, Nat.le_trans hg.size h.size, fun b hb hF => ?_⟩
  rw [h.2.2.2.2 b (Nat.lt_of_lt_of_le hb hg.size) (by
    intro hF'
    unfold ownF at hF hF'
    rcases hv with e | e
    · exact hF (e ▸ hF')
    · rw [e] at hF'; injection hF' with hF'; omega)]
  exact hg.block b hb (fun e => hF (by unfold ownF; exact e.symm))
theorem Os.fr' {base : Nat} {e : TypeId} {v : Value} {xs : List α} (h : Os f w base e v xs) {F : Nat → Prop} (hF : ∀ b, F b → ¬ ownF v b) (hf : Fr F w w') : Os f w' base e v xs := by
  refine ⟨h.1, ?_⟩
  rcases h.2 with h2 | ⟨g, cap, cur, hv, hb, hg, r⟩
  · exact .inl h2
  · exact .inr ⟨g, cap, cur, hv, hb, hf.obj (fun hFg => hF g hFg (by rw [hv]; rfl)) hg, r⟩
theorem owns_lt {w : World} {base : Nat} {e : TypeId} {k n : Nat} {v : Value} {cs : List Value} (h : w.ownsRow base e k v n cs) : ∀ b, ownF v b → b < w.heap.size := by
  intro b hb
  unfold ownF at hb
  rcases h.2 with ⟨rfl, _⟩ | ⟨g', cap, cur, rfl, _, hg, _⟩
  · simp [Value.ownBlock] at hb
  · simp [Value.ownBlock] at hb; subst hb; exact obj_lt hg
/-- One more element behind an append. -/
theorem Rows'.grow {v v' : Value} {w w1 : World} {x : α} {cs c : List Value} {xs : List α} (h : Rows' k (St (ownF v) R) w xs cs) (hx : St (ownF v) R w x c) (hl : c.length = k)
    (hg : w.grownBy w1 v.ownBlock) (hv : v'.ownBlock = v.ownBlock ∨ v'.ownBlock = some w.heap.size) : Rows' k (St (ownF v') R) w1 (xs ++ [x]) (cs ++ c) :=
  Rows'.imp (fun _ _ hs w' hf => hs w' (grown_fr hg hv hf)) (h.app (Rows'.one hx hl))
/-- A list of the call's own stays as it is while blocks ahead of it are written. -/
theorem Os.fr {base : Nat} {e : TypeId} {v : Value} {xs : List α} (h : Os f w base e v xs) {F : Nat → Prop} (hF : ∀ b, F b → b < base) (hf : Fr F w w') : Os f w' base e v xs := by
  refine ⟨h.1, ?_⟩
  rcases h.2 with h2 | ⟨g, cap, cur, hv, hb, hg, r⟩
  · exact .inl h2
  · exact .inr ⟨g, cap, cur, hv, hb, hf.obj (fun hFg => by have := hF g hFg; omega) hg, r⟩
theorem owns_block {w : World} {base : Nat} {e : TypeId} {k n : Nat} {v : Value} {cs : List Value} (h : w.ownsRow base e k v n cs) : ∀ g, v.ownBlock = some g → base ≤ g := by
  intro g hg
  rcases h.2 with ⟨rfl, _⟩ | ⟨g', cap, cur, rfl, hb, _⟩
  · simp [Value.ownBlock] at hg
  · simp [Value.ownBlock] at hg; omega
end

/-- A part of a slice. -/
theorem Sm.cut {α : Type} {w : World} {c k b off : Nat} {R : World → α → List Value → Prop} {xs : List α} (h : Sm k R w (some ⟨b, off, none⟩) c xs) {i j : Nat} (hij : i ≤ j) (hj : j ≤ xs.length) :
    Sm k R w (some ⟨b, off + i * k, none⟩) (c - i) ((xs.take j).drop i) := by
  have hl : ((xs.take j).drop i).length = j - i := by simp; omega
  refine ⟨by rw [hl]; have := h.1; omega, by have := h.2.1; omega, fun hp => ⟨b, off + i * k, rfl, fun q hq => ?_⟩⟩
  obtain ⟨b', off', hA, hc⟩ := h.2.2 (by rw [hl] at hp; omega)
  injection hA with hA
  injection hA with h1 h2 _
  subst h1; subst h2
  obtain ⟨cs, hR, hlen, hcell⟩ := hc (i + q) (by rw [hl] at hq; omega)
  refine ⟨cs, by simpa using hR, hlen, fun p v hv => ?_⟩
  have := hcell p v hv
  rw [← this, Nat.add_mul]
  congr 2; omega
theorem Sc.cut {α : Type} {w : World} {c b off : Nat} {f : α → Value} {xs : List α} (h : Sc f w (some ⟨b, off, none⟩) c xs) {i j : Nat} (hij : i ≤ j) (hj : j ≤ xs.length) :
    Sc f w (some ⟨b, off + i, none⟩) (c - i) ((xs.take j).drop i) := by
  have hl : ((xs.take j).drop i).length = j - i := by simp; omega
  refine ⟨by rw [hl]; have := h.1; omega, by have := h.2.1; omega, fun hp => ⟨b, off + i, rfl, fun q hq => ?_⟩⟩
  obtain ⟨b', off', hA, hc⟩ := h.2.2 (by rw [hl] at hp; omega)
  injection hA with hA
  injection hA with h1 h2 _
  subst h1; subst h2
  have := hc (i + q) (by rw [hl] at hq; omega)
  rw [Nat.add_assoc, this]
  simp
theorem ext_fr {w W w' : World} {F : Nat → Prop} (h : Ext w W) (hf : Fr F W w') (hF : ∀ b, F b → w.heap.size ≤ b) : Ext w w' :=
  ⟨hf.1.trans h.os, hf.2.1.trans h.tape, hf.2.2.1.trans h.output, Nat.le_trans h.size hf.size, fun b hb =>
    (hf.2.2.2.2 b (Nat.lt_of_lt_of_le hb h.size) (fun e => by have := hF b e; omega)).trans (h.block b hb)⟩
theorem obj_set {w : World} {b i : Nat} {cs : Array Value} {T : TypeId} {fz : Nat × Nat} {v : Value} (h : w.heap[b]? = some (.cells cs T fz)) : (w.setCell ⟨b, i, none⟩ v).heap[b]? = some (.cells (cs.setIfInBounds i v) T fz) := by
  simp [World.setCell, Array.getElem?_modify, h]
theorem heap_at {w : World} {o : Obj} {n : Nat} (h : n = w.heap.size) : (w.alloc o).heap[n]? = some o := by subst h; exact heap_new w o
theorem Sc.drop {α : Type} {w : World} {c b off n : Nat} {f : α → Value} {xs : List α} (h : Sc f w (some ⟨b, off, none⟩) c xs) (hn : n ≤ xs.length) : Sc f w (some ⟨b, off + n, none⟩) (c - n) (xs.drop n) := by
  have := h.cut (i := n) (j := xs.length) hn (Nat.le_refl _)
  rwa [List.take_length] at this
theorem Sc.empty {α : Type} (f : α → Value) (w : World) (A : Option Addr) {c : Nat} (hc : c ≤ maxLen) : Sc f w A c ([] : List α) := ⟨Nat.zero_le _, hc, fun h => absurd h (by simp)⟩
theorem frozen_obj {w : World} {b : Nat} {cs : Array Value} {T : TypeId} (h : w.heap[b]? = some (.cells cs T (0, 0))) (i : Nat) : w.frozen? ⟨b, i, none⟩ = false := by
  simp [World.frozen?, h]
section
variable {P : Program} (w : World)
theorem run_app {t e : TypeId} {size bytes : Nat} (hT : ElT P t e size bytes) (ty : TypeId) (base : Nat) (v : Value) (n : Nat) (xs : List Value) (hown : w.ownsRow base e size v n xs)
    (A : Option Addr) (m c : Nat) (news : List Value) (hl : news.length = m * size) (hr : Fl w A news) (h1 : ∀ u ∈ news, u.oneCell' = true)
    (hbytes : (n + m) * bytes ≤ 140737488355328) (hbase : base ≤ w.heap.size) :
    ∃ v' w', (Builtin.append_ #[t, t] ty #[v, .slice A m c]).run P w = .ok v' w' ∧ w'.ownsRow base e size v' (n + m) (xs ++ news) ∧ w.grownBy w' v.ownBlock ∧
      (v'.ownBlock = v.ownBlock ∨ v'.ownBlock = some w.heap.size) := by
  obtain ⟨i, z, hi, hz, hsize, hby, hzs⟩ := hT.info
  have h63 : n + m ≤ maxLen := by
    have := Nat.le_mul_of_pos_right (n + m) hT.posb
    simp only [maxLen]; omega
  rcases A with _ | ad
  · have hn : news = [] := by
      rcases Nat.eq_zero_or_pos news.length with h0 | h0
      · exact List.eq_nil_of_length_eq_zero h0
      · obtain ⟨_, _, h, _⟩ := hr h0; cases h
    subst hn
    have hm : m = 0 := by
      have := hT.pos
      rcases Nat.eq_zero_or_pos m with h0 | h0
      · exact h0
      · have := Nat.mul_pos h0 hT.pos; simp at hl; omega
    subst hm
    refine ⟨v, w, ?_, by simpa using hown, World.grownBy.refl w _, .inl rfl⟩
    rcases hown.2 with ⟨rfl, rfl⟩ | ⟨g, cap, cur, rfl, _, _, hnc, _⟩
    · simp [Builtin.append_, run_underlying hT.under, sizeOf, typeInfo, hi, Builtin.lenOf, Builtin.firstCells]
    · simp [Builtin.append_, run_underlying hT.under, sizeOf, typeInfo, hi, Builtin.lenOf, Builtin.firstCells, hnc, storeCells]
  · have hcells : ∀ j u, news[j]? = some u → w.cell? (ad.add j) = some u := by
      intro j u hu
      have h0 : 0 < news.length := by have := (List.getElem?_eq_some_iff.1 hu).1; omega
      obtain ⟨b, off, h, hc⟩ := hr h0
      injection h with h
      subst h
      have := hc j u hu
      unfold Addr.add
      split
      · rename_i hj; subst hj; simpa using this
      · exact this
    obtain ⟨v', w', hrun, h2, h3, _, h5⟩ := run_append_own_at (P := P) w base t ty e i z size bytes hT.under hi hz hsize hby hzs hT.pos v n xs hown ad m c news hl hcells h1 h63 hbytes hbase
    exact ⟨v', w', hrun, h2, h3, h5⟩

theorem wp_app {t e : TypeId} {size bytes : Nat} (hT : ElT P t e size bytes) {o : Oper} {a : Act} {K : Act → World → Prop} {Q : Exit → Act → World → Prop} (s x : Operand)
    (ho : o.op = .call { callee := .builtin .append, args := #[s, x], argTypes := #[t, t] })
    (base : Nat) (v : Value) (n : Nat) (xs : List Value) (hs : a.eval s = v) (hown : w.ownsRow base e size v n xs)
    (A : Option Addr) (m c : Nat) (news : List Value) (hx : a.eval x = .slice A m c) (hl : news.length = m * size) (hr : Fl w A news) (h1 : ∀ u ∈ news, u.oneCell' = true)
    (hbytes : (n + m) * bytes ≤ 140737488355328) (hbase : base ≤ w.heap.size)
    (h : ∀ v' w', w'.ownsRow base e size v' (n + m) (xs ++ news) → w.grownBy w' v.ownBlock → (v'.ownBlock = v.ownBlock ∨ v'.ownBlock = some w.heap.size) → K (a.put o.dst v') w') : o.wp P a w K Q := by
  obtain ⟨v', w', hrun, h2, h3, h4⟩ := run_app w hT o.type base v n xs hown A m c news hl hr h1 hbytes hbase
  unfold Oper.wp execOp
  simp only [ho, resolve, invoke, builtin, Sem.run_bind, Sem.run_pure, Result.andThen_ok, List.map_toArray, List.map_cons, List.map_nil, hs, hx, hrun]
  exact h v' w' h2 h3 h4

theorem wpList_app {t e : TypeId} {size bytes : Nat} (hT : ElT P t e size bytes) {ops : Array Oper} {rest : List Oper} {o : Oper} {a : Act} {Q : Exit → Act → World → Prop} (hgd : o.guard = none) (s x : Operand)
    (ho : o.op = .call { callee := .builtin .append, args := #[s, x], argTypes := #[t, t] })
    (base : Nat) (v : Value) (n : Nat) (xs : List Value) (hs : a.eval s = v) (hown : w.ownsRow base e size v n xs)
    (A : Option Addr) (m c : Nat) (news : List Value) (hx : a.eval x = .slice A m c) (hl : news.length = m * size) (hr : Fl w A news) (h1 : ∀ u ∈ news, u.oneCell' = true)
    (hbytes : (n + m) * bytes ≤ 140737488355328) (hbase : base ≤ w.heap.size)
    (h : ∀ v' w', w'.ownsRow base e size v' (n + m) (xs ++ news) → w.grownBy w' v.ownBlock → (v'.ownBlock = v.ownBlock ∨ v'.ownBlock = some w.heap.size) → wpList P ops Q rest (a.put o.dst v') w') : wpList P ops Q (o :: rest) a w :=
  wpList_plain hgd fun _ hK => wp_app w hT s x ho base v n xs hs hown A m c news hx hl hr h1 hbytes hbase fun v' w' h2 h3 h4 => hK _ _ (h v' w' h2 h3 h4)
end
theorem one_int {α : Type} (k : IntKind) (g : α → Int) (xs : List α) : ∀ u ∈ xs.map (fun x => Value.int k (g x)), u.oneCell' = true := by
  intro u hu
  obtain ⟨x, _, rfl⟩ := List.mem_map.1 hu
  rfl
end Go.Proofs.Ytipoegmheiapgaa
