/- Arguments opened to lists; a law that turns nothing closes its row. No function of the program in sight. -/
import Derived.Test.YtipoegmheiapgaaJ1
import Derived.Deep.Slices
import Derived.Deep.Fields
import Derived.ProofKit
import Derived.OpenShut
import Derived.JoinedCond
import Derived.Carry
namespace Go.Proofs.Ytipoegmheiapgaa
set_option linter.unusedVariables false
set_option linter.unusedSimpArgs false
open Go.ChangeShapes Go.WideShapes Go.ChangeAt Go.RowKit Go.Deep

theorem list_of {α : Type} {p : Nat → α → Prop} : ∀ (n : Nat), (∀ i, i < n → ∃ x, p i x) → ∃ xs : List α, xs.length = n ∧ ∀ i (h : i < xs.length), p i xs[i]
  | 0, _ => ⟨[], rfl, fun i h => absurd h (by simp)⟩
  | n + 1, h => by
    obtain ⟨xs, hl, hx⟩ := list_of n (fun i hi => h i (by omega))
    obtain ⟨x, hp⟩ := h n (by omega)
    refine ⟨xs ++ [x], by simp [hl], fun i hi => ?_⟩
    rcases Nat.lt_or_ge i xs.length with h1 | h1
    · rw [List.getElem_append_left h1]; exact hx i h1
    · obtain rfl : i = xs.length := by simp at hi; omega
      rw [List.getElem_append_right (Nat.le_refl _)]
      simp [hl, hp]
section
variable {H : Type} {enc : TypeId × Value → H} {P : Program} {w : World} {base : Nat} {spare : Nat → Bool} {held : Bool} {α : Type}

theorem bulk_one (d : DataW H) : 1 ≤ Rows.uptoBulk d := by
  cases d with
  | lit l => cases l <;> simp [Rows.uptoBulk]
  | nil => simp [Rows.uptoBulk]
  | ptr d => simp [Rows.uptoBulk]
  | slice elems spare => simp [Rows.uptoBulk]
  | agg parts => simp [Rows.uptoBulk]
  | iface t d => simp [Rows.uptoBulk]
  | map entries => simp [Rows.uptoBulk]
  | held h => simp [Rows.uptoBulk]
theorem bulk_mem {d : DataW H} {l : List (DataW H)} (h : d ∈ l) : Rows.uptoBulk d ≤ Rows.uptoBulkAll l := by
  induction l with
  | nil => cases h
  | cons x r ih =>
    simp only [Rows.uptoBulkAll]
    rcases List.mem_cons.1 h with e | e
    · subst e; omega
    · have := ih e; omega
theorem bulk_len (l : List (DataW H)) : l.length ≤ Rows.uptoBulkAll l := by
  induction l with
  | nil => simp [Rows.uptoBulkAll]
  | cons x r ih => have := bulk_one x; simp only [Rows.uptoBulkAll, List.length_cons]; omega

theorem cell_spot {a : Addr} {v : Value} (h : w.cell? a = some v) : a = ⟨a.block, a.off, none⟩ := by
  obtain ⟨b, o, s⟩ := a
  cases s with
  | none => rfl
  | some n =>
    unfold World.cell? at h
    simp only [Option.isSome_some, if_true] at h
    split at h <;> cases h
theorem dec_int {t : TypeId} {k : IntKind} {n : Nat} {cs : List Value} {y : DataW H × List MemPlace} (ht : P.underlying t = some (.int k)) (h : DataW.trod enc P w base spare held n t cs = some y) : ∃ x : Int, cs = [.int k x] ∧ (Lit.int k x).wf = true := by
  obtain ⟨x, h, _, hw⟩ := DataW.trod_int ht h
  exact ⟨x, h, hw⟩
theorem dec_i64 {t : TypeId} {n : Nat} {cs : List Value} {y : DataW H × List MemPlace} (ht : P.underlying t = some (.int .i64)) (h : DataW.trod enc P w base spare held n t cs = some y) : ∃ x : Int, cs = [vI x] ∧ -9223372036854775808 ≤ x ∧ x ≤ 9223372036854775807 := by
  obtain ⟨x, rfl, hw⟩ := dec_int ht h
  refine ⟨x, rfl, ?_⟩
  simp [Lit.wf, IntKind.min, IntKind.max, IntKind.signed, IntKind.bits] at hw
  omega
theorem dec_u64 {t : TypeId} {n : Nat} {cs : List Value} {y : DataW H × List MemPlace} (ht : P.underlying t = some (.int .u64)) (h : DataW.trod enc P w base spare held n t cs = some y) : ∃ x : UInt64, cs = [vU x] := by
  obtain ⟨x, rfl, hw⟩ := dec_int ht h
  simp [Lit.wf, IntKind.min, IntKind.max, IntKind.signed, IntKind.bits] at hw
  refine ⟨UInt64.ofNat x.toNat, ?_⟩
  have : (UInt64.ofNat x.toNat).toNat = x.toNat := by rw [UInt64.toNat_ofNat']; omega
  rw [vU, this]
  congr 2
  omega
theorem dec_u8 {t : TypeId} {n : Nat} {cs : List Value} {y : DataW H × List MemPlace} (ht : P.underlying t = some (.int .u8)) (h : DataW.trod enc P w base spare held n t cs = some y) : ∃ x : UInt8, cs = [vB x] := by
  obtain ⟨x, rfl, hw⟩ := dec_int ht h
  simp [Lit.wf, IntKind.min, IntKind.max, IntKind.signed, IntKind.bits] at hw
  refine ⟨UInt8.ofNat x.toNat, ?_⟩
  have : (UInt8.ofNat x.toNat).toNat = x.toNat := by rw [UInt8.toNat_ofNat']; omega
  rw [vB, this]
  congr 2
  omega
theorem dec_bool {t : TypeId} {n : Nat} {cs : List Value} {y : DataW H × List MemPlace} (ht : P.underlying t = some .bool) (h : DataW.trod enc P w base spare held n t cs = some y) : ∃ x : Bool, cs = [.bool x] := by
  obtain ⟨x, h, _⟩ := DataW.trod_bool ht h
  exact ⟨x, h⟩

theorem wf64 {x : Int} (h : (Lit.int .i64 x).wf = true) : -9223372036854775808 ≤ x ∧ x ≤ 9223372036854775807 := by
  simp [Lit.wf, IntKind.min, IntKind.max, IntKind.signed, IntKind.bits] at h
  omega
/-- A slice of elements of 'k' cells each. -/
theorem open_sm {t e : TypeId} {k fuel : Nat} {cs : List Value} {x : DataW H × List MemPlace} {R : World → α → List Value → Prop} {μ : α → Nat} (ht : P.underlying t = some (.slice e)) (hk : P.cellsOf e = k) (hpos : 0 < k)
    (hd : ∀ n cs y, DataW.trod enc P w base spare held n e cs = some y → ∃ a : α, R w a cs ∧ μ a ≤ Rows.uptoBulk y.1) (h : DataW.trod enc P w base spare held fuel t cs = some x) :
    ∃ A c xs, cs = [.slice A xs.length c] ∧ Sm k R w A c xs ∧ xs.length ≤ Rows.uptoBulk x.1 ∧ ∀ i (hi : i < xs.length), μ xs[i] ≤ Rows.uptoBulk x.1 := by
  rcases open_slice ht h with ⟨rfl, rfl⟩ | ⟨a, len, cap, m, n, D, Pl, rfl, _, hl, hm, hmm, rfl, hx⟩
  · exact ⟨none, 0, [], rfl, Sm.nil _ _ _, Nat.zero_le _, fun i hi => absurd hi (by simp)⟩
  · have hle : len ≤ m := by rw [hmm]; split <;> omega
    rw [hk] at hx
    obtain ⟨xs, hxl, hxs⟩ := list_of (p := fun i a' => ∃ cs', w.cells? base (a.add (i * k)) k = some cs' ∧ R w a' cs' ∧ μ a' ≤ Rows.uptoBulk (D i)) len (fun i hi => by
      obtain ⟨cs', h1, h2⟩ := hx i (by omega)
      obtain ⟨a', h3, h4⟩ := hd _ _ _ h2
      exact ⟨a', cs', h1, h3, h4⟩)
    subst hxl
    refine ⟨some a, cap, xs, rfl, ⟨hl, hm, fun h0 => ?_⟩, ?_, fun i hi => ?_⟩
    · obtain ⟨cs0, h1, _, _⟩ := hxs 0 h0
      obtain ⟨_, hlen, hat⟩ := World.cells?_some h1
      have h2 := hat 0 hpos
      rw [List.getElem?_eq_getElem (by omega)] at h2
      have ha : a = ⟨a.block, a.off, none⟩ := by
        rw [Nat.zero_mul] at h2
        exact cell_spot (a := a) (by simpa [Addr.add] using h2)
      refine ⟨a.block, a.off, by rw [← ha], fun i hi => ?_⟩
      obtain ⟨csi, g1, g2, _⟩ := hxs i hi
      obtain ⟨_, hl2, hat2⟩ := World.cells?_some g1
      refine ⟨csi, g2, hl2, fun j v hj => ?_⟩
      have hjl : j < k := by rw [← hl2]; exact (List.getElem?_eq_some_iff.1 hj).1
      have h3 := hat2 j hjl
      rw [hj, add_add] at h3
      rw [← h3, Nat.add_assoc]
      generalize i * k + j = q
      rw [ha]
      unfold Addr.add
      split
      · rename_i h0; subst h0; rfl
      · rfl
    · simp only [Rows.uptoBulk]
      have := bulk_len ((List.range xs.length).map D)
      simp at this
      omega
    · obtain ⟨_, _, _, h4⟩ := hxs i hi
      refine Nat.le_trans h4 ?_
      simp only [Rows.uptoBulk]
      have := bulk_mem (d := D i) (l := (List.range xs.length).map D) (List.mem_map.2 ⟨i, by simpa using hi, rfl⟩)
      omega
theorem Sm.sc {f : α → Value} {A : Option Addr} {c : Nat} {xs : List α} (h : Sm 1 (fun _ x cs => cs = [f x]) w A c xs) : Sc f w A c xs :=
  ⟨h.1, h.2.1, fun h0 => let ⟨b, off, hA, hc⟩ := h.2.2 h0; ⟨b, off, hA, fun i hi => by
    obtain ⟨cs, h1, _, h3⟩ := hc i hi
    subst h1
    have := h3 0 _ rfl
    simpa using this⟩⟩
/-- A slice of elements of one cell. -/
theorem open_sc {t e : TypeId} {fuel : Nat} {cs : List Value} {x : DataW H × List MemPlace} {f : α → Value} (ht : P.underlying t = some (.slice e)) (hk : P.cellsOf e = 1)
    (hd : ∀ n cs y, DataW.trod enc P w base spare held n e cs = some y → ∃ a : α, cs = [f a]) (h : DataW.trod enc P w base spare held fuel t cs = some x) :
    ∃ A c xs, cs = [.slice A xs.length c] ∧ Sc f w A c xs ∧ xs.length ≤ Rows.uptoBulk x.1 := by
  obtain ⟨A, c, xs, h1, h2, h3, _⟩ := open_sm (R := fun _ x cs => cs = [f x]) (μ := fun _ => 0) ht hk (by omega) (fun n cs y hy => let ⟨a, ha⟩ := hd n cs y hy; ⟨a, ha, Nat.zero_le _⟩) h
  exact ⟨A, c, xs, h1, h2.sc, h3⟩
theorem slice_val {r : Reach} {b0 : Nat} {t e : TypeId} {v : Value} (ht : P.underlying t = some (.slice e)) (hv : Value.okWide P w r b0 t v) : ∃ A n c, v = .slice A n c := by
  simp only [Value.okWide, ht, Cell.okWide] at hv
  cases v <;> simp_all [Cell.ok]

/-- An argument that reads, reads so behind what only adds. -/
theorem trodAll_ext (hl : laidOutB P = true) {W W' : World} (he : Ext W W') : ∀ {ts : List TypeId} {vs : List Value} {ds : List (DataW H)} {ps : List MemPlace} {sp : Nat → Bool},
    (∀ t ∈ ts, P.readableRec t = true ∧ t < P.types.size) → DataW.TrodAll enc P W 0 (fun _ => true) true ts vs ds ps → (∀ p ∈ ps, p.block < W.heap.size) → (∀ p ∈ ps, sp p.block = true) → DataW.TrodAll enc P W' 0 sp true ts vs ds ps
  | [], [], [], _, _, _, h, _, _ => h
  | t :: ts, v :: vs, d :: ds, ps, sp, hr, ⟨p, q, h1, h2, hp⟩, hlt, hsp => by
    subst hp
    refine ⟨p, q, ?_, trodAll_ext hl he (fun t ht => hr t (List.mem_cons_of_mem _ ht)) h2 (fun x hx => hlt x (List.mem_append_right _ hx)) (fun x hx => hsp x (List.mem_append_right _ hx)), rfl⟩
    obtain ⟨r1, r2⟩ := hr t List.mem_cons_self
    exact WideElems.Trod_stays hl r1 r2 h1 (fun x hx => Below.same he (hlt x (List.mem_append_left _ hx))) (fun x hx => hsp x (List.mem_append_left _ hx))
  | [], [], _ :: _, _, _, _, h, _, _ => h.elim
  | [], _ :: _, _, _, _, _, h, _, _ => h.elim
  | _ :: _, [], _, _, _, _, h, _, _ => h.elim
  | _ :: _, _ :: _, [], _, _, _, h, _, _ => h.elim

/-- A law that returns true and only adds closes its row. -/
theorem law_post {f : Func} {s : ChangeSpec} {tb : TypeId} {W W' : World} {args : Array Value} {ds gs : List (DataW H)} {before : List MemPlace} (hvs : s.vars = []) (hrt : f.resultTypes = #[tb]) (htb : P.underlying tb = some .bool)
    (hfn : s.fn H ds = { results := [.lit (.bool true)], args := ds }) (hl : laidOutB P = true) (hr : ∀ t ∈ f.params.toList, P.readableRec t = true ∧ t < P.types.size)
    (hW : DataW.Whole enc P f.params.toList s.vars false W args.toList ds gs before) (he : Ext W W') : s.post enc P f false true false false W args (.bool true) W' := by
  have hlt : ∀ p ∈ before, p.block < W.heap.size := fun p hp => hW.lt p hp
  have hW0 := hW
  obtain ⟨p, q, hA, hV, hpq, hz, hn⟩ := hW
  rw [hvs] at hV
  obtain ⟨rfl, rfl⟩ := trodVars_none hV
  rw [List.append_nil] at hpq
  subst hpq
  have hargs : ∀ sp : Nat → Bool, (∀ x ∈ before, sp x.block = true) → DataW.TrodAll enc P W' 0 sp true f.params.toList args.toList ds before := fun sp hsp => trodAll_ext hl he hr hA hlt hsp
  have hres : ∀ (b : Nat) (sp : Nat → Bool) (hd : Bool), DataW.TrodAll enc P W' b sp hd f.resultTypes.toList ((Value.bool true).resultList f.resultTypes.size) [.lit (.bool true)] [] := fun b sp hd => by
    rw [hrt]; exact trodAll_cons_mk (shut_bool htb _) trodAll_mk0
  have hfn' : s.fn H (ds ++ []) = { results := [.lit (.bool true)], args := ds } := by rw [List.append_nil]; exact hfn
  have hold : ∀ x ∈ before, (fun b => decide (b < W.heap.size)) x.block = true := fun x hx => by simpa using hlt x hx
  refine ⟨ds, [], before, [], before, [], hW0, by rw [hfn']; exact hres _ _ _, by rw [hfn']; exact hargs _ hold, by rw [hvs, hfn']; rfl, World.keptBut_mono (fun x hx => ⟨hx, ?_⟩) (Below.frame he (· ∈ before)), fun _ => ?_⟩
  · exact .inr (.inl hx)
  · have hv0 : ∀ sp, DataW.TrodVars enc P W' sp s.vars ([] : List (DataW H)) [] := fun sp => by rw [hvs]; rfl
    refine ⟨fun j t r h1 h2 => ?_, _, _, ([] ++ before) ++ [], ⟨[] ++ before, [], trodAll_append (hargs _ (fun _ _ => rfl)) (hres _ _ _), hv0 _, rfl, ?_, ?_⟩, ?_⟩
    · exact ok_one hrt rfl (okWide_bool_mk htb true) j t r h1 h2
    · intro b off hp
      have hin : MemPlace.cell b off ∈ before := by simpa using hp
      rw [Below.frozen he (hlt _ hin)]
      exact hz b off hin
    · intro ha; cases ha
    · intro x hx _
      simpa using hx
end
end Go.Proofs.Ytipoegmheiapgaa
