/- What is known of a state stays known where memory is only added to. -/
import Derived.Test.YtjdcohcdgdjobaaEvB
namespace Go.Proofs.Ytjdcohcdgdjobaa.Ev
open Go
set_option linter.unusedVariables false
set_option linter.unusedSimpArgs false

theorem cell_same {w w' : World} {a : Addr} (h : w'.heap[a.block]? = w.heap[a.block]?) : w'.cell? a = w.cell? a := World.cell?_of_block h

theorem RdG.mono {α : Type} {R R' : α → Value → Prop} {S S' : Nat → Prop} {w w' : World} {st : Nat} {rows : List (List α)} {v : Value}
    (h : RdG R S w st rows v) (hR : ∀ x u, R x u → R' x u) (hS : ∀ b, S b → S' b) (hw : ∀ b, S b → w'.heap[b]? = w.heap[b]?) : RdG R' S' w' st rows v := by
  obtain ⟨A, c, rfl, hc, h⟩ := h
  refine ⟨A, c, rfl, hc, fun r row hr => ?_⟩
  obtain ⟨h1, a, rfl, h2, h3⟩ := h r row hr
  refine ⟨h1, a, rfl, ⟨hS _ h2.1, h2.2⟩, fun k x hk => ?_⟩
  obtain ⟨u, hu, hx⟩ := h3 k x hk
  refine ⟨u, ?_, hR _ _ hx⟩
  rw [cell_same (hw _ ?_), hu]
  have : (a.add (r * st + k)).block = a.block := by unfold Addr.add; split <;> rfl
  rw [this]; exact h2.1

theorem RdC.mono {S S' : Nat → Prop} {w w' : World} {x : Cell} {v : Value} (h : RdC S w x v) (hS : ∀ b, S b → S' b) (hw : ∀ b, S b → w'.heap[b]? = w.heap[b]?) : RdC S' w' x v := by
  cases x with
  | un => trivial
  | sc u => exact h
  | nl => exact h
  | sl o e st rows => exact RdG.mono h (fun _ _ h => h) hS hw

theorem RpC.mono {S S' : Nat → Prop} {w w' : World} {x : LV} {v : Value} (h : RpC S w x v) (hS : ∀ b, S b → S' b) (hw : ∀ b, S b → w'.heap[b]? = w.heap[b]?) : RpC S' w' x v := by
  cases x <;> first | exact h | exact h.elim | skip
  case ro st rows => exact RdG.mono h (fun _ _ h => h.mono hS hw) hS hw

/-- memory is only added to -/
structure Ext (G : Gh) (m : Mem) (w : World) (G' : Gh) (m' : Mem) (w' : World) : Prop where
  mem : ∀ i, m i ≠ none → m' i = m i
  blk : ∀ i, m i ≠ none → G'.blk i = G.blk i ∧ G'.cap i = G.cap i ∧ G'.cblk i = G.cblk i ∧ G'.ccap i = G.ccap i
  heap : ∀ b, b < w.heap.size → w'.heap[b]? = w.heap[b]?
  size : w.heap.size ≤ w'.heap.size

theorem Ext.refl (G : Gh) (m : Mem) (w : World) : Ext G m w G m w := ⟨fun _ _ => rfl, fun _ _ => ⟨rfl, rfl, rfl, rfl⟩, fun _ _ => rfl, Nat.le_refl _⟩
theorem Ext.trans {G : Gh} {m : Mem} {w : World} {G' : Gh} {m' : Mem} {w' : World} {G2 : Gh} {m2 : Mem} {w2 : World} (h : Ext G m w G' m' w') (k : Ext G' m' w' G2 m2 w2) : Ext G m w G2 m2 w2 := by
  have hm : ∀ i, m i ≠ none → m' i ≠ none := fun i hi => by rw [h.mem i hi]; exact hi
  refine ⟨fun i hi => (k.mem i (hm i hi)).trans (h.mem i hi), fun i hi => ?_, fun b hb => (k.heap b (Nat.lt_of_lt_of_le hb h.size)).trans (h.heap b hb), Nat.le_trans h.size k.size⟩
  obtain ⟨a1, a2, a3, a4⟩ := h.blk i hi
  obtain ⟨b1, b2, b3, b4⟩ := k.blk i (hm i hi)
  exact ⟨b1.trans a1, b2.trans a2, b3.trans a3, b4.trans a4⟩

theorem look_ext {m m' : Mem} {i : Id} {ch : Option (Nat × Nat)} (h : m' i = m i) : look m' i ch = look m i ch := by unfold look; rw [h]

section
variable {G : Gh} {m : Mem} {w : World} {G' : Gh} {m' : Mem} {w' : World} {S : Nat → Prop}

theorem Ext.blkOf (h : Ext G m w G' m' w') {i : Id} (hi : m i ≠ none) (ch : Option (Nat × Nat)) : G'.blkOf i ch = G.blkOf i ch ∧ G'.capOf i ch = G.capOf i ch := by
  obtain ⟨a1, a2, a3, a4⟩ := h.blk i hi
  cases ch with
  | none => exact ⟨a1, a2⟩
  | some rc => exact ⟨by simp only [Gh.blkOf, a3], by simp only [Gh.capOf, a4]⟩

theorem R0.ext (hS : ∀ b, S b → b < w.heap.size) (h : Ext G m w G' m' w') {x : LV} {v : Value} (hx : wf0 m x) (r : R0 G S m w x v) : R0 G' S m' w' x v := by
  have hw : ∀ b, S b → w'.heap[b]? = w.heap[b]? := fun b hb => h.heap b (hS b hb)
  cases x <;> try exact r
  case ro st rows => exact RdG.mono r (fun _ _ q => RdC.mono q (fun _ h => h) hw) (fun _ h => h) hw
  case rf i ch lo n =>
    have hi : m i ≠ none := hx
    simp only [R0] at r ⊢
    rw [look_ext (h.mem i hi), (h.blkOf hi ch).1, (h.blkOf hi ch).2]
    exact r
  case bp i off =>
    have hi : m i ≠ none := hx
    simp only [R0] at r ⊢
    rw [h.mem i hi, (h.blk i hi).1]
    exact r
  case ep i ch r' c =>
    have hi : m i ≠ none := hx
    simp only [R0] at r ⊢
    rw [look_ext (h.mem i hi), (h.blkOf hi ch).1]
    exact r
  case rp vs =>
    obtain ⟨a, rfl, q⟩ := r
    refine ⟨a, rfl, fun k x hk => ?_⟩
    obtain ⟨h1, u, h2, h3⟩ := q k x hk
    refine ⟨h1, u, ?_, h3.mono (fun _ h => h) hw⟩
    have e : (a.add k).block = a.block := by unfold Addr.add; split <;> rfl
    rw [cell_same (hw _ (by rw [e]; exact h1)), h2]

theorem RL.mono {R R' : LV → Value → Prop} {vs : List LV} {cs : Array Value} (h : RL R vs cs) (hR : ∀ x u, x ∈ vs → R x u → R' x u) : RL R' vs cs :=
  ⟨h.1, fun k x hk => let ⟨u, hu, hx⟩ := h.2 k x hk; ⟨u, hu, hR x u (List.mem_of_getElem? hk) hx⟩⟩

theorem R1.ext (hS : ∀ b, S b → b < w.heap.size) (h : Ext G m w G' m' w') {x : LV} {v : Value} (hx : wf1 m x) (r : R1 G S m w x v) : R1 G' S m' w' x v := by
  cases x
  case ag vs => obtain ⟨cs, rfl, q⟩ := r; exact ⟨cs, rfl, q.mono fun x u hm hr => R0.ext hS h (hx x hm) hr⟩
  case cl f vs => obtain ⟨cs, rfl, q⟩ := r; exact ⟨cs, rfl, q.mono fun x u hm hr => R0.ext hS h (hx x hm) hr⟩
  all_goals (simp only [R1, wf1] at hx r ⊢; exact R0.ext hS h hx r)

theorem R.ext (hS : ∀ b, S b → b < w.heap.size) (h : Ext G m w G' m' w') {x : LV} {v : Value} (hx : wf m x) (r : R G S m w x v) : R G' S m' w' x v := by
  cases x
  case tu vs => obtain ⟨cs, rfl, q⟩ := r; exact ⟨cs, rfl, q.mono fun x u hm hr => R1.ext hS h (hx x hm) hr⟩
  all_goals (simp only [R, wf] at hx r ⊢; exact R1.ext hS h hx r)

theorem wf0.ext (h : ∀ i, m i ≠ none → m' i ≠ none) {x : LV} (hx : wf0 m x) : wf0 m' x := by
  cases x <;> first | exact h _ hx | trivial
theorem wf1.ext (h : ∀ i, m i ≠ none → m' i ≠ none) {x : LV} (hx : wf1 m x) : wf1 m' x := by
  cases x
  case ag vs => exact fun x hm => wf0.ext h (hx x hm)
  case cl f vs => exact fun x hm => wf0.ext h (hx x hm)
  all_goals (simp only [wf1] at hx ⊢; exact wf0.ext h hx)
theorem wf.ext (h : ∀ i, m i ≠ none → m' i ≠ none) {x : LV} (hx : wf m x) : wf m' x := by
  cases x
  case tu vs => exact fun x hm => wf1.ext h (hx x hm)
  all_goals (simp only [wf] at hx ⊢; exact wf1.ext h hx)
theorem Ext.ne (h : Ext G m w G' m' w') : ∀ i, m i ≠ none → m' i ≠ none := fun i hi => by rw [h.mem i hi]; exact hi

theorem OwG.mono {α : Type} {R R' : Nat → Nat → α → Value → Prop} {w w' : World} {b e cap st : Nat} {rows : List (List α)} (h : OwG R w b e cap st rows)
    (hw : w'.heap[b]? = w.heap[b]?) (hR : ∀ r c row x u, rows[r]? = some row → row[c]? = some x → R r c x u → R' r c x u) : OwG R' w' b e cap st rows := by
  obtain ⟨cs, h1, h2, h3, h4, h5⟩ := h
  refine ⟨cs, hw.trans h1, h2, h3, h4, fun r row hr => ?_⟩
  obtain ⟨k1, k2⟩ := h5 r row hr
  exact ⟨k1, fun k x hk => let ⟨u, hu, hx⟩ := k2 k x hk; ⟨u, hu, hR r k row x u hr hk hx⟩⟩

theorem OwG.lt {α : Type} {R : Nat → Nat → α → Value → Prop} {w : World} {b e cap st : Nat} {rows : List (List α)} (h : OwG R w b e cap st rows) : b < w.heap.size := by
  obtain ⟨cs, h1, _⟩ := h
  exact (Array.getElem?_eq_some_iff.1 h1).1

/-- a cell of own memory, where its own block and what is read alone are as they were -/
theorem OwC.mono {i : Id} {r c : Nat} {x : Cell} {v : Value} (h : OwC G S w i r c x v) (hG : G'.cblk i r c = G.cblk i r c ∧ G'.ccap i r c = G.ccap i r c)
    (hS : ∀ b, S b → w'.heap[b]? = w.heap[b]?) (hc : ∀ e st rows, x = .sl true e st rows → w'.heap[G.cblk i r c]? = w.heap[G.cblk i r c]?) : OwC G' S w' i r c x v := by
  cases x with
  | un => trivial
  | sc u => exact h
  | nl => exact h
  | sl o e st rows =>
    cases o with
    | false => exact RdG.mono h (fun _ _ h => h) (fun _ h => h) hS
    | true =>
      obtain ⟨h1, h2⟩ := h
      refine ⟨by rw [hG.1, hG.2]; exact h1, ?_⟩
      rw [hG.1, hG.2]
      exact OwG.mono h2 (hc e st rows rfl) (fun _ _ _ _ _ _ _ h => h)

theorem Inv.lt {N : Nat → Prop} (h : Inv S N G m w) {p : Res} (hp : live m p) : G.at p < w.heap.size := by
  cases p with
  | root i =>
    rcases hp with ⟨cells, hc⟩ | ⟨e, st, rows, hc⟩
    · obtain ⟨cs, e, h1, _⟩ := h.box i cells hc
      exact (Array.getElem?_eq_some_iff.1 h1).1
    · exact (h.arr i e st rows hc).lt
  | chld i r c =>
    obtain ⟨e, st, rows, row, e', st', rows', h1, h2, h3⟩ := hp
    obtain ⟨cs, _, _, _, _, k⟩ := h.arr i e st rows h1
    obtain ⟨u, _, hu⟩ := (k r row h2).2 c _ h3
    exact hu.2.lt

theorem Inv.ext {N : Nat → Prop} (h : Inv S N G m w) (hw : ∀ b, b < w.heap.size → w'.heap[b]? = w.heap[b]?) (hz : w.heap.size ≤ w'.heap.size) : Inv S N G m w' := by
  have hS : ∀ b, S b → w'.heap[b]? = w.heap[b]? := fun b hb => hw b (h.old b hb)
  refine ⟨fun i e st rows hi => ?_, fun i cells hi => ?_, h.inj, h.sep, fun b hb => Nat.lt_of_lt_of_le (h.old b hb) hz⟩
  · refine OwG.mono (h.arr i e st rows hi) (hw _ (h.arr i e st rows hi).lt) fun r c row x u hr hc ho => OwC.mono ho ⟨rfl, rfl⟩ hS fun e' st' rows' hx => ?_
    subst hx
    exact hw _ (h.lt (p := .chld i r c) ⟨e, st, rows, row, e', st', rows', hi, hr, hc⟩)
  · obtain ⟨cs, e, h1, h2⟩ := h.box i cells hi
    refine ⟨cs, e, (hw _ (Array.getElem?_eq_some_iff.1 h1).1).trans h1, h2.mono fun x u _ hx => ⟨R0.ext h.old (⟨fun _ _ => rfl, fun _ _ => ⟨rfl, rfl, rfl, rfl⟩, hw, hz⟩ : Ext G m w G m w') hx.2.2 hx.1, hx.2⟩⟩
end
end Go.Proofs.Ytjdcohcdgdjobaa.Ev
