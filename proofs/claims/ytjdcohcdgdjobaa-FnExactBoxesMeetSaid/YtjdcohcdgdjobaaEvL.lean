/- What a call is given, and what it hands back. -/
import Derived.Test.YtjdcohcdgdjobaaEvK
namespace Go.Proofs.Ytjdcohcdgdjobaa.Ev
open Go
set_option linter.unusedVariables false
set_option linter.unusedSimpArgs false

def noMem : Mem := fun _ => none

section
variable {P : Program} {S N : Nat → Prop} {G : Gh} {m : Mem} {st : St} {a : Act} {w : World}

/-! ### two memories side by side -/
def unionM (m m' : Mem) : Mem := fun i => match m' i with | some x => some x | none => m i
def unionG (G G' : Gh) (m' : Mem) : Gh where
  blk i := if (m' i).isSome then G'.blk i else G.blk i
  cap i := if (m' i).isSome then G'.cap i else G.cap i
  cblk i := if (m' i).isSome then G'.cblk i else G.cblk i
  ccap i := if (m' i).isSome then G'.ccap i else G.ccap i

theorem Inv.union {w' : World} {G' : Gh} {m' : Mem} (h : Inv S N G m w) (hb : ∀ b, b < w.heap.size → w'.heap[b]? = w.heap[b]?) (hz : w.heap.size ≤ w'.heap.size) (hn : ∀ b, w.heap.size ≤ b → N b)
    (h' : Inv S (fun b => w.heap.size ≤ b) G' m' w') (hd : ∀ i, m' i ≠ none → m i = none) :
    Ext G m w (unionG G G' m') (unionM m m') w' ∧ Ext G' m' w' (unionG G G' m') (unionM m m') w' ∧ Inv S N (unionG G G' m') (unionM m m') w' := by
  have n1 : ∀ i, m i ≠ none → m' i = none := fun i hi => by
    cases hq : m' i with
    | none => rfl
    | some x => exact absurd (hd i (by rw [hq]; simp)) hi
  have e1 : Ext G m w (unionG G G' m') (unionM m m') w' := ⟨fun i hi => by simp [unionM, n1 i hi], fun i hi => by simp [unionG, n1 i hi], hb, hz⟩
  have e2 : Ext G' m' w' (unionG G G' m') (unionM m m') w' := by
    refine ⟨fun i hi => ?_, fun i hi => ?_, fun _ _ => rfl, Nat.le_refl _⟩
    · cases hq : m' i with
      | none => exact absurd hq hi
      | some x => simp [unionM, hq]
    · cases hq : m' i with
      | none => exact absurd hq hi
      | some x => simp [unionG, hq]
  have hw := h.ext (w' := w') hb hz
  have split : ∀ i x, unionM m m' i = some x → (m' i = some x) ∨ (m' i = none ∧ m i = some x) := by
    intro i x hx
    unfold unionM at hx
    cases hq : m' i with
    | none => rw [hq] at hx; exact .inr ⟨rfl, hx⟩
    | some y => rw [hq] at hx; exact .inl hx
  have lv : ∀ p, live (unionM m m') p → (live m' p ∧ (unionG G G' m').at p = G'.at p) ∨ (live m p ∧ (unionG G G' m').at p = G.at p) := by
    intro p hp
    cases p with
    | root i =>
      rcases hp with ⟨c, hc⟩ | ⟨e, n, rows, hc⟩ <;> rcases split i _ hc with h1 | ⟨h1, h2⟩
      · exact .inl ⟨.inl ⟨c, h1⟩, by simp [Gh.at, unionG, h1]⟩
      · exact .inr ⟨.inl ⟨c, h2⟩, by simp [Gh.at, unionG, h1]⟩
      · exact .inl ⟨.inr ⟨e, n, rows, h1⟩, by simp [Gh.at, unionG, h1]⟩
      · exact .inr ⟨.inr ⟨e, n, rows, h2⟩, by simp [Gh.at, unionG, h1]⟩
    | chld i r c =>
      obtain ⟨e, n, rows, row, e', n', rows', hc, q1, q2⟩ := hp
      rcases split i _ hc with h1 | ⟨h1, h2⟩
      · exact .inl ⟨⟨e, n, rows, row, e', n', rows', h1, q1, q2⟩, by simp [Gh.at, unionG, h1]⟩
      · exact .inr ⟨⟨e, n, rows, row, e', n', rows', h2, q1, q2⟩, by simp [Gh.at, unionG, h1]⟩
  refine ⟨e1, e2, fun i e n rows hi => ?_, fun i cells hi => ?_, fun p q hp hq he => ?_, fun p hp => ?_, h'.old⟩
  · rcases split i _ hi with h1 | ⟨h1, h2⟩
    · have := h'.arr i e n rows h1
      obtain ⟨g1, g2, g3, g4⟩ := e2.blk i (by rw [h1]; simp)
      rw [g1, g2]
      exact OwG.mono this rfl fun r c row x u _ _ ho => OwC.mono ho ⟨by rw [g3], by rw [g4]⟩ (fun _ _ => rfl) (fun _ _ _ _ => rfl)
    · have := hw.arr i e n rows h2
      obtain ⟨g1, g2, g3, g4⟩ := e1.blk i (by rw [h2]; simp)
      rw [g1, g2]
      exact OwG.mono this rfl fun r c row x u _ _ ho => OwC.mono ho ⟨by rw [g3], by rw [g4]⟩ (fun _ _ => rfl) (fun _ _ _ _ => rfl)
  · rcases split i _ hi with h1 | ⟨h1, h2⟩
    · obtain ⟨cs, e, k1, k2⟩ := h'.box i cells h1
      obtain ⟨g1, _⟩ := e2.blk i (by rw [h1]; simp)
      exact ⟨cs, e, by rw [g1]; exact k1, k2.mono fun x u _ hx => ⟨R0.ext h'.old e2 hx.2.2 hx.1, hx.2.1, wf0.ext e2.ne hx.2.2⟩⟩
    · obtain ⟨cs, e, k1, k2⟩ := h.box i cells h2
      obtain ⟨g1, _⟩ := e1.blk i (by rw [h2]; simp)
      exact ⟨cs, e, by rw [g1, hb _ (Array.getElem?_eq_some_iff.1 k1).1]; exact k1, k2.mono fun x u _ hx => ⟨R0.ext h.old e1 hx.2.2 hx.1, hx.2.1, wf0.ext e1.ne hx.2.2⟩⟩
  · rcases lv p hp with ⟨p1, p2⟩ | ⟨p1, p2⟩ <;> rcases lv q hq with ⟨q1, q2⟩ | ⟨q1, q2⟩ <;> rw [p2, q2] at he
    · exact h'.inj p q p1 q1 he
    · have := (h'.sep p p1).2
      have := h.lt q1
      omega
    · have := (h'.sep q q1).2
      have := h.lt p1
      omega
    · exact h.inj p q p1 q1 he
  · rcases lv p hp with ⟨p1, p2⟩ | ⟨p1, p2⟩ <;> rw [p2]
    · exact ⟨(h'.sep p p1).1, hn _ (h'.sep p p1).2⟩
    · exact h.sep p p1

theorem adds_union : ∀ {l : List (Id × Thing)} {m0 m1 m' m2 : Mem}, adds m0 l = some m' → adds m1 l = some m2 → (∀ i, m0 i ≠ none → m1 i = m0 i) → (∀ i, m' i ≠ none → m0 i = none → m1 i = none) ∧ m2 = fun i => match m' i with | some x => some x | none => m1 i := by
  intro l
  induction l with
  | nil =>
    intro m0 m1 m' m2 h1 h2 hc
    cases h1; cases h2
    refine ⟨fun i h1 h2 => absurd h2 h1, funext fun i => ?_⟩
    cases hq : m0 i with
    | none => rfl
    | some x => rw [hc i (by rw [hq]; simp), hq]
  | cons p l ih =>
    intro m0 m1 m' m2 h1 h2 hc
    obtain ⟨j, x⟩ := p
    simp only [adds] at h1 h2
    split at h1
    · rename_i hj0
      split at h2
      · rename_i hj1
        obtain ⟨i1, i2⟩ := ih h1 h2 (fun i hi => by
          unfold updM at hi ⊢
          split
          · rfl
          · rename_i hne; rw [if_neg hne] at hi; exact hc i hi)
        refine ⟨fun i hi h0 => ?_, ?_⟩
        · by_cases hij : i = j
          · rw [hij]; exact hj1
          · have := i1 i hi (by rw [updM_ne hij]; exact h0)
            rwa [updM_ne hij] at this
        · rw [i2]
          funext i
          cases hq : m' i with
          | some y => rfl
          | none =>
            simp only
            by_cases hij : i = j
            · -- j was added, so m' j is not none
              exfalso
              have : ∀ {l : List (Id × Thing)} {m0 m' : Mem}, adds m0 l = some m' → ∀ i, m0 i ≠ none → m' i ≠ none := by
                intro l
                induction l with
                | nil => intro m0 m' h i hi; cases h; exact hi
                | cons p l ih =>
                  intro m0 m' h i hi
                  obtain ⟨j, x⟩ := p
                  simp only [adds] at h
                  split at h
                  · refine ih h i ?_
                    unfold updM; split
                    · simp
                    · exact hi
                  · cases h
              exact this h1 i (by rw [hij, updM_eq]; simp) hq
            · rw [updM_ne hij]
      · cases h2
    · cases h1
end
end Go.Proofs.Ytjdcohcdgdjobaa.Ev
