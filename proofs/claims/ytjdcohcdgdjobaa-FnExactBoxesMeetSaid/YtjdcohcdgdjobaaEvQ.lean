/- Operations that write what is one's own. -/
import Derived.Test.YtjdcohcdgdjobaaEvP
import Derived.Laws.CopyRow
namespace Go.Proofs.Ytjdcohcdgdjobaa.Ev
open Go
set_option linter.unusedVariables false
set_option linter.unusedSimpArgs false

section
variable {P : Program} {S N : Nat → Prop} {G G0 : Gh} {m : Mem} {st : St} {a : Act} {w : World}

/-- what is behind an operation that writes -/
def NextW (S N : Nat → Prop) (G : Gh) (st : St) (w : World) (v : LV) (m' : Mem) (v' : Value) (w' : World) : Prop :=
  ∃ G', Inv S N G' m' w' ∧ (∀ x u, R G S st.m w x u → wf st.m x → R G' S m' w' x u ∧ wf m' x) ∧ R G' S m' w' v v' ∧ wf m' v ∧ FrN N w w'

theorem Next.toW (h : SR S N G st a w) {v : LV} {m' : Mem} {v' : Value} {w' : World} (q : Next S N G st w v m' v' w') : NextW S N G st w v m' v' w' := by
  obtain ⟨G', h1, h2, h3, h4, h5⟩ := q
  exact ⟨G', h2, fun x u hx hw => ⟨R.ext h.inv.old h1 hw hx, wf.ext h1.ne hw⟩, h3, h4, h5⟩

/-- every relation over the parts gives the relation -/
theorem R_of_R0 {G' : Gh} {m' : Mem} {w' : World} (h0 : ∀ x u, R0 G S m w x u → wf0 m x → R0 G' S m' w' x u) {x : LV} {u : Value} (hx : R G S m w x u) (hw : wf m x) : R G' S m' w' x u := by
  have h1 : ∀ x u, R1 G S m w x u → wf1 m x → R1 G' S m' w' x u := by
    intro x u hx hw
    cases x
    case ag vs => obtain ⟨cs, rfl, q⟩ := hx; exact ⟨cs, rfl, q.mono fun y z hm hr => h0 y z hr (hw y hm)⟩
    case cl f vs => obtain ⟨cs, rfl, q⟩ := hx; exact ⟨cs, rfl, q.mono fun y z hm hr => h0 y z hr (hw y hm)⟩
    all_goals (simp only [R1, wf1] at hx hw ⊢; exact h0 _ _ hx hw)
  cases x
  case tu vs => obtain ⟨cs, rfl, q⟩ := hx; exact ⟨cs, rfl, q.mono fun y z hm hr => h1 y z hr (hw y hm)⟩
  all_goals (simp only [R, wf] at hx hw ⊢; exact h1 _ _ hx hw)
theorem wf_of_wf0 {m' : Mem} (h0 : ∀ i, m i ≠ none → m' i ≠ none) {x : LV} (hw : wf m x) : wf m' x := wf.ext h0 hw

theorem plain_one {x : LV} {u : Value} (hp : plainB x = true) (h : R0 G S m w x u) : u.oneCell' = true := R0_one h (by intro e; subst e; cases hp)

/-- what is left of a memory is as it was -/
structure Keep (G : Gh) (m : Mem) (G' : Gh) (m' : Mem) : Prop where
  ne : ∀ i, m i ≠ none → m' i ≠ none
  look : ∀ i ch q', m i ≠ none → look m' i ch = some q' → ∃ q, look m i ch = some q ∧ q.2.1 = q'.2.1 ∧ G'.blkOf i ch = G.blkOf i ch ∧ G'.capOf i ch = G.capOf i ch
  box : ∀ i c', m i ≠ none → m' i = some (.box c') → (∃ c, m i = some (.box c)) ∧ G'.blk i = G.blk i

theorem R0.write {G' : Gh} {m' : Mem} {w' : World} (hS : ∀ b, S b → w'.heap[b]? = w.heap[b]?) (hk : Keep G m G' m') {x : LV} {v : Value} (hx : wf0 m x) (r : R0 G S m w x v) : R0 G' S m' w' x v := by
  cases x <;> try exact r
  case ro n rows => exact RdG.mono r (fun _ _ q => RdC.mono q (fun _ h => h) hS) (fun _ h => h) hS
  case rp vs =>
    obtain ⟨a, rfl, q⟩ := r
    refine ⟨a, rfl, fun k x hk => ?_⟩
    obtain ⟨h1, u, h2, h3⟩ := q k x hk
    refine ⟨h1, u, ?_, h3.mono (fun _ h => h) hS⟩
    have e : (a.add k).block = a.block := by unfold Addr.add; split <;> rfl
    rw [cell_same (hS _ (by rw [e]; exact h1)), h2]
  case bp i off =>
    have hi : m i ≠ none := hx
    have one := R0_one r (by simp)
    simp only [R0]
    split
    · rename_i c' hc'
      obtain ⟨⟨c, hc⟩, hG⟩ := hk.box i c' hi hc'
      simp only [R0, hc] at r
      rw [hG]; exact r
    · exact one
  case rf i ch lo n =>
    have hi : m i ≠ none := hx
    have one := R0_one r (by simp)
    simp only [R0]
    split
    · rename_i e st' rows' hl'
      obtain ⟨⟨e0, st0, rows0⟩, hl, h1, h2, h3⟩ := hk.look i ch _ hi hl'
      simp only [R0, hl] at r
      simp only at h1
      rw [h2, h3, ← h1]; exact r
    · exact one
  case ep i ch r' c =>
    have hi : m i ≠ none := hx
    have one := R0_one r (by simp)
    simp only [R0]
    split
    · rename_i e st' rows' hl'
      obtain ⟨⟨e0, st0, rows0⟩, hl, h1, h2, h3⟩ := hk.look i ch _ hi hl'
      simp only [R0, hl] at r
      simp only at h1
      rw [h2, ← h1]; exact r
    · exact one

theorem R.write {G' : Gh} {m' : Mem} {w' : World} (hS : ∀ b, S b → w'.heap[b]? = w.heap[b]?) (hk : Keep G m G' m') {x : LV} {v : Value} (hx : wf m x) (r : R G S m w x v) : R G' S m' w' x v :=
  R_of_R0 (fun x u hr hw => R0.write hS hk hw hr) r hx

/-- a box is written -/
theorem box_write (h : Inv S N G m w) {i : Id} {cells cells' : List LV} (hi : m i = some (.box cells)) {cs cs' : Array Value} {e : TypeId} (hb : w.heap[G.blk i]? = some (.cells cs e (0, 0)))
    (hr : RL (fun x u => R0 G S m w x u ∧ plainB x = true ∧ wf0 m x) cells' cs') :
    Keep G m G (updM m i (some (.box cells'))) ∧ (∀ b, S b → (w.setRow (G.blk i) cs').heap[b]? = w.heap[b]?) ∧ Inv S N G (updM m i (some (.box cells'))) (w.setRow (G.blk i) cs') ∧ FrN N w (w.setRow (G.blk i) cs') := by
  have live_i : live m (.root i) := .inl ⟨cells, hi⟩
  have hS : ∀ b, S b → (w.setRow (G.blk i) cs').heap[b]? = w.heap[b]? := fun b hb' => setRow_other w _ b cs' (fun e => (h.sep _ live_i).1 (by simp only [Gh.at]; rw [← e]; exact hb'))
  have hlook : ∀ j ch, look (updM m i (some (.box cells'))) j ch = look m j ch := by
    intro j ch
    by_cases hj : j = i
    · subst hj; simp [look, updM_eq, hi]
    · simp [look, updM_ne hj]
  have hk : Keep G m G (updM m i (some (.box cells'))) := by
    refine ⟨fun j hj => ?_, fun j ch q' _ hq => ⟨q', by rw [← hlook]; exact hq, rfl, rfl, rfl⟩, fun j c' _ hj => ?_⟩
    · by_cases hji : j = i
      · subst hji; rw [updM_eq]; simp
      · rw [updM_ne hji]; exact hj
    · by_cases hji : j = i
      · subst hji; exact ⟨⟨cells, hi⟩, rfl⟩
      · rw [updM_ne hji] at hj; exact ⟨⟨c', hj⟩, rfl⟩
  have hlive : ∀ p, live (updM m i (some (.box cells'))) p → live m p := by
    intro p hp
    cases p with
    | root j =>
      by_cases hj : j = i
      · subst hj; exact live_i
      · simp only [live] at hp ⊢; rw [updM_ne hj] at hp; exact hp
    | chld j r c =>
      obtain ⟨e, n, rows, row, e', n', l, h1, h2, h3⟩ := hp
      by_cases hj : j = i
      · subst hj; rw [updM_eq] at h1; cases h1
      · rw [updM_ne hj] at h1; exact ⟨e, n, rows, row, e', n', l, h1, h2, h3⟩
  have hother : ∀ p, live m p → p ≠ .root i → (w.setRow (G.blk i) cs').heap[G.at p]? = w.heap[G.at p]? := fun p hp hne => setRow_other w _ _ cs' (fun e => hne (h.inj p (.root i) hp live_i e))
  refine ⟨hk, hS, ⟨fun j e2 n rows hj => ?_, fun j c hj => ?_, fun p q hp hq he => h.inj p q (hlive p hp) (hlive q hq) he, fun p hp => h.sep p (hlive p hp), fun b hb' => by simpa using h.old b hb'⟩, rfl, rfl, rfl, by simp, fun b _ hn => setRow_other w _ b cs' (fun e => hn (by have := (h.sep _ live_i).2; simp only [Gh.at] at this; rw [e]; exact this))⟩
  · have hji : j ≠ i := fun e => by subst e; rw [updM_eq] at hj; cases hj
    rw [updM_ne hji] at hj
    refine OwG.mono (h.arr j e2 n rows hj) (hother (.root j) (.inr ⟨e2, n, rows, hj⟩) (fun e => by cases e; exact hji rfl)) fun r c row x u hr hc ho => OwC.mono ho ⟨rfl, rfl⟩ hS fun e' n' l hx => ?_
    subst hx
    exact hother (.chld j r c) ⟨e2, n, rows, row, e', n', l, hj, hr, hc⟩ (fun e => by cases e)
  · by_cases hji : j = i
    · subst hji
      rw [updM_eq] at hj
      cases hj
      exact ⟨cs', e, setRow_heap w _ cs cs' e (0, 0) hb, hr.mono fun x u _ hx => ⟨R0.write hS hk hx.2.2 hx.1, hx.2.1, wf0.ext hk.ne hx.2.2⟩⟩
    · rw [updM_ne hji] at hj
      obtain ⟨cs0, e0, k1, k2⟩ := h.box j c hj
      exact ⟨cs0, e0, (hother (.root j) (.inl ⟨c, hj⟩) (fun e => by cases e; exact hji rfl)).trans k1, k2.mono fun x u _ hx => ⟨R0.write hS hk hx.2.2 hx.1, hx.2.1, wf0.ext hk.ne hx.2.2⟩⟩

/-- an operation that only writes -/
def Writes (P : Program) (o : Oper) (a : Act) (w : World) (Φ : World → Prop) : Prop := ∃ w', (execOp a.eval o).run P w = .ok .skip w' ∧ Φ w'

theorem run_store_plain {t : TypeId} {n : Nat} (hz : sizeT P t = some n) {b off : Nat} {cs : Array Value} {e : TypeId} (hb : w.heap[b]? = some (.cells cs e (0, 0))) {V : Value} (hV : V.cells.size = n) (hle : off + n ≤ cs.size)
    (h1 : ∀ v ∈ V.cells.toList, v.oneCell' = true) : (storeVar t ⟨b, off, none⟩ V).run P w = .ok () (w.setRow b (cs.toList.take off ++ V.cells.toList ++ cs.toList.drop (off + n)).toArray) := by
  have := run_storeCells_at P b off e V.cells.toList 0 cs w hb (by simp; omega) h1
  simp only [storeVar, Sem.run_bind, sizeT_run hz, Result.andThen_ok]
  rw [if_neg (by simp [hV])]
  rw [this]
  simp [hV]

theorem do_so (h : SR S N G st a w) {x v : Opd} {x' v' : Operand} {t : TypeId} {n : Nat} {o : Oper} (hx : fO x x' = true) (hv : fO v v' = true) (ho : o.op = .store t x' v') (hz : sizeT P t = some n)
    {i : Id} {off : Nat} {cells cells' vs : List LV} (ex : opd st.s x = .bp i off) (hi : st.m i = some (.box cells)) (hu : unpack (opd st.s v) = some vs) (hl : vs.length = n) (hpl : vs.all plainB = true) (hp : putL cells off vs = some cells') :
    Writes P o a w (fun w' => NextW S N G st w (.un) (updM st.m i (some (.box cells'))) undef w') := by
  obtain ⟨r1, r2⟩ := h.opd hx
  obtain ⟨v1, v2⟩ := h.opd hv
  rw [ex] at r1
  simp only [R, R1, R0, hi] at r1
  obtain ⟨cs, e, k1, k2⟩ := h.inv.box i cells hi
  obtain ⟨q1, q2⟩ := unpack_R hu v1 v2
  have q3 : RL (fun x u => R0 G S st.m w x u ∧ plainB x = true ∧ wf0 st.m x) vs (a.eval v').cells := q1.mono fun x u hm hr => ⟨hr, List.all_eq_true.1 hpl x hm, q2 x hm⟩
  have hle : off + n ≤ cells.length := by unfold putL at hp; split at hp; · omega
                                          · cases hp
  have hone : ∀ z ∈ (a.eval v').cells.toList, z.oneCell' = true := by
    intro z hz'
    obtain ⟨k, hk⟩ := List.getElem?_of_mem hz'
    have hkn : k < vs.length := by have := (List.getElem?_eq_some_iff.1 hk).1; rw [← q1.1]; simpa using this
    obtain ⟨u, u1, u2, u3, _⟩ := q3.2 k vs[k] (List.getElem?_eq_getElem hkn)
    rw [Array.getElem?_toList, u1] at hk
    cases hk
    exact plain_one u3 u2
  have hrun := run_store_plain (P := P) hz k1 (V := a.eval v') (by rw [q1.1]; exact hl) (by rw [k2.1]; exact hle) hone
  have hnew : RL (fun x u => R0 G S st.m w x u ∧ plainB x = true ∧ wf0 st.m x) cells' (cs.toList.take off ++ (a.eval v').cells.toList ++ cs.toList.drop (off + n)).toArray := by
    unfold putL at hp
    split at hp
    case isFalse => cases hp
    cases hp
    have hcs : cs.size = cells.length := k2.1
    have hvs : (a.eval v').cells.size = vs.length := q1.1
    refine ⟨by simp; omega, fun k y hk => ?_⟩
    have lt : (cs.toList.take off).length = off := by simp; omega
    have lt2 : (cells.take off).length = off := by simp; omega
    by_cases hk1 : k < off
    · rw [List.append_assoc, List.getElem?_append_left (by omega), List.getElem?_take, if_pos hk1] at hk
      obtain ⟨u, u1, u2⟩ := k2.2 k y hk
      refine ⟨u, ?_, u2⟩
      simp only [List.getElem?_toArray, List.append_assoc]
      rw [List.getElem?_append_left (by omega), List.getElem?_take, if_pos hk1]
      simpa using u1
    · by_cases hk2 : k < off + vs.length
      · rw [List.append_assoc, List.getElem?_append_right (by omega), List.getElem?_append_left (by omega), lt2] at hk
        obtain ⟨u, u1, u2⟩ := q3.2 _ y hk
        refine ⟨u, ?_, u2⟩
        simp only [List.getElem?_toArray, List.append_assoc]
        rw [List.getElem?_append_right (by omega), List.getElem?_append_left (by simp; omega), lt]
        simpa using u1
      · have l2 : (cells.take off ++ vs).length = off + vs.length := by simp; omega
        rw [List.getElem?_append_right (by omega), l2, List.getElem?_drop] at hk
        rw [show off + vs.length + (k - (off + vs.length)) = k from by omega] at hk
        obtain ⟨u, u1, u2⟩ := k2.2 k y hk
        refine ⟨u, ?_, u2⟩
        have l3 : (cs.toList.take off ++ (a.eval v').cells.toList).length = off + vs.length := by simp; omega
        simp only [List.getElem?_toArray]
        rw [List.getElem?_append_right (by omega), l3, List.getElem?_drop, ← hl]
        rw [show off + vs.length + (k - (off + vs.length)) = k from by omega]
        simpa using u1
  obtain ⟨b1, b2, b3, b4⟩ := box_write h.inv hi k1 hnew
  refine ⟨_, ?_, G, b3, fun x u hx hw => ⟨R.write b2 b1 hw hx, wf.ext b1.ne hw⟩, trivial, trivial, b4⟩
  simp [execOp, ho, r1, Instr.storeAt, Instr.sureAddr, hrun]
end
end Go.Proofs.Ytjdcohcdgdjobaa.Ev
