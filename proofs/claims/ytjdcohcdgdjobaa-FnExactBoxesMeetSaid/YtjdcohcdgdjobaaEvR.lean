/- Stores into elements; slices made. -/
import Derived.Test.YtjdcohcdgdjobaaEvQ
namespace Go.Proofs.Ytjdcohcdgdjobaa.Ev
open Go
set_option linter.unusedVariables false
set_option linter.unusedSimpArgs false

section
variable {P : Program} {S N : Nat → Prop} {G G0 : Gh} {m : Mem} {st : St} {a : Act} {w : World}

def cellAt (rows : List (List Cell)) (r c : Nat) : Option Cell := (rows[r]?).bind (·[c]?)
theorem look_cell {i : Id} {e n : Nat} {rows : List (List Cell)} (h : m i = some (.arr e n rows)) (r c : Nat) :
    look m i (some (r, c)) = match cellAt rows r c with | some (.sl true e' st' l) => some (e', st', lift l) | _ => none := by
  simp only [look, h, cellAt]
  rfl

/-- a slice of own memory is written in place -/
theorem arr_write (h : Inv S N G m w) {i : Id} {e n : Nat} {rows rows' : List (List Cell)} (hi : m i = some (.arr e n rows)) {cs' : Array Value} {cs : Array Value} (hb : w.heap[G.blk i]? = some (.cells cs e (0, 0)))
    (hsame : ∀ r c e' n' l, cellAt rows' r c = some (.sl true e' n' l) → cellAt rows r c = some (.sl true e' n' l))
    (hs : cs'.size = G.cap i * n) (hl : rows'.length ≤ G.cap i) (hc : ∀ (r : Nat) (row : List Cell), rows'[r]? = some row → row.length = n ∧ ∀ (k : Nat) (x : Cell), row[k]? = some x → ∃ u, cs'[r * n + k]? = some u ∧ OwC G S w i r k x u) :
    Keep G m G (updM m i (some (.arr e n rows'))) ∧ (∀ b, S b → (w.setRow (G.blk i) cs').heap[b]? = w.heap[b]?) ∧ Inv S N G (updM m i (some (.arr e n rows'))) (w.setRow (G.blk i) cs') ∧ FrN N w (w.setRow (G.blk i) cs') := by
  have live_i : live m (.root i) := .inr ⟨e, n, rows, hi⟩
  have hS : ∀ b, S b → (w.setRow (G.blk i) cs').heap[b]? = w.heap[b]? := fun b hb' => setRow_other w _ b cs' (fun e => (h.sep _ live_i).1 (by simp only [Gh.at]; rw [← e]; exact hb'))
  have hlookj : ∀ j, j ≠ i → ∀ ch, look (updM m i (some (.arr e n rows'))) j ch = look m j ch := fun j hj ch => by simp [look, updM_ne hj]
  have hk : Keep G m G (updM m i (some (.arr e n rows'))) := by
    refine ⟨fun j hj => ?_, fun j ch q' _ hq => ?_, fun j c' _ hj => ?_⟩
    · by_cases hji : j = i
      · subst hji; rw [updM_eq]; simp
      · rw [updM_ne hji]; exact hj
    · by_cases hji : j = i
      · subst hji
        cases ch with
        | none => rw [look_none updM_eq] at hq; cases hq; exact ⟨_, look_none hi, rfl, rfl, rfl⟩
        | some rc =>
          obtain ⟨r, c⟩ := rc
          rw [look_cell updM_eq] at hq
          split at hq
          · rename_i e' st' l hcell
            cases hq
            exact ⟨_, by rw [look_cell hi, hsame r c _ _ _ hcell], rfl, rfl, rfl⟩
          · cases hq
      · rw [hlookj j hji] at hq; exact ⟨q', hq, rfl, rfl, rfl⟩
    · by_cases hji : j = i
      · subst hji; rw [updM_eq] at hj; cases hj
      · rw [updM_ne hji] at hj; exact ⟨⟨c', hj⟩, rfl⟩
  have hlive : ∀ p, live (updM m i (some (.arr e n rows'))) p → live m p := by
    intro p hp
    cases p with
    | root j =>
      by_cases hj : j = i
      · subst hj; exact live_i
      · simp only [live] at hp ⊢; rw [updM_ne hj] at hp; exact hp
    | chld j r c =>
      obtain ⟨e0, n0, rows0, row, e', n', l, h1, h2, h3⟩ := hp
      by_cases hj : j = i
      · subst hj
        rw [updM_eq] at h1
        cases h1
        have := hsame r c e' n' l (by simp [cellAt, h2, h3])
        simp only [cellAt, Option.bind_eq_some_iff] at this
        obtain ⟨row', t1, t2⟩ := this
        exact ⟨_, _, rows, row', e', n', l, hi, t1, t2⟩
      · rw [updM_ne hj] at h1; exact ⟨e0, n0, rows0, row, e', n', l, h1, h2, h3⟩
  have hother : ∀ p, live m p → p ≠ .root i → (w.setRow (G.blk i) cs').heap[G.at p]? = w.heap[G.at p]? := fun p hp hne => setRow_other w _ _ cs' (fun e => hne (h.inj p (.root i) hp live_i e))
  refine ⟨hk, hS, ⟨fun j e2 n2 rows2 hj => ?_, fun j c hj => ?_, fun p q hp hq he => h.inj p q (hlive p hp) (hlive q hq) he, fun p hp => h.sep p (hlive p hp), fun b hb' => by simpa using h.old b hb'⟩, rfl, rfl, rfl, by simp, fun b _ hn => setRow_other w _ b cs' (fun e => hn (by have := (h.sep _ live_i).2; simp only [Gh.at] at this; rw [e]; exact this))⟩
  · by_cases hji : j = i
    · subst hji
      rw [updM_eq] at hj
      cases hj
      obtain ⟨_, _, _, _, hm, _⟩ := h.arr j e n rows hi
      refine ⟨cs', setRow_heap w _ cs cs' e (0, 0) hb, hs, hl, hm, fun r row hr => ?_⟩
      obtain ⟨g1, g2⟩ := hc r row hr
      refine ⟨g1, fun k x hk' => ?_⟩
      obtain ⟨u, u1, u2⟩ := g2 k x hk'
      refine ⟨u, u1, OwC.mono u2 ⟨rfl, rfl⟩ hS fun e' n' l hx => ?_⟩
      subst hx
      have := hsame r k e' n' l (by simp [cellAt, hr, hk'])
      simp only [cellAt, Option.bind_eq_some_iff] at this
      obtain ⟨row', t1, t2⟩ := this
      exact hother (.chld j r k) ⟨_, _, rows, row', e', n', l, hi, t1, t2⟩ (fun e => by cases e)
    · rw [updM_ne hji] at hj
      refine OwG.mono (h.arr j e2 n2 rows2 hj) (hother (.root j) (.inr ⟨e2, n2, rows2, hj⟩) (fun e => by cases e; exact hji rfl)) fun r c row x u hr hc ho => OwC.mono ho ⟨rfl, rfl⟩ hS fun e' n' l hx => ?_
      subst hx
      exact hother (.chld j r c) ⟨e2, n2, rows2, row, e', n', l, hj, hr, hc⟩ (fun e => by cases e)
  · have hji : j ≠ i := fun e => by subst e; rw [updM_eq] at hj; cases hj
    rw [updM_ne hji] at hj
    obtain ⟨cs0, e0, k1, k2⟩ := h.box j c hj
    exact ⟨cs0, e0, (hother (.root j) (.inl ⟨c, hj⟩) (fun e => by cases e; exact hji rfl)).trans k1, k2.mono fun x u _ hx => ⟨R0.write hS hk hx.2.2 hx.1, hx.2.1, wf0.ext hk.ne hx.2.2⟩⟩

theorem noOwn_OwC {x : Cell} {i : Id} {r c : Nat} {u : Value} (hn : noOwn x = true) (h : RdC S w x u) : OwC G S w i r c x u := by
  cases x with
  | un => trivial
  | sc v => exact h
  | nl => exact h
  | sl o e n l => cases o with
    | true => cases hn
    | false => exact h

theorem mul_lt_add {r r2 n k k2 : Nat} (h : r * n + k = r2 * n + k2) (hk : k < n) (hk2 : k2 < n) : r = r2 ∧ k = k2 := by
  have h1 : (r * n + k) / n = r := by rw [Nat.mul_comm, Nat.mul_add_div (by omega), Nat.div_eq_of_lt hk]; omega
  have h2 : (r2 * n + k2) / n = r2 := by rw [Nat.mul_comm, Nat.mul_add_div (by omega), Nat.div_eq_of_lt hk2]; omega
  have : r = r2 := by rw [← h1, ← h2, h]
  subst this
  exact ⟨rfl, by omega⟩

theorem do_se (h : SR S N G st a w) {x v : Opd} {x' v' : Operand} {t : TypeId} {n : Nat} {o : Oper} (hx : fO x x' = true) (hv : fO v v' = true) (ho : o.op = .store t x' v') (hz : sizeT P t = some n)
    {i : Id} {r c e st0 : Nat} {rows : List (List Cell)} {row : List Cell} {vs : List LV} {xs : List Cell} (ex : opd st.s x = .ep i none r c) (hi : st.m i = some (.arr e st0 rows)) (hu : unpack (opd st.s v) = some vs) (hl : vs.length = n) (hpl : vs.all plainB = true)
    (hcells : vs.mapM toCell = some xs) (hrow : rows[r]? = some row) (hle : c + n ≤ row.length) :
    Writes P o a w (fun w' => NextW S N G st w (.un) (updM st.m i (some (.arr e st0 (rows.set r (row.take c ++ xs ++ row.drop (c + n)))))) undef w') := by
  obtain ⟨r1, r2⟩ := h.opd hx
  obtain ⟨v1, v2⟩ := h.opd hv
  rw [ex] at r1
  simp only [R, R1, R0, look_none hi, Gh.blkOf] at r1
  obtain ⟨cs, k1, k2, k3, k4, k5⟩ := h.inv.arr i e st0 rows hi
  obtain ⟨g1, g2⟩ := k5 r row hrow
  obtain ⟨q1, q2⟩ := unpack_R hu v1 v2
  obtain ⟨m1, m2⟩ := mapM_get hcells
  have hxl : xs.length = n := by rw [m1, hl]
  have hrl : r < rows.length := (List.getElem?_eq_some_iff.1 hrow).1
  have hbig : r * st0 + st0 ≤ cs.size := by
    have : (r + 1) * st0 ≤ G.cap i * st0 := Nat.mul_le_mul_right _ (by omega)
    rw [Nat.add_mul, Nat.one_mul] at this; omega
  have hone : ∀ z ∈ (a.eval v').cells.toList, z.oneCell' = true := by
    intro z hz'
    obtain ⟨k, hk⟩ := List.getElem?_of_mem hz'
    have hkn : k < vs.length := by have := (List.getElem?_eq_some_iff.1 hk).1; rw [← q1.1]; simpa using this
    obtain ⟨u, u1, u2⟩ := q1.2 k vs[k] (List.getElem?_eq_getElem hkn)
    rw [Array.getElem?_toList, u1] at hk
    cases hk
    exact plain_one (List.all_eq_true.1 hpl _ (List.getElem_mem hkn)) u2
  have hVs : (a.eval v').cells.size = n := by rw [q1.1]; exact hl
  have hrun := run_store_plain (P := P) hz k1 (V := a.eval v') (off := r * st0 + c) hVs (by omega) hone
  have hget : ∀ q, (cs.toList.take (r * st0 + c) ++ (a.eval v').cells.toList ++ cs.toList.drop (r * st0 + c + n)).toArray[q]? = if r * st0 + c ≤ q ∧ q < r * st0 + c + n then (a.eval v').cells[q - (r * st0 + c)]? else cs[q]? := by
    intro q
    have lt : (cs.toList.take (r * st0 + c)).length = r * st0 + c := by simp; omega
    have l3 : (cs.toList.take (r * st0 + c) ++ (a.eval v').cells.toList).length = r * st0 + c + n := by simp; omega
    simp only [List.getElem?_toArray]
    by_cases hq1 : q < r * st0 + c
    · rw [if_neg (by omega), List.append_assoc, List.getElem?_append_left (by omega), List.getElem?_take, if_pos hq1]; simp
    · by_cases hq2 : q < r * st0 + c + n
      · rw [if_pos (by omega), List.append_assoc, List.getElem?_append_right (by omega), List.getElem?_append_left (by simp; omega), lt]; simp
      · rw [if_neg (by omega), List.getElem?_append_right (by omega), l3, List.getElem?_drop, show r * st0 + c + n + (q - (r * st0 + c + n)) = q from by omega]; simp
  have hcat : ∀ (k : Nat) (y : Cell), (row.take c ++ xs ++ row.drop (c + n))[k]? = some y → (c ≤ k ∧ k < c + n ∧ xs[k - c]? = some y) ∨ ((k < c ∨ c + n ≤ k) ∧ row[k]? = some y) := by
    intro k y hk
    have lt : (row.take c).length = c := by simp; omega
    have l3 : (row.take c ++ xs).length = c + n := by simp; omega
    by_cases hq1 : k < c
    · rw [List.append_assoc, List.getElem?_append_left (by omega), List.getElem?_take, if_pos hq1] at hk; exact .inr ⟨.inl hq1, hk⟩
    · by_cases hq2 : k < c + n
      · rw [List.append_assoc, List.getElem?_append_right (by omega), List.getElem?_append_left (by omega), lt] at hk; exact .inl ⟨by omega, hq2, hk⟩
      · rw [List.getElem?_append_right (by omega), l3, List.getElem?_drop, show c + n + (k - (c + n)) = k from by omega] at hk; exact .inr ⟨.inr (by omega), hk⟩
  have hnew : ∀ (k : Nat) (y : Cell), xs[k]? = some y → noOwn y = true ∧ ∃ u, (a.eval v').cells[k]? = some u ∧ RdC S w y u := by
    intro k y hk
    obtain ⟨z, z1, z2⟩ := m2 k y hk
    obtain ⟨u, u1, u2⟩ := q1.2 k z z1
    obtain ⟨t1, t2⟩ := toCell_R z2 u2
    exact ⟨t1, u, u1, t2⟩
  have hA : ∀ r' c' e' n' l, cellAt (rows.set r (row.take c ++ xs ++ row.drop (c + n))) r' c' = some (.sl true e' n' l) → cellAt rows r' c' = some (.sl true e' n' l) := by
    intro r' c' e' n' l hcell
    simp only [cellAt, Option.bind_eq_some_iff] at hcell ⊢
    obtain ⟨row', t1, t2⟩ := hcell
    rw [List.getElem?_set] at t1
    split at t1
    · rename_i hrr
      subst hrr
      cases t1
      rcases hcat c' _ t2 with ⟨_, _, t3⟩ | ⟨_, t3⟩
      · have := (hnew _ _ t3).1; cases this
      · exact ⟨row, hrow, t3⟩
    · exact ⟨row', t1, t2⟩
  have hB : ∀ (r' : Nat) (row' : List Cell), (rows.set r (row.take c ++ xs ++ row.drop (c + n)))[r']? = some row' → row'.length = st0 ∧ ∀ (k : Nat) (x : Cell), row'[k]? = some x →
      ∃ u, (cs.toList.take (r * st0 + c) ++ (a.eval v').cells.toList ++ cs.toList.drop (r * st0 + c + n)).toArray[r' * st0 + k]? = some u ∧ OwC G S w i r' k x u := by
    intro r' row' hr'
    rw [List.getElem?_set] at hr'
    split at hr'
    · rename_i hrr
      subst hrr
      cases hr'
      have hlen : (row.take c ++ xs ++ row.drop (c + n)).length = st0 := by simp; omega
      refine ⟨hlen, fun k y hk => ?_⟩
      have hks : k < st0 := by have := (List.getElem?_eq_some_iff.1 hk).1; omega
      rcases hcat k y hk with ⟨c1, c2, t3⟩ | ⟨c1, t3⟩
      · obtain ⟨t1, u, u1, u2⟩ := hnew _ _ t3
        refine ⟨u, ?_, noOwn_OwC t1 u2⟩
        rw [hget, if_pos (by omega), show r * st0 + k - (r * st0 + c) = k - c from by omega]; exact u1
      · obtain ⟨u, u1, u2⟩ := g2 k y t3
        exact ⟨u, by rw [hget, if_neg (by omega)]; exact u1, u2⟩
    · rename_i hrr
      obtain ⟨t1, t2⟩ := k5 r' row' hr'
      refine ⟨t1, fun k y hk => ?_⟩
      obtain ⟨u, u1, u2⟩ := t2 k y hk
      have hks : k < st0 := by have := (List.getElem?_eq_some_iff.1 hk).1; omega
      refine ⟨u, ?_, u2⟩
      rw [hget, if_neg ?_]
      · exact u1
      · intro ⟨p1, p2⟩
        have : r' * st0 + k = r * st0 + (c + (r' * st0 + k - (r * st0 + c))) := by omega
        exact hrr (mul_lt_add this hks (by omega)).1.symm
  obtain ⟨b1, b2, b3, b4⟩ := arr_write h.inv hi k1 hA (by simp; omega) (by simp; exact k3) hB
  refine ⟨_, ?_, G, b3, fun x u hx hw => ⟨R.write b2 b1 hw hx, wf.ext b1.ne hw⟩, trivial, trivial, b4⟩
  simp [execOp, ho, r1, Instr.storeAt, Instr.sureAddr, hrun]
end
end Go.Proofs.Ytjdcohcdgdjobaa.Ev
