/- A slice of one's own that becomes a cell of another. -/
import Derived.Test.YtjdcohcdgdjobaaEvS
namespace Go.Proofs.Ytjdcohcdgdjobaa.Ev
open Go
set_option linter.unusedVariables false
set_option linter.unusedSimpArgs false

/-- whose element's own slice does it lead to? -/
def ledTo : LV → Option Id
  | .rf i (some _) _ _ | .ep i (some _) _ _ => some i
  | _ => none
def Gh.adopt (G : Gh) (i j : Id) (r c : Nat) : Gh :=
  { G with cblk := fun k r' c' => if k = i ∧ r' = r ∧ c' = c then G.blk j else G.cblk k r' c', ccap := fun k r' c' => if k = i ∧ r' = r ∧ c' = c then G.cap j else G.ccap k r' c' }

section
variable {P : Program} {S N : Nat → Prop} {G G0 : Gh} {m : Mem} {st : St} {a : Act} {w : World}

theorem cellAt_set {rows : List (List Cell)} {row : List Cell} {r c : Nat} {x : Cell} (hr : rows[r]? = some row) (hc : c < row.length) (r' c' : Nat) :
    cellAt (rows.set r (row.set c x)) r' c' = if r' = r ∧ c' = c then some x else cellAt rows r' c' := by
  have hrl := (List.getElem?_eq_some_iff.1 hr).1
  unfold cellAt
  by_cases h1 : r' = r
  · subst h1
    rw [List.getElem?_set_self (by omega), hr]
    simp only [Option.bind_some, true_and]
    by_cases h2 : c' = c
    · subst h2; rw [List.getElem?_set_self hc, if_pos rfl]
    · rw [List.getElem?_set_ne (Ne.symm h2), if_neg h2]
  · rw [List.getElem?_set_ne (Ne.symm h1), if_neg (fun h => h1 h.1)]

theorem adopt (h : Inv S N G m w) {i j : Id} {e n r c e' st' : Nat} {rows rows' : List (List Cell)} {row : List Cell} {l : List (List Value)} (hi : m i = some (.arr e n rows)) (hj : m j = some (.arr e' st' rows')) (hij : i ≠ j)
    (hrow : rows[r]? = some row) (hcell : row[c]? = some .un) (hlow : rows' = Ev.lift l) {cs : Array Value} (hb : w.heap[G.blk i]? = some (.cells cs e (0, 0))) (hv : cs[r * n + c]? = some (.slice (some ⟨G.blk j, 0, none⟩) l.length (G.cap j)))
    (hbox : ∀ k cells, m k = some (.box cells) → ∀ y ∈ cells, ledTo y ≠ some i) :
    Inv S N (G.adopt i j r c) (updM (updM m j (some .dead)) i (some (.arr e n (rows.set r (row.set c (.sl true e' st' l)))))) w := by
  have live_i : live m (.root i) := .inr ⟨e, n, rows, hi⟩
  have live_j : live m (.root j) := .inr ⟨e', st', rows', hj⟩
  have hcl := (List.getElem?_eq_some_iff.1 hcell).1
  have mi : (updM (updM m j (some .dead)) i (some (.arr e n (rows.set r (row.set c (.sl true e' st' l)))))) i = some (.arr e n (rows.set r (row.set c (.sl true e' st' l)))) := updM_eq
  have mj : (updM (updM m j (some .dead)) i (some (.arr e n (rows.set r (row.set c (.sl true e' st' l)))))) j = some .dead := by rw [updM_ne (Ne.symm hij), updM_eq]
  have mo : ∀ k, k ≠ i → k ≠ j → (updM (updM m j (some .dead)) i (some (.arr e n (rows.set r (row.set c (.sl true e' st' l)))))) k = m k := fun k h1 h2 => by rw [updM_ne h1, updM_ne h2]
  have gc : (G.adopt i j r c).cblk i r c = G.blk j ∧ (G.adopt i j r c).ccap i r c = G.cap j := by simp [Gh.adopt]
  have go : ∀ k r' c', ¬ (k = i ∧ r' = r ∧ c' = c) → (G.adopt i j r c).cblk k r' c' = G.cblk k r' c' ∧ (G.adopt i j r c).ccap k r' c' = G.ccap k r' c' := fun k r' c' hn => by simp [Gh.adopt, hn]
  have gb : ∀ k, (G.adopt i j r c).blk k = G.blk k ∧ (G.adopt i j r c).cap k = G.cap k := fun k => ⟨rfl, rfl⟩
  generalize hm' : updM (updM m j (some .dead)) i (some (.arr e n (rows.set r (row.set c (.sl true e' st' l))))) = m' at mi mj mo ⊢
  generalize hG' : G.adopt i j r c = G' at gc go gb ⊢
  -- what lives there, lived here
  have back : ∀ p, live m' p → ∃ q, live m q ∧ G'.at p = G.at q ∧ ((p = .chld i r c ∧ q = .root j) ∨ (p = q ∧ q ≠ .root j)) := by
    intro p hp
    cases p with
    | root k =>
      have hkj : k ≠ j := fun e => by subst e; rcases hp with ⟨_, q⟩ | ⟨_, _, _, q⟩ <;> rw [mj] at q <;> cases q
      refine ⟨.root k, ?_, (gb k).1, .inr ⟨rfl, fun e => by cases e; exact hkj rfl⟩⟩
      by_cases hki : k = i
      · subst hki; exact live_i
      · simp only [live] at hp ⊢; rw [mo k hki hkj] at hp; exact hp
    | chld k r' c' =>
      obtain ⟨e0, n0, rows0, row0, e1, n1, l1, q1, q2, q3⟩ := hp
      by_cases hki : k = i
      · subst hki
        rw [mi] at q1
        cases q1
        have hca : cellAt (rows.set r (row.set c (.sl true e' st' l))) r' c' = some (.sl true e1 n1 l1) := by simp [cellAt, q2, q3]
        rw [cellAt_set hrow hcl] at hca
        by_cases hrc : r' = r ∧ c' = c
        · obtain ⟨rfl, rfl⟩ := hrc
          exact ⟨.root j, live_j, gc.1, .inl ⟨rfl, rfl⟩⟩
        · rw [if_neg hrc] at hca
          simp only [cellAt, Option.bind_eq_some_iff] at hca
          obtain ⟨row2, t1, t2⟩ := hca
          exact ⟨.chld k r' c', ⟨_, _, rows, row2, e1, n1, l1, hi, t1, t2⟩, (go k r' c' (fun hx => hrc hx.2)).1, .inr ⟨rfl, fun e => by cases e⟩⟩
      · have hkj : k ≠ j := fun e => by subst e; rw [mj] at q1; cases q1
        rw [mo k hki hkj] at q1
        exact ⟨.chld k r' c', ⟨e0, n0, rows0, row0, e1, n1, l1, q1, q2, q3⟩, (go k r' c' (fun hx => hki hx.1)).1, .inr ⟨rfl, fun e => by cases e⟩⟩
  have ne' : ∀ k, m k ≠ none → m' k ≠ none := by
    intro k hk
    by_cases h1 : k = i
    · subst h1; rw [mi]; simp
    · by_cases h2 : k = j
      · subst h2; rw [mj]; simp
      · rw [mo k h1 h2]; exact hk
  have r0 : ∀ y u, R0 G S m w y u → ledTo y ≠ some i → R0 G' S m' w y u := by
    intro y u hy hl
    have blkOf : ∀ k ch, (ch = none ∨ k ≠ i) → G'.blkOf k ch = G.blkOf k ch ∧ G'.capOf k ch = G.capOf k ch := by
      intro k ch hk
      cases ch with
      | none => exact gb k
      | some rc => exact go k rc.1 rc.2 (fun hx => (hk.resolve_left (by simp)) hx.1)
    have lk : ∀ k ch, (ch = none ∨ k ≠ i) → k ≠ j → (∃ q, look m k ch = some q) → ∃ q q', look m k ch = some q ∧ look m' k ch = some q' ∧ q.2.1 = q'.2.1 := by
      intro k ch hk hkj hq
      obtain ⟨q, hq⟩ := hq
      by_cases hki : k = i
      · subst hki
        have hch := hk.resolve_right (fun hx => hx rfl)
        subst hch
        exact ⟨_, _, look_none hi, look_none mi, rfl⟩
      · exact ⟨q, q, hq, by rw [look_ext (mo k hki hkj)]; exact hq, rfl⟩
    have lkn : ∀ k ch, (ch = none ∨ k ≠ i) → k ≠ j → look m k ch = none → look m' k ch = none := by
      intro k ch hk hkj hq
      by_cases hki : k = i
      · subst hki
        have hch := hk.resolve_right (fun hx => hx rfl)
        subst hch
        rw [look_none hi] at hq; cases hq
      · rw [look_ext (mo k hki hkj)]; exact hq
    cases y <;> try exact hy
    case rf k ch lo n0 =>
      have hk : ch = none ∨ k ≠ i := by
        cases ch with
        | none => exact .inl rfl
        | some rc => exact .inr fun e => hl (by rw [e]; rfl)
      by_cases h2 : k = j
      · subst h2
        simp only [R0, look, mj]
        exact R0_one hy (by simp)
      · cases hq : look m k ch with
        | none => simp only [R0, hq, lkn k ch hk h2 hq] at hy ⊢; exact hy
        | some q =>
          obtain ⟨q1, q2, t1, t2, t3⟩ := lk k ch hk h2 ⟨q, hq⟩
          obtain ⟨a1, b1, c1⟩ := q1
          obtain ⟨a2, b2, c2⟩ := q2
          simp only at t3
          subst t3
          simp only [R0, t1, t2] at hy ⊢
          rw [(blkOf k ch hk).1, (blkOf k ch hk).2]; exact hy
    case bp k off =>
      by_cases h2 : k = j
      · subst h2
        simp only [R0, mj]
        exact R0_one hy (by simp)
      · by_cases hk : k = i
        · subst hk
          simp only [R0, mi]
          exact R0_one hy (by simp)
        · simp only [R0] at hy ⊢
          rw [mo k hk h2, (gb k).1]; exact hy
    case ep k ch r' c' =>
      have hk : ch = none ∨ k ≠ i := by
        cases ch with
        | none => exact .inl rfl
        | some rc => exact .inr fun e => hl (by rw [e]; rfl)
      by_cases h2 : k = j
      · subst h2
        simp only [R0, look, mj]
        exact R0_one hy (by simp)
      · cases hq : look m k ch with
        | none => simp only [R0, hq, lkn k ch hk h2 hq] at hy ⊢; exact hy
        | some q =>
          obtain ⟨q1, q2, t1, t2, t3⟩ := lk k ch hk h2 ⟨q, hq⟩
          obtain ⟨a1, b1, c1⟩ := q1
          obtain ⟨a2, b2, c2⟩ := q2
          simp only at t3
          subst t3
          simp only [R0, t1, t2] at hy ⊢
          rw [(blkOf k ch hk).1]; exact hy
  refine ⟨fun k e2 n2 rows2 hk => ?_, fun k cells hk => ?_, fun p q hp hq he => ?_, fun p hp => ?_, h.old⟩
  · by_cases h1 : k = i
    · subst h1
      rw [mi] at hk
      cases hk
      rw [(gb k).1, (gb k).2]
      obtain ⟨cs0, k1, k2, k3, k4, k5⟩ := h.arr k e n rows hi
      rw [hb] at k1
      cases k1
      refine ⟨cs, hb, k2, by simpa using k3, k4, fun r' row' hr' => ?_⟩
      have hlen : row'.length = n ∧ True := by
        by_cases hrr : r' = r
        · subst hrr
          rw [List.getElem?_set_self ((List.getElem?_eq_some_iff.1 hrow).1)] at hr'
          cases hr'
          exact ⟨by rw [List.length_set]; exact (k5 r' row hrow).1, trivial⟩
        · rw [List.getElem?_set_ne (Ne.symm hrr)] at hr'
          exact ⟨(k5 r' row' hr').1, trivial⟩
      refine ⟨hlen.1, fun c' x hx => ?_⟩
      have hca : cellAt (rows.set r (row.set c (.sl true e' st' l))) r' c' = some x := by simp [cellAt, hr', hx]
      rw [cellAt_set hrow hcl] at hca
      by_cases hrc : r' = r ∧ c' = c
      · obtain ⟨rfl, rfl⟩ := hrc
        rw [if_pos ⟨rfl, rfl⟩] at hca
        cases hca
        refine ⟨_, hv, by rw [gc.1, gc.2], ?_⟩
        rw [gc.1, gc.2]
        obtain ⟨cs1, q1, q2, q3, q4, q5⟩ := h.arr j e' st' rows' hj
        subst hlow
        refine ⟨cs1, q1, q2, by simpa [Ev.lift] using q3, q4, fun r2 vs hr2 => ?_⟩
        obtain ⟨g1, g2⟩ := q5 r2 (vs.map Cell.sc) (by simp [Ev.lift, hr2])
        refine ⟨by simpa using g1, fun k2 v hv2 => ?_⟩
        obtain ⟨u, u1, u2⟩ := g2 k2 (.sc v) (by simp [hv2])
        exact ⟨u, u1, u2⟩
      · rw [if_neg hrc] at hca
        simp only [cellAt, Option.bind_eq_some_iff] at hca
        obtain ⟨row2, t1, t2⟩ := hca
        obtain ⟨u, u1, u2⟩ := (k5 r' row2 t1).2 c' x t2
        refine ⟨u, u1, ?_⟩
        obtain ⟨g1, g2⟩ := go k r' c' (fun hx => hrc hx.2)
        exact OwC.mono u2 ⟨g1, g2⟩ (fun _ _ => rfl) (fun _ _ _ _ => rfl)
    · have h2 : k ≠ j := fun e => by subst e; rw [mj] at hk; cases hk
      rw [mo k h1 h2] at hk
      rw [(gb k).1, (gb k).2]
      exact OwG.mono (h.arr k e2 n2 rows2 hk) rfl fun r' c' row' x u _ _ ho => OwC.mono ho (go k r' c' (fun hx => h1 hx.1)) (fun _ _ => rfl) (fun _ _ _ _ => rfl)
  · have h1 : k ≠ i := fun e => by subst e; rw [mi] at hk; cases hk
    have h2 : k ≠ j := fun e => by subst e; rw [mj] at hk; cases hk
    rw [mo k h1 h2] at hk
    obtain ⟨cs0, e0, k1, k2⟩ := h.box k cells hk
    exact ⟨cs0, e0, by rw [(gb k).1]; exact k1, k2.mono fun y u hy hx => ⟨r0 y u hx.1 (hbox k cells hk y hy), hx.2.1, wf0.ext ne' hx.2.2⟩⟩
  · obtain ⟨p', p1, p2, p3⟩ := back p hp
    obtain ⟨q', q1, q2, q3⟩ := back q hq
    have := h.inj p' q' p1 q1 (by rw [← p2, ← q2, he])
    subst this
    rcases p3 with ⟨rfl, rfl⟩ | ⟨rfl, p4⟩ <;> rcases q3 with ⟨rfl, e1⟩ | ⟨rfl, q4⟩
    · rfl
    · exact absurd rfl q4
    · exact absurd e1 p4
    · rfl
  · obtain ⟨p', p1, p2, _⟩ := back p hp
    rw [p2]
    exact h.sep p' p1

/-- slices of one's own become cells of i, one by one: (r, c, j): j becomes the cell c of the row r -/
def adoptAll : Mem → Id → List (Nat × Nat × Id) → Option Mem
  | m, _, [] => some m
  | m, i, (r, c, j) :: l =>
    match m i, m j with
    | some (.arr e n rows), some (.arr e' st' rows') =>
      match rows[r]?, low rows' with
      | some row, some vs =>
        match row[c]? with
        | some .un => if i ≠ j then adoptAll (updM (updM m j (some .dead)) i (some (.arr e n (rows.set r (row.set c (.sl true e' st' vs)))))) i l else none
        | _ => none
      | _, _ => none
    | _, _ => none

/-- all but i is as it was, or dead -/
structure KeepI (i : Id) (G : Gh) (m : Mem) (G' : Gh) (m' : Mem) : Prop where
  mem : ∀ k, k ≠ i → m' k = m k ∨ (m' k = some .dead ∧ m k ≠ none)
  gh : ∀ k ch, k ≠ i → G'.blkOf k ch = G.blkOf k ch ∧ G'.capOf k ch = G.capOf k ch
  own : G'.blk i = G.blk i ∧ G'.cap i = G.cap i ∧ ∃ e n rows rows', m i = some (.arr e n rows) ∧ m' i = some (.arr e n rows') ∧ rows'.length = rows.length

theorem adoptAll_Inv {i : Id} {e n : Nat} {cs : Array Value} : ∀ {l : List (Nat × Nat × Id)} {G : Gh} {m m' : Mem} {rows : List (List Cell)}, adoptAll m i l = some m' → Inv S N G m w → m i = some (.arr e n rows) → w.heap[G.blk i]? = some (.cells cs e (0, 0)) →
    (∀ k cells, m k = some (.box cells) → ∀ y ∈ cells, ledTo y ≠ some i) →
    (∀ r c j, (r, c, j) ∈ l → ∀ e' st' rows', m j = some (.arr e' st' rows') → cs[r * n + c]? = some (.slice (some ⟨G.blk j, 0, none⟩) rows'.length (G.cap j))) →
    ∃ G', Inv S N G' m' w ∧ KeepI i G m G' m' := by
  intro l
  induction l with
  | nil =>
    intro G m m' rows ha h hi _ _ _
    cases ha
    exact ⟨G, h, fun k _ => .inl rfl, fun k ch _ => ⟨rfl, rfl⟩, rfl, rfl, e, n, rows, rows, hi, hi, rfl⟩
  | cons p l ih =>
    intro G m m' rows ha h hi hb hbox hf
    obtain ⟨r, c, j⟩ := p
    simp only [adoptAll, hi] at ha
    split at ha
    case h_2 => cases ha
    rename_i e1 n1 rows1 e' st' rows' q1 hj
    cases q1
    split at ha
    case h_2 => cases ha
    rename_i row vs hrow hlow
    split at ha
    case h_2 => cases ha
    rename_i hcell
    split at ha
    case isFalse => cases ha
    rename_i hij
    have hlift := low_get hlow
    have hlen : rows'.length = vs.length := by rw [hlift]; simp [Ev.lift]
    have hv := hf r c j (by simp) e' st' rows' hj
    rw [hlen] at hv
    have h1 := adopt h hi hj hij hrow hcell hlift hb hv hbox
    have mi : (updM (updM m j (some .dead)) i (some (.arr e n (rows.set r (row.set c (.sl true e' st' vs)))))) i = some (.arr e n (rows.set r (row.set c (.sl true e' st' vs)))) := updM_eq
    have mj : (updM (updM m j (some .dead)) i (some (.arr e n (rows.set r (row.set c (.sl true e' st' vs)))))) j = some .dead := by rw [updM_ne (Ne.symm hij), updM_eq]
    have mo : ∀ k, k ≠ i → k ≠ j → (updM (updM m j (some .dead)) i (some (.arr e n (rows.set r (row.set c (.sl true e' st' vs)))))) k = m k := fun k h1 h2 => by rw [updM_ne h1, updM_ne h2]
    obtain ⟨G', g1, g2⟩ := ih ha h1 mi hb (fun k cells hk => by
      have k1 : k ≠ i := fun e => by subst e; rw [mi] at hk; cases hk
      have k2 : k ≠ j := fun e => by subst e; rw [mj] at hk; cases hk
      rw [mo k k1 k2] at hk
      exact hbox k cells hk) (fun r2 c2 j2 hm e2 st2 rows2 hj2 => by
      have k2 : j2 ≠ j := fun e => by subst e; rw [mj] at hj2; cases hj2
      by_cases k1 : j2 = i
      · subst k1
        rw [mi] at hj2
        cases hj2
        have := hf r2 c2 j2 (by simp [hm]) e n rows hi
        simpa [Gh.adopt] using this
      · rw [mo j2 k1 k2] at hj2
        exact hf r2 c2 j2 (by simp [hm]) e2 st2 rows2 hj2)
    refine ⟨G', g1, fun k hk => ?_, fun k ch hk => ?_, ?_⟩
    · rcases g2.mem k hk with q | ⟨q, q'⟩
      · by_cases hkj : k = j
        · subst hkj; rw [mj] at q; exact .inr ⟨q, by rw [hj]; simp⟩
        · rw [mo k hk hkj] at q; exact .inl q
      · by_cases hkj : k = j
        · subst hkj; exact .inr ⟨q, by rw [hj]; simp⟩
        · rw [mo k hk hkj] at q'; exact .inr ⟨q, q'⟩
    · obtain ⟨q1, q2⟩ := g2.gh k ch hk
      rw [q1, q2]
      cases ch with
      | none => exact ⟨rfl, rfl⟩
      | some rc => simp [Gh.blkOf, Gh.capOf, Gh.adopt, hk]
    · obtain ⟨q1, q2, e0, n0, r1, r2, q3, q4, q5⟩ := g2.own
      rw [mi] at q3
      cases q3
      exact ⟨q1, q2, e, n, rows, r2, hi, q4, by rw [q5]; simp⟩

/-! ### a row laid with slices of one's own in it -/
def toCellU (m : Mem) : LV → Option Cell
  | .rf i none lo k => match m i with | some (.arr _ _ rows) => if lo = 0 ∧ k = rows.length then some .un else none | _ => none
  | v => toCell v
def fillU (m : Mem) (s : Nat → LV) (st : Nat) : List (List Cell) → List (Nat × Opd) → Option (List (List Cell))
  | rows, [] => some rows
  | rows, (i, x) :: l =>
    match unpack (opd s x) with
    | some vs =>
      match vs.mapM (toCellU m) with
      | some row => if row.length = st ∧ i < rows.length then fillU m s st (rows.set i row) l else none
      | none => none
    | none => none
def adsV (r : Nat) : Nat → List LV → List (Nat × Nat × Id)
  | _, [] => []
  | c, .rf j none _ _ :: l => (r, c, j) :: adsV r (c + 1) l
  | c, _ :: l => adsV r (c + 1) l
def adsOf (s : Nat → LV) : List (Nat × Opd) → List (Nat × Nat × Id)
  | [] => []
  | (i, x) :: l => (match unpack (opd s x) with | some vs => adsV i 0 vs | none => []) ++ adsOf s l

theorem toCellU_R {v : LV} {x : Cell} {u : Value} (hx : toCellU m v = some x) (h : R0 G S m w v u) : noOwn x = true ∧ RdC S w x u := by
  unfold toCellU at hx
  split at hx
  · split at hx
    · split at hx
      · cases hx; exact ⟨rfl, trivial⟩
      · cases hx
    · cases hx
  · exact toCell_R hx h

theorem adsV_mem {r : Nat} : ∀ {vs : List LV} {c0 : Nat} {q : Nat × Nat × Id}, q ∈ adsV r c0 vs → q.1 = r ∧ c0 ≤ q.2.1 ∧ ∃ lo k, vs[q.2.1 - c0]? = some (.rf q.2.2 none lo k) := by
  intro vs
  induction vs with
  | nil => intro c0 q h; simp [adsV] at h
  | cons v vs ih =>
    intro c0 q h
    have later : q ∈ adsV r (c0 + 1) vs → q.1 = r ∧ c0 ≤ q.2.1 ∧ ∃ lo k, (v :: vs)[q.2.1 - c0]? = some (.rf q.2.2 none lo k) := by
      intro h
      obtain ⟨h1, h2, lo, k, h3⟩ := ih h
      refine ⟨h1, by omega, lo, k, ?_⟩
      rw [show q.2.1 - c0 = (q.2.1 - (c0 + 1)) + 1 from by omega, List.getElem?_cons_succ]
      exact h3
    cases v <;> try exact later h
    case rf j ch lo k =>
      cases ch with
      | some _ => exact later h
      | none =>
        simp only [adsV, List.mem_cons] at h
        rcases h with rfl | h
        · exact ⟨rfl, Nat.le_refl _, lo, k, by simp⟩
        · exact later h

theorem Flat.setU {n : Nat} {rows : List (List Cell)} {cs vc : Array Value} {f : LV → Option Cell} (hf : ∀ v x u, f v = some x → R0 G S m w v u → Ev.noOwn x = true ∧ RdC S w x u) (h : Flat S w n rows cs) {vs : List LV} (hv : RL (R0 G S m w) vs vc) {row : List Cell}
    (hr : vs.mapM f = some row) (hl : row.length = n) {i : Nat} (hi : i < rows.length) :
    vc.size = n ∧ i * n + vc.size ≤ cs.size ∧ Flat S w n (rows.set i row) (vc.zipIdx.foldl (fun cs (c, j) => cs.setIfInBounds (i * n + j) c) cs) ∧
      (∀ q : Nat, (vc.zipIdx.foldl (fun cs (c, j) => cs.setIfInBounds (i * n + j) c) cs)[q]? = if i * n ≤ q ∧ q < i * n + n then vc[q - i * n]? else cs[q]?) := by
  obtain ⟨g1, g2⟩ := mapM_get hr
  have hvc : vc.size = n := by rw [hv.1, ← g1, hl]
  have hle : i * n + n ≤ cs.size := by
    have : (i + 1) * n ≤ rows.length * n := Nat.mul_le_mul_right n hi
    rw [Nat.add_mul, Nat.one_mul] at this
    rw [h.1]; exact this
  have ef : vc.zipIdx.foldl (fun cs (c, j) => cs.setIfInBounds (i * n + j) c) cs = (vc.toList.zipIdx 0).foldl (fun cs (c, j) => cs.setIfInBounds (i * n + j) c) cs := by
    rw [← Array.foldl_toList, Array.toList_zipIdx]
  obtain ⟨f1, f2⟩ := foldl_set cs (i * n) vc.toList 0 (by simp; omega) cs rfl
  have f3 : ∀ q : Nat, ((vc.toList.zipIdx 0).foldl (fun cs (c, j) => cs.setIfInBounds (i * n + j) c) cs)[q]? = if i * n ≤ q ∧ q < i * n + n then vc[q - i * n]? else cs[q]? := by
    intro q
    rw [f2 q]
    simp only [Nat.add_zero, Array.length_toList, hvc, Array.getElem?_toList]
  rw [ef]
  refine ⟨hvc, by omega, ⟨by rw [f1, h.1]; simp, fun r row' hr' => ?_⟩, f3⟩
  by_cases hir : r = i
  · subst hir
    rw [List.getElem?_set_self hi] at hr'
    cases hr'
    refine ⟨hl, fun k x hk => ?_⟩
    have hkn : k < n := by have := (List.getElem?_eq_some_iff.1 hk).1; omega
    obtain ⟨y, y1, y2⟩ := g2 k x hk
    obtain ⟨u, u1, u2⟩ := hv.2 k y y1
    obtain ⟨t1, t2⟩ := hf y x u y2 u2
    refine ⟨t1, u, ?_, t2⟩
    rw [f3, if_pos (by omega), show r * n + k - r * n = k from by omega]
    exact u1
  · rw [List.getElem?_set_ne (Ne.symm hir)] at hr'
    obtain ⟨k1, k2⟩ := h.2 r row' hr'
    refine ⟨k1, fun k x hk => ?_⟩
    obtain ⟨t1, u, t2, t3⟩ := k2 k x hk
    refine ⟨t1, u, ?_, t3⟩
    have hkn : k < n := by have := (List.getElem?_eq_some_iff.1 hk).1; omega
    rw [f3, if_neg ?_]
    · exact t2
    · intro ⟨q1, q2⟩
      have : r * n + k = i * n + (r * n + k - i * n) := by omega
      exact hir (mul_lt_add this hkn (by omega)).1

theorem SR.boxes0 (h : SR S N G st a w) : ∀ i cells, st.m i = some (.box cells) → ∀ x ∈ cells, wf0 st.m x := by
  intro i cells hi x hx
  obtain ⟨cs, e, _, q⟩ := h.inv.box i cells hi
  obtain ⟨k, hk⟩ := List.getElem?_of_mem hx
  obtain ⟨u, _, hu⟩ := q.2 k x hk
  exact hu.2.2

/-- the value of a root that is moved -/
def RootV (G : Gh) (m : Mem) (j : Id) (u : Value) : Prop := m j ≠ none ∧ ∀ e n rows, m j = some (.arr e n rows) → u = .slice (some ⟨G.blk j, 0, none⟩) rows.length (G.cap j)
theorem rootV_of {v : LV} {x : Cell} {u : Value} {j : Id} {lo k : Nat} (hv : v = .rf j none lo k) (hx : toCellU m v = some x) (h : R0 G S m w v u) : RootV G m j u := by
  subst hv
  refine ⟨fun hn => (by simp only [toCellU, hn] at hx; cases hx), ?_⟩
  intro e n rows hj
  simp only [toCellU, hj] at hx
  split at hx
  · rename_i hc
    obtain ⟨rfl, rfl⟩ := hc
    simp only [R0, look_none hj, Gh.capOf, Gh.blkOf] at h
    obtain ⟨A, c, rfl, h1, h2, h3⟩ := h
    have h4 := h3 (.inr trivial)
    simp only [Nat.zero_mul] at h4
    subst h4
    rw [Nat.zero_add] at h2
    rw [h2]
  · cases hx

theorem run_fillU (h : SR S N G st a w) {n : Nat} : ∀ {ps : List (Nat × Opd)} {ps' : List (Nat × Operand)} {rows out : List (List Cell)} {cs : Array Value},
    fPs ps ps' = true → (ps.map (·.1)).Nodup → fillU st.m st.s n rows ps = some out → Flat S w n rows cs →
    ∃ cs', Instr.fill (fun i => some (i * n, n)) cs (ps'.map fun (i, x) => (i, a.eval x)) = some cs' ∧ Flat S w n out cs' ∧ out.length = rows.length ∧
      (∀ q : Nat, (∀ i ∈ ps.map (·.1), ¬ (i * n ≤ q ∧ q < i * n + n)) → cs'[q]? = cs[q]?) ∧
      ∀ r c j, (r, c, j) ∈ adsOf st.s ps → ∃ u, cs'[r * n + c]? = some u ∧ RootV G st.m j u := by
  intro ps
  induction ps with
  | nil =>
    intro ps' rows out cs hf _ hv hr
    cases ps' with
    | nil => cases hv; exact ⟨cs, rfl, hr, rfl, fun _ _ => rfl, fun r c j hm => by simp [adsOf] at hm⟩
    | cons _ _ => simp [fPs] at hf
  | cons p ps ih =>
    intro ps' rows out cs hf hnd hv hr
    obtain ⟨i, x⟩ := p
    cases ps' with
    | nil => simp [fPs] at hf
    | cons p' ps' =>
      obtain ⟨i', x'⟩ := p'
      simp only [fPs, Bool.and_eq_true, beq_iff_eq] at hf
      obtain ⟨⟨rfl, f2⟩, f3⟩ := hf
      simp only [List.map_cons, List.nodup_cons] at hnd
      obtain ⟨r1, r2⟩ := h.opd f2
      simp only [fillU] at hv
      cases hu : unpack (opd st.s x) with
      | none => rw [hu] at hv; cases hv
      | some vs =>
        rw [hu] at hv
        simp only [] at hv
        cases hm : vs.mapM (toCellU st.m) with
        | none => rw [hm] at hv; cases hv
        | some row =>
          rw [hm] at hv
          simp only [] at hv
          split at hv
          case isFalse => cases hv
          rename_i hc
          obtain ⟨q1, q2⟩ := unpack_R hu r1 r2
          obtain ⟨g0, g1, g2, g3⟩ := Flat.setU (f := toCellU st.m) (fun v x u hx hr => toCellU_R hx hr) hr q1 hm hc.1 hc.2
          obtain ⟨cs', k1, k2, k3, k4, k5⟩ := ih f3 hnd.2 hv g2
          refine ⟨cs', ?_, k2, by rw [k3]; simp, fun q hq => ?_, fun r c j hmem => ?_⟩
          · simp only [List.map_cons, Instr.fill]
            rw [if_neg (by simp [g0]; omega)]
            exact k1
          · rw [k4 q (fun i' hi' => hq i' (by simp [hi'])), g3 q, if_neg (hq i (by simp))]
          · simp only [adsOf, hu, List.mem_append] at hmem
            rcases hmem with hmem | hmem
            · obtain ⟨e1, _, lo, k, hvk⟩ := adsV_mem hmem
              simp only at e1 hvk
              subst e1
              rw [Nat.sub_zero] at hvk
              obtain ⟨u, u1, u2⟩ := q1.2 c _ hvk
              have hcn : c < n := by
                have := (Array.getElem?_eq_some_iff.1 u1).1
                rw [g0] at this; exact this
              refine ⟨u, ?_, ?_⟩
              · rw [k4 _ (fun i' hi' hh => ?_), g3, if_pos (by omega), show r * n + c - r * n = c from by omega]
                · exact u1
                · have e2 : r * n + c = i' * n + (r * n + c - i' * n) := by omega
                  have := (mul_lt_add e2 hcn (by omega)).1
                  subst this
                  exact hnd.1 hi'
              · have hlen := (List.getElem?_eq_some_iff.1 hvk).1
                obtain ⟨m1, m2⟩ := mapM_get hm
                obtain ⟨y, y1, y2⟩ := m2 c (row[c]'(by rw [m1]; exact hlen)) (List.getElem?_eq_getElem _)
                rw [hvk] at y1
                cases y1
                exact rootV_of rfl y2 u2
            · exact k5 r c j hmem

theorem do_bsU (h : SR S N G st a w) {t el : TypeId} {n len : Nat} {z : List Cell} {zv : List Value} {ps : List (Nat × Opd)} {ps' : Array (Nat × Operand)} {o : Oper} (ho : o.op = .buildSlice t len ps')
    (ht : P.underlying t = some (.slice el)) (hs : sizeT P el = some n) (hz : zeroT P el = some zv) (hzz : fZC z zv = true) (hn : z.length = n) (hf : fPs ps ps'.toList = true) (hl : len * n ≤ 16777216) (hn0 : 0 < n) (hnd : (ps.map (·.1)).Nodup)
    {out : List (List Cell)} (hv : fillU st.m st.s n (List.replicate len z) ps = some out) {i : Id} (hi : st.m i = none) {m' : Mem} (ha : adoptAll (updM st.m i (some (.arr el n out))) i (adsOf st.s ps) = some m') :
    Does P o a w (NextW S N G st w (.rf i none 0 len) m') := by
  obtain ⟨v0, e1, e2⟩ := zeroT_run (P := P) (w := w) hz
  subst hn
  have hlen : len ≤ 16777216 := Nat.le_trans (Nat.le_mul_of_pos_right len hn0) hl
  obtain ⟨cs', k1, k2, k3, _, k5⟩ := run_fillU h hf hnd hv (Flat.zero hzz len)
  have k1' : Instr.fill (fun i => some (i * z.length, z.length)) ((Array.range (len * z.length)).map (zv.toArray[· % zv.toArray.size]!)) (ps'.toList.map fun x => (x.1, a.eval x.2)) = some cs' := by simpa using k1
  have ol : out.length = len := by rw [k3]; simp
  have hrun : (execOp a.eval o).run P w = .ok (.value (.slice (some ⟨w.heap.size, 0, none⟩) len len)) (w.alloc (.cells cs' el)) := by
    simp only [execOp, ho, Instr.buildSlice, Sem.run_bind, run_underlying ht, Result.andThen_ok, sizeT_run hs]
    rw [if_neg (by omega)]
    have k2' : Instr.fill (fun i => some (i * z.length, z.length)) ((Array.range (len * z.length)).map (fun x => zv.toArray[x % zv.toArray.size]!)) (ps'.map fun x => (x.1, a.eval x.2)).toList = some cs' := by
      rw [Array.toList_map]; exact k1'
    by_cases h0 : len * z.length = 0
    · rw [if_pos h0]
      have e0 : ∀ f g : Nat → Value, (Array.range (len * z.length)).map f = (Array.range (len * z.length)).map g := fun f g => Array.ext (by simp) (fun i h1 _ => by simp [h0] at h1)
      simp only [Sem.run_bind, Sem.run_pure, Result.andThen_ok]
      rw [e0 (fun x => (#[] : Array Value)[x % (#[] : Array Value).size]!) (fun x => zv.toArray[x % zv.toArray.size]!), k2']
      simp [newRow]
    · rw [if_neg h0]
      simp only [Sem.run_bind, Sem.run_pure, Result.andThen_ok, e1, e2]
      rw [k2']
      simp [newRow]
  have hS : ∀ b, S b → (w.alloc (.cells cs' el)).heap[b]? = w.heap[b]? := fun b hb => heap_alloc_old w _ b (h.inv.old b hb)
  have inv1 : Inv S N (G.put i w.heap.size len) (updM st.m i (some (.arr el z.length out))) (w.alloc (.cells cs' el)) := by
    refine h.inv.add h.new hi (fun e' n' rows' q => by cases q; exact k2.noOwn) (fun e' n' rows' q => ?_) (fun _ q => by cases q)
    cases q
    have := k2.own (G := G.put i w.heap.size len) (i := i) (e := el) (heap_alloc_new w (.cells cs' el)) hS (by rw [ol]; simp only [maxLen]; omega)
    rw [ol] at this
    exact this
  have ext : Ext G st.m w (G.put i w.heap.size len) (updM st.m i (some (.arr el z.length out))) (w.alloc (.cells cs' el)) := Ext.add hi _ _ _ _
  have hib : (w.alloc (.cells cs' el)).heap[(G.put i w.heap.size len).blk i]? = some (.cells cs' el (0, 0)) := by simpa [Gh.put] using heap_alloc_new w (.cells cs' el)
  have led : ∀ y, wf0 st.m y → ledTo y ≠ some i := by
    intro y hy e
    cases y <;> simp only [ledTo] at e <;> try cases e
    case rf k ch lo n0 => cases ch <;> cases e; exact hy hi
    case ep k ch r c => cases ch <;> cases e; exact hy hi
  obtain ⟨G', g1, g2⟩ := adoptAll_Inv ha inv1 updM_eq hib (fun k cells hk y hy => by
    have hki : k ≠ i := fun e => by subst e; rw [updM_eq] at hk; cases hk
    rw [updM_ne hki] at hk
    exact led y (h.boxes0 k cells hk y hy)) (fun r c j hm e' st' rows' hj => by
    obtain ⟨u, u1, u2, u3⟩ := k5 r c j hm
    have hji : j ≠ i := fun e => u2 (by rw [e]; exact hi)
    rw [updM_ne hji] at hj
    rw [u1, u3 e' st' rows' hj, (Gh.put_ne hji).1, (Gh.put_ne hji).2])
  have keep : Keep G st.m G' m' := by
    refine ⟨fun k hk => ?_, fun k ch q' hk hq => ?_, fun k c' hk hq => ?_⟩
    · have hki : k ≠ i := fun e => hk (by rw [e]; exact hi)
      rcases g2.mem k hki with q | ⟨q, _⟩
      · rw [q, updM_ne hki]; exact hk
      · rw [q]; simp
    · have hki : k ≠ i := fun e => hk (by rw [e]; exact hi)
      obtain ⟨b1, b2⟩ := g2.gh k ch hki
      obtain ⟨c1, c2⟩ := ext.blkOf hk ch
      rcases g2.mem k hki with q | ⟨q, _⟩
      · rw [updM_ne hki] at q
        rw [look_ext q] at hq
        exact ⟨q', hq, rfl, by rw [b1, c1], by rw [b2, c2]⟩
      · simp [look, q] at hq
    · have hki : k ≠ i := fun e => hk (by rw [e]; exact hi)
      rcases g2.mem k hki with q | ⟨q, _⟩
      · rw [q, updM_ne hki] at hq
        refine ⟨⟨c', hq⟩, ?_⟩
        have := (g2.gh k none hki).1
        simp only [Gh.blkOf] at this
        rw [this, (Gh.put_ne hki).1]
      · rw [q] at hq; cases hq
  obtain ⟨o1, o2, e0, n0, r1, r2, o3, o4, o5⟩ := g2.own
  rw [updM_eq] at o3
  cases o3
  refine ⟨_, _, hrun, G', g1, fun x u hx hw => ⟨R.write hS keep hw hx, wf.ext keep.ne hw⟩, ?_, ?_, rfl, rfl, rfl, by simp, fun b hb _ => heap_alloc_old w _ b hb⟩
  · simp only [R, R1, R0, look_none o4, Gh.capOf, Gh.blkOf]
    exact ⟨_, len, rfl, Nat.le_refl _, by rw [o2]; simp [Gh.put], fun _ => by rw [o1]; simp [Gh.put]⟩
  · simp only [wf, wf1, wf0, o4]; simp
end
end Go.Proofs.Ytjdcohcdgdjobaa.Ev
