/- A slice of one's own that becomes a cell of another. -/
import Derived.Test.YthnkioafikmmaaaDoorEvS
namespace Go.Proofs.YthnkioafikmmaaaDoor.Ev
open Go
set_option linter.unusedVariables false
set_option linter.unusedSimpArgs false

/-- whose element's own slice does it lead to? -/
def ledTo : LV → Option Id
  | .rf i (some _) _ _ | .ep i (some _) _ _ => some i
  | _ => none
def Gh.adopt (G : Gh) (i j : Id) (r c : Nat) : Gh :=
  { G with cblk := fun k r' c' => if k = i ∧ r' = r ∧ c' = c then G.blk j else G.cblk k r' c', ccap := fun k r' c' => if k = i ∧ r' = r ∧ c' = c then G.cap j else G.ccap k r' c' }

section
variable {P : Program} {ov : Ov} {S N : Nat → Prop} {G G0 : Gh} {m : Mem} {st : St} {a : Act} {w : World}

theorem cellAt_set {rows : List (List Cell)} {row : List Cell} {r c : Nat} {x : Cell} (hr : rows[r]? = some row) (hc : c < row.length) (r' c' : Nat) :
    cellAt (rows.set r (row.set c x)) r' c' = if r' = r ∧ c' = c then some x else cellAt rows r' c' := by
  have hrl := (List.getElem?_eq_some_iff.1 hr).1
  unfold cellAt
  by_cases h1 : r' = r
  · subst h1
    rw [List.getElem?_set_self (by omega), hr]
    simp only [Option.bind_some, true_and]
    by_cases h2 : c' = c
    · subst h2; rw [List.getElem?_set_self hc, if_pos rfl]
    · rw [List.getElem?_set_ne (Ne.symm h2), if_neg h2]
  · rw [List.getElem?_set_ne (Ne.symm h1), if_neg (fun h => h1 h.1)]

theorem adopt (h : Inv S N G m w) {i j : Id} {e n r c e' st' : Nat} {rows rows' : List (List Cell)} {row : List Cell} {l : List (List Value)} (hi : m i = some (.arr e n rows)) (hj : m j = some (.arr e' st' rows')) (hij : i ≠ j)
    (hrow : rows[r]? = some row) (hcell : row[c]? = some .un) (hlow : rows' = Ev.lift l) {cs : Array Value} (hb : w.heap[G.blk i]? = some (.cells cs e (0, 0))) (hv : cs[r * n + c]? = some (.slice (some ⟨G.blk j, 0, none⟩) l.length (G.cap j)))
    (hbox : ∀ k cells, m k = some (.box cells) → ∀ y ∈ cells, ledTo y ≠ some i) :
    Inv S N (G.adopt i j r c) (updM (updM m j (some .dead)) i (some (.arr e n (rows.set r (row.set c (.sl true e' st' l)))))) w := by
  have live_i : live m (.root i) := .inr ⟨e, n, rows, hi⟩
  have live_j : live m (.root j) := .inr ⟨e', st', rows', hj⟩
  have hcl := (List.getElem?_eq_some_iff.1 hcell).1
  have mi : (updM (updM m j (some .dead)) i (some (.arr e n (rows.set r (row.set c (.sl true e' st' l)))))) i = some (.arr e n (rows.set r (row.set c (.sl true e' st' l)))) := updM_eq
  have mj : (updM (updM m j (some .dead)) i (some (.arr e n (rows.set r (row.set c (.sl true e' st' l)))))) j = some .dead := by rw [updM_ne (Ne.symm hij), updM_eq]
  have mo : ∀ k, k ≠ i → k ≠ j → (updM (updM m j (some .dead)) i (some (.arr e n (rows.set r (row.set c (.sl true e' st' l)))))) k = m k := fun k h1 h2 => by rw [updM_ne h1, updM_ne h2]
  have gc : (G.adopt i j r c).cblk i r c = G.blk j ∧ (G.adopt i j r c).ccap i r c = G.cap j := by simp [Gh.adopt]
  have go : ∀ k r' c', ¬ (k = i ∧ r' = r ∧ c' = c) → (G.adopt i j r c).cblk k r' c' = G.cblk k r' c' ∧ (G.adopt i j r c).ccap k r' c' = G.ccap k r' c' := fun k r' c' hn => by simp [Gh.adopt, hn]
  have gb : ∀ k, (G.adopt i j r c).blk k = G.blk k ∧ (G.adopt i j r c).cap k = G.cap k := fun k => ⟨rfl, rfl⟩
  generalize hm' : updM (updM m j (some .dead)) i (some (.arr e n (rows.set r (row.set c (.sl true e' st' l))))) = m' at mi mj mo ⊢
  generalize hG' : G.adopt i j r c = G' at gc go gb ⊢
  -- what lives there, lived here
  have back : ∀ p, live m' p → ∃ q, live m q ∧ G'.at p = G.at q ∧ ((p = .chld i r c ∧ q = .root j) ∨ (p = q ∧ q ≠ .root j)) := by
    intro p hp
    cases p with
    | root k =>
      have hkj : k ≠ j := fun e => by subst e; rcases hp with ⟨_, q⟩ | ⟨_, _, _, q⟩ <;> rw [mj] at q <;> cases q
      refine ⟨.root k, ?_, (gb k).1, .inr ⟨rfl, fun e => by cases e; exact hkj rfl⟩⟩
      by_cases hki : k = i
      · subst hki; exact live_i
      · simp only [live] at hp ⊢; rw [mo k hki hkj] at hp; exact hp
    | chld k r' c' =>
      obtain ⟨e0, n0, rows0, row0, e1, n1, l1, q1, q2, q3⟩ := hp
      by_cases hki : k = i
      · subst hki
        rw [mi] at q1
        cases q1
        have hca : cellAt (rows.set r (row.set c (.sl true e' st' l))) r' c' = some (.sl true e1 n1 l1) := by simp [cellAt, q2, q3]
        rw [cellAt_set hrow hcl] at hca
        by_cases hrc : r' = r ∧ c' = c
        · obtain ⟨rfl, rfl⟩ := hrc
          exact ⟨.root j, live_j, gc.1, .inl ⟨rfl, rfl⟩⟩
        · rw [if_neg hrc] at hca
          simp only [cellAt, Option.bind_eq_some_iff] at hca
          obtain ⟨row2, t1, t2⟩ := hca
          exact ⟨.chld k r' c', ⟨_, _, rows, row2, e1, n1, l1, hi, t1, t2⟩, (go k r' c' (fun hx => hrc hx.2)).1, .inr ⟨rfl, fun e => by cases e⟩⟩
      · have hkj : k ≠ j := fun e => by subst e; rw [mj] at q1; cases q1
        rw [mo k hki hkj] at q1
        exact ⟨.chld k r' c', ⟨e0, n0, rows0, row0, e1, n1, l1, q1, q2, q3⟩, (go k r' c' (fun hx => hki hx.1)).1, .inr ⟨rfl, fun e => by cases e⟩⟩
  have ne' : ∀ k, m k ≠ none → m' k ≠ none := by
    intro k hk
    by_cases h1 : k = i
    · subst h1; rw [mi]; simp
    · by_cases h2 : k = j
      · subst h2; rw [mj]; simp
      · rw [mo k h1 h2]; exact hk
  have r0 : ∀ y u, R0 G S m w y u → ledTo y ≠ some i → R0 G' S m' w y u := by
    intro y u hy hl
    have blkOf : ∀ k ch, (ch = none ∨ k ≠ i) → G'.blkOf k ch = G.blkOf k ch ∧ G'.capOf k ch = G.capOf k ch := by
      intro k ch hk
      cases ch with
      | none => exact gb k
      | some rc => exact go k rc.1 rc.2 (fun hx => (hk.resolve_left (by simp)) hx.1)
    have lk : ∀ k ch, (ch = none ∨ k ≠ i) → k ≠ j → (∃ q, look m k ch = some q) → ∃ q q', look m k ch = some q ∧ look m' k ch = some q' ∧ q.2.1 = q'.2.1 := by
      intro k ch hk hkj hq
      obtain ⟨q, hq⟩ := hq
      by_cases hki : k = i
      · subst hki
        have hch := hk.resolve_right (fun hx => hx rfl)
        subst hch
        exact ⟨_, _, look_none hi, look_none mi, rfl⟩
      · exact ⟨q, q, hq, by rw [look_ext (mo k hki hkj)]; exact hq, rfl⟩
    have lkn : ∀ k ch, (ch = none ∨ k ≠ i) → k ≠ j → look m k ch = none → look m' k ch = none := by
      intro k ch hk hkj hq
      by_cases hki : k = i
      · subst hki
        have hch := hk.resolve_right (fun hx => hx rfl)
        subst hch
        rw [look_none hi] at hq; cases hq
      · rw [look_ext (mo k hki hkj)]; exact hq
    cases y <;> try exact hy
    case rf k ch lo n0 =>
      have hk : ch = none ∨ k ≠ i := by
        cases ch with
        | none => exact .inl rfl
        | some rc => exact .inr fun e => hl (by rw [e]; rfl)
      by_cases h2 : k = j
      · subst h2
        simp only [R0, look, mj]
        exact R0_one hy (by simp)
      · cases hq : look m k ch with
        | none => simp only [R0, hq, lkn k ch hk h2 hq] at hy ⊢; exact hy
        | some q =>
          obtain ⟨q1, q2, t1, t2, t3⟩ := lk k ch hk h2 ⟨q, hq⟩
          obtain ⟨a1, b1, c1⟩ := q1
          obtain ⟨a2, b2, c2⟩ := q2
          simp only at t3
          subst t3
          simp only [R0, t1, t2] at hy ⊢
          rw [(blkOf k ch hk).1, (blkOf k ch hk).2]; exact hy
    case bp k off =>
      by_cases h2 : k = j
      · subst h2
        simp only [R0, mj]
        exact R0_one hy (by simp)
      · by_cases hk : k = i
        · subst hk
          simp only [R0, mi]
          exact R0_one hy (by simp)
        · simp only [R0] at hy ⊢
          rw [mo k hk h2, (gb k).1]; exact hy
    case ep k ch r' c' =>
      have hk : ch = none ∨ k ≠ i := by
        cases ch with
        | none => exact .inl rfl
        | some rc => exact .inr fun e => hl (by rw [e]; rfl)
      by_cases h2 : k = j
      · subst h2
        simp only [R0, look, mj]
        exact R0_one hy (by simp)
      · cases hq : look m k ch with
        | none => simp only [R0, hq, lkn k ch hk h2 hq] at hy ⊢; exact hy
        | some q =>
          obtain ⟨q1, q2, t1, t2, t3⟩ := lk k ch hk h2 ⟨q, hq⟩
          obtain ⟨a1, b1, c1⟩ := q1
          obtain ⟨a2, b2, c2⟩ := q2
          simp only at t3
          subst t3
          simp only [R0, t1, t2] at hy ⊢
          rw [(blkOf k ch hk).1]; exact hy
  refine ⟨fun k e2 n2 rows2 hk => ?_, fun k cells hk => ?_, fun p q hp hq he => ?_, fun p hp => ?_, h.old⟩
  · by_cases h1 : k = i
    · subst h1
      rw [mi] at hk
      cases hk
      rw [(gb k).1, (gb k).2]
      obtain ⟨cs0, k1, k2, k3, k4, k5⟩ := h.arr k e n rows hi
      rw [hb] at k1
      cases k1
      refine ⟨cs, hb, k2, by simpa using k3, k4, fun r' row' hr' => ?_⟩
      have hlen : row'.length = n ∧ True := by
        by_cases hrr : r' = r
        · subst hrr
          rw [List.getElem?_set_self ((List.getElem?_eq_some_iff.1 hrow).1)] at hr'
          cases hr'
          exact ⟨by rw [List.length_set]; exact (k5 r' row hrow).1, trivial⟩
        · rw [List.getElem?_set_ne (Ne.symm hrr)] at hr'
          exact ⟨(k5 r' row' hr').1, trivial⟩
      refine ⟨hlen.1, fun c' x hx => ?_⟩
      have hca : cellAt (rows.set r (row.set c (.sl true e' st' l))) r' c' = some x := by simp [cellAt, hr', hx]
      rw [cellAt_set hrow hcl] at hca
      by_cases hrc : r' = r ∧ c' = c
      · obtain ⟨rfl, rfl⟩ := hrc
        rw [if_pos ⟨rfl, rfl⟩] at hca
        cases hca
        refine ⟨_, hv, by rw [gc.1, gc.2], ?_⟩
        rw [gc.1, gc.2]
        obtain ⟨cs1, q1, q2, q3, q4, q5⟩ := h.arr j e' st' rows' hj
        subst hlow
        refine ⟨cs1, q1, q2, by simpa [Ev.lift] using q3, q4, fun r2 vs hr2 => ?_⟩
        obtain ⟨g1, g2⟩ := q5 r2 (vs.map Cell.sc) (by simp [Ev.lift, hr2])
        refine ⟨by simpa using g1, fun k2 v hv2 => ?_⟩
        obtain ⟨u, u1, u2⟩ := g2 k2 (.sc v) (by simp [hv2])
        exact ⟨u, u1, u2⟩
      · rw [if_neg hrc] at hca
        simp only [cellAt, Option.bind_eq_some_iff] at hca
        obtain ⟨row2, t1, t2⟩ := hca
        obtain ⟨u, u1, u2⟩ := (k5 r' row2 t1).2 c' x t2
        refine ⟨u, u1, ?_⟩
        obtain ⟨g1, g2⟩ := go k r' c' (fun hx => hrc hx.2)
        exact OwC.mono u2 ⟨g1, g2⟩ (fun _ _ => rfl) (fun _ _ _ _ => rfl)
    · have h2 : k ≠ j := fun e => by subst e; rw [mj] at hk; cases hk
      rw [mo k h1 h2] at hk
      rw [(gb k).1, (gb k).2]
      exact OwG.mono (h.arr k e2 n2 rows2 hk) rfl fun r' c' row' x u _ _ ho => OwC.mono ho (go k r' c' (fun hx => h1 hx.1)) (fun _ _ => rfl) (fun _ _ _ _ => rfl)
  · have h1 : k ≠ i := fun e => by subst e; rw [mi] at hk; cases hk
    have h2 : k ≠ j := fun e => by subst e; rw [mj] at hk; cases hk
    rw [mo k h1 h2] at hk
    obtain ⟨cs0, e0, k1, k2⟩ := h.box k cells hk
    exact ⟨cs0, e0, by rw [(gb k).1]; exact k1, k2.mono fun y u hy hx => ⟨r0 y u hx.1 (hbox k cells hk y hy), hx.2.1, wf0.ext ne' hx.2.2⟩⟩
  · obtain ⟨p', p1, p2, p3⟩ := back p hp
    obtain ⟨q', q1, q2, q3⟩ := back q hq
    have := h.inj p' q' p1 q1 (by rw [← p2, ← q2, he])
    subst this
    rcases p3 with ⟨rfl, rfl⟩ | ⟨rfl, p4⟩ <;> rcases q3 with ⟨rfl, e1⟩ | ⟨rfl, q4⟩
    · rfl
    · exact absurd rfl q4
    · exact absurd e1 p4
    · rfl
  · obtain ⟨p', p1, p2, _⟩ := back p hp
    rw [p2]
    exact h.sep p' p1

/-- slices of one's own become cells of i, one by one: (r, c, j): j becomes the cell c of the row r -/
def adoptAll : Mem → Id → List (Nat × Nat × Id) → Option Mem
  | m, _, [] => some m
  | m, i, (r, c, j) :: l =>
    match m i, m j with
    | some (.arr e n rows), some (.arr e' st' rows') =>
      match rows[r]?, low rows' with
      | some row, some vs =>
        match row[c]? with
        | some .un => if i ≠ j then adoptAll (updM (updM m j (some .dead)) i (some (.arr e n (rows.set r (row.set c (.sl true e' st' vs)))))) i l else none
        | _ => none
      | _, _ => none
    | _, _ => none

/-- all but i is as it was, or dead -/
structure KeepI (i : Id) (G : Gh) (m : Mem) (G' : Gh) (m' : Mem) : Prop where
  mem : ∀ k, k ≠ i → m' k = m k ∨ (m' k = some .dead ∧ m k ≠ none)
  gh : ∀ k ch, k ≠ i → G'.blkOf k ch = G.blkOf k ch ∧ G'.capOf k ch = G.capOf k ch
  own : G'.blk i = G.blk i ∧ G'.cap i = G.cap i ∧ ∃ e n rows rows', m i = some (.arr e n rows) ∧ m' i = some (.arr e n rows') ∧ rows'.length = rows.length

theorem adoptAll_Inv {i : Id} {e n : Nat} {cs : Array Value} : ∀ {l : List (Nat × Nat × Id)} {G : Gh} {m m' : Mem} {rows : List (List Cell)}, adoptAll m i l = some m' → Inv S N G m w → m i = some (.arr e n rows) → w.heap[G.blk i]? = some (.cells cs e (0, 0)) →
    (∀ k cells, m k = some (.box cells) → ∀ y ∈ cells, ledTo y ≠ some i) →
    (∀ r c j, (r, c, j) ∈ l → ∀ e' st' rows', m j = some (.arr e' st' rows') → cs[r * n + c]? = some (.slice (some ⟨G.blk j, 0, none⟩) rows'.length (G.cap j))) →
    ∃ G', Inv S N G' m' w ∧ KeepI i G m G' m' := by
  intro l
  induction l with
  | nil =>
    intro G m m' rows ha h hi _ _ _
    cases ha
    exact ⟨G, h, fun k _ => .inl rfl, fun k ch _ => ⟨rfl, rfl⟩, rfl, rfl, e, n, rows, rows, hi, hi, rfl⟩
  | cons p l ih =>
    intro G m m' rows ha h hi hb hbox hf
    obtain ⟨r, c, j⟩ := p
    simp only [adoptAll, hi] at ha
    split at ha
    case h_2 => cases ha
    rename_i e1 n1 rows1 e' st' rows' q1 hj
    cases q1
    split at ha
    case h_2 => cases ha
    rename_i row vs hrow hlow
    split at ha
    case h_2 => cases ha
    rename_i hcell
    split at ha
    case isFalse => cases ha
    rename_i hij
    have hlift := low_get hlow
    have hlen : rows'.length = vs.length := by rw [hlift]; simp [Ev.lift]
    have hv := hf r c j (by simp) e' st' rows' hj
    rw [hlen] at hv
    have h1 := adopt h hi hj hij hrow hcell hlift hb hv hbox
    have mi : (updM (updM m j (some .dead)) i (some (.arr e n (rows.set r (row.set c (.sl true e' st' vs)))))) i = some (.arr e n (rows.set r (row.set c (.sl true e' st' vs)))) := updM_eq
    have mj : (updM (updM m j (some .dead)) i (some (.arr e n (rows.set r (row.set c (.sl true e' st' vs)))))) j = some .dead := by rw [updM_ne (Ne.symm hij), updM_eq]
    have mo : ∀ k, k ≠ i → k ≠ j → (updM (updM m j (some .dead)) i (some (.arr e n (rows.set r (row.set c (.sl true e' st' vs)))))) k = m k := fun k h1 h2 => by rw [updM_ne h1, updM_ne h2]
    obtain ⟨G', g1, g2⟩ := ih ha h1 mi hb (fun k cells hk => by
      have k1 : k ≠ i := fun e => by subst e; rw [mi] at hk; cases hk
      have k2 : k ≠ j := fun e => by subst e; rw [mj] at hk; cases hk
      rw [mo k k1 k2] at hk
      exact hbox k cells hk) (fun r2 c2 j2 hm e2 st2 rows2 hj2 => by
      have k2 : j2 ≠ j := fun e => by subst e; rw [mj] at hj2; cases hj2
      by_cases k1 : j2 = i
      · subst k1
        rw [mi] at hj2
        cases hj2
        have := hf r2 c2 j2 (by simp [hm]) e n rows hi
        simpa [Gh.adopt] using this
      · rw [mo j2 k1 k2] at hj2
        exact hf r2 c2 j2 (by simp [hm]) e2 st2 rows2 hj2)
    refine ⟨G', g1, fun k hk => ?_, fun k ch hk => ?_, ?_⟩
    · rcases g2.mem k hk with q | ⟨q, q'⟩
      · by_cases hkj : k = j
        · subst hkj; rw [mj] at q; exact .inr ⟨q, by rw [hj]; simp⟩
        · rw [mo k hk hkj] at q; exact .inl q
      · by_cases hkj : k = j
        · subst hkj; exact .inr ⟨q, by rw [hj]; simp⟩
        · rw [mo k hk hkj] at q'; exact .inr ⟨q, q'⟩
    · obtain ⟨q1, q2⟩ := g2.gh k ch hk
      rw [q1, q2]
      cases ch with
      | none => exact ⟨rfl, rfl⟩
      | some rc => simp [Gh.blkOf, Gh.capOf, Gh.adopt, hk]
    · obtain ⟨q1, q2, e0, n0, r1, r2, q3, q4, q5⟩ := g2.own
      rw [mi] at q3
      cases q3
      exact ⟨q1, q2, e, n, rows, r2, hi, q4, by rw [q5]; simp⟩

/-! ### a row laid with slices of one's own in it -/
def toCellU (m : Mem) : LV → Option Cell
  | .rf i none lo k => match m i with | some (.arr _ _ rows) => if lo = 0 ∧ k = rows.length then some .un else none | _ => none
  | v => toCell v
def fillU (m : Mem) (s : Nat → LV) (st : Nat) : List (List Cell) → List (Nat × Opd) → Option (List (List Cell))
  | rows, [] => some rows
  | rows, (i, x) :: l =>
    match unpack (opd s x) with
    | some vs =>
      match vs.mapM (toCellU m) with
      | some row => if row.length = st ∧ i < rows.length then fillU m s st (rows.set i row) l else none
      | none => none
    | none => none
def adsV (r : Nat) : Nat → List LV → List (Nat × Nat × Id)
  | _, [] => []
  | c, .rf j none _ _ :: l => (r, c, j) :: adsV r (c + 1) l
  | c, _ :: l => adsV r (c + 1) l
def adsOf (s : Nat → LV) : List (Nat × Opd) → List (Nat × Nat × Id)
  | [] => []
  | (i, x) :: l => (match unpack (opd s x) with | some vs => adsV i 0 vs | none => []) ++ adsOf s l

theorem toCellU_R {v : LV} {x : Cell} {u : Value} (hx : toCellU m v = some x) (h : R0 G S m w v u) : noOwn x = true ∧ RdC S w x u := by
  unfold toCellU at hx
  split at hx
  · split at hx
    · split at hx
      · cases hx; exact ⟨rfl, trivial⟩
      · cases hx
    · cases hx
  · exact toCell_R hx h

theorem adsV_mem {r : Nat} : ∀ {vs : List LV} {c0 : Nat} {q : Nat × Nat × Id}, q ∈ adsV r c0 vs → q.1 = r ∧ c0 ≤ q.2.1 ∧ ∃ lo k, vs[q.2.1 - c0]? = some (.rf q.2.2 none lo k) := by
  intro vs
  induction vs with
  | nil => intro c0 q h; simp [adsV] at h
  | cons v vs ih =>
    intro c0 q h
    have later : q ∈ adsV r (c0 + 1) vs → q.1 = r ∧ c0 ≤ q.2.1 ∧ ∃ lo k, (v :: vs)[q.2.1 - c0]? = some (.rf q.2.2 none lo k) := by
      intro h
      obtain ⟨h1, h2, lo, k, h3⟩ := ih h
      refine ⟨h1, by omega, lo, k, ?_⟩
      rw [show q.2.1 - c0 = (q.2.1 - (c0 + 1)) + 1 from by omega, List.getElem?_cons_succ]
      exact h3
    cases v <;> try exact later h
    case rf j ch lo k =>
      cases ch with
      | some _ => exact later h
      | none =>
        simp only [adsV, List.mem_cons] at h
        rcases h with rfl | h
        · exact ⟨rfl, Nat.le_refl _, lo, k, by simp⟩
        · exact later h

theorem Flat.setU {n : Nat} {rows : List (List Cell)} {cs vc : Array Value} {f : LV → Option Cell} (hf : ∀ v x u, f v = some x → R0 G S m w v u → Ev.noOwn x = true ∧ RdC S w x u) (h : Flat S w n rows cs) {vs : List LV} (hv : RL (R0 G S m w) vs vc) {row : List Cell}
    (hr : vs.mapM f = some row) (hl : row.length = n) {i : Nat} (hi : i < rows.length) :
    vc.size = n ∧ i * n + vc.size ≤ cs.size ∧ Flat S w n (rows.set i row) (vc.zipIdx.foldl (fun cs (c, j) => cs.setIfInBounds (i * n + j) c) cs) ∧
      (∀ q : Nat, (vc.zipIdx.foldl (fun cs (c, j) => cs.setIfInBounds (i * n + j) c) cs)[q]? = if i * n ≤ q ∧ q < i * n + n then vc[q - i * n]? else cs[q]?) := by
  obtain ⟨g1, g2⟩ := mapM_get hr
  have hvc : vc.size = n := by rw [hv.1, ← g1, hl]
  have hle : i * n + n ≤ cs.size := by
    have : (i + 1) * n ≤ rows.length * n := Nat.mul_le_mul_right n hi
    rw [Nat.add_mul, Nat.one_mul] at this
    rw [h.1]; exact this
  have ef : vc.zipIdx.foldl (fun cs (c, j) => cs.setIfInBounds (i * n + j) c) cs = (vc.toList.zipIdx 0).foldl (fun cs (c, j) => cs.setIfInBounds (i * n + j) c) cs := by
    rw [← Array.foldl_toList, Array.toList_zipIdx]
  obtain ⟨f1, f2⟩ := foldl_set cs (i * n) vc.toList 0 (by simp; omega) cs rfl
  have f3 : ∀ q : Nat, ((vc.toList.zipIdx 0).foldl (fun cs (c, j) => cs.setIfInBounds (i * n + j) c) cs)[q]? = if i * n ≤ q ∧ q < i * n + n then vc[q - i * n]? else cs[q]? := by
    intro q
    rw [f2 q]
    simp only [Nat.add_zero, Array.length_toList, hvc, Array.getElem?_toList]
  rw [ef]
  refine ⟨hvc, by omega, ⟨by rw [f1, h.1]; simp, fun r row' hr' => ?_⟩, f3⟩
  by_cases hir : r = i
  · subst hir
    rw [List.getElem?_set_self hi] at hr'
    cases hr'
    refine ⟨hl, fun k x hk => ?_⟩
    have hkn : k < n := by have := (List.getElem?_eq_some_iff.1 hk).1; omega
    obtain ⟨y, y1, y2⟩ := g2 k x hk
    obtain ⟨u, u1, u2⟩ := hv.2 k y y1
    obtain ⟨t1, t2⟩ := hf y x u y2 u2
    refine ⟨t1, u, ?_, t2⟩
    rw [f3, if_pos (by omega), show r * n + k - r * n = k from by omega]
    exact u1
  · rw [List.getElem?_set_ne (Ne.symm hir)] at hr'
    obtain ⟨k1, k2⟩ := h.2 r row' hr'
    refine ⟨k1, fun k x hk => ?_⟩
    obtain ⟨t1, u, t2, t3⟩ := k2 k x hk
    refine ⟨t1, u, ?_, t3⟩
    have hkn : k < n := by have := (List.getElem?_eq_some_iff.1 hk).1; omega
    rw [f3, if_neg ?_]
    · exact t2
    · intro ⟨q1, q2⟩
      have : r * n + k = i * n + (r * n + k - i * n) := by omega
      exact hir (mul_lt_add this hkn (by omega)).1

theorem SR.boxes0 (h : SR ov S N G st a w) : ∀ i cells, st.m i = some (.box cells) → ∀ x ∈ cells, wf0 st.m x := by
  intro i cells hi x hx
  obtain ⟨cs, e, _, q⟩ := h.inv.box i cells hi
  obtain ⟨k, hk⟩ := List.getElem?_of_mem hx
  obtain ⟨u, _, hu⟩ := q.2 k x hk
  exact hu.2.2

/-- the value of a root that is moved -/
def RootV (G : Gh) (m : Mem) (j : Id) (u : Value) : Prop := m j ≠ none ∧ ∀ e n rows, m j = some (.arr e n rows) → u = .slice (some ⟨G.blk j, 0, none⟩) rows.length (G.cap j)
theorem rootV_of {v : LV} {x : Cell} {u : Value} {j : Id} {lo k : Nat} (hv : v = .rf j none lo k) (hx : toCellU m v = some x) (h : R0 G S m w v u) : RootV G m j u := by
  subst hv
  refine ⟨fun hn => (by simp only [toCellU, hn] at hx; cases hx), ?_⟩
  intro e n rows hj
  simp only [toCellU, hj] at hx
  split at hx
  · rename_i hc
    obtain ⟨rfl, rfl⟩ := hc
    simp only [R0, look_none hj, Gh.capOf, Gh.blkOf] at h
    obtain ⟨A, c, rfl, h1, h2, h3⟩ := h
    have h4 := h3 (.inr trivial)
    simp only [Nat.zero_mul] at h4
    subst h4
    rw [Nat.zero_add] at h2
    rw [h2]
  · cases hx

theorem run_fillU (h : SR ov S N G st a w) {n : Nat} : ∀ {ps : List (Nat × Opd)} {ps' : List (Nat × Operand)} {rows out : List (List Cell)} {cs : Array Value},
    fPs ps ps' = true → (ps.map (·.1)).Nodup → fillU st.m st.s n rows ps = some out → Flat S w n rows cs →
    ∃ cs', Instr.fill (fun i => some (i * n, n)) cs (ps'.map fun (i, x) => (i, a.eval x)) = some cs' ∧ Flat S w n out cs' ∧ out.length = rows.length ∧
      (∀ q : Nat, (∀ i ∈ ps.map (·.1), ¬ (i * n ≤ q ∧ q < i * n + n)) → cs'[q]? = cs[q]?) ∧
      ∀ r c j, (r, c, j) ∈ adsOf st.s ps → ∃ u, cs'[r * n + c]? = some u ∧ RootV G st.m j u := by
  intro ps
  induction ps with
  | nil =>
    intro ps' rows out cs hf _ hv hr
    cases ps' with
    | nil => cases hv; exact ⟨cs, rfl, hr, rfl, fun _ _ => rfl, fun r c j hm => by simp [adsOf] at hm⟩
    | cons _ _ => simp [fPs] at hf
  | cons p ps ih =>
    intro ps' rows out cs hf hnd hv hr
    obtain ⟨i, x⟩ := p
    cases ps' with
    | nil => simp [fPs] at hf
    | cons p' ps' =>
      obtain ⟨i', x'⟩ := p'
      simp only [fPs, Bool.and_eq_true, beq_iff_eq] at hf
      obtain ⟨⟨rfl, f2⟩, f3⟩ := hf
      simp only [List.map_cons, List.nodup_cons] at hnd
      obtain ⟨r1, r2⟩ := h.opd f2
      simp only [fillU] at hv
      cases hu : unpack (opd st.s x) with
      | none => rw [hu] at hv; cases hv
      | some vs =>
        rw [hu] at hv
        simp only [] at hv
        cases hm : vs.mapM (toCellU st.m) with
        | none => rw [hm] at hv; cases hv
        | some row =>
          rw [hm] at hv
          simp only [] at hv
          split at hv
          case isFalse => cases hv
          rename_i hc
          obtain ⟨q1, q2⟩ := unpack_R hu r1 r2
          obtain ⟨g0, g1, g2, g3⟩ := Flat.setU (f := toCellU st.m) (fun v x u hx hr => toCellU_R hx hr) hr q1 hm hc.1 hc.2
          obtain ⟨cs', k1, k2, k3, k4, k5⟩ := ih f3 hnd.2 hv g2
          refine ⟨cs', ?_, k2, by rw [k3]; simp, fun q hq => ?_, fun r c j hmem => ?_⟩
          · simp only [List.map_cons, Instr.fill]
            rw [if_neg (by simp [g0]; omega)]
            exact k1
          · rw [k4 q (fun i' hi' => hq i' (by simp [hi'])), g3 q, if_neg (hq i (by simp))]
          · simp only [adsOf, hu, List.mem_append] at hmem
            rcases hmem with hmem | hmem
            · obtain ⟨e1, _, lo, k, hvk⟩ := adsV_mem hmem
              simp only at e1 hvk
              subst e1
              rw [Nat.sub_zero] at hvk
              obtain ⟨u, u1, u2⟩ := q1.2 c _ hvk
              have hcn : c < n := by
                have := (Array.getElem?_eq_some_iff.1 u1).1
                rw [g0] at this; exact this
              refine ⟨u, ?_, ?_⟩
              · rw [k4 _ (fun i' hi' hh => ?_), g3, if_pos (by omega), show r * n + c - r * n = c from by omega]
                · exact u1
                · have e2 : r * n + c = i' * n + (r * n + c - i' * n) := by omega
                  have := (mul_lt_add e2 hcn (by omega)).1
                  subst this
                  exact hnd.1 hi'
              · have hlen := (List.getElem?_eq_some_iff.1 hvk).1
                obtain ⟨m1, m2⟩ := mapM_get hm
                obtain ⟨y, y1, y2⟩ := m2 c (row[c]'(by rw [m1]; exact hlen)) (List.getElem?_eq_getElem _)
                rw [hvk] at y1
                cases y1
                exact rootV_of rfl y2 u2
            · exact k5 r c j hmem

theorem do_bsU (h : SR ov S N G st a w) {t el : TypeId} {n len : Nat} {z : List Cell} {zv : List Value} {ps : List (Nat × Opd)} {ps' : Array (Nat × Operand)} {o : Oper} (ho : o.op = .buildSlice t len ps')
    (ht : P.underlying t = some (.slice el)) (hs : sizeT P el = some n) (hz : zeroT P el = some zv) (hzz : fZC z zv = true) (hn : z.length = n) (hf : fPs ps ps'.toList = true) (hl : len * n ≤ 16777216) (hn0 : 0 < n) (hnd : (ps.map (·.1)).Nodup)
    {out : List (List Cell)} (hv : fillU st.m st.s n (List.replicate len z) ps = some out) {i : Id} (hi : st.m i = none) {m' : Mem} (ha : adoptAll (updM st.m i (some (.arr el n out))) i (adsOf st.s ps) = some m') :
    Does P o a w (NextW S N G st w (.rf i none 0 len) m') := by
  obtain ⟨v0, e1, e2⟩ := zeroT_run (P := P) (w := w) hz
  subst hn
  have hlen : len ≤ 16777216 := Nat.le_trans (Nat.le_mul_of_pos_right len hn0) hl
  obtain ⟨cs', k1, k2, k3, _, k5⟩ := run_fillU h hf hnd hv (Flat.zero hzz len)
  have k1' : Instr.fill (fun i => some (i * z.length, z.length)) ((Array.range (len * z.length)).map (zv.toArray[· % zv.toArray.size]!)) (ps'.toList.map fun x => (x.1, a.eval x.2)) = some cs' := by simpa using k1
  have ol : out.length = len := by rw [k3]; simp
  have hrun : (execOp a.eval o).run P w = .ok (.value (.slice (some ⟨w.heap.size, 0, none⟩) len len)) (w.alloc (.cells cs' el)) := by
    simp only [execOp, ho, Instr.buildSlice, Sem.run_bind, run_underlying ht, Result.andThen_ok, sizeT_run hs]
    rw [if_neg (by omega)]
    have k2' : Instr.fill (fun i => some (i * z.length, z.length)) ((Array.range (len * z.length)).map (fun x => zv.toArray[x % zv.toArray.size]!)) (ps'.map fun x => (x.1, a.eval x.2)).toList = some cs' := by
      rw [Array.toList_map]; exact k1'
    by_cases h0 : len * z.length = 0
    · rw [if_pos h0]
      have e0 : ∀ f g : Nat → Value, (Array.range (len * z.length)).map f = (Array.range (len * z.length)).map g := fun f g => Array.ext (by simp) (fun i h1 _ => by simp [h0] at h1)
      simp only [Sem.run_bind, Sem.run_pure, Result.andThen_ok]
      rw [e0 (fun x => (#[] : Array Value)[x % (#[] : Array Value).size]!) (fun x => zv.toArray[x % zv.toArray.size]!), k2']
      simp [newRow]
    · rw [if_neg h0]
      simp only [Sem.run_bind, Sem.run_pure, Result.andThen_ok, e1, e2]
      rw [k2']
      simp [newRow]
  have hS : ∀ b, S b → (w.alloc (.cells cs' el)).heap[b]? = w.heap[b]? := fun b hb => heap_alloc_old w _ b (h.inv.old b hb)
  have inv1 : Inv S N (G.put i w.heap.size len) (updM st.m i (some (.arr el z.length out))) (w.alloc (.cells cs' el)) := by
    refine h.inv.add h.new hi (fun e' n' rows' q => by cases q; exact k2.noOwn) (fun e' n' rows' q => ?_) (fun _ q => by cases q)
    cases q
    have := k2.own (G := G.put i w.heap.size len) (i := i) (e := el) (heap_alloc_new w (.cells cs' el)) hS (by rw [ol]; simp only [maxLen]; omega)
    rw [ol] at this
    exact this
  have ext : Ext G st.m w (G.put i w.heap.size len) (updM st.m i (some (.arr el z.length out))) (w.alloc (.cells cs' el)) := Ext.add hi _ _ _ _
  have hib : (w.alloc (.cells cs' el)).heap[(G.put i w.heap.size len).blk i]? = some (.cells cs' el (0, 0)) := by simpa [Gh.put] using heap_alloc_new w (.cells cs' el)
  have led : ∀ y, wf0 st.m y → ledTo y ≠ some i := by
    intro y hy e
    cases y <;> simp only [ledTo] at e <;> try cases e
    case rf k ch lo n0 => cases ch <;> cases e; exact hy hi
    case ep k ch r c => cases ch <;> cases e; exact hy hi
  obtain ⟨G', g1, g2⟩ := adoptAll_Inv ha inv1 updM_eq hib (fun k cells hk y hy => by
    have hki : k ≠ i := fun e => by subst e; rw [updM_eq] at hk; cases hk
    rw [updM_ne hki] at hk
    exact led y (h.boxes0 k cells hk y hy)) (fun r c j hm e' st' rows' hj => by
    obtain ⟨u, u1, u2, u3⟩ := k5 r c j hm
    have hji : j ≠ i := fun e => u2 (by rw [e]; exact hi)
    rw [updM_ne hji] at hj
    rw [u1, u3 e' st' rows' hj, (Gh.put_ne hji).1, (Gh.put_ne hji).2])
  have keep : Keep G st.m G' m' := by
    refine ⟨fun k hk => ?_, fun k ch q' hk hq => ?_, fun k c' hk hq => ?_⟩
    · have hki : k ≠ i := fun e => hk (by rw [e]; exact hi)
      rcases g2.mem k hki with q | ⟨q, _⟩
      · rw [q, updM_ne hki]; exact hk
      · rw [q]; simp
    · have hki : k ≠ i := fun e => hk (by rw [e]; exact hi)
      obtain ⟨b1, b2⟩ := g2.gh k ch hki
      obtain ⟨c1, c2⟩ := ext.blkOf hk ch
      rcases g2.mem k hki with q | ⟨q, _⟩
      · rw [updM_ne hki] at q
        rw [look_ext q] at hq
        exact ⟨q', hq, rfl, by rw [b1, c1], by rw [b2, c2]⟩
      · simp [look, q] at hq
    · have hki : k ≠ i := fun e => hk (by rw [e]; exact hi)
      rcases g2.mem k hki with q | ⟨q, _⟩
      · rw [q, updM_ne hki] at hq
        refine ⟨⟨c', hq⟩, ?_⟩
        have := (g2.gh k none hki).1
        simp only [Gh.blkOf] at this
        rw [this, (Gh.put_ne hki).1]
      · rw [q] at hq; cases hq
  obtain ⟨o1, o2, e0, n0, r1, r2, o3, o4, o5⟩ := g2.own
  rw [updM_eq] at o3
  cases o3
  refine ⟨_, _, hrun, G', g1, fun x u hx hw => ⟨R.write hS keep hw hx, wf.ext keep.ne hw⟩, ?_, ?_, rfl, rfl, rfl, by simp, fun b hb _ => heap_alloc_old w _ b hb⟩
  · simp only [R, R1, R0, look_none o4, Gh.capOf, Gh.blkOf]
    exact ⟨_, len, rfl, Nat.le_refl _, by rw [o2]; simp [Gh.put], fun _ => by rw [o1]; simp [Gh.put]⟩
  · simp only [wf, wf1, wf0, o4]; simp
end
end Go.Proofs.YthnkioafikmmaaaDoor.Ev

namespace Go.Proofs.YthnkioafikmmaaaDoor.Ev
open Go
set_option linter.unusedVariables false
set_option linter.unusedSimpArgs false

/-! ways into an element's own memory are forgotten -/
def fgt1 (i : Id) : LV → LV
  | .ag vs => .ag (vs.map (fgt0 i))
  | .cl f vs => .cl f (vs.map (fgt0 i))
  | v => fgt0 i v
def fgt2 (i : Id) : LV → LV
  | .tu vs => .tu (vs.map (fgt1 i))
  | v => fgt1 i v
def fgtT (i : Id) : Option Thing → Option Thing
  | some (.box cells) => if (cells.any fun y => decide (ledTo y = some i)) = true then some .dead else some (.box cells)
  | x => x
def fgtM (i : Id) (m : Mem) : Mem := fun k => fgtT i (m k)

section
variable {P : Program} {ov : Ov} {S N : Nat → Prop} {G G0 : Gh} {m : Mem} {st : St} {a : Act} {w : World}

theorem fgtT_none {i : Id} {x : Option Thing} : fgtT i x = none ↔ x = none := by
  cases x with
  | none => simp [fgtT]
  | some t =>
    cases t with
    | box cells => simp only [fgtT]; split <;> simp
    | _ => simp [fgtT]
theorem fgtM_ne {i k : Id} (h : m k ≠ none) : fgtM i m k ≠ none := fun e => h (fgtT_none.1 e)
theorem fgtM_arr {i k : Id} {e n : Nat} {rows : List (List Cell)} : fgtM i m k = some (.arr e n rows) ↔ m k = some (.arr e n rows) := by
  unfold fgtM
  cases hm : m k with
  | none => simp [fgtT]
  | some t =>
    cases t with
    | box cells => simp only [fgtT]; split <;> simp
    | _ => simp [fgtT]
theorem fgtM_box {i k : Id} {cells : List LV} (h : fgtM i m k = some (.box cells)) : m k = some (.box cells) ∧ ∀ y ∈ cells, ledTo y ≠ some i := by
  unfold fgtM at h
  cases hm : m k with
  | none => rw [hm] at h; cases h
  | some t =>
    rw [hm] at h
    cases t with
    | box c0 =>
      simp only [fgtT] at h
      split at h
      · cases h
      · rename_i hc
        cases h
        refine ⟨rfl, fun y hy e => hc ?_⟩
        exact List.any_eq_true.2 ⟨y, hy, by simpa using e⟩
    | _ => cases h
theorem look_fgtM {i k : Id} {ch : Option (Nat × Nat)} : look (fgtM i m) k ch = look m k ch := by
  cases hm : m k with
  | none => simp [look, fgtM, fgtT, hm]
  | some t =>
    cases t with
    | box cells =>
      simp only [look, fgtM, hm, fgtT]
      split
      · rename_i e n rows h1
        split at h1 <;> cases h1
      · rfl
    | _ => simp only [look, fgtM, hm, fgtT]
theorem fgtM_R0 {i : Id} {y : LV} {u : Value} (h : R0 G S m w y u) : R0 G S (fgtM i m) w y u := by
  cases y <;> try exact h
  case rf k ch lo n => simp only [R0, look_fgtM] at h ⊢; exact h
  case bp k off =>
    have h1 := R0_one h (by simp)
    simp only [R0] at h ⊢
    cases hm : m k with
    | none => simp only [fgtM, hm, fgtT]; exact h1
    | some t =>
      cases t with
      | box cells =>
        simp only [fgtM, hm, fgtT] at h ⊢
        split
        · rename_i c2 h2
          exact h
        · exact h1
      | _ => simp only [fgtM, hm, fgtT]; exact h1
  case ep k ch r c => simp only [R0, look_fgtM] at h ⊢; exact h
theorem fgtM_Inv {i : Id} (h : Inv S N G m w) : Inv S N G (fgtM i m) w := by
  have hl : ∀ p, live (fgtM i m) p → live m p := by
    intro p hp
    cases p with
    | root k =>
      rcases hp with ⟨c, q⟩ | ⟨e, n, rows, q⟩
      · exact .inl ⟨c, (fgtM_box q).1⟩
      · exact .inr ⟨e, n, rows, fgtM_arr.1 q⟩
    | chld k r c =>
      obtain ⟨e, n, rows, row, e', n', l, q, q2⟩ := hp
      exact ⟨e, n, rows, row, e', n', l, fgtM_arr.1 q, q2⟩
  refine ⟨fun k e n rows hk => h.arr k e n rows (fgtM_arr.1 hk), fun k cells hk => ?_, fun p q hp hq => h.inj p q (hl p hp) (hl q hq), fun p hp => h.sep p (hl p hp), h.old⟩
  obtain ⟨cs, e, k1, k2⟩ := h.box k cells (fgtM_box hk).1
  exact ⟨cs, e, k1, k2.mono fun y u _ hx => ⟨fgtM_R0 hx.1, hx.2.1, wf0.ext (fun _ => fgtM_ne) hx.2.2⟩⟩

theorem KeepI.r0 {i : Id} {G' : Gh} {m' : Mem} (h : KeepI i G m G' m') {e n : Nat} {rows rows' : List (List Cell)} (h1 : m i = some (.arr e n rows)) (h2 : m' i = some (.arr e n rows')) {y : LV} {u : Value} (hy : R0 G S m w y u) (hl : ledTo y ≠ some i) : R0 G' S m' w y u := by
  have dead : ∀ k, m' k = some .dead → ∀ ch, look m' k ch = none := fun k hk ch => by simp [look, hk]
  cases y <;> try exact hy
  case rf k ch lo n0 =>
    by_cases hk : k = i
    · subst hk
      cases ch with
      | some rc => exact absurd rfl hl
      | none =>
        simp only [R0, look_none h1, look_none h2, Gh.capOf, Gh.blkOf] at hy ⊢
        rw [h.own.1, h.own.2.1]; exact hy
    · rcases h.mem k hk with q | ⟨q, _⟩
      · simp only [R0, look_ext q] at hy ⊢
        rw [(h.gh k ch hk).1, (h.gh k ch hk).2]; exact hy
      · simp only [R0, dead k q]; exact R0_one hy (by simp)
  case bp k off =>
    by_cases hk : k = i
    · subst hk; simp only [R0, h2]; exact R0_one hy (by simp)
    · rcases h.mem k hk with q | ⟨q, _⟩
      · simp only [R0, q] at hy ⊢
        have := (h.gh k none hk).1
        simp only [Gh.blkOf] at this
        rw [this]; exact hy
      · simp only [R0, q]; exact R0_one hy (by simp)
  case ep k ch r c =>
    by_cases hk : k = i
    · subst hk
      cases ch with
      | some rc => exact absurd rfl hl
      | none =>
        simp only [R0, look_none h1, look_none h2, Gh.blkOf] at hy ⊢
        rw [h.own.1]; exact hy
    · rcases h.mem k hk with q | ⟨q, _⟩
      · simp only [R0, look_ext q] at hy ⊢
        rw [(h.gh k ch hk).1]; exact hy
      · simp only [R0, dead k q]; exact R0_one hy (by simp)

theorem fgt0_led {i : Id} (y : LV) : fgt0 i y = y ∧ ledTo y ≠ some i ∨ fgt0 i y = .un := by
  cases y <;> try exact .inl ⟨rfl, by simp [ledTo]⟩
  case rf k ch lo n =>
    simp only [fgt0]
    by_cases hc : k = i ∧ ch.isSome = true
    · rw [if_pos hc]; exact .inr rfl
    · rw [if_neg hc]
      refine .inl ⟨rfl, fun e => hc ?_⟩
      cases ch with
      | none => cases e
      | some rc => cases e; exact ⟨rfl, rfl⟩
  case ep k ch r c =>
    simp only [fgt0]
    by_cases hc : k = i ∧ ch.isSome = true
    · rw [if_pos hc]; exact .inr rfl
    · rw [if_neg hc]
      refine .inl ⟨rfl, fun e => hc ?_⟩
      cases ch with
      | none => cases e
      | some rc => cases e; exact ⟨rfl, rfl⟩
theorem RL_map {R R' : LV → Value → Prop} {f : LV → LV} {vs : List LV} {cs : Array Value} (h : RL R vs cs) (hf : ∀ y ∈ vs, ∀ u, R y u → R' (f y) u) : RL R' (vs.map f) cs := by
  refine ⟨by simpa using h.1, fun k x hk => ?_⟩
  rw [List.getElem?_map] at hk
  cases hv : vs[k]? with
  | none => rw [hv] at hk; cases hk
  | some y =>
    rw [hv] at hk
    cases hk
    obtain ⟨u, u1, u2⟩ := h.2 k y hv
    exact ⟨u, u1, hf y (List.mem_of_getElem? hv) u u2⟩
theorem do_seU (h : SR ov S N G st a w) {x v : Opd} {x' v' : Operand} {t : TypeId} {n : Nat} {o : Oper} (hx : fO x x' = true) (hv : fO v v' = true) (ho : o.op = .store t x' v') (hz : sizeT P t = some n)
    {i : Id} {r c e st0 : Nat} {rows : List (List Cell)} {row : List Cell} {vs : List LV} {xs : List Cell} (ex : opd st.s x = .ep i none r c) (hi : st.m i = some (.arr e st0 rows)) (hu : unpack (opd st.s v) = some vs) (hl : vs.length = n) (hpl : vs.all plainB = true)
    (hcells : vs.mapM (toCellU st.m) = some xs) (hrow : rows[r]? = some row) (hle : c + n ≤ row.length) :
    Writes P o a w (fun w' => Inv S N G (updM st.m i (some (.arr e st0 (rows.set r (row.take c ++ xs ++ row.drop (c + n)))))) w' ∧ FrN N w w' ∧
      (∀ y u, R0 G S st.m w y u → wf0 st.m y → R0 G S (updM st.m i (some (.arr e st0 (rows.set r (row.take c ++ xs ++ row.drop (c + n)))))) w' y u) ∧
      ∃ cs', w'.heap[G.blk i]? = some (.cells cs' e (0, 0)) ∧ ∀ (k : Nat) (y : LV), vs[k]? = some y → ∃ u, cs'[r * st0 + (c + k)]? = some u ∧ R0 G S st.m w y u) := by
  obtain ⟨r1, r2⟩ := h.opd hx
  obtain ⟨v1, v2⟩ := h.opd hv
  rw [ex] at r1
  simp only [R, R1, R0, look_none hi, Gh.blkOf] at r1
  obtain ⟨cs, k1, k2, k3, k4, k5⟩ := h.inv.arr i e st0 rows hi
  obtain ⟨g1, g2⟩ := k5 r row hrow
  obtain ⟨q1, q2⟩ := unpack_R hu v1 v2
  obtain ⟨m1, m2⟩ := mapM_get hcells
  have hxl : xs.length = n := by rw [m1, hl]
  have hrl : r < rows.length := (List.getElem?_eq_some_iff.1 hrow).1
  have hbig : r * st0 + st0 ≤ cs.size := by
    have : (r + 1) * st0 ≤ G.cap i * st0 := Nat.mul_le_mul_right _ (by omega)
    rw [Nat.add_mul, Nat.one_mul] at this; omega
  have hone : ∀ z ∈ (a.eval v').cells.toList, z.oneCell' = true := by
    intro z hz'
    obtain ⟨k, hk⟩ := List.getElem?_of_mem hz'
    have hkn : k < vs.length := by have := (List.getElem?_eq_some_iff.1 hk).1; rw [← q1.1]; simpa using this
    obtain ⟨u, u1, u2⟩ := q1.2 k vs[k] (List.getElem?_eq_getElem hkn)
    rw [Array.getElem?_toList, u1] at hk
    cases hk
    exact plain_one (List.all_eq_true.1 hpl _ (List.getElem_mem hkn)) u2
  have hVs : (a.eval v').cells.size = n := by rw [q1.1]; exact hl
  have hrun := run_store_plain (P := P) hz k1 (V := a.eval v') (off := r * st0 + c) hVs (by omega) hone
  have hget : ∀ q, (cs.toList.take (r * st0 + c) ++ (a.eval v').cells.toList ++ cs.toList.drop (r * st0 + c + n)).toArray[q]? = if r * st0 + c ≤ q ∧ q < r * st0 + c + n then (a.eval v').cells[q - (r * st0 + c)]? else cs[q]? := by
    intro q
    have lt : (cs.toList.take (r * st0 + c)).length = r * st0 + c := by simp; omega
    have l3 : (cs.toList.take (r * st0 + c) ++ (a.eval v').cells.toList).length = r * st0 + c + n := by simp; omega
    simp only [List.getElem?_toArray]
    by_cases hq1 : q < r * st0 + c
    · rw [if_neg (by omega), List.append_assoc, List.getElem?_append_left (by omega), List.getElem?_take, if_pos hq1]; simp
    · by_cases hq2 : q < r * st0 + c + n
      · rw [if_pos (by omega), List.append_assoc, List.getElem?_append_right (by omega), List.getElem?_append_left (by simp; omega), lt]; simp
      · rw [if_neg (by omega), List.getElem?_append_right (by omega), l3, List.getElem?_drop, show r * st0 + c + n + (q - (r * st0 + c + n)) = q from by omega]; simp
  have hcat : ∀ (k : Nat) (y : Cell), (row.take c ++ xs ++ row.drop (c + n))[k]? = some y → (c ≤ k ∧ k < c + n ∧ xs[k - c]? = some y) ∨ ((k < c ∨ c + n ≤ k) ∧ row[k]? = some y) := by
    intro k y hk
    have lt : (row.take c).length = c := by simp; omega
    have l3 : (row.take c ++ xs).length = c + n := by simp; omega
    by_cases hq1 : k < c
    · rw [List.append_assoc, List.getElem?_append_left (by omega), List.getElem?_take, if_pos hq1] at hk; exact .inr ⟨.inl hq1, hk⟩
    · by_cases hq2 : k < c + n
      · rw [List.append_assoc, List.getElem?_append_right (by omega), List.getElem?_append_left (by omega), lt] at hk; exact .inl ⟨by omega, hq2, hk⟩
      · rw [List.getElem?_append_right (by omega), l3, List.getElem?_drop, show c + n + (k - (c + n)) = k from by omega] at hk; exact .inr ⟨.inr (by omega), hk⟩
  have hnew : ∀ (k : Nat) (y : Cell), xs[k]? = some y → noOwn y = true ∧ ∃ u, (a.eval v').cells[k]? = some u ∧ RdC S w y u := by
    intro k y hk
    obtain ⟨z, z1, z2⟩ := m2 k y hk
    obtain ⟨u, u1, u2⟩ := q1.2 k z z1
    obtain ⟨t1, t2⟩ := toCellU_R z2 u2
    exact ⟨t1, u, u1, t2⟩
  have hA : ∀ r' c' e' n' l, cellAt (rows.set r (row.take c ++ xs ++ row.drop (c + n))) r' c' = some (.sl true e' n' l) → cellAt rows r' c' = some (.sl true e' n' l) := by
    intro r' c' e' n' l hcell
    simp only [cellAt, Option.bind_eq_some_iff] at hcell ⊢
    obtain ⟨row', t1, t2⟩ := hcell
    rw [List.getElem?_set] at t1
    split at t1
    · rename_i hrr
      subst hrr
      cases t1
      rcases hcat c' _ t2 with ⟨_, _, t3⟩ | ⟨_, t3⟩
      · have := (hnew _ _ t3).1; cases this
      · exact ⟨row, hrow, t3⟩
    · exact ⟨row', t1, t2⟩
  have hB : ∀ (r' : Nat) (row' : List Cell), (rows.set r (row.take c ++ xs ++ row.drop (c + n)))[r']? = some row' → row'.length = st0 ∧ ∀ (k : Nat) (x : Cell), row'[k]? = some x →
      ∃ u, (cs.toList.take (r * st0 + c) ++ (a.eval v').cells.toList ++ cs.toList.drop (r * st0 + c + n)).toArray[r' * st0 + k]? = some u ∧ OwC G S w i r' k x u := by
    intro r' row' hr'
    rw [List.getElem?_set] at hr'
    split at hr'
    · rename_i hrr
      subst hrr
      cases hr'
      have hlen : (row.take c ++ xs ++ row.drop (c + n)).length = st0 := by simp; omega
      refine ⟨hlen, fun k y hk => ?_⟩
      have hks : k < st0 := by have := (List.getElem?_eq_some_iff.1 hk).1; omega
      rcases hcat k y hk with ⟨c1, c2, t3⟩ | ⟨c1, t3⟩
      · obtain ⟨t1, u, u1, u2⟩ := hnew _ _ t3
        refine ⟨u, ?_, noOwn_OwC t1 u2⟩
        rw [hget, if_pos (by omega), show r * st0 + k - (r * st0 + c) = k - c from by omega]; exact u1
      · obtain ⟨u, u1, u2⟩ := g2 k y t3
        exact ⟨u, by rw [hget, if_neg (by omega)]; exact u1, u2⟩
    · rename_i hrr
      obtain ⟨t1, t2⟩ := k5 r' row' hr'
      refine ⟨t1, fun k y hk => ?_⟩
      obtain ⟨u, u1, u2⟩ := t2 k y hk
      have hks : k < st0 := by have := (List.getElem?_eq_some_iff.1 hk).1; omega
      refine ⟨u, ?_, u2⟩
      rw [hget, if_neg ?_]
      · exact u1
      · intro ⟨p1, p2⟩
        have : r' * st0 + k = r * st0 + (c + (r' * st0 + k - (r * st0 + c))) := by omega
        exact hrr (mul_lt_add this hks (by omega)).1.symm
  obtain ⟨b1, b2, b3, b4⟩ := arr_write h.inv hi k1 hA (by simp; omega) (by simp; exact k3) hB
  refine ⟨_, ?_, b3, b4, fun y u hy hw => R0.write b2 b1 hw hy, _, setRow_heap w _ cs _ e (0, 0) k1, fun k y hk => ?_⟩
  · simp [execOp, ho, r1, Instr.storeAt, Instr.sureAddr, hrun]
  · have hkn : k < n := by have := (List.getElem?_eq_some_iff.1 hk).1; omega
    obtain ⟨u, u1, u2⟩ := q1.2 k y hk
    refine ⟨u, ?_, u2⟩
    rw [hget, if_pos (by omega), show r * st0 + (c + k) - (r * st0 + c) = k from by omega]; exact u1

theorem fgt_R1 {i : Id} {G' : Gh} {m' : Mem} {w' : World} (h0 : ∀ y u, R0 G S m w y u → wf0 m y → R0 G' S m' w' (fgt0 i y) u) {y : LV} {u : Value} (hx : R1 G S m w y u) (hw : wf1 m y) : R1 G' S m' w' (fgt1 i y) u := by
  cases y
  case ag vs => obtain ⟨cs, rfl, q⟩ := hx; exact ⟨cs, rfl, RL_map q fun z hz v hv => h0 z v hv (hw z hz)⟩
  case cl f vs => obtain ⟨cs, rfl, q⟩ := hx; exact ⟨cs, rfl, RL_map q fun z hz v hv => h0 z v hv (hw z hz)⟩
  case rf k ch lo n =>
    have q := h0 (.rf k ch lo n) u hx hw
    simp only [fgt1, fgt0] at q ⊢
    by_cases hc : k = i ∧ ch.isSome = true
    · rw [if_pos hc] at q ⊢; exact q
    · rw [if_neg hc] at q ⊢; exact q
  case ep k ch r c =>
    have q := h0 (.ep k ch r c) u hx hw
    simp only [fgt1, fgt0] at q ⊢
    by_cases hc : k = i ∧ ch.isSome = true
    · rw [if_pos hc] at q ⊢; exact q
    · rw [if_neg hc] at q ⊢; exact q
  case bp k off => exact h0 (.bp k off) u hx hw
  case un => trivial
  case sc v => exact h0 (.sc v) u hx trivial
  case nl => exact h0 .nl u hx trivial
  case ro n rows => exact h0 (.ro n rows) u hx trivial
  case rp vs => exact h0 (.rp vs) u hx trivial
  all_goals exact hx.elim
/-- a relation over the parts, through the forgetting -/
theorem fgt_R {i : Id} {G' : Gh} {m' : Mem} {w' : World} (h0 : ∀ y u, R0 G S m w y u → wf0 m y → R0 G' S m' w' (fgt0 i y) u) {x : LV} {u : Value} (hx : R G S m w x u) (hw : wf m x) : R G' S m' w' (fgt2 i x) u := by
  cases x
  case tu vs => obtain ⟨cs, rfl, q⟩ := hx; exact ⟨cs, rfl, RL_map q fun z hz v hv => fgt_R1 h0 hv (hw z hz)⟩
  case rf k ch lo n =>
    have q := fgt_R1 h0 (y := .rf k ch lo n) hx hw
    simp only [fgt2, fgt1, fgt0] at q ⊢
    by_cases hc : k = i ∧ ch.isSome = true
    · rw [if_pos hc] at q ⊢; exact q
    · rw [if_neg hc] at q ⊢; exact q
  case ep k ch r c =>
    have q := fgt_R1 h0 (y := .ep k ch r c) hx hw
    simp only [fgt2, fgt1, fgt0] at q ⊢
    by_cases hc : k = i ∧ ch.isSome = true
    · rw [if_pos hc] at q ⊢; exact q
    · rw [if_neg hc] at q ⊢; exact q
  case ag vs => exact fgt_R1 h0 (y := .ag vs) hx hw
  case cl f vs => exact fgt_R1 h0 (y := .cl f vs) hx hw
  case bp k off => exact fgt_R1 h0 (y := .bp k off) hx hw
  case un => trivial
  case sc v => exact fgt_R1 h0 (y := .sc v) hx hw
  case nl => exact fgt_R1 h0 (y := .nl) hx hw
  case ro n rows => exact fgt_R1 h0 (y := .ro n rows) hx hw
  case rp vs => exact fgt_R1 h0 (y := .rp vs) hx hw
  all_goals exact hx.elim
theorem fgt_wf0 {i : Id} {m' : Mem} (h : ∀ k, m k ≠ none → m' k ≠ none) {y : LV} (hw : wf0 m y) : wf0 m' (fgt0 i y) := by
  rcases fgt0_led (i := i) y with ⟨e, _⟩ | e
  · rw [e]; exact wf0.ext h hw
  · rw [e]; trivial
theorem fgt_wf1 {i : Id} {m' : Mem} (h : ∀ k, m k ≠ none → m' k ≠ none) {y : LV} (hw : wf1 m y) : wf1 m' (fgt1 i y) := by
  cases y
  case ag vs =>
    intro x hx
    obtain ⟨z, hz, rfl⟩ := List.mem_map.1 hx
    exact fgt_wf0 h (hw z hz)
  case cl f vs =>
    intro x hx
    obtain ⟨z, hz, rfl⟩ := List.mem_map.1 hx
    exact fgt_wf0 h (hw z hz)
  case rf k ch lo n =>
    have q := fgt_wf0 (i := i) h (y := .rf k ch lo n) hw
    simp only [fgt1, fgt0] at q ⊢
    by_cases hc : k = i ∧ ch.isSome = true
    · rw [if_pos hc] at q ⊢; exact q
    · rw [if_neg hc] at q ⊢; exact q
  case ep k ch r c =>
    have q := fgt_wf0 (i := i) h (y := .ep k ch r c) hw
    simp only [fgt1, fgt0] at q ⊢
    by_cases hc : k = i ∧ ch.isSome = true
    · rw [if_pos hc] at q ⊢; exact q
    · rw [if_neg hc] at q ⊢; exact q
  case bp k off => exact h k hw
  all_goals trivial
theorem fgt_wf {i : Id} {m' : Mem} (h : ∀ k, m k ≠ none → m' k ≠ none) {x : LV} (hw : wf m x) : wf m' (fgt2 i x) := by
  cases x
  case tu vs =>
    intro y hy
    obtain ⟨z, hz, rfl⟩ := List.mem_map.1 hy
    exact fgt_wf1 h (hw z hz)
  case rf k ch lo n =>
    have q := fgt_wf0 (i := i) h (y := .rf k ch lo n) hw
    simp only [fgt2, fgt1, fgt0] at q ⊢
    by_cases hc : k = i ∧ ch.isSome = true
    · rw [if_pos hc] at q ⊢; exact q
    · rw [if_neg hc] at q ⊢; exact q
  case ep k ch r c =>
    have q := fgt_wf0 (i := i) h (y := .ep k ch r c) hw
    simp only [fgt2, fgt1, fgt0] at q ⊢
    by_cases hc : k = i ∧ ch.isSome = true
    · rw [if_pos hc] at q ⊢; exact q
    · rw [if_neg hc] at q ⊢; exact q
  case ag vs => exact fgt_wf1 (y := .ag vs) h hw
  case cl f vs => exact fgt_wf1 (y := .cl f vs) h hw
  case bp k off => exact h k hw
  all_goals trivial

theorem do_sm (h : SR ov S N G st a w) {x v : Opd} {x' v' : Operand} {t : TypeId} {n : Nat} {o : Oper} (hx : fO x x' = true) (hv : fO v v' = true) (ho : o.op = .store t x' v') (hz : sizeT P t = some n)
    {i : Id} {r c e st0 : Nat} {rows : List (List Cell)} {row : List Cell} {vs : List LV} {xs : List Cell} (ex : opd st.s x = .ep i none r c) (hi : st.m i = some (.arr e st0 rows)) (hu : unpack (opd st.s v) = some vs) (hl : vs.length = n) (hpl : vs.all plainB = true)
    (hcells : vs.mapM (toCellU st.m) = some xs) (hrow : rows[r]? = some row) (hle : c + n ≤ row.length) {m' : Mem}
    (ha : adoptAll (fgtM i (updM st.m i (some (.arr e st0 (rows.set r (row.take c ++ xs ++ row.drop (c + n))))))) i (adsV r c vs) = some m') :
    Writes P o a w (fun w' => (∃ G', Inv S N G' m' w' ∧ ∀ y u, R G S st.m w y u → wf st.m y → R G' S m' w' (fgt2 i y) u ∧ wf m' (fgt2 i y)) ∧ FrN N w w') := by
  obtain ⟨w', hrun, inv1, fr, r1, cs', hcs, hval⟩ := do_seU (P := P) h hx hv ho hz ex hi hu hl hpl hcells hrow hle
  refine ⟨w', hrun, ?_, fr⟩
  have inv2 := fgtM_Inv (i := i) inv1
  have hi2 : fgtM i (updM st.m i (some (.arr e st0 (rows.set r (row.take c ++ xs ++ row.drop (c + n)))))) i = some (.arr e st0 (rows.set r (row.take c ++ xs ++ row.drop (c + n)))) := fgtM_arr.2 updM_eq
  obtain ⟨m1, m2⟩ := mapM_get hcells
  obtain ⟨G', g1, g2⟩ := adoptAll_Inv ha inv2 hi2 hcs (fun k cells hk => (fgtM_box hk).2) (fun r2 c2 j hm e2 n2 rows2 hj => by
    obtain ⟨q1, q2, lo, k, q3⟩ := adsV_mem hm
    simp only at q1 q2 q3
    subst q1
    obtain ⟨u, u1, u2⟩ := hval _ _ q3
    have hx2 := (List.getElem?_eq_some_iff.1 q3)
    have hxs : ∃ x, xs[c2 - c]? = some x := ⟨_, List.getElem?_eq_getElem (by rw [m1]; exact hx2.1)⟩
    obtain ⟨x2, hx3⟩ := hxs
    obtain ⟨z, z1, z2⟩ := m2 _ _ hx3
    rw [q3] at z1
    cases z1
    have rv := rootV_of rfl z2 u2
    have hu2 : u = .slice (some ⟨G.blk j, 0, none⟩) rows2.length (G.cap j) := by
      have hj3 := fgtM_arr.1 hj
      by_cases hji : j = i
      · subst hji
        rw [updM_eq] at hj3
        cases hj3
        rw [rv.2 e st0 rows hi]; simp
      · rw [updM_ne hji] at hj3; exact rv.2 e2 n2 rows2 hj3
    rw [show c2 = c + (c2 - c) from by omega, u1, hu2])
  refine ⟨G', g1, fun y u hy hw => ?_⟩
  obtain ⟨_, _, e0, n0, ra, rb, p1, p2, p3⟩ := g2.own
  have ne : ∀ k, st.m k ≠ none → m' k ≠ none := by
    intro k hk
    have h1 : (updM st.m i (some (.arr e st0 (rows.set r (row.take c ++ xs ++ row.drop (c + n)))))) k ≠ none := by
      by_cases hki : k = i
      · subst hki; rw [updM_eq]; simp
      · rw [updM_ne hki]; exact hk
    have h2 := fgtM_ne (i := i) h1
    by_cases hki : k = i
    · subst hki; rw [p2]; simp
    · rcases g2.mem k hki with q | ⟨q, _⟩
      · rw [q]; exact h2
      · rw [q]; simp
  refine ⟨fgt_R (fun z v hz hw => ?_) hy hw, fgt_wf ne hw⟩
  rcases fgt0_led (i := i) z with ⟨e1, e2⟩ | e1
  · rw [e1]; exact g2.r0 p1 p2 (fgtM_R0 (r1 z v hz hw)) e2
  · rw [e1]; trivial
end
end Go.Proofs.YthnkioafikmmaaaDoor.Ev

namespace Go.Proofs.YthnkioafikmmaaaDoor.Ev
open Go
set_option linter.unusedVariables false
set_option linter.unusedSimpArgs false

def hollowC : Cell → Cell
  | .sl true _ _ _ => .un | x => x
/-- rows whose own slices have gone elsewhere -/
def hollow (lo cnt : Nat) (rows : List (List Cell)) : List (List Cell) := rows.mapIdx fun r row => if lo ≤ r ∧ r < lo + cnt then row.map hollowC else row
theorem hollow_get {lo cnt r : Nat} {rows : List (List Cell)} : (hollow lo cnt rows)[r]? = (rows[r]?).map fun row => if lo ≤ r ∧ r < lo + cnt then row.map hollowC else row := by
  simp [hollow]
theorem hollow_len {lo cnt : Nat} {rows : List (List Cell)} : (hollow lo cnt rows).length = rows.length := by simp [hollow]
theorem hollow_in {lo cnt r c : Nat} {rows : List (List Cell)} {row : List Cell} {x : Cell} (hr : (hollow lo cnt rows)[r]? = some row) (hc : row[c]? = some x) :
    ∃ row0 x0, rows[r]? = some row0 ∧ row0.length = row.length ∧ row0[c]? = some x0 ∧ (x = x0 ∧ (lo ≤ r ∧ r < lo + cnt → ∀ e n l, x ≠ .sl true e n l) ∨ x = .un) := by
  rw [hollow_get, Option.map_eq_some_iff] at hr
  obtain ⟨row0, h1, rfl⟩ := hr
  by_cases hin : lo ≤ r ∧ r < lo + cnt
  · rw [if_pos hin, List.getElem?_map, Option.map_eq_some_iff] at hc
    obtain ⟨x0, h2, rfl⟩ := hc
    refine ⟨row0, x0, h1, by rw [if_pos hin]; simp, h2, ?_⟩
    cases x0 with
    | sl o e n l => cases o with
      | true => exact .inr rfl
      | false => exact .inl ⟨rfl, fun _ _ _ _ e => by cases e⟩
    | _ => exact .inl ⟨rfl, fun _ _ _ _ e => by cases e⟩
  · rw [if_neg hin] at hc
    exact ⟨row0, x, h1, by rw [if_neg hin], hc, .inl ⟨rfl, fun q => absurd q hin⟩⟩

/-- i's memory goes over to k, and some of j's rows -/
def Gh.move2 (G : Gh) (oi : Option Id) (j k : Id) (b c len lo : Nat) : Gh :=
  { blk := fun q => if q = k then b else G.blk q
    cap := fun q => if q = k then c else G.cap q
    cblk := fun q => if q = k then (fun r x => if r < len then (match oi with | some i => G.cblk i r x | none => 0) else G.cblk j (lo + (r - len)) x) else G.cblk q
    ccap := fun q => if q = k then (fun r x => if r < len then (match oi with | some i => G.ccap i r x | none => 0) else G.ccap j (lo + (r - len)) x) else G.ccap q }

section
variable {P : Program} {ov : Ov} {S N : Nat → Prop} {G : Gh} {m m' : Mem} {st : St} {a : Act} {w w' : World}

/-- where a piece of the new memory was -/
def Was (oi : Option Id) (j k : Id) (len lo cnt : Nat) (p q : Res) : Prop :=
  (∃ i r c, oi = some i ∧ r < len ∧ p = .chld k r c ∧ q = .chld i r c) ∨ (∃ r c, r < cnt ∧ p = .chld k (len + r) c ∧ q = .chld j (lo + r) c) ∨
  (p = q ∧ (∀ i r c, oi = some i → q ≠ .chld i r c) ∧ ∀ r c, r < cnt → q ≠ .chld j (lo + r) c)

theorem Was.inj {oi : Option Id} {j k : Id} {len lo cnt : Nat} {p p' q : Res} (hij : ∀ i, oi = some i → i ≠ j) (h : Was oi j k len lo cnt p q) (h' : Was oi j k len lo cnt p' q) : p = p' := by
  rcases h with ⟨i, r, c, a1, a2, rfl, rfl⟩ | ⟨r, c, a1, rfl, rfl⟩ | ⟨rfl, a1, a2⟩ <;> rcases h' with ⟨i', r', c', b1, b2, rfl, e⟩ | ⟨r', c', b1, rfl, e⟩ | ⟨rfl, b1, b2⟩
  · cases e; rfl
  · cases e; exact absurd rfl (hij _ a1)
  · exact absurd rfl (b1 _ _ _ a1)
  · cases e; exact absurd rfl (hij _ b1)
  · simp only [Res.chld.injEq, true_and] at e
    obtain ⟨e1, rfl⟩ := e
    have : r = r' := by omega
    subst this; rfl
  · exact absurd rfl (b2 _ _ a1)
  · exact absurd e (a1 _ _ _ b1)
  · exact absurd e (a2 _ _ b1)
  · rfl

theorem renew2 (h : Inv S N G m w) (hn : ∀ b, w.heap.size ≤ b → N b) {oi : Option Id} {j k : Id} {e n e2 lo cnt : Nat} {rows rowsj : List (List Cell)}
    (hi : ∀ i, oi = some i → m i = some (.arr e n rows) ∧ i ≠ j) (hi0 : oi = none → rows = [])
    (hj : m j = some (.arr e2 n rowsj)) (hk : m k = none) (hle : lo + cnt ≤ rowsj.length)
    (mk : m' k = some (.arr e n (rows ++ (rowsj.drop lo).take cnt))) (mi : ∀ i, oi = some i → m' i = some .dead) (mj : m' j = some .dead ∨ m' j = some (.arr e2 n (hollow lo cnt rowsj)))
    (mo : ∀ q, oi ≠ some q → q ≠ j → q ≠ k → m' q = m q) {B C : Nat} {cs : Array Value}
    (hB : (∃ i, oi = some i ∧ B = G.blk i) ∨ B = w.heap.size) (hheap : ∀ b, b < w.heap.size → b ≠ B → w'.heap[b]? = w.heap[b]?) (hsz : w.heap.size ≤ w'.heap.size)
    (hcs : w'.heap[B]? = some (.cells cs e (0, 0))) (hsize : cs.size = C * n) (hlen : rows.length + cnt ≤ C) (hC : C ≤ maxLen)
    (hold : ∀ i, oi = some i → ∀ (r : Nat) (row : List Cell), rows[r]? = some row → row.length = n ∧ ∀ (c : Nat) (x : Cell), row[c]? = some x → ∃ u, cs[r * n + c]? = some u ∧ OwC G S w i r c x u)
    (hnew : ∀ (r : Nat) (row : List Cell), ((rowsj.drop lo).take cnt)[r]? = some row → row.length = n ∧ ∀ (c : Nat) (x : Cell), row[c]? = some x → ∃ u, cs[(rows.length + r) * n + c]? = some u ∧ OwC G S w j (lo + r) c x u) :
    Keep G m (G.move2 oi j k B C rows.length lo) m' ∧ (∀ b, S b → w'.heap[b]? = w.heap[b]?) ∧ Inv S N (G.move2 oi j k B C rows.length lo) m' w' := by
  have hjk : j ≠ k := fun e => by subst e; rw [hj] at hk; cases hk
  have hik : ∀ i, oi = some i → i ≠ k := fun i q e => by subst e; rw [(hi _ q).1] at hk; cases hk
  have hBS : ¬ S B ∧ N B := by
    rcases hB with ⟨i, q, rfl⟩ | rfl
    · exact h.sep (.root i) (.inr ⟨e, n, rows, (hi i q).1⟩)
    · exact ⟨fun hs => by have := h.old _ hs; omega, hn _ (Nat.le_refl _)⟩
  have hS : ∀ b, S b → w'.heap[b]? = w.heap[b]? := fun b hb => hheap b (h.old b hb) (fun e => hBS.1 (e ▸ hb))
  have gk : (G.move2 oi j k B C rows.length lo).blk k = B ∧ (G.move2 oi j k B C rows.length lo).cap k = C := by simp [Gh.move2]
  have gki : ∀ i r c, oi = some i → r < rows.length → (G.move2 oi j k B C rows.length lo).cblk k r c = G.cblk i r c ∧ (G.move2 oi j k B C rows.length lo).ccap k r c = G.ccap i r c := by
    intro i r c q hr; subst q; simp [Gh.move2, hr]
  have gkj : ∀ r c, (G.move2 oi j k B C rows.length lo).cblk k (rows.length + r) c = G.cblk j (lo + r) c ∧ (G.move2 oi j k B C rows.length lo).ccap k (rows.length + r) c = G.ccap j (lo + r) c := by
    intro r c; have h0 : ¬ rows.length + r < rows.length := by omega
    simp [Gh.move2, h0]
  have go : ∀ q, q ≠ k → (G.move2 oi j k B C rows.length lo).blk q = G.blk q ∧ (G.move2 oi j k B C rows.length lo).cap q = G.cap q ∧ (G.move2 oi j k B C rows.length lo).cblk q = G.cblk q ∧ (G.move2 oi j k B C rows.length lo).ccap q = G.ccap q := fun q hq => by simp [Gh.move2, hq]
  generalize G.move2 oi j k B C rows.length lo = G' at gk gki gkj go ⊢
  have mi' : ∀ i, oi = some i → ∀ t, m' i = some t → t = .dead := fun i q t ht => by rw [mi i q] at ht; cases ht; rfl
  have mlen : ((rowsj.drop lo).take cnt).length = cnt := by simp; omega
  have mget : ∀ r row, ((rowsj.drop lo).take cnt)[r]? = some row → r < cnt ∧ rowsj[lo + r]? = some row := by
    intro r row hr
    rw [List.getElem?_take] at hr
    split at hr
    · rw [List.getElem?_drop] at hr; exact ⟨by assumption, hr⟩
    · cases hr
  have keep : Keep G m G' m' := by
    refine ⟨fun q hq => ?_, fun q ch q' hq hl => ?_, fun q c' hq hl => ?_⟩
    · by_cases h1 : oi = some q
      · rw [mi q h1]; simp
      · by_cases h2 : q = j
        · subst h2; rcases mj with e | e <;> rw [e] <;> simp
        · by_cases h3 : q = k
          · subst h3; exact absurd hk hq
          · rw [mo q h1 h2 h3]; exact hq
    · have h3 : q ≠ k := fun e => by subst e; exact hq hk
      obtain ⟨g1, g2, g3, g4⟩ := go q h3
      have gb : ∀ ch, G'.blkOf q ch = G.blkOf q ch ∧ G'.capOf q ch = G.capOf q ch := fun ch => by cases ch <;> simp [Gh.blkOf, Gh.capOf, g1, g2, g3, g4]
      by_cases h1 : oi = some q
      · simp [look, mi q h1] at hl
      · by_cases h2 : q = j
        · subst h2
          rcases mj with e0 | e0
          · simp [look, e0] at hl
          · cases ch with
            | none => rw [look_none e0] at hl; cases hl; exact ⟨_, look_none hj, rfl, gb _⟩
            | some rc =>
              obtain ⟨r, c⟩ := rc
              obtain ⟨e', n', rows'⟩ := q'
              rcases look_inv hl with ⟨q0, _⟩ | ⟨r1, c1, e1, n1, rows1, row1, rv, q0, t1, t2, t3, t4⟩
              · cases q0
              · cases q0
                rw [e0] at t1
                cases t1
                obtain ⟨row0, x0, s1, s2, s3, s4⟩ := hollow_in t2 t3
                rcases s4 with ⟨rfl, _⟩ | s4
                · exact ⟨_, look_some hj s1 s3, rfl, gb _⟩
                · cases s4
        · have hlk : look m' q ch = look m q ch := by simp [look, mo q h1 h2 h3]
          rw [hlk] at hl
          exact ⟨q', hl, rfl, gb _⟩
    · have h3 : q ≠ k := fun e => by subst e; exact hq hk
      by_cases h1 : oi = some q
      · have := mi' q h1 _ hl; cases this
      · by_cases h2 : q = j
        · subst h2; rcases mj with e0 | e0 <;> rw [e0] at hl <;> cases hl
        · rw [mo q h1 h2 h3] at hl; exact ⟨⟨c', hl⟩, (go q h3).1⟩
  -- what lives there, lived here
  have back : ∀ p, live m' p → p = .root k ∨ ∃ q, live m q ∧ G'.at p = G.at q ∧ (∀ i, oi = some i → q ≠ .root i) ∧ Was oi j k rows.length lo cnt p q := by
    intro p hp
    cases p with
    | root q =>
      by_cases h3 : q = k
      · exact .inl (by rw [h3])
      · have h1 : oi ≠ some q := fun z => by rcases hp with ⟨_, t⟩ | ⟨_, _, _, t⟩ <;> have := mi' q z _ t <;> cases this
        refine .inr ⟨.root q, ?_, (go q h3).1, fun i z e => (by cases e; exact h1 z), .inr (.inr ⟨rfl, fun _ _ _ _ e => (by cases e), fun _ _ _ e => by cases e⟩)⟩
        by_cases h2 : q = j
        · subst h2; exact .inr ⟨_, _, _, hj⟩
        · simp only [live] at hp ⊢
          rw [mo q h1 h2 h3] at hp
          exact hp
    | chld q r c =>
      obtain ⟨e0, n0, rows0, row0, e', n', l, q1, q2, q3⟩ := hp
      by_cases h3 : q = k
      · subst h3
        rw [mk] at q1
        cases q1
        by_cases hr : r < rows.length
        · rw [List.getElem?_append_left hr] at q2
          cases ho : oi with
          | none => rw [hi0 ho] at hr; simp at hr
          | some i =>
            refine .inr ⟨.chld i r c, ⟨_, _, rows, row0, e', n', l, (hi i ho).1, q2, q3⟩, (gki i r c ho hr).1, fun _ _ e => (by cases e), .inl ⟨i, r, c, rfl, hr, rfl, rfl⟩⟩
        · rw [List.getElem?_append_right (by omega)] at q2
          obtain ⟨t1, t2⟩ := mget _ _ q2
          have er : rows.length + (r - rows.length) = r := by omega
          refine .inr ⟨.chld j (lo + (r - rows.length)) c, ⟨_, _, rowsj, row0, e', n', l, hj, t2, q3⟩, ?_, fun _ _ e => (by cases e), .inr (.inl ⟨r - rows.length, c, t1, by rw [er], rfl⟩)⟩
          have := (gkj (r - rows.length) c).1
          rw [er] at this
          exact this
      · have h1 : oi ≠ some q := fun z => by have := mi' q z _ q1; cases this
        by_cases h2 : q = j
        · subst h2
          rcases mj with e1 | e1
          · rw [e1] at q1; cases q1
          · rw [e1] at q1
            cases q1
            obtain ⟨row1, x0, s1, s2, s3, s4⟩ := hollow_in q2 q3
            rcases s4 with ⟨rfl, s5⟩ | s4
            · refine .inr ⟨.chld q r c, ⟨_, _, rowsj, row1, e', n', l, hj, s1, s3⟩, by simp only [Gh.at, (go q h3).2.2.1], fun _ _ e => (by cases e), .inr (.inr ⟨rfl, fun i _ _ z e => (by cases e; exact (hi _ z).2 rfl), fun r' c' hr' e => ?_⟩)⟩
              cases e
              exact s5 ⟨by omega, by omega⟩ _ _ _ rfl
            · cases s4
        · rw [mo q h1 h2 h3] at q1
          exact .inr ⟨.chld q r c, ⟨e0, n0, rows0, row0, e', n', l, q1, q2, q3⟩, by simp only [Gh.at, (go q h3).2.2.1], fun _ _ e => (by cases e), .inr (.inr ⟨rfl, fun i _ _ z e => (by cases e; exact h1 z), fun _ _ _ e => by cases e; exact h2 rfl⟩)⟩
  have atB : ∀ q, live m q → (∀ i, oi = some i → q ≠ .root i) → G.at q ≠ B := by
    intro q hq hne e0
    rcases hB with ⟨i, z, rfl⟩ | rfl
    · exact hne i z (h.inj q (.root i) hq (.inr ⟨e, n, rows, (hi i z).1⟩) e0)
    · have := h.lt hq; omega
  have heapq : ∀ q, live m q → (∀ i, oi = some i → q ≠ .root i) → w'.heap[G.at q]? = w.heap[G.at q]? := fun q hq hne => hheap _ (h.lt hq) (atB q hq hne)
  have cellOf : ∀ q r c x u r', live m (.root q) → OwC G S w q r c x u → (∀ e' n' l, x = .sl true e' n' l → live m (.chld q r c)) → G'.cblk k r' c = G.cblk q r c → G'.ccap k r' c = G.ccap q r c → OwC G' S w' k r' c x u := by
    intro q r c x u r' _ ho hl hb hc
    cases x with
    | un => trivial
    | sc v => exact ho
    | nl => exact ho
    | sl o e' n' l =>
      cases o with
      | false => exact RdG.mono ho (fun _ _ h => h) (fun _ h => h) hS
      | true =>
        obtain ⟨t1, t2⟩ := ho
        refine ⟨by rw [hb, hc]; exact t1, ?_⟩
        rw [hb, hc]
        exact OwG.mono t2 (heapq (.chld q r c) (hl _ _ _ rfl) (fun _ _ e => by cases e)) (fun _ _ _ _ _ _ _ h => h)
  refine ⟨keep, hS, fun q e3 n3 rows3 hq => ?_, fun q c hq => ?_, fun p q hp hq he => ?_, fun p hp => ?_, fun b hb => Nat.lt_of_lt_of_le (h.old b hb) hsz⟩
  · by_cases h3 : q = k
    · subst h3
      rw [mk] at hq
      cases hq
      rw [gk.1, gk.2]
      refine ⟨cs, hcs, hsize, by rw [List.length_append, mlen]; exact hlen, hC, fun r row hr => ?_⟩
      by_cases hrl : r < rows.length
      · rw [List.getElem?_append_left hrl] at hr
        cases ho : oi with
        | none => rw [hi0 ho] at hrl; simp at hrl
        | some i =>
          obtain ⟨g1, g2⟩ := hold i ho r row hr
          refine ⟨g1, fun c x hx => ?_⟩
          obtain ⟨u, u1, u2⟩ := g2 c x hx
          exact ⟨u, u1, cellOf i r c x u r (.inr ⟨_, _, _, (hi i ho).1⟩) u2 (fun e' n' l ex => ⟨_, _, rows, row, e', n', l, (hi i ho).1, hr, by rw [hx, ex]⟩) (gki i r c ho hrl).1 (gki i r c ho hrl).2⟩
      · rw [List.getElem?_append_right (by omega)] at hr
        obtain ⟨g1, g2⟩ := hnew _ row hr
        obtain ⟨t1, t2⟩ := mget _ _ hr
        have er : rows.length + (r - rows.length) = r := by omega
        refine ⟨g1, fun c x hx => ?_⟩
        obtain ⟨u, u1, u2⟩ := g2 c x hx
        have hg := gkj (r - rows.length) c
        rw [er] at u1 hg
        exact ⟨u, u1, cellOf j (lo + (r - rows.length)) c x u r (.inr ⟨_, _, _, hj⟩) u2 (fun e' n' l ex => ⟨_, _, rowsj, row, e', n', l, hj, t2, by rw [hx, ex]⟩) hg.1 hg.2⟩
    · have h1 : oi ≠ some q := fun z => by have := mi' q z _ hq; cases this
      obtain ⟨g1, g2, g3, g4⟩ := go q h3
      rw [g1, g2]
      by_cases h2 : q = j
      · subst h2
        rcases mj with e1 | e1
        · rw [e1] at hq; cases hq
        · rw [e1] at hq
          cases hq
          obtain ⟨ds, d1, d2, d3, d4, d5⟩ := h.arr q _ _ rowsj hj
          refine ⟨ds, (heapq (.root q) (.inr ⟨_, _, _, hj⟩) (fun i z e => by cases e; exact h1 z)).trans d1, d2, by rw [hollow_len]; exact d3, d4, fun r row hr => ?_⟩
          have hr0 := hr
          rw [hollow_get, Option.map_eq_some_iff] at hr
          obtain ⟨row0, s1, s2⟩ := hr
          obtain ⟨f1, f2⟩ := d5 r row0 s1
          refine ⟨by rw [← s2]; split <;> simp [f1], fun c x hx => ?_⟩
          obtain ⟨row1, x0, a1, a2, a3, a4⟩ := hollow_in hr0 hx
          rw [s1] at a1
          cases a1
          obtain ⟨u, u1, u2⟩ := f2 c x0 a3
          refine ⟨u, u1, ?_⟩
          rcases a4 with ⟨rfl, _⟩ | rfl
          · refine OwC.mono u2 ⟨by rw [g3], by rw [g4]⟩ hS fun e' n' l hx' => ?_
            subst hx'
            exact heapq (.chld q r c) ⟨_, _, rowsj, row0, e', n', l, hj, s1, a3⟩ (fun _ _ e => by cases e)
          · trivial
      · rw [mo q h1 h2 h3] at hq
        refine OwG.mono (h.arr q e3 n3 rows3 hq) (heapq (.root q) (.inr ⟨e3, n3, rows3, hq⟩) (fun i z e => by cases e; exact h1 z)) fun r c row x u hr hc ho => OwC.mono ho ⟨by rw [g3], by rw [g4]⟩ hS fun e' n' l hx => ?_
        subst hx
        exact heapq (.chld q r c) ⟨e3, n3, rows3, row, e', n', l, hq, hr, hc⟩ (fun _ _ e => by cases e)
  · have h3 : q ≠ k := fun e => by subst e; rw [mk] at hq; cases hq
    have h1 : oi ≠ some q := fun z => by have := mi' q z _ hq; cases this
    have h2 : q ≠ j := fun z => by subst z; rcases mj with e0 | e0 <;> rw [e0] at hq <;> cases hq
    rw [mo q h1 h2 h3] at hq
    obtain ⟨cs0, e0, k1, k2⟩ := h.box q c hq
    exact ⟨cs0, e0, by rw [(go q h3).1]; exact (heapq (.root q) (.inl ⟨c, hq⟩) (fun i z e => by cases e; exact h1 z)).trans k1, k2.mono fun x u _ hx => ⟨R0.write hS keep hx.2.2 hx.1, hx.2.1, wf0.ext keep.ne hx.2.2⟩⟩
  · rcases back p hp with rfl | ⟨p', p1, p2, p3, p4⟩ <;> rcases back q hq with rfl | ⟨q', q1, q2, q3, q4⟩
    · rfl
    · exact absurd (by rw [← q2, ← he]; exact gk.1) (atB q' q1 q3)
    · exact absurd (by rw [← p2, he]; exact gk.1) (atB p' p1 p3)
    · have := h.inj p' q' p1 q1 (by rw [← p2, ← q2, he])
      subst this
      exact Was.inj (fun i z => (hi i z).2) p4 q4
  · rcases back p hp with rfl | ⟨p', p1, p2, _⟩
    · simp only [Gh.at, gk.1]; exact hBS
    · rw [p2]; exact h.sep p' p1
end
/-! ### the append itself -/
def okT : Cell → Bool
  | .un => false | _ => true

section
variable {P : Program} {ov : Ov} {S N : Nat → Prop} {G : Gh} {m m' : Mem} {st : St} {a : Act} {w w' : World}

theorem okT_one {i : Id} {r c : Nat} {x : Cell} {u : Value} (h : okT x = true) (q : OwC G S w i r c x u) : u.oneCell' = true := by
  cases x with
  | un => cases h
  | sc v => obtain ⟨rfl, hs⟩ := q; cases u <;> first | rfl | cases hs
  | nl => cases q; rfl
  | sl o e st rows =>
    cases o with
    | false => obtain ⟨_, _, rfl, _⟩ := q; rfl
    | true => obtain ⟨rfl, _⟩ := q; rfl

/-- the rows that go over, as they lie -/
theorem srcT_R (h : Inv S N G m w) {j : Id} {e2 n lo cnt : Nat} {rowsj : List (List Cell)} (hn : 0 < n) (hj : m j = some (.arr e2 n rowsj)) (hle : lo + cnt ≤ rowsj.length) (hc0 : 0 < cnt)
    (hok : ((rowsj.drop lo).take cnt).all (·.all okT) = true) {v : Value} (r : R0 G S m w (.rf j none lo cnt) v) {tx el : TypeId} (hk : P.underlying tx = some (.slice el)) :
    ∃ news : List Value, Go.Src P n tx v cnt news w ∧ news.length = cnt * n ∧
      ∀ (q : Nat) (row : List Cell), ((rowsj.drop lo).take cnt)[q]? = some row → row.length = n ∧ ∀ (c : Nat) (x : Cell), row[c]? = some x → ∃ u, news[q * n + c]? = some u ∧ OwC G S w j (lo + q) c x u := by
  simp only [R0, look_none hj, Gh.capOf, Gh.blkOf] at r
  obtain ⟨A, c, rfl, hcc, hcap, hA⟩ := r
  have hA' := hA (by omega)
  subst hA'
  obtain ⟨cs, k1, k2, k3, k4, k5⟩ := h.arr j e2 n rowsj hj
  have hfit : (lo + cnt) * n ≤ cs.size := by rw [k2]; exact Nat.mul_le_mul_right _ (by omega)
  rw [Nat.add_mul] at hfit
  have hlen : ((cs.toList.drop (lo * n)).take (cnt * n)).length = cnt * n := by simp; omega
  have hget : ∀ q, q < cnt * n → ((cs.toList.drop (lo * n)).take (cnt * n))[q]? = cs[lo * n + q]? := by
    intro q hq
    rw [List.getElem?_take, if_pos hq, List.getElem?_drop]; simp
  have hrow : ∀ (q : Nat) (row : List Cell), ((rowsj.drop lo).take cnt)[q]? = some row → row.length = n ∧ ∀ (c : Nat) (x : Cell), row[c]? = some x → ∃ u, ((cs.toList.drop (lo * n)).take (cnt * n))[q * n + c]? = some u ∧ OwC G S w j (lo + q) c x u := by
    intro q row hr
    rw [List.getElem?_take] at hr
    split at hr
    case isFalse => cases hr
    rename_i hq
    rw [List.getElem?_drop] at hr
    obtain ⟨g1, g2⟩ := k5 _ row hr
    refine ⟨g1, fun c x hx => ?_⟩
    obtain ⟨u, u1, u2⟩ := g2 c x hx
    have h2 := (List.getElem?_eq_some_iff.1 hx).1
    have hlt : q * n + c < cnt * n := by
      have : (q + 1) * n ≤ cnt * n := Nat.mul_le_mul_right _ hq
      rw [Nat.add_mul, Nat.one_mul] at this; omega
    refine ⟨u, ?_, u2⟩
    rw [hget _ hlt, ← u1]
    congr 1
    rw [Nat.add_mul]; omega
  refine ⟨(cs.toList.drop (lo * n)).take (cnt * n), Go.Src.ofSlice w hk _ cnt c _ hlen (fun q u hq => ?_) (fun u hu => ?_), hlen, hrow⟩
  · have hq' : q < cnt * n := by have := (List.getElem?_eq_some_iff.1 hq).1; omega
    rw [hget _ hq'] at hq
    rw [Addr.add_lit, cell_of_row w _ _ cs e2 (0, 0) k1]; exact hq
  · obtain ⟨q, hq⟩ := List.getElem?_of_mem hu
    have hq' : q < cnt * n := by have := (List.getElem?_eq_some_iff.1 hq).1; omega
    have h1 : q / n < cnt := Nat.div_lt_of_lt_mul (by rw [Nat.mul_comm]; exact hq')
    have h2 : q % n < n := Nat.mod_lt _ hn
    have hl2 : q / n < ((rowsj.drop lo).take cnt).length := by simp; omega
    obtain ⟨g1, g2⟩ := hrow _ _ (List.getElem?_eq_getElem hl2)
    have h3 := List.getElem?_eq_getElem (show q % n < (((rowsj.drop lo).take cnt)[q / n]).length by omega)
    obtain ⟨u', u1, u2⟩ := g2 _ _ h3
    rw [show q / n * n + q % n = q from by rw [Nat.mul_comm]; exact Nat.div_add_mod q n, hq] at u1
    cases u1
    exact okT_one (List.all_eq_true.1 (List.all_eq_true.1 hok _ (List.mem_of_getElem? (List.getElem?_eq_getElem hl2))) _ (List.mem_of_getElem? h3)) u2

/-- j when some of its rows have gone -/
def goneT (e n lo cnt : Nat) (rows : List (List Cell)) : Thing := .arr e n (hollow lo cnt rows)
theorem goneT_cases (e n lo cnt : Nat) (rows : List (List Cell)) : goneT e n lo cnt rows = .dead ∨ goneT e n lo cnt rows = .arr e n (hollow lo cnt rows) := by
  exact .inr rfl

/-- APPEND of rows that go over, to a slice of one's own or to nothing -/
theorem do_apT (h : SR ov S N G st a w) {x y : Opd} {x' y' : Operand} {t tx el : TypeId} {n by_ : Nat} {zv : List Value} {o : Oper} (hx : fO x x' = true) (hy : fO y y' = true)
    (ho : o.op = .call { callee := .builtin .append, args := #[x', y'], argTypes := #[t, tx] }) (ht : P.underlying t = some (.slice el)) (htx : P.underlying tx = some (.slice el))
    (hs : sizeT P el = some n) (hbt : bytesT P el = some by_) (hby : by_ ≤ 100000) (hz : zeroT P el = some zv) (hzn : zv.length = n) (hn : 0 < n)
    {oi : Option Id} {j k : Id} {lo cnt : Nat} {rows rowsj : List (List Cell)} (hX : (∃ i, oi = some i ∧ opd st.s x = .rf i none 0 rows.length ∧ st.m i = some (.arr el n rows) ∧ i ≠ j) ∨ (oi = none ∧ opd st.s x = .nl ∧ rows = []))
    (ey : opd st.s y = .rf j none lo cnt) (hj : st.m j = some (.arr el n rowsj)) (hle : lo + cnt ≤ rowsj.length) (hc0 : 0 < cnt) (hok : ((rowsj.drop lo).take cnt).all (·.all okT) = true)
    (hb : rows.length + cnt ≤ big) (hk : st.m k = none) {m1 : Mem} (hm1 : m1 = updM (match oi with | some i => updM (updM st.m j (some (goneT el n lo cnt rowsj))) i (some .dead) | none => updM st.m j (some (goneT el n lo cnt rowsj))) k (some (.arr el n (rows ++ (rowsj.drop lo).take cnt)))) :
    Does P o a w (NextW S N G st w (.rf k none 0 (rows.length + cnt)) m1) := by
  obtain ⟨x1, x2⟩ := h.opd hx
  obtain ⟨y1, y2⟩ := h.opd hy
  rw [ey] at y1
  obtain ⟨news, s1, hnl, s2⟩ := srcT_R (P := P) h.inv hn hj hle hc0 hok y1 htx
  have hi : ∀ i, oi = some i → st.m i = some (.arr el n rows) ∧ i ≠ j := by
    intro i q
    rcases hX with ⟨i', e1, _, e2, e3⟩ | ⟨e1, _⟩
    · rw [e1] at q; cases q; exact ⟨e2, e3⟩
    · rw [e1] at q; cases q
  have hi0 : oi = none → rows = [] := by
    intro q
    rcases hX with ⟨i', e1, _⟩ | ⟨_, _, e⟩
    · rw [e1] at q; cases q
    · exact e
  have hjk : j ≠ k := fun e => by subst e; rw [hj] at hk; cases hk
  have hik : ∀ i, oi = some i → i ≠ k := fun i q e => by subst e; rw [(hi _ q).1] at hk; cases hk
  have mk1 : m1 k = some (.arr el n (rows ++ (rowsj.drop lo).take cnt)) := by rw [hm1]; exact updM_eq
  have mi1 : ∀ i, oi = some i → m1 i = some .dead := by
    intro i q; subst q; rw [hm1, updM_ne (hik i rfl)]; exact updM_eq
  have mj1 : m1 j = some (goneT el n lo cnt rowsj) := by
    rw [hm1, updM_ne hjk]
    cases oi with
    | none => exact updM_eq
    | some i => exact (updM_ne (fun e => (hi i rfl).2 e.symm)).trans updM_eq
  have mo1 : ∀ q, oi ≠ some q → q ≠ j → q ≠ k → m1 q = st.m q := by
    intro q h1 h2 h3
    rw [hm1, updM_ne h3]
    cases oi with
    | none => exact updM_ne h2
    | some i => exact (updM_ne (fun e => h1 (by rw [e]))).trans (updM_ne h2)
  have mj2 : m1 j = some .dead ∨ m1 j = some (.arr el n (hollow lo cnt rowsj)) := by rw [mj1]; rcases goneT_cases el n lo cnt rowsj with e | e <;> rw [e] <;> simp
  clear hm1
  -- what is there
  obtain ⟨A, c, cs, ev, hnc, hA, hold0, hcs0⟩ : ∃ A c, ∃ cs : Array Value, a.eval x' = .slice A rows.length c ∧ rows.length ≤ c ∧ (∀ i, oi = some i → A = some ⟨G.blk i, 0, none⟩ ∧ w.heap[G.blk i]? = some (.cells cs el (0, 0)) ∧ cs.size = c * n ∧ c ≤ maxLen ∧
      ∀ (r : Nat) (row : List Cell), rows[r]? = some row → row.length = n ∧ ∀ (q : Nat) (z : Cell), row[q]? = some z → ∃ u, cs[r * n + q]? = some u ∧ OwC G S w i r q z u) ∧ (oi = none → c = 0 ∧ rows.length = 0) ∧ (cs.toList.take (rows.length * n)).length = rows.length * n := by
    rcases hX with ⟨i, rfl, ex, hmi, hij⟩ | ⟨rfl, ex, rfl⟩
    · rw [ex] at x1
      simp only [R, R1, R0, look_none hmi, Gh.capOf, Gh.blkOf] at x1
      obtain ⟨A, c, ev, hnc, hcap, hA⟩ := x1
      have hA0 := hA (.inr trivial)
      simp only [Nat.zero_mul] at hA0
      subst hA0
      obtain ⟨cs, k1, k2, k3, k4, k5⟩ := h.inv.arr i el n rows hmi
      have hcc : c = G.cap i := by omega
      subst hcc
      refine ⟨some ⟨G.blk i, 0, none⟩, _, cs, ev, hnc, fun i' q => ?_, fun q => (by cases q), ?_⟩
      · cases q; exact ⟨rfl, k1, k2, k4, k5⟩
      · have hfit : rows.length * n ≤ cs.size := by rw [k2]; exact Nat.mul_le_mul_right _ hnc
        simp; omega
    · rw [ex] at x1
      simp only [R, R1, R0] at x1
      exact ⟨none, 0, #[], x1, Nat.le_refl _, fun i q => (by cases q), fun _ => ⟨rfl, rfl⟩, by simp⟩
  obtain ⟨v0, e1, e2⟩ := zeroT_run (P := P) (w := w) hz
  cases hinfo : P.info? el with
  | none => simp [bytesT, hinfo] at hbt
  | some inf =>
    have hbb : inf.bytes = by_ := by simpa [bytesT, hinfo] using hbt
    have hsz : inf.size = n := by simpa [sizeT, hinfo] using hs
    have hzr : inf.zero = some v0 := by
      cases hq : inf.zero with
      | none => simp [zeroValue, typeInfo, hinfo, hq] at e1
      | some v1 =>
        simp [zeroValue, typeInfo, hinfo, hq] at e1
        rw [e1]
    have hzs : v0.cells.size = n := by rw [e2]; simpa using hzn
    have hsmall : (rows.length + cnt) * by_ ≤ 1000000000 * 100000 := Nat.mul_le_mul hb hby
    have fin : ∀ (v' : Value) (w' : World) (B C : Nat) (cs' : Array Value), (execOp a.eval o).run P w = .ok (.value v') w' →
        ((∃ i, oi = some i ∧ B = G.blk i) ∨ B = w.heap.size) → (∀ b, b < w.heap.size → b ≠ B → w'.heap[b]? = w.heap[b]?) → w.heap.size ≤ w'.heap.size → w'.heap[B]? = some (.cells cs' el (0, 0)) → cs'.size = C * n → rows.length + cnt ≤ C → C ≤ maxLen →
        (∀ q, q < rows.length * n → cs'[q]? = cs[q]?) → (∀ q, q < cnt * n → cs'[rows.length * n + q]? = news[q]?) → w'.os = w.os → w'.tape = w.tape → w'.output = w.output →
        v' = .slice (some ⟨B, 0, none⟩) (rows.length + cnt) C →
        Does P o a w (NextW S N G st w (.rf k none 0 (rows.length + cnt)) m1) := by
      intro v' w' B C cs' hrun hB hheap hsize hcs' hC1 hC2 hC3 ho1 ho2 f1 f2 f3 hv
      have hA1 : ∀ i, oi = some i → ∀ (r : Nat) (row : List Cell), rows[r]? = some row → row.length = n ∧ ∀ (c : Nat) (x : Cell), row[c]? = some x → ∃ u, cs'[r * n + c]? = some u ∧ OwC G S w i r c x u := by
        intro i q r row hr
        obtain ⟨g1, g2⟩ := (hA i q).2.2.2.2 r row hr
        refine ⟨g1, fun c x hx => ?_⟩
        obtain ⟨u, u1, u2⟩ := g2 c x hx
        refine ⟨u, ?_, u2⟩
        rw [ho1 _ ?_]; · exact u1
        have h1 := (List.getElem?_eq_some_iff.1 hr).1
        have h2 := (List.getElem?_eq_some_iff.1 hx).1
        have : (r + 1) * n ≤ rows.length * n := Nat.mul_le_mul_right _ h1
        rw [Nat.add_mul, Nat.one_mul] at this; omega
      have hA2 : ∀ (r : Nat) (row : List Cell), ((rowsj.drop lo).take cnt)[r]? = some row → row.length = n ∧ ∀ (c : Nat) (x : Cell), row[c]? = some x → ∃ u, cs'[(rows.length + r) * n + c]? = some u ∧ OwC G S w j (lo + r) c x u := by
        intro r row hr
        obtain ⟨g1, g2⟩ := s2 r row hr
        refine ⟨g1, fun c x hx => ?_⟩
        obtain ⟨u, u1, u2⟩ := g2 c x hx
        refine ⟨u, ?_, u2⟩
        have h1 : r < cnt := by have := (List.getElem?_eq_some_iff.1 hr).1; simp at this; omega
        have h2 := (List.getElem?_eq_some_iff.1 hx).1
        rw [show (rows.length + r) * n + c = rows.length * n + (r * n + c) from by rw [Nat.add_mul]; omega, ho2 _ ?_]; · exact u1
        have : (r + 1) * n ≤ cnt * n := Nat.mul_le_mul_right _ h1
        rw [Nat.add_mul, Nat.one_mul] at this; omega
      obtain ⟨b1, b2, b3⟩ := renew2 h.inv h.new hi hi0 hj hk hle mk1 mi1 mj2 mo1 hB hheap hsize hcs' hC1 hC2 hC3 hA1 hA2
      · refine ⟨v', w', hrun, _, b3, fun x u hx hw => ⟨R.write b2 b1 hw hx, wf.ext b1.ne hw⟩, ?_, ?_, f1, f2, f3, hsize, fun b hb' hN => hheap b hb' (fun e => hN ?_)⟩
        · subst hv
          simp only [R, R1, R0, look_none mk1, Gh.capOf, Gh.blkOf]
          exact ⟨⟨B, 0, none⟩, C, rfl, hC2, by simp [Gh.move2], fun _ => by simp [Gh.move2]⟩
        · simp [wf, wf1, wf0, mk1]
        · rcases hB with ⟨i, q, rfl⟩ | rfl
          · rw [e]; exact (h.inv.sep (.root i) (.inr ⟨_, _, _, (hi i q).1⟩)).2
          · omega
    have step : ∀ v' w', (Builtin.append_ #[t, tx] o.type #[a.eval x', a.eval y']).run P w = .ok v' w' → (execOp a.eval o).run P w = .ok (.value v') w' := by
      intro v' w' hrun
      simp only [execOp, ho, resolve, invoke, builtin, Sem.run_bind, Sem.run_pure, Result.andThen_ok, List.map_toArray, List.map_cons, List.map_nil, hrun]
    by_cases hroom : rows.length + cnt ≤ c
    · cases hoi : oi with
      | none => have := hold0 hoi; omega
      | some i =>
        obtain ⟨rfl, k1, hcs, k4, k5⟩ := hA i hoi
        have hfit : rows.length * inf.size + news.length ≤ cs.size := by rw [hsz, hnl, hcs, ← Nat.add_mul]; exact Nat.mul_le_mul_right _ hroom
        have hrun := room_src (P := P) w t tx o.type el inf ht hinfo (G.blk i) rows.length c cs k1 (a.eval y') cnt news (by rw [hsz]; exact s1) hroom hfit
        refine fin _ _ (G.blk i) c _ (step _ _ (by rw [ev]; exact hrun)) (.inl ⟨i, hoi, rfl⟩) (fun b _ hb' => setRow_other w _ b _ hb') (by simp) (setRow_heap w _ cs _ el (0, 0) k1) ?_ hroom k4 (fun q hq => ?_) (fun q hq => ?_) rfl rfl rfl rfl
        · simp; omega
        · rw [hsz] at *
          simp only [List.getElem?_toArray, List.append_assoc]
          rw [List.getElem?_append_left (by omega), List.getElem?_take, if_pos hq]; simp
        · rw [hsz] at *
          simp only [List.getElem?_toArray, List.append_assoc]
          rw [List.getElem?_append_right (by omega), List.getElem?_append_left (by omega), hcs0]
          congr 1; omega
    · have hold : (Builtin.firstCells inf.size rows.length (.slice A rows.length c)).run P w.drew = .ok (cs.toList.take (rows.length * n)).toArray w.drew := by
        cases hoi : oi with
        | none =>
          obtain ⟨rfl, h0⟩ := hold0 hoi
          rw [h0] at hcs0 ⊢
          have e0 : (cs.toList.take (0 * n)).toArray = #[] := by simp
          rw [e0]
          cases A with
          | none => exact run_firstCells_none w.drew _ 0 0 _
          | some A => exact run_firstCells_some w.drew _ 0 A 0 0 [] (by simp) (fun j u hu => by simp at hu)
        | some i =>
          obtain ⟨rfl, k1, hcs, k4, k5⟩ := hA i hoi
          refine run_firstCells_some w.drew _ rows.length ⟨G.blk i, 0, none⟩ rows.length c _ (by rw [hsz]; exact hcs0) (fun j u hu => ?_)
          rw [Addr.add_lit]
          rw [List.getElem?_take] at hu
          split at hu
          · have : w.drew.cell? ⟨G.blk i, 0 + j, none⟩ = w.cell? ⟨G.blk i, 0 + j, none⟩ := rfl
            rw [this, cell_of_row w _ _ cs el (0, 0) k1, Nat.zero_add]
            simpa using hu
          · cases hu
      have hfits := growslice_fits (need := rows.length + cnt) (old := c) (bytes := inf.bytes) (by omega) (by rw [hbb]; omega)
      have hrun := run_append_grow_src (P := P) w t tx o.type el inf v0 ht hinfo hzr A rows.length c _ hold (a.eval y') cnt news (by rw [hsz]; exact s1) (by omega) (by unfold big at hb; omega) hfits
      have hge := grownCap_ge w (rows.length + cnt) c el
      have hcm := grownCap_le_maxLen w (rows.length + cnt) c el (by unfold big at hb; simp only [maxLen]; omega)
      refine fin _ _ w.heap.size _ _ (step _ _ (by rw [ev]; exact hrun)) (.inr rfl) (fun b hb' _ => heap_alloc_old w.drew _ b hb') (by simp) (heap_alloc_new w.drew _) ?_ hge hcm (fun q hq => ?_) (fun q hq => ?_) rfl rfl rfl rfl
      · rw [Array.size_append, size_zeroCells, hzs, List.size_toArray, List.length_append, hcs0, hnl, ← Nat.add_mul, ← Nat.add_mul]
        congr 1; omega
      · rw [Array.getElem?_append_left (by rw [List.size_toArray, List.length_append, hcs0]; omega)]
        simp only [List.getElem?_toArray]
        rw [List.getElem?_append_left (by omega), List.getElem?_take, if_pos hq]; simp
      · rw [Array.getElem?_append_left (by rw [List.size_toArray, List.length_append, hcs0]; omega)]
        simp only [List.getElem?_toArray]
        rw [List.getElem?_append_right (by omega), hcs0]
        congr 1; omega
end
/-! ### a slice of an element gets a name of its own -/
def Gh.pull (G : Gh) (i k : Id) (r c : Nat) : Gh :=
  { G with blk := fun q => if q = k then G.cblk i r c else G.blk q, cap := fun q => if q = k then G.ccap i r c else G.cap q }
def pullRows (rows : List (List Cell)) (row : List Cell) (r c : Nat) : List (List Cell) := rows.set r (row.set c .un)

section
variable {P : Program} {ov : Ov} {S N : Nat → Prop} {G : Gh} {m m' : Mem} {st : St} {a : Act} {w w' : World}

theorem pull_in {rows : List (List Cell)} {row : List Cell} {r c : Nat} (hr : rows[r]? = some row) (hc : c < row.length) {r2 : Nat} {row2 : List Cell} (h : (pullRows rows row r c)[r2]? = some row2) :
    ∃ row0, rows[r2]? = some row0 ∧ row0.length = row2.length ∧ ∀ (c2 : Nat) (x : Cell), row2[c2]? = some x → (x = .un ∨ row0[c2]? = some x ∧ ¬ (r2 = r ∧ c2 = c)) := by
  unfold pullRows at h
  have hlt := (List.getElem?_eq_some_iff.1 hr).1
  by_cases e : r2 = r
  · subst e
    rw [List.getElem?_set_self hlt] at h
    cases h
    refine ⟨row, hr, by simp, fun c2 x hx => ?_⟩
    by_cases e2 : c2 = c
    · subst e2
      rw [List.getElem?_set_self hc] at hx
      cases hx; exact .inl rfl
    · rw [List.getElem?_set_ne (Ne.symm e2)] at hx
      exact .inr ⟨hx, fun q => e2 q.2⟩
  · rw [List.getElem?_set_ne (Ne.symm e)] at h
    exact ⟨row2, h, rfl, fun c2 x hx => .inr ⟨hx, fun q => e q.1⟩⟩

theorem pull (h : Inv S N G m w) {i k : Id} {e n e' n' r c : Nat} {rows : List (List Cell)} {row : List Cell} {rv : List (List Value)} (hi : m i = some (.arr e n rows)) (hr : rows[r]? = some row) (hc : row[c]? = some (.sl true e' n' rv)) (hk : m k = none)
    (hm : m' = updM (updM m i (some (.arr e n (pullRows rows row r c)))) k (some (.arr e' n' (lift rv)))) :
    Keep G m (G.pull i k r c) m' ∧ Inv S N (G.pull i k r c) m' w := by
  have hik : i ≠ k := fun e => by subst e; rw [hi] at hk; cases hk
  have hcl : c < row.length := (List.getElem?_eq_some_iff.1 hc).1
  have mk : m' k = some (.arr e' n' (lift rv)) := by rw [hm]; exact updM_eq
  have mi : m' i = some (.arr e n (pullRows rows row r c)) := by rw [hm, updM_ne hik]; exact updM_eq
  have mo : ∀ q, q ≠ i → q ≠ k → m' q = m q := fun q h1 h2 => by rw [hm, updM_ne h2, updM_ne h1]
  clear hm
  have gk : (G.pull i k r c).blk k = G.cblk i r c ∧ (G.pull i k r c).cap k = G.ccap i r c := by simp [Gh.pull]
  have go : ∀ q, q ≠ k → (G.pull i k r c).blk q = G.blk q ∧ (G.pull i k r c).cap q = G.cap q := fun q hq => by simp [Gh.pull, hq]
  have gc : (G.pull i k r c).cblk = G.cblk ∧ (G.pull i k r c).ccap = G.ccap := ⟨rfl, rfl⟩
  generalize G.pull i k r c = G' at gk go gc ⊢
  have gb : ∀ q, q ≠ k → ∀ ch, G'.blkOf q ch = G.blkOf q ch ∧ G'.capOf q ch = G.capOf q ch := fun q hq ch => by cases ch <;> simp [Gh.blkOf, Gh.capOf, go q hq, gc]
  have here : live m (.chld i r c) := ⟨_, _, rows, row, _, _, _, hi, hr, hc⟩
  have keep : Keep G m G' m' := by
    refine ⟨fun q hq => ?_, fun q ch q' hq hl => ?_, fun q c' hq hl => ?_⟩
    · by_cases h1 : q = i
      · subst h1; rw [mi]; simp
      · by_cases h2 : q = k
        · subst h2; rw [mk]; simp
        · rw [mo q h1 h2]; exact hq
    · have h2 : q ≠ k := fun e => by subst e; exact hq hk
      by_cases h1 : q = i
      · subst h1
        cases ch with
        | none => rw [look_none mi] at hl; cases hl; exact ⟨_, look_none hi, rfl, gb _ h2 _⟩
        | some rc =>
          obtain ⟨r2, c2⟩ := rc
          obtain ⟨e3, n3, rows3⟩ := q'
          rcases look_inv hl with ⟨q0, _⟩ | ⟨r1, c1, e1, n1, rows1, row1, rv1, q0, t1, t2, t3, t4⟩
          · cases q0
          · cases q0
            rw [mi] at t1
            cases t1
            obtain ⟨row0, s1, s2, s3⟩ := pull_in hr hcl t2
            rcases s3 _ _ t3 with s4 | ⟨s4, _⟩
            · cases s4
            · exact ⟨_, look_some hi s1 s4, rfl, gb _ h2 _⟩
      · have hlk : look m' q ch = look m q ch := by simp [look, mo q h1 h2]
        rw [hlk] at hl
        exact ⟨q', hl, rfl, gb _ h2 _⟩
    · have h2 : q ≠ k := fun e => by subst e; exact hq hk
      by_cases h1 : q = i
      · subst h1; rw [mi] at hl; cases hl
      · rw [mo q h1 h2] at hl; exact ⟨⟨c', hl⟩, (go q h2).1⟩
  have back : ∀ p, live m' p → (p = .root k ∧ G'.at p = G.at (.chld i r c)) ∨ (live m p ∧ G'.at p = G.at p ∧ p ≠ .chld i r c) := by
    intro p hp
    cases p with
    | root q =>
      by_cases h2 : q = k
      · subst h2; exact .inl ⟨rfl, gk.1⟩
      · refine .inr ⟨?_, (go q h2).1, fun e => by cases e⟩
        by_cases h1 : q = i
        · subst h1; exact .inr ⟨_, _, _, hi⟩
        · simp only [live] at hp ⊢
          rw [mo q h1 h2] at hp
          exact hp
    | chld q r2 c2 =>
      obtain ⟨e0, n0, rows0, row0, e3, n3, l, q1, q2, q3⟩ := hp
      by_cases h2 : q = k
      · subst h2
        rw [mk] at q1
        cases q1
        obtain ⟨vs, _, rfl⟩ := lift_get q2
        simp at q3
      · by_cases h1 : q = i
        · subst h1
          rw [mi] at q1
          cases q1
          obtain ⟨row1, s1, s2, s3⟩ := pull_in hr hcl q2
          rcases s3 _ _ q3 with s4 | ⟨s4, s5⟩
          · cases s4
          · exact .inr ⟨⟨_, _, rows, row1, e3, n3, l, hi, s1, s4⟩, by simp only [Gh.at, gc.1], fun e => by cases e; exact s5 ⟨rfl, rfl⟩⟩
        · rw [mo q h1 h2] at q1
          exact .inr ⟨⟨e0, n0, rows0, row0, e3, n3, l, q1, q2, q3⟩, by simp only [Gh.at, gc.1], fun e => by cases e; exact h1 rfl⟩
  refine ⟨keep, fun q e3 n3 rows3 hq => ?_, fun q c' hq => ?_, fun p q hp hq he => ?_, fun p hp => ?_, h.old⟩
  · by_cases h2 : q = k
    · subst h2
      rw [mk] at hq
      cases hq
      rw [gk.1, gk.2]
      obtain ⟨cs, k1, k2, k3, k4, k5⟩ := h.arr i _ _ rows hi
      obtain ⟨u, u1, u2, u3⟩ := (k5 r row hr).2 c _ hc
      obtain ⟨ds, d1, d2, d3, d4, d5⟩ := u3
      refine ⟨ds, d1, d2, by rw [lift_length]; exact d3, d4, fun r2 row2 hr2 => ?_⟩
      obtain ⟨vs, hv, rfl⟩ := lift_get hr2
      obtain ⟨f1, f2⟩ := d5 r2 vs hv
      refine ⟨by simpa using f1, fun c2 x hx => ?_⟩
      rw [List.getElem?_map, Option.map_eq_some_iff] at hx
      obtain ⟨v, hv2, rfl⟩ := hx
      exact f2 c2 v hv2
    · rw [(go q h2).1, (go q h2).2]
      by_cases h1 : q = i
      · subst h1
        rw [mi] at hq
        cases hq
        obtain ⟨cs, k1, k2, k3, k4, k5⟩ := h.arr q _ _ rows hi
        refine ⟨cs, k1, k2, by simpa [pullRows] using k3, k4, fun r2 row2 hr2 => ?_⟩
        obtain ⟨row0, s1, s2, s3⟩ := pull_in hr hcl hr2
        obtain ⟨f1, f2⟩ := k5 r2 row0 s1
        refine ⟨by rw [← s2]; exact f1, fun c2 x hx => ?_⟩
        rcases s3 c2 x hx with rfl | ⟨s4, _⟩
        · obtain ⟨y, hy⟩ : ∃ y, row0[c2]? = some y := ⟨_, List.getElem?_eq_getElem (by rw [s2]; exact (List.getElem?_eq_some_iff.1 hx).1)⟩
          obtain ⟨u, u1, _⟩ := f2 c2 y hy
          exact ⟨u, u1, trivial⟩
        · obtain ⟨u, u1, u2⟩ := f2 c2 x s4
          exact ⟨u, u1, OwC.mono u2 ⟨by rw [gc.1], by rw [gc.2]⟩ (fun _ _ => rfl) fun _ _ _ _ => rfl⟩
      · rw [mo q h1 h2] at hq
        exact OwG.mono (h.arr q e3 n3 rows3 hq) rfl fun r2 c2 row2 x u _ _ ho => OwC.mono ho ⟨by rw [gc.1], by rw [gc.2]⟩ (fun _ _ => rfl) fun _ _ _ _ => rfl
  · have h2 : q ≠ k := fun e => by subst e; rw [mk] at hq; cases hq
    have h1 : q ≠ i := fun e => by subst e; rw [mi] at hq; cases hq
    rw [mo q h1 h2] at hq
    obtain ⟨cs0, e0, k1, k2⟩ := h.box q c' hq
    exact ⟨cs0, e0, by rw [(go q h2).1]; exact k1, k2.mono fun x u _ hx => ⟨R0.write (fun _ _ => rfl) keep hx.2.2 hx.1, hx.2.1, wf0.ext keep.ne hx.2.2⟩⟩
  · rcases back p hp with ⟨rfl, p1⟩ | ⟨p1, p2, p3⟩ <;> rcases back q hq with ⟨rfl, q1⟩ | ⟨q1, q2, q3⟩
    · rfl
    · exact absurd (h.inj _ _ here q1 (by rw [← p1, ← q2, he])).symm q3
    · exact absurd (h.inj _ _ here p1 (by rw [← q1, ← p2, he])).symm p3
    · exact h.inj _ _ p1 q1 (by rw [← p2, ← q2, he])
  · rcases back p hp with ⟨rfl, p1⟩ | ⟨p1, p2, p3⟩
    · rw [p1]; exact h.sep _ here
    · rw [p2]; exact h.sep p p1

/-- a value that leads to an element's slice, with a name of its own -/
def exV (m : Mem) (k : Id) : LV → Option (LV × Mem)
  | .rf i (some (r, c)) lo cnt =>
    (match m i, m k with
    | some (.arr e n rows), none =>
      (match rows[r]? with
      | some row =>
        (match row[c]? with
        | some (.sl true e' n' rv) => if lo = 0 ∧ cnt = rv.length then some (.rf k none 0 cnt, updM (updM m i (some (.arr e n (pullRows rows row r c)))) k (some (.arr e' n' (lift rv)))) else none
        | _ => none)
      | none => none)
    | _, _ => none)
  | _ => none
def exSt (d : Nat) (x : Opd) (st : St) : St :=
  match x with
  | .t t => (match exV st.m (.ex d) (st.s t) with | some (X, m') => ⟨updS st.s t X, m'⟩ | none => st)
  | _ => st

/-- the same state, told with other words -/
theorem exSt_SR (h : SR ov S N G st a w) (d : Nat) (x : Opd) : ∃ G', SR ov S N G' (exSt d x st) a w ∧ ∀ y u, R G S st.m w y u → wf st.m y → R G' S (exSt d x st).m w y u ∧ wf (exSt d x st).m y := by
  have triv : exSt d x st = st → ∃ G', SR ov S N G' (exSt d x st) a w ∧ ∀ y u, R G S st.m w y u → wf st.m y → R G' S (exSt d x st).m w y u ∧ wf (exSt d x st).m y := fun e => by rw [e]; exact ⟨G, h, fun y u h1 h2 => ⟨h1, h2⟩⟩
  cases x with
  | k v => exact triv rfl
  | t t =>
    cases hx : exV st.m (.ex d) (st.s t) with
    | none => exact triv (by simp only [exSt, hx])
    | some p =>
      obtain ⟨X, m'⟩ := p
      have est : exSt d (.t t) st = ⟨updS st.s t X, m'⟩ := by simp only [exSt, hx]
      rw [est]
      have hs := h.slot t
      generalize st.s t = V at hx hs
      unfold exV at hx
      split at hx
      case h_2 => cases hx
      rename_i i r c lo cnt
      split at hx
      case h_2 => cases hx
      rename_i e n rows hi hk
      split at hx
      case h_2 => cases hx
      rename_i row hr
      split at hx
      case h_2 => cases hx
      rename_i e' n' rv hc
      split at hx
      case isFalse => cases hx
      rename_i hcond
      obtain ⟨rfl, rfl⟩ := hcond
      simp only [Option.some.injEq, Prod.mk.injEq] at hx
      obtain ⟨rfl, hm⟩ := hx
      obtain ⟨b1, b2⟩ := pull h.inv hi hr hc hk hm.symm
      have mk : m' (.ex d) = some (.arr e' n' (lift rv)) := by rw [← hm]; exact updM_eq
      have all : ∀ y u, R G S st.m w y u → wf st.m y → R (G.pull i (.ex d) r c) S m' w y u ∧ wf m' y := fun y u hy hw => ⟨R.write (fun _ _ => rfl) b1 hw hy, wf.ext b1.ne hw⟩
      refine ⟨G.pull i (.ex d) r c, ⟨b2, fun t' => ?_, h.df, h.new, h.tb⟩, all⟩
      by_cases e0 : t' = t
      · subst e0
        have eu : updS st.s t' (.rf (.ex d) none 0 rv.length) t' = .rf (.ex d) none 0 rv.length := by simp [updS]
        show R _ S m' w (updS _ _ _ _) _ ∧ wf m' (updS _ _ _ _)
        rw [eu]
        obtain ⟨s1, s2⟩ := hs
        simp only [R, R1, R0, look_some hi hr hc, Gh.capOf, Gh.blkOf] at s1
        obtain ⟨A, cp, s3, s4, s5, s6⟩ := s1
        refine ⟨?_, by simp [wf, wf1, wf0, mk]⟩
        simp only [R, R1, R0, look_none mk, Gh.capOf, Gh.blkOf]
        refine ⟨A, cp, s3, s4, by simpa [Gh.pull] using s5, fun _ => ?_⟩
        have := s6 (.inr trivial)
        simpa [Gh.pull] using this
      · have eu : updS st.s t (.rf (.ex d) none 0 rv.length) t' = st.s t' := by simp [updS, e0]
        show R _ S m' w (updS _ _ _ _) _ ∧ wf m' (updS _ _ _ _)
        rw [eu]
        exact all _ _ (h.slot t').1 (h.slot t').2
/-- what is behind an operation on the state told anew -/
theorem NextW.told {G' : Gh} {st2 : St} (hall : ∀ y u, R G S st.m w y u → wf st.m y → R G' S st2.m w y u ∧ wf st2.m y) {v : LV} {m' : Mem} {v' : Value} {w' : World} (q : NextW S N G' st2 w v m' v' w') : NextW S N G st w v m' v' w' := by
  obtain ⟨G2, h1, h2, h3⟩ := q
  exact ⟨G2, h1, fun x u hx hw => h2 x u (hall x u hx hw).1 (hall x u hx hw).2, h3⟩
end
end Go.Proofs.YthnkioafikmmaaaDoor.Ev
