/- What a call hands back, under new names. -/
import Derived.Test.YtjdcohcdgdjobaaEvN
namespace Go.Proofs.Ytjdcohcdgdjobaa.Ev
open Go
set_option linter.unusedVariables false
set_option linter.unusedSimpArgs false

section
variable {P : Program} {S N : Nat → Prop} {G G0 : Gh} {m : Mem} {st : St} {a : Act} {w : World}

theorem close0_inv {x y : LV} (h : close0 m x = some y) : (y = x ∧ (∃ v, x = .sc v) ∨ y = x ∧ x = .nl ∨ y = x ∧ (∃ n rows, x = .ro n rows)) ∨ ∃ i ch e n rows, x = .rf i ch 0 rows.length ∧ look m i ch = some (e, n, rows) ∧ y = .ow e n rows := by
  cases x <;> simp only [close0] at h <;> try cases h
  case sc v => exact .inl (.inl ⟨rfl, v, rfl⟩)
  case nl => exact .inl (.inr (.inl ⟨rfl, rfl⟩))
  case ro n rows => exact .inl (.inr (.inr ⟨rfl, n, rows, rfl⟩))
  case rf i ch lo n =>
    cases hl : look m i ch with
    | none => rw [hl] at h; cases h
    | some q =>
      obtain ⟨e, n1, rows⟩ := q
      rw [hl] at h
      simp only [] at h
      split at h
      · rename_i hc
        cases h
        obtain ⟨rfl, rfl⟩ := hc
        exact .inr ⟨i, ch, e, n1, rows, rfl, hl, rfl⟩
      · cases h

theorem thing_nodup {mk : Nat → Id} (hmk : ∀ a b, mk a = mk b → a = b) : ∀ {l : List (Nat × LV)}, (l.map (·.1)).Nodup → ((l.filterMap (thing mk)).map (·.1)).Nodup := by
  intro l; induction l with
  | nil => intro _; simp
  | cons p l ih =>
    intro h
    simp only [List.map_cons, List.nodup_cons, List.mem_map, not_exists, not_and] at h
    have := ih h.2
    simp only [List.filterMap_cons]
    cases hp : thing mk p with
    | none => exact this
    | some q =>
      simp only [List.map_cons, List.nodup_cons, List.mem_map, not_exists, not_and]
      refine ⟨fun z hz e => ?_, this⟩
      obtain ⟨p', hp', e'⟩ := List.mem_filterMap.1 hz
      have k1 : ∀ {p : Nat × LV} {q : Id × Thing}, thing mk p = some q → q.1 = mk p.1 := by
        intro p q h
        obtain ⟨k, x⟩ := p
        cases x <;> simp [thing] at h
        subst h; rfl
      rw [k1 hp, k1 e'] at e
      exact h.1 p' hp' (hmk _ _ e)

theorem key_unique {l : List (Nat × LV)} (h : (l.map (·.1)).Nodup) {k : Nat} {x y : LV} (hx : (k, x) ∈ l) (hy : (k, y) ∈ l) : x = y := by
  induction l with
  | nil => simp at hx
  | cons p l ih =>
    simp only [List.map_cons, List.nodup_cons, List.mem_map, not_exists, not_and] at h
    simp only [List.mem_cons] at hx hy
    rcases hx with rfl | hx <;> rcases hy with hy | hy
    · cases hy; rfl
    · exact absurd rfl (h.1 (k, y) hy)
    · cases hy; exact absurd rfl (h.1 (k, x) hx)
    · exact ih h.2 hx hy

def Src (ps : List (Nat × LV)) (mk : Nat → Id) (id : Id) (q : Id × Option (Nat × Nat)) : Prop := ∃ k n, (k, LV.rf q.1 q.2 0 n) ∈ ps ∧ id = mk k
open Classical in
noncomputable def newG (G : Gh) (ps : List (Nat × LV)) (mk : Nat → Id) : Gh where
  blk id := if h : ∃ q, Src ps mk id q then G.blkOf (Classical.choose h).1 (Classical.choose h).2 else 0
  cap id := if h : ∃ q, Src ps mk id q then G.capOf (Classical.choose h).1 (Classical.choose h).2 else 0
  cblk id := if h : ∃ q, Src ps mk id q then G.cblk (Classical.choose h).1 else fun _ _ => 0
  ccap id := if h : ∃ q, Src ps mk id q then G.ccap (Classical.choose h).1 else fun _ _ => 0

theorem Src.unique {ps : List (Nat × LV)} {mk : Nat → Id} (hmk : ∀ a b, mk a = mk b → a = b) (hk : (ps.map (·.1)).Nodup) {id : Id} {q q' : Id × Option (Nat × Nat)} (h : Src ps mk id q) (h' : Src ps mk id q') : q = q' := by
  obtain ⟨k, n, h1, rfl⟩ := h
  obtain ⟨k', n', h2, e⟩ := h'
  have := hmk _ _ e
  subst this
  have := key_unique hk h1 h2
  cases q; cases q'
  simp only [LV.rf.injEq] at this
  obtain ⟨rfl, rfl, _⟩ := this
  rfl
open Classical in
theorem newG_at {ps : List (Nat × LV)} {mk : Nat → Id} (hmk : ∀ a b, mk a = mk b → a = b) (hk : (ps.map (·.1)).Nodup) {id : Id} {q : Id × Option (Nat × Nat)} (h : Src ps mk id q) :
    (newG G ps mk).blk id = G.blkOf q.1 q.2 ∧ (newG G ps mk).cap id = G.capOf q.1 q.2 ∧ (newG G ps mk).cblk id = G.cblk q.1 ∧ (newG G ps mk).ccap id = G.ccap q.1 := by
  have hex : ∃ q, Src ps mk id q := ⟨q, h⟩
  have e : Classical.choose hex = q := (Classical.choose_spec hex).unique hmk hk h
  simp only [newG, dif_pos hex, e, and_self]

theorem travL_travL {f g : Nat → LV → LV} : ∀ (l : List LV) (k : Nat), travL g k (travL f k l) = travL (fun k x => g k (f k x)) k l := by
  intro l; induction l with
  | nil => intro k; rfl
  | cons x xs ih => intro k; simp [travL, ih]
theorem trav1_trav1 {f g : Nat → LV → LV} (hf : ∀ k x, flat0 x → flat0 (f k x)) {k : Nat} {x : LV} (hx : small1 x = true) : trav1 g k (trav1 f k x) = trav1 (fun k x => g k (f k x)) k x := by
  rcases three x with ⟨vs, rfl⟩ | ⟨vs, rfl⟩ | h
  · simp only [trav1, travL_travL]
  · simp [small1] at hx
  · rw [trav1_flat h, trav1_flat h, trav1_flat (hf k x h)]
theorem travT_travT {f g : Nat → LV → LV} (hf : ∀ k x, flat0 x → flat0 (f k x)) : ∀ (l : List LV) (k : Nat), (∀ x ∈ l, small1 x = true) → travT g k (travT f k l) = travT (fun k x => g k (f k x)) k l := by
  intro l; induction l with
  | nil => intro k _; rfl
  | cons x xs ih => intro k h; simp only [travT]; rw [trav1_trav1 hf (h x (by simp)), ih (k + 100) (fun y hy => h y (by simp [hy]))]
theorem trav_trav {f g : Nat → LV → LV} (hf : ∀ k x, flat0 x → flat0 (f k x)) {r : LV} (hs : small r = true) : trav g (trav f r) = trav (fun k x => g k (f k x)) r := by
  by_cases ht : ∃ vs, r = .tu vs
  · obtain ⟨vs, rfl⟩ := ht
    simp only [trav]
    rw [travT_travT hf vs 0 (fun x hx => List.all_eq_true.1 (by simpa [small] using hs) x hx)]
  · have ht' : ∀ vs, r ≠ .tu vs := fun vs e => ht ⟨vs, e⟩
    rw [small_flat ht'] at hs
    have h2 : ∀ vs, trav1 f 0 r ≠ .tu vs := by
      intro vs e
      rcases three r with ⟨us, rfl⟩ | ⟨us, rfl⟩ | h
      · cases e
      · exact ht' us rfl
      · rw [trav1_flat h] at e
        have := hf 0 r h
        rw [e] at this
        exact this
    rw [trav_flat ht', trav_flat h2, trav_flat ht', trav1_trav1 hf hs]

theorem R0_notag {x : LV} {v : Value} (h : R0 G S m w x v) : flat0 x := by
  cases x <;> first | trivial | exact h.elim

theorem R1_trav {G' : Gh} {m' : Mem} {h : Nat → LV → LV} {x : LV} {k : Nat} {V : Value} (hr : R1 G S m w x V) (hcl : ∀ f vs, x ≠ .cl f vs)
    (hp : ∀ p ∈ parts1 k x, ∀ u, R0 G S m w p.2 u → R0 G' S m' w (h p.1 p.2) u) : R1 G' S m' w (trav1 h k x) V := by
  rcases three x with ⟨vs, rfl⟩ | ⟨vs, rfl⟩ | hx
  · obtain ⟨cs, rfl, q⟩ := hr
    exact ⟨cs, rfl, RL_trav q hp⟩
  · exact hr.elim
  · rw [trav1_flat hx]
    have h0 : R0 G S m w x V := by cases x <;> first | exact hr | exact hx.elim | exact absurd rfl (hcl _ _)
    have h1 := hp (k, x) (by rw [parts1_flat hx]; simp) V h0
    simp only at h1
    have := R0_notag h1
    generalize h k x = y at *
    cases y <;> first | exact h1 | exact this.elim | exact h1.elim

theorem RT_trav {G' : Gh} {m' : Mem} {h : Nat → LV → LV} : ∀ {vs : List LV} {k : Nat} {cs : Array Value}, RL (R1 G S m w) vs cs → (∀ x ∈ vs, ∀ f us, x ≠ .cl f us) →
    (∀ p ∈ partsT k vs, ∀ u, R0 G S m w p.2 u → R0 G' S m' w (h p.1 p.2) u) → RL (R1 G' S m' w) (travT h k vs) cs := by
  intro vs k cs hr hcl hp
  have len : ∀ (l : List LV) (k : Nat), (travT h k l).length = l.length := by
    intro l; induction l with
    | nil => intro k; rfl
    | cons x xs ih => intro k; simp [travT, ih]
  have get : ∀ (l : List LV) (k j : Nat) (y : LV), (travT h k l)[j]? = some y → ∃ x, l[j]? = some x ∧ y = trav1 h (k + 100 * j) x ∧ ∀ p ∈ parts1 (k + 100 * j) x, p ∈ partsT k l := by
    intro l; induction l with
    | nil => intro k j y h; simp [travT] at h
    | cons x xs ih =>
      intro k j y hy
      cases j with
      | zero => simp [travT] at hy; exact ⟨x, by simp, hy.symm, fun p hp => by simp only [partsT, List.mem_append]; exact .inl hp⟩
      | succ j =>
        obtain ⟨z, h1, h2, h3⟩ := ih (k + 100) j y (by simpa [travT] using hy)
        have e : k + 100 * (j + 1) = k + 100 + 100 * j := by omega
        refine ⟨z, by simpa using h1, by rw [h2, e], fun p hp => ?_⟩
        rw [e] at hp
        simp only [partsT, List.mem_append]
        exact .inr (h3 p hp)
  refine ⟨by rw [hr.1, len], fun j y hj => ?_⟩
  obtain ⟨x, h1, rfl, h3⟩ := get vs k j y hj
  obtain ⟨u, u1, u2⟩ := hr.2 j x h1
  exact ⟨u, u1, R1_trav u2 (hcl x (List.mem_of_getElem? h1)) (fun p hpp => hp p (h3 p hpp))⟩

theorem partsT_mem {x : LV} (hx : flat0 x) : ∀ (vs : List LV) (k : Nat), x ∈ vs → ∃ j, (j, x) ∈ partsT k vs := by
  intro vs; induction vs with
  | nil => intro k h; simp at h
  | cons y ys ih =>
    intro k h
    simp only [List.mem_cons] at h
    rcases h with rfl | h
    · exact ⟨k, by simp [partsT, parts1_flat hx]⟩
    · obtain ⟨j, hj⟩ := ih (k + 100) h
      exact ⟨j, by simp [partsT, hj]⟩
theorem wfL_trav {h : Nat → LV → LV} : ∀ (l : List LV) (k : Nat), (∀ p ∈ partsL k l, wf0 m (h p.1 p.2)) → ∀ x ∈ travL h k l, wf0 m x := by
  intro l; induction l with
  | nil => intro k _ x hx; simp [travL] at hx
  | cons y ys ih =>
    intro k hp x hx
    simp only [travL, List.mem_cons] at hx
    rcases hx with rfl | hx
    · exact hp (k, y) (by simp [partsL])
    · exact ih (k + 1) (fun p hp' => hp p (by simp [partsL, hp'])) x hx
theorem wf1_trav {h : Nat → LV → LV} (hf : ∀ k x, flat0 x → flat0 (h k x) ∧ ∀ f vs, h k x ≠ .cl f vs) {x : LV} {k : Nat} (hx : small1 x = true) (hp : ∀ p ∈ parts1 k x, wf0 m (h p.1 p.2)) : wf1 m (trav1 h k x) := by
  rcases three x with ⟨vs, rfl⟩ | ⟨vs, rfl⟩ | hx'
  · exact wfL_trav vs k hp
  · simp [small1] at hx
  · rw [trav1_flat hx']
    have h1 := hp (k, x) (by rw [parts1_flat hx']; simp)
    obtain ⟨h2, h3⟩ := hf k x hx'
    simp only at h1
    generalize h k x = y at *
    cases y <;> first | exact h1 | exact h2.elim | exact absurd rfl (h3 _ _)
theorem wf_trav {h : Nat → LV → LV} (hf : ∀ k x, flat0 x → flat0 (h k x) ∧ ∀ f vs, h k x ≠ .cl f vs) {r : LV} (hs : small r = true) (hp : ∀ p ∈ parts r, wf0 m (h p.1 p.2)) : wf m (trav h r) := by
  by_cases ht : ∃ vs, r = .tu vs
  · obtain ⟨vs, rfl⟩ := ht
    have hs' : ∀ x ∈ vs, small1 x = true := fun x hx => List.all_eq_true.1 (by simpa [small] using hs) x hx
    have key : ∀ (l : List LV) (k : Nat), (∀ x ∈ l, small1 x = true) → (∀ p ∈ partsT k l, wf0 m (h p.1 p.2)) → ∀ x ∈ travT h k l, wf1 m x := by
      intro l; induction l with
      | nil => intro k _ _ x hx; simp [travT] at hx
      | cons y ys ih =>
        intro k h1 h2 x hx
        simp only [travT, List.mem_cons] at hx
        rcases hx with rfl | hx
        · exact wf1_trav hf (h1 y (by simp)) (fun p hpp => h2 p (by simp [partsT, hpp]))
        · exact ih (k + 100) (fun z hz => h1 z (by simp [hz])) (fun p hpp => h2 p (by simp [partsT, hpp])) x hx
    exact key vs 0 hs' hp
  · have ht' : ∀ vs, r ≠ .tu vs := fun vs e => ht ⟨vs, e⟩
    rw [small_flat ht'] at hs
    rw [trav_flat ht']
    have := wf1_trav (m := m) hf (k := 0) hs (fun p hpp => hp p (by rw [parts_flat ht']; exact hpp))
    generalize hy : trav1 h 0 r = y at *
    cases y
    case tu vs =>
      rcases three r with ⟨us, rfl⟩ | ⟨us, rfl⟩ | h'
      · cases hy
      · exact absurd rfl (ht' us)
      · rw [trav1_flat h'] at hy
        have := (hf 0 r h').1
        rw [hy] at this
        exact this.elim
    all_goals exact this

theorem trans_names (h : Inv S N G m w) {r c : LV} {V : Value} (hr : R G S m w r V) (hw : wf m r) (hc : closeV m r = some c) {mk : Nat → Id} (hmk : ∀ a b, mk a = mk b → a = b) :
    ∃ G' m', adds noMem (openV mk c).2 = some m' ∧ Inv S N G' m' w ∧ R G' S m' w (openV mk c).1 V ∧ wf m' (openV mk c).1 ∧ ∀ i, m' i ≠ none → ∃ k, i = mk k := by
  unfold closeV at hc
  split at hc
  case isFalse => cases hc
  rename_i hcond
  obtain ⟨hs, hall, hdup⟩ := hcond
  cases hc
  have hkeys := parts_keys hs
  have hflat : ∀ (k : Nat) (x : LV), flat0 x → flat0 ((fun (_ : Nat) x => (close0 m x).getD .un) k x) := by
    intro k x _
    cases hq : close0 m x with
    | none => simp only [hq]; exact trivial
    | some y =>
      simp only [hq, Option.getD_some]
      rcases close0_inv hq with (⟨rfl, v, rfl⟩ | ⟨rfl, rfl⟩ | ⟨rfl, n, rows, rfl⟩) | ⟨i, ch, e, n, rows, rfl, hl, rfl⟩ <;> exact trivial
  have hparts := parts_trav hflat hs
  have hcl : ∀ p ∈ parts r, ∃ y, close0 m p.2 = some y := fun p hp => by
    have := List.all_eq_true.1 hall p hp
    exact Option.isSome_iff_exists.1 this
  have hnd : ((((parts (trav (fun _ x => (close0 m x).getD .un) r)).filterMap (thing mk))).map (·.1)).Nodup := by
    apply thing_nodup hmk
    rw [hparts, List.map_map]
    exact hkeys
  obtain ⟨m', ha, hm'⟩ := adds_nodup (m0 := noMem) hnd (fun _ _ => rfl)
  -- what is in the new memory
  have hmem : ∀ id t, m' id = some t ↔ ∃ k i ch e n rows, (k, LV.rf i ch 0 rows.length) ∈ parts r ∧ look m i ch = some (e, n, rows) ∧ id = mk k ∧ t = .arr e n rows := by
    intro id t
    have hin : (id, t) ∈ (parts (trav (fun _ x => (close0 m x).getD .un) r)).filterMap (thing mk) ↔ ∃ k i ch e n rows, (k, LV.rf i ch 0 rows.length) ∈ parts r ∧ look m i ch = some (e, n, rows) ∧ id = mk k ∧ t = .arr e n rows := by
      rw [hparts]
      simp only [List.mem_filterMap, List.mem_map]
      constructor
      · rintro ⟨_, ⟨⟨k, x⟩, hx, rfl⟩, ht⟩
        obtain ⟨y, hy⟩ := hcl _ hx
        simp only at hy
        simp only [hy, Option.getD_some] at ht
        rcases close0_inv hy with (⟨rfl, v, rfl⟩ | ⟨rfl, rfl⟩ | ⟨rfl, n, rows, rfl⟩) | ⟨i, ch, e, n, rows, rfl, hl, rfl⟩ <;> simp only [thing] at ht <;> try cases ht
        exact ⟨k, i, ch, e, n, rows, hx, hl, rfl, rfl⟩
      · rintro ⟨k, i, ch, e, n, rows, hx, hl, rfl, rfl⟩
        refine ⟨_, ⟨(k, LV.rf i ch 0 rows.length), hx, rfl⟩, ?_⟩
        simp [close0, hl, thing]
    rw [← hin]
    constructor
    · intro h1
      by_cases hx : ∃ x, (id, x) ∈ (parts (trav (fun _ x => (close0 m x).getD .un) r)).filterMap (thing mk)
      · obtain ⟨x, hx⟩ := hx
        have := (hm' id).1 x hx
        rw [this] at h1; cases h1; exact hx
      · have := (hm' id).2 (fun x hx' => hx ⟨x, hx'⟩)
        rw [this] at h1; cases h1
    · exact (hm' id).1 t
  have hsrc : ∀ {k i ch n}, (k, LV.rf i ch 0 n) ∈ parts r → Src (parts r) mk (mk k) (i, ch) := fun {k i ch n} h => ⟨k, n, h, rfl⟩
  have hG : ∀ {k i ch n}, (k, LV.rf i ch 0 n) ∈ parts r → (newG G (parts r) mk).blk (mk k) = G.blkOf i ch ∧ (newG G (parts r) mk).cap (mk k) = G.capOf i ch ∧ (newG G (parts r) mk).cblk (mk k) = G.cblk i ∧ (newG G (parts r) mk).ccap (mk k) = G.ccap i :=
    fun {k i ch n} h => newG_at hmk hkeys (hsrc h)
  -- where the new pieces were
  have htau : ∀ p, live m' p → ∃ k i ch n p0, (k, LV.rf i ch 0 n) ∈ parts r ∧ live m p0 ∧ (newG G (parts r) mk).at p = G.at p0 ∧
      ((p = .root (mk k) ∧ ((ch = none ∧ p0 = .root i) ∨ ∃ r' c', ch = some (r', c') ∧ p0 = .chld i r' c')) ∨ ∃ r' c', p = .chld (mk k) r' c' ∧ ch = none ∧ p0 = .chld i r' c') := by
    intro p hp
    cases p with
    | root id =>
      rcases hp with ⟨cells, hc⟩ | ⟨e, n, rows, hc⟩
      · obtain ⟨_, _, _, _, _, _, _, _, _, q⟩ := (hmem _ _).1 hc; cases q
      · obtain ⟨k, i, ch, e', n', rows', h1, h2, rfl, h4⟩ := (hmem _ _).1 hc
        cases h4
        rcases look_inv h2 with ⟨rfl, hm⟩ | ⟨r', c', e0, n0, rows0, row0, l, rfl, hm, hr0, hc0, rfl⟩
        · exact ⟨k, i, none, _, .root i, h1, .inr ⟨e, n, rows, hm⟩, (hG h1).1, .inl ⟨rfl, .inl ⟨rfl, rfl⟩⟩⟩
        · exact ⟨k, i, some (r', c'), _, .chld i r' c', h1, ⟨e0, n0, rows0, row0, e, n, l, hm, hr0, hc0⟩, (hG h1).1, .inl ⟨rfl, .inr ⟨r', c', rfl, rfl⟩⟩⟩
    | chld id r' c' =>
      obtain ⟨e, n, rows, row, e1, n1, l1, hc, hr1, hc1⟩ := hp
      obtain ⟨k, i, ch, e', n', rows', h1, h2, rfl, h4⟩ := (hmem _ _).1 hc
      cases h4
      rcases look_inv h2 with ⟨rfl, hm⟩ | ⟨r0, c0, e0, n0, rows0, row0, l, rfl, hm, hr0, hc0, rfl⟩
      · refine ⟨k, i, none, _, .chld i r' c', h1, ⟨e, n, rows, row, e1, n1, l1, hm, hr1, hc1⟩, ?_, .inr ⟨r', c', rfl, rfl, rfl⟩⟩
        simp only [Gh.at, (hG h1).2.2.1]
      · obtain ⟨vs, _, rfl⟩ := lift_get hr1
        simp at hc1
  have rel0 : ∀ p ∈ parts r, ∀ u, R0 G S m w p.2 u → R0 (newG G (parts r) mk) S m' w (opn mk p.1 ((close0 m p.2).getD .un)) u := by
    intro p hp u hu
    obtain ⟨y, hy⟩ := hcl p hp
    obtain ⟨k, x⟩ := p
    simp only at hu hy ⊢
    simp only [hy, Option.getD_some]
    rcases close0_inv hy with (⟨rfl, v, rfl⟩ | ⟨rfl, rfl⟩ | ⟨rfl, n, rows, rfl⟩) | ⟨i, ch, e, n, rows, rfl, hl, rfl⟩
    · exact hu
    · exact hu
    · exact hu
    · have hnew := (hmem (mk k) _).2 ⟨k, i, ch, e, n, rows, hp, hl, rfl, rfl⟩
      simp only [R0] at hu; rw [hl] at hu
      obtain ⟨A, c, rfl, h1, h2, h3⟩ := hu
      simp only [opn, R0, look_none hnew]
      refine ⟨A, c, rfl, h1, by rw [h2]; simp only [Gh.capOf, (hG hp).2.1], fun hpos => ?_⟩
      rw [h3 hpos]
      simp only [Gh.blkOf, (hG hp).1]
  refine ⟨newG G (parts r) mk, m', ha, ⟨fun id e n rows hi => ?_, fun id cells hi => ?_, fun p q hp hq he => ?_, fun p hp => ?_, h.old⟩, ?_, ?_, fun i hi => ?_⟩
  · obtain ⟨k, i, ch, e', n', rows', h1, h2, rfl, h4⟩ := (hmem _ _).1 hi
    cases h4
    obtain ⟨g1, g2, g3, g4⟩ := hG h1
    rw [g1, g2]
    rcases look_inv h2 with ⟨rfl, hm⟩ | ⟨r0, c0, e0, n0, rows0, row0, l, rfl, hm, hr0, hc0, rfl⟩
    · refine OwG.mono (h.arr i e n rows hm) rfl fun r c row x u _ _ ho => ?_
      cases x with
      | un => trivial
      | sc v => exact ho
      | nl => exact ho
      | sl o e2 n2 l2 =>
        cases o with
        | false => exact ho
        | true =>
          simp only [OwC, g3, g4]
          exact ho
    · obtain ⟨cs, _, _, _, _, kk⟩ := h.arr i e0 n0 rows0 hm
      obtain ⟨u, _, -, ho⟩ := (kk r0 row0 hr0).2 c0 _ hc0
      obtain ⟨cs, h1, h2, h3, h4, h5⟩ := ho
      refine ⟨cs, h1, h2, by rw [lift_length]; exact h3, h4, fun r2 row hr2 => ?_⟩
      obtain ⟨vs, q1, rfl⟩ := lift_get hr2
      obtain ⟨q2, q3⟩ := h5 r2 vs q1
      refine ⟨by simpa using q2, fun k x hx => ?_⟩
      simp only [List.getElem?_map, Option.map_eq_some_iff] at hx
      obtain ⟨u, hu, rfl⟩ := hx
      exact q3 k u hu
  · obtain ⟨_, _, _, _, _, _, _, _, _, q⟩ := (hmem _ _).1 hi; cases q
  · obtain ⟨k, i, ch, n, p0, h1, h2, h3, h4⟩ := htau p hp
    obtain ⟨k', i', ch', n', q0, h1', h2', h3', h4'⟩ := htau q hq
    rw [h3, h3'] at he
    have e0 := h.inj p0 q0 h2 h2' he
    subst e0
    have hii : i = i' := by
      rcases h4 with ⟨_, ⟨_, rfl⟩ | ⟨_, _, _, rfl⟩⟩ | ⟨_, _, _, _, rfl⟩ <;> rcases h4' with ⟨_, ⟨_, e⟩ | ⟨_, _, _, e⟩⟩ | ⟨_, _, _, _, e⟩ <;> cases e <;> rfl
    subst hii
    obtain ⟨ja, hja⟩ := List.getElem?_of_mem h1
    obtain ⟨jb, hjb⟩ := List.getElem?_of_mem h1'
    have := noDup_get hdup ja jb _ _ hja hjb i rfl rfl
    subst this
    rw [hja] at hjb
    cases hjb
    rcases h4 with ⟨rfl, ⟨rfl, rfl⟩ | ⟨r1, c1, rfl, rfl⟩⟩ | ⟨r1, c1, rfl, rfl, rfl⟩ <;> rcases h4' with ⟨rfl, ⟨e1, e⟩ | ⟨r2, c2, e1, e⟩⟩ | ⟨r2, c2, rfl, e1, e⟩ <;> cases e <;> first | rfl | cases e1
  · obtain ⟨k, i, ch, n, p0, h1, h2, h3, h4⟩ := htau p hp
    rw [h3]
    exact h.sep p0 h2
  · show R _ S m' w (trav (opn mk) (trav (fun _ x => (close0 m x).getD .un) r)) V
    rw [trav_trav hflat hs]
    by_cases ht : ∃ vs, r = .tu vs
    · obtain ⟨vs, rfl⟩ := ht
      obtain ⟨cs, rfl, q⟩ := hr
      refine ⟨cs, rfl, RT_trav q (fun x hx f us e => ?_) rel0⟩
      subst e
      obtain ⟨k, hk⟩ := partsT_mem (x := .cl f us) trivial vs 0 hx
      obtain ⟨y, hy⟩ := hcl _ hk
      cases hy
    · have ht' : ∀ vs, r ≠ .tu vs := fun vs e => ht ⟨vs, e⟩
      rw [trav_flat ht']
      have hcl' : ∀ f us, r ≠ .cl f us := fun f us e => by
        subst e
        obtain ⟨y, hy⟩ := hcl (0, .cl f us) (by simp [parts, parts1])
        cases hy
      have hr1 : R1 G S m w r V := by cases r <;> first | exact hr | exact absurd rfl (ht' _)
      have := R1_trav (h := fun k x => opn mk k ((close0 m x).getD .un)) (k := 0) hr1 hcl' (fun p hp => rel0 p (by rw [parts_flat ht']; exact hp))
      generalize hy : trav1 (fun k x => opn mk k ((close0 m x).getD .un)) 0 r = y at *
      cases y <;> first | exact this | exact this.elim
  · show wf m' (trav (opn mk) (trav (fun _ x => (close0 m x).getD .un) r))
    rw [trav_trav hflat hs]
    refine wf_trav (fun k x hx => ?_) hs fun p hp => ?_
    · cases hq : close0 m x with
      | none => exact ⟨by simp [hq, opn, flat0], fun f vs => by simp [hq, opn]⟩
      | some y =>
        simp only [hq, Option.getD_some]
        rcases close0_inv hq with (⟨rfl, v, rfl⟩ | ⟨rfl, rfl⟩ | ⟨rfl, n, rows, rfl⟩) | ⟨i, ch, e, n, rows, rfl, hl, rfl⟩ <;> exact ⟨trivial, fun f vs e => by cases e⟩
    · obtain ⟨y, hy⟩ := hcl p hp
      obtain ⟨k, x⟩ := p
      simp only at hy ⊢
      simp only [hy, Option.getD_some]
      rcases close0_inv hy with (⟨rfl, v, rfl⟩ | ⟨rfl, rfl⟩ | ⟨rfl, n, rows, rfl⟩) | ⟨i, ch, e, n, rows, rfl, hl, rfl⟩
      · exact trivial
      · exact trivial
      · exact trivial
      · have hnew := (hmem (mk k) _).2 ⟨k, i, ch, e, n, rows, hp, hl, rfl, rfl⟩
        simp only [opn, wf0, hnew]
        simp
  · cases hq : m' i with
    | none => exact absurd hq hi
    | some t =>
      obtain ⟨k, _, _, _, _, _, _, _, e, _⟩ := (hmem _ _).1 hq
      exact ⟨k, e⟩
end
end Go.Proofs.Ytjdcohcdgdjobaa.Ev
