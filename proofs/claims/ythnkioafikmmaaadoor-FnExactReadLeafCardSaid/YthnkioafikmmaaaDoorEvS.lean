/- What a call hands back, under new names. -/
import Derived.Test.YthnkioafikmmaaaDoorEvN
import Derived.Laws.CopyRow
import Derived.Laws.MakeOwn
import Derived.Deep.Upon
import Derived.Laws.BitsLemmas
import Derived.Deep.AppendSrc
namespace Go.Proofs.YthnkioafikmmaaaDoor.Ev
open Go
set_option linter.unusedVariables false
set_option linter.unusedSimpArgs false

section
variable {P : Program} {ov : Ov} {S N : Nat → Prop} {G G0 : Gh} {m : Mem} {st : St} {a : Act} {w : World}

theorem close0_inv {x y : LV} (h : close0 m x = some y) : (y = x ∧ (∃ v, x = .sc v) ∨ y = x ∧ x = .nl ∨ y = x ∧ (∃ n rows, x = .ro n rows)) ∨ ∃ i ch e n rows, x = .rf i ch 0 rows.length ∧ look m i ch = some (e, n, rows) ∧ y = .ow e n rows := by
  cases x <;> simp only [close0] at h <;> try cases h
  case sc v => exact .inl (.inl ⟨rfl, v, rfl⟩)
  case nl => exact .inl (.inr (.inl ⟨rfl, rfl⟩))
  case ro n rows => exact .inl (.inr (.inr ⟨rfl, n, rows, rfl⟩))
  case rf i ch lo n =>
    cases hl : look m i ch with
    | none => rw [hl] at h; cases h
    | some q =>
      obtain ⟨e, n1, rows⟩ := q
      rw [hl] at h
      simp only [] at h
      split at h
      · rename_i hc
        cases h
        obtain ⟨rfl, rfl⟩ := hc
        exact .inr ⟨i, ch, e, n1, rows, rfl, hl, rfl⟩
      · cases h

theorem thing_nodup {mk : Nat → Id} (hmk : ∀ a b, mk a = mk b → a = b) : ∀ {l : List (Nat × LV)}, (l.map (·.1)).Nodup → ((l.filterMap (thing mk)).map (·.1)).Nodup := by
  intro l; induction l with
  | nil => intro _; simp
  | cons p l ih =>
    intro h
    simp only [List.map_cons, List.nodup_cons, List.mem_map, not_exists, not_and] at h
    have := ih h.2
    simp only [List.filterMap_cons]
    cases hp : thing mk p with
    | none => exact this
    | some q =>
      simp only [List.map_cons, List.nodup_cons, List.mem_map, not_exists, not_and]
      refine ⟨fun z hz e => ?_, this⟩
      obtain ⟨p', hp', e'⟩ := List.mem_filterMap.1 hz
      have k1 : ∀ {p : Nat × LV} {q : Id × Thing}, thing mk p = some q → q.1 = mk p.1 := by
        intro p q h
        obtain ⟨k, x⟩ := p
        cases x <;> simp [thing] at h
        subst h; rfl
      rw [k1 hp, k1 e'] at e
      exact h.1 p' hp' (hmk _ _ e)

theorem key_unique {l : List (Nat × LV)} (h : (l.map (·.1)).Nodup) {k : Nat} {x y : LV} (hx : (k, x) ∈ l) (hy : (k, y) ∈ l) : x = y := by
  induction l with
  | nil => simp at hx
  | cons p l ih =>
    simp only [List.map_cons, List.nodup_cons, List.mem_map, not_exists, not_and] at h
    simp only [List.mem_cons] at hx hy
    rcases hx with rfl | hx <;> rcases hy with hy | hy
    · cases hy; rfl
    · exact absurd rfl (h.1 (k, y) hy)
    · cases hy; exact absurd rfl (h.1 (k, x) hx)
    · exact ih h.2 hx hy

def Src (ps : List (Nat × LV)) (mk : Nat → Id) (id : Id) (q : Id × Option (Nat × Nat)) : Prop := ∃ k n, (k, LV.rf q.1 q.2 0 n) ∈ ps ∧ id = mk k
open Classical in
noncomputable def newG (G : Gh) (ps : List (Nat × LV)) (mk : Nat → Id) : Gh where
  blk id := if h : ∃ q, Src ps mk id q then G.blkOf (Classical.choose h).1 (Classical.choose h).2 else 0
  cap id := if h : ∃ q, Src ps mk id q then G.capOf (Classical.choose h).1 (Classical.choose h).2 else 0
  cblk id := if h : ∃ q, Src ps mk id q then G.cblk (Classical.choose h).1 else fun _ _ => 0
  ccap id := if h : ∃ q, Src ps mk id q then G.ccap (Classical.choose h).1 else fun _ _ => 0

theorem Src.unique {ps : List (Nat × LV)} {mk : Nat → Id} (hmk : ∀ a b, mk a = mk b → a = b) (hk : (ps.map (·.1)).Nodup) {id : Id} {q q' : Id × Option (Nat × Nat)} (h : Src ps mk id q) (h' : Src ps mk id q') : q = q' := by
  obtain ⟨k, n, h1, rfl⟩ := h
  obtain ⟨k', n', h2, e⟩ := h'
  have := hmk _ _ e
  subst this
  have := key_unique hk h1 h2
  cases q; cases q'
  simp only [LV.rf.injEq] at this
  obtain ⟨rfl, rfl, _⟩ := this
  rfl
open Classical in
theorem newG_at {ps : List (Nat × LV)} {mk : Nat → Id} (hmk : ∀ a b, mk a = mk b → a = b) (hk : (ps.map (·.1)).Nodup) {id : Id} {q : Id × Option (Nat × Nat)} (h : Src ps mk id q) :
    (newG G ps mk).blk id = G.blkOf q.1 q.2 ∧ (newG G ps mk).cap id = G.capOf q.1 q.2 ∧ (newG G ps mk).cblk id = G.cblk q.1 ∧ (newG G ps mk).ccap id = G.ccap q.1 := by
  have hex : ∃ q, Src ps mk id q := ⟨q, h⟩
  have e : Classical.choose hex = q := (Classical.choose_spec hex).unique hmk hk h
  simp only [newG, dif_pos hex, e, and_self]

theorem travL_travL {f g : Nat → LV → LV} : ∀ (l : List LV) (k : Nat), travL g k (travL f k l) = travL (fun k x => g k (f k x)) k l := by
  intro l; induction l with
  | nil => intro k; rfl
  | cons x xs ih => intro k; simp [travL, ih]
theorem trav1_trav1 {f g : Nat → LV → LV} (hf : ∀ k x, flat0 x → flat0 (f k x)) {k : Nat} {x : LV} (hx : small1 x = true) : trav1 g k (trav1 f k x) = trav1 (fun k x => g k (f k x)) k x := by
  rcases three x with ⟨vs, rfl⟩ | ⟨vs, rfl⟩ | h
  · simp only [trav1, travL_travL]
  · simp [small1] at hx
  · rw [trav1_flat h, trav1_flat h, trav1_flat (hf k x h)]
theorem travT_travT {f g : Nat → LV → LV} (hf : ∀ k x, flat0 x → flat0 (f k x)) : ∀ (l : List LV) (k : Nat), (∀ x ∈ l, small1 x = true) → travT g k (travT f k l) = travT (fun k x => g k (f k x)) k l := by
  intro l; induction l with
  | nil => intro k _; rfl
  | cons x xs ih => intro k h; simp only [travT]; rw [trav1_trav1 hf (h x (by simp)), ih (k + 100) (fun y hy => h y (by simp [hy]))]
theorem trav_trav {f g : Nat → LV → LV} (hf : ∀ k x, flat0 x → flat0 (f k x)) {r : LV} (hs : small r = true) : trav g (trav f r) = trav (fun k x => g k (f k x)) r := by
  by_cases ht : ∃ vs, r = .tu vs
  · obtain ⟨vs, rfl⟩ := ht
    simp only [trav]
    rw [travT_travT hf vs 0 (fun x hx => List.all_eq_true.1 (by simpa [small] using hs) x hx)]
  · have ht' : ∀ vs, r ≠ .tu vs := fun vs e => ht ⟨vs, e⟩
    rw [small_flat ht'] at hs
    have h2 : ∀ vs, trav1 f 0 r ≠ .tu vs := by
      intro vs e
      rcases three r with ⟨us, rfl⟩ | ⟨us, rfl⟩ | h
      · cases e
      · exact ht' us rfl
      · rw [trav1_flat h] at e
        have := hf 0 r h
        rw [e] at this
        exact this
    rw [trav_flat ht', trav_flat h2, trav_flat ht', trav1_trav1 hf hs]

theorem R0_notag {x : LV} {v : Value} (h : R0 G S m w x v) : flat0 x := by
  cases x <;> first | trivial | exact h.elim

theorem R1_trav {G' : Gh} {m' : Mem} {w' : World} {h : Nat → LV → LV} {x : LV} {k : Nat} {V : Value} (hr : R1 G S m w x V) (hcl : ∀ f vs, x ≠ .cl f vs)
    (hp : ∀ p ∈ parts1 k x, ∀ u, R0 G S m w p.2 u → R0 G' S m' w' (h p.1 p.2) u) : R1 G' S m' w' (trav1 h k x) V := by
  rcases three x with ⟨vs, rfl⟩ | ⟨vs, rfl⟩ | hx
  · obtain ⟨cs, rfl, q⟩ := hr
    exact ⟨cs, rfl, RL_trav q hp⟩
  · exact hr.elim
  · rw [trav1_flat hx]
    have h0 : R0 G S m w x V := by cases x <;> first | exact hr | exact hx.elim | exact absurd rfl (hcl _ _)
    have h1 := hp (k, x) (by rw [parts1_flat hx]; simp) V h0
    simp only at h1
    have := R0_notag h1
    generalize h k x = y at *
    cases y <;> first | exact h1 | exact this.elim | exact h1.elim

theorem RT_trav {G' : Gh} {m' : Mem} {w' : World} {h : Nat → LV → LV} : ∀ {vs : List LV} {k : Nat} {cs : Array Value}, RL (R1 G S m w) vs cs → (∀ x ∈ vs, ∀ f us, x ≠ .cl f us) →
    (∀ p ∈ partsT k vs, ∀ u, R0 G S m w p.2 u → R0 G' S m' w' (h p.1 p.2) u) → RL (R1 G' S m' w') (travT h k vs) cs := by
  intro vs k cs hr hcl hp
  have len : ∀ (l : List LV) (k : Nat), (travT h k l).length = l.length := by
    intro l; induction l with
    | nil => intro k; rfl
    | cons x xs ih => intro k; simp [travT, ih]
  have get : ∀ (l : List LV) (k j : Nat) (y : LV), (travT h k l)[j]? = some y → ∃ x, l[j]? = some x ∧ y = trav1 h (k + 100 * j) x ∧ ∀ p ∈ parts1 (k + 100 * j) x, p ∈ partsT k l := by
    intro l; induction l with
    | nil => intro k j y h; simp [travT] at h
    | cons x xs ih =>
      intro k j y hy
      cases j with
      | zero => simp [travT] at hy; exact ⟨x, by simp, hy.symm, fun p hp => by simp only [partsT, List.mem_append]; exact .inl hp⟩
      | succ j =>
        obtain ⟨z, h1, h2, h3⟩ := ih (k + 100) j y (by simpa [travT] using hy)
        have e : k + 100 * (j + 1) = k + 100 + 100 * j := by omega
        refine ⟨z, by simpa using h1, by rw [h2, e], fun p hp => ?_⟩
        rw [e] at hp
        simp only [partsT, List.mem_append]
        exact .inr (h3 p hp)
  refine ⟨by rw [hr.1, len], fun j y hj => ?_⟩
  obtain ⟨x, h1, rfl, h3⟩ := get vs k j y hj
  obtain ⟨u, u1, u2⟩ := hr.2 j x h1
  exact ⟨u, u1, R1_trav u2 (hcl x (List.mem_of_getElem? h1)) (fun p hpp => hp p (h3 p hpp))⟩

theorem partsT_mem {x : LV} (hx : flat0 x) : ∀ (vs : List LV) (k : Nat), x ∈ vs → ∃ j, (j, x) ∈ partsT k vs := by
  intro vs; induction vs with
  | nil => intro k h; simp at h
  | cons y ys ih =>
    intro k h
    simp only [List.mem_cons] at h
    rcases h with rfl | h
    · exact ⟨k, by simp [partsT, parts1_flat hx]⟩
    · obtain ⟨j, hj⟩ := ih (k + 100) h
      exact ⟨j, by simp [partsT, hj]⟩
theorem wfL_trav {h : Nat → LV → LV} : ∀ (l : List LV) (k : Nat), (∀ p ∈ partsL k l, wf0 m (h p.1 p.2)) → ∀ x ∈ travL h k l, wf0 m x := by
  intro l; induction l with
  | nil => intro k _ x hx; simp [travL] at hx
  | cons y ys ih =>
    intro k hp x hx
    simp only [travL, List.mem_cons] at hx
    rcases hx with rfl | hx
    · exact hp (k, y) (by simp [partsL])
    · exact ih (k + 1) (fun p hp' => hp p (by simp [partsL, hp'])) x hx
theorem wf1_trav {h : Nat → LV → LV} (hf : ∀ k x, flat0 x → flat0 (h k x) ∧ ∀ f vs, h k x ≠ .cl f vs) {x : LV} {k : Nat} (hx : small1 x = true) (hp : ∀ p ∈ parts1 k x, wf0 m (h p.1 p.2)) : wf1 m (trav1 h k x) := by
  rcases three x with ⟨vs, rfl⟩ | ⟨vs, rfl⟩ | hx'
  · exact wfL_trav vs k hp
  · simp [small1] at hx
  · rw [trav1_flat hx']
    have h1 := hp (k, x) (by rw [parts1_flat hx']; simp)
    obtain ⟨h2, h3⟩ := hf k x hx'
    simp only at h1
    generalize h k x = y at *
    cases y <;> first | exact h1 | exact h2.elim | exact absurd rfl (h3 _ _)
theorem wf_trav {h : Nat → LV → LV} (hf : ∀ k x, flat0 x → flat0 (h k x) ∧ ∀ f vs, h k x ≠ .cl f vs) {r : LV} (hs : small r = true) (hp : ∀ p ∈ parts r, wf0 m (h p.1 p.2)) : wf m (trav h r) := by
  by_cases ht : ∃ vs, r = .tu vs
  · obtain ⟨vs, rfl⟩ := ht
    have hs' : ∀ x ∈ vs, small1 x = true := fun x hx => List.all_eq_true.1 (by simpa [small] using hs) x hx
    have key : ∀ (l : List LV) (k : Nat), (∀ x ∈ l, small1 x = true) → (∀ p ∈ partsT k l, wf0 m (h p.1 p.2)) → ∀ x ∈ travT h k l, wf1 m x := by
      intro l; induction l with
      | nil => intro k _ _ x hx; simp [travT] at hx
      | cons y ys ih =>
        intro k h1 h2 x hx
        simp only [travT, List.mem_cons] at hx
        rcases hx with rfl | hx
        · exact wf1_trav hf (h1 y (by simp)) (fun p hpp => h2 p (by simp [partsT, hpp]))
        · exact ih (k + 100) (fun z hz => h1 z (by simp [hz])) (fun p hpp => h2 p (by simp [partsT, hpp])) x hx
    exact key vs 0 hs' hp
  · have ht' : ∀ vs, r ≠ .tu vs := fun vs e => ht ⟨vs, e⟩
    rw [small_flat ht'] at hs
    rw [trav_flat ht']
    have := wf1_trav (m := m) hf (k := 0) hs (fun p hpp => hp p (by rw [parts_flat ht']; exact hpp))
    generalize hy : trav1 h 0 r = y at *
    cases y
    case tu vs =>
      rcases three r with ⟨us, rfl⟩ | ⟨us, rfl⟩ | h'
      · cases hy
      · exact absurd rfl (ht' us)
      · rw [trav1_flat h'] at hy
        have := (hf 0 r h').1
        rw [hy] at this
        exact this.elim
    all_goals exact this

/-- a piece of memory that a value hands over -/
def lentP (ps : List (Nat × LV)) (p0 : Res) : Prop := ∃ k i ch n, (k, LV.rf i ch 0 n) ∈ ps ∧ ((ch = none ∧ p0 = .root i) ∨ (∃ r' c', ch = some (r', c') ∧ p0 = .chld i r' c') ∨ ∃ r' c', ch = none ∧ p0 = .chld i r' c')
theorem trans_names2 (h : Inv S N G m w) {r c : LV} {V : Value} (hr : R G S m w r V) (hw : wf m r) (hc : closeV m r = some c) {mk : Nat → Id} (hmk : ∀ a b, mk a = mk b → a = b) :
    ∃ G' m', adds noMem (openV mk c).2 = some m' ∧ Inv S N G' m' w ∧ R G' S m' w (openV mk c).1 V ∧ wf m' (openV mk c).1 ∧ (∀ i, m' i ≠ none → ∃ k, i = mk k) ∧
      (∀ k i ch n, (k, LV.rf i ch 0 n) ∈ parts r → G'.blk (mk k) = G.blkOf i ch ∧ G'.cap (mk k) = G.capOf i ch) ∧ (∀ p, live m' p → ∃ p0, live m p0 ∧ G'.at p = G.at p0 ∧ lentP (parts r) p0) := by
  unfold closeV at hc
  split at hc
  case isFalse => cases hc
  rename_i hcond
  obtain ⟨hs, hall, hdup⟩ := hcond
  cases hc
  have hkeys := parts_keys hs
  have hflat : ∀ (k : Nat) (x : LV), flat0 x → flat0 ((fun (_ : Nat) x => (close0 m x).getD .un) k x) := by
    intro k x _
    cases hq : close0 m x with
    | none => simp only [hq]; exact trivial
    | some y =>
      simp only [hq, Option.getD_some]
      rcases close0_inv hq with (⟨rfl, v, rfl⟩ | ⟨rfl, rfl⟩ | ⟨rfl, n, rows, rfl⟩) | ⟨i, ch, e, n, rows, rfl, hl, rfl⟩ <;> exact trivial
  have hparts := parts_trav hflat hs
  have hcl : ∀ p ∈ parts r, ∃ y, close0 m p.2 = some y := fun p hp => by
    have := List.all_eq_true.1 hall p hp
    exact Option.isSome_iff_exists.1 this
  have hnd : ((((parts (trav (fun _ x => (close0 m x).getD .un) r)).filterMap (thing mk))).map (·.1)).Nodup := by
    apply thing_nodup hmk
    rw [hparts, List.map_map]
    exact hkeys
  obtain ⟨m', ha, hm'⟩ := adds_nodup (m0 := noMem) hnd (fun _ _ => rfl)
  -- what is in the new memory
  have hmem : ∀ id t, m' id = some t ↔ ∃ k i ch e n rows, (k, LV.rf i ch 0 rows.length) ∈ parts r ∧ look m i ch = some (e, n, rows) ∧ id = mk k ∧ t = .arr e n rows := by
    intro id t
    have hin : (id, t) ∈ (parts (trav (fun _ x => (close0 m x).getD .un) r)).filterMap (thing mk) ↔ ∃ k i ch e n rows, (k, LV.rf i ch 0 rows.length) ∈ parts r ∧ look m i ch = some (e, n, rows) ∧ id = mk k ∧ t = .arr e n rows := by
      rw [hparts]
      simp only [List.mem_filterMap, List.mem_map]
      constructor
      · rintro ⟨_, ⟨⟨k, x⟩, hx, rfl⟩, ht⟩
        obtain ⟨y, hy⟩ := hcl _ hx
        simp only at hy
        simp only [hy, Option.getD_some] at ht
        rcases close0_inv hy with (⟨rfl, v, rfl⟩ | ⟨rfl, rfl⟩ | ⟨rfl, n, rows, rfl⟩) | ⟨i, ch, e, n, rows, rfl, hl, rfl⟩ <;> simp only [thing] at ht <;> try cases ht
        exact ⟨k, i, ch, e, n, rows, hx, hl, rfl, rfl⟩
      · rintro ⟨k, i, ch, e, n, rows, hx, hl, rfl, rfl⟩
        refine ⟨_, ⟨(k, LV.rf i ch 0 rows.length), hx, rfl⟩, ?_⟩
        simp [close0, hl, thing]
    rw [← hin]
    constructor
    · intro h1
      by_cases hx : ∃ x, (id, x) ∈ (parts (trav (fun _ x => (close0 m x).getD .un) r)).filterMap (thing mk)
      · obtain ⟨x, hx⟩ := hx
        have := (hm' id).1 x hx
        rw [this] at h1; cases h1; exact hx
      · have := (hm' id).2 (fun x hx' => hx ⟨x, hx'⟩)
        rw [this] at h1; cases h1
    · exact (hm' id).1 t
  have hsrc : ∀ {k i ch n}, (k, LV.rf i ch 0 n) ∈ parts r → Src (parts r) mk (mk k) (i, ch) := fun {k i ch n} h => ⟨k, n, h, rfl⟩
  have hG : ∀ {k i ch n}, (k, LV.rf i ch 0 n) ∈ parts r → (newG G (parts r) mk).blk (mk k) = G.blkOf i ch ∧ (newG G (parts r) mk).cap (mk k) = G.capOf i ch ∧ (newG G (parts r) mk).cblk (mk k) = G.cblk i ∧ (newG G (parts r) mk).ccap (mk k) = G.ccap i :=
    fun {k i ch n} h => newG_at hmk hkeys (hsrc h)
  -- where the new pieces were
  have htau : ∀ p, live m' p → ∃ k i ch n p0, (k, LV.rf i ch 0 n) ∈ parts r ∧ live m p0 ∧ (newG G (parts r) mk).at p = G.at p0 ∧
      ((p = .root (mk k) ∧ ((ch = none ∧ p0 = .root i) ∨ ∃ r' c', ch = some (r', c') ∧ p0 = .chld i r' c')) ∨ ∃ r' c', p = .chld (mk k) r' c' ∧ ch = none ∧ p0 = .chld i r' c') := by
    intro p hp
    cases p with
    | root id =>
      rcases hp with ⟨cells, hc⟩ | ⟨e, n, rows, hc⟩
      · obtain ⟨_, _, _, _, _, _, _, _, _, q⟩ := (hmem _ _).1 hc; cases q
      · obtain ⟨k, i, ch, e', n', rows', h1, h2, rfl, h4⟩ := (hmem _ _).1 hc
        cases h4
        rcases look_inv h2 with ⟨rfl, hm⟩ | ⟨r', c', e0, n0, rows0, row0, l, rfl, hm, hr0, hc0, rfl⟩
        · exact ⟨k, i, none, _, .root i, h1, .inr ⟨e, n, rows, hm⟩, (hG h1).1, .inl ⟨rfl, .inl ⟨rfl, rfl⟩⟩⟩
        · exact ⟨k, i, some (r', c'), _, .chld i r' c', h1, ⟨e0, n0, rows0, row0, e, n, l, hm, hr0, hc0⟩, (hG h1).1, .inl ⟨rfl, .inr ⟨r', c', rfl, rfl⟩⟩⟩
    | chld id r' c' =>
      obtain ⟨e, n, rows, row, e1, n1, l1, hc, hr1, hc1⟩ := hp
      obtain ⟨k, i, ch, e', n', rows', h1, h2, rfl, h4⟩ := (hmem _ _).1 hc
      cases h4
      rcases look_inv h2 with ⟨rfl, hm⟩ | ⟨r0, c0, e0, n0, rows0, row0, l, rfl, hm, hr0, hc0, rfl⟩
      · refine ⟨k, i, none, _, .chld i r' c', h1, ⟨e, n, rows, row, e1, n1, l1, hm, hr1, hc1⟩, ?_, .inr ⟨r', c', rfl, rfl, rfl⟩⟩
        simp only [Gh.at, (hG h1).2.2.1]
      · obtain ⟨vs, _, rfl⟩ := lift_get hr1
        simp at hc1
  have rel0 : ∀ p ∈ parts r, ∀ u, R0 G S m w p.2 u → R0 (newG G (parts r) mk) S m' w (opn mk p.1 ((close0 m p.2).getD .un)) u := by
    intro p hp u hu
    obtain ⟨y, hy⟩ := hcl p hp
    obtain ⟨k, x⟩ := p
    simp only at hu hy ⊢
    simp only [hy, Option.getD_some]
    rcases close0_inv hy with (⟨rfl, v, rfl⟩ | ⟨rfl, rfl⟩ | ⟨rfl, n, rows, rfl⟩) | ⟨i, ch, e, n, rows, rfl, hl, rfl⟩
    · exact hu
    · exact hu
    · exact hu
    · have hnew := (hmem (mk k) _).2 ⟨k, i, ch, e, n, rows, hp, hl, rfl, rfl⟩
      simp only [R0] at hu; rw [hl] at hu
      obtain ⟨A, c, rfl, h1, h2, h3⟩ := hu
      simp only [opn, R0, look_none hnew]
      refine ⟨A, c, rfl, h1, by rw [h2]; simp only [Gh.capOf, (hG hp).2.1], fun hpos => ?_⟩
      rw [h3 hpos]
      simp only [Gh.blkOf, (hG hp).1]
  refine ⟨newG G (parts r) mk, m', ha, ⟨fun id e n rows hi => ?_, fun id cells hi => ?_, fun p q hp hq he => ?_, fun p hp => ?_, h.old⟩, ?_, ?_, fun i hi => ?_, fun k i ch n hp => ⟨(hG hp).1, (hG hp).2.1⟩, fun p hp => ?_⟩
  · obtain ⟨k, i, ch, e', n', rows', h1, h2, rfl, h4⟩ := (hmem _ _).1 hi
    cases h4
    obtain ⟨g1, g2, g3, g4⟩ := hG h1
    rw [g1, g2]
    rcases look_inv h2 with ⟨rfl, hm⟩ | ⟨r0, c0, e0, n0, rows0, row0, l, rfl, hm, hr0, hc0, rfl⟩
    · refine OwG.mono (h.arr i e n rows hm) rfl fun r c row x u _ _ ho => ?_
      cases x with
      | un => trivial
      | sc v => exact ho
      | nl => exact ho
      | sl o e2 n2 l2 =>
        cases o with
        | false => exact ho
        | true =>
          simp only [OwC, g3, g4]
          exact ho
    · obtain ⟨cs, _, _, _, _, kk⟩ := h.arr i e0 n0 rows0 hm
      obtain ⟨u, _, -, ho⟩ := (kk r0 row0 hr0).2 c0 _ hc0
      obtain ⟨cs, h1, h2, h3, h4, h5⟩ := ho
      refine ⟨cs, h1, h2, by rw [lift_length]; exact h3, h4, fun r2 row hr2 => ?_⟩
      obtain ⟨vs, q1, rfl⟩ := lift_get hr2
      obtain ⟨q2, q3⟩ := h5 r2 vs q1
      refine ⟨by simpa using q2, fun k x hx => ?_⟩
      simp only [List.getElem?_map, Option.map_eq_some_iff] at hx
      obtain ⟨u, hu, rfl⟩ := hx
      exact q3 k u hu
  · obtain ⟨_, _, _, _, _, _, _, _, _, q⟩ := (hmem _ _).1 hi; cases q
  · obtain ⟨k, i, ch, n, p0, h1, h2, h3, h4⟩ := htau p hp
    obtain ⟨k', i', ch', n', q0, h1', h2', h3', h4'⟩ := htau q hq
    rw [h3, h3'] at he
    have e0 := h.inj p0 q0 h2 h2' he
    subst e0
    have hii : i = i' := by
      rcases h4 with ⟨_, ⟨_, rfl⟩ | ⟨_, _, _, rfl⟩⟩ | ⟨_, _, _, _, rfl⟩ <;> rcases h4' with ⟨_, ⟨_, e⟩ | ⟨_, _, _, e⟩⟩ | ⟨_, _, _, _, e⟩ <;> cases e <;> rfl
    subst hii
    obtain ⟨ja, hja⟩ := List.getElem?_of_mem h1
    obtain ⟨jb, hjb⟩ := List.getElem?_of_mem h1'
    have := noDup_get hdup ja jb _ _ hja hjb i rfl rfl
    subst this
    rw [hja] at hjb
    cases hjb
    rcases h4 with ⟨rfl, ⟨rfl, rfl⟩ | ⟨r1, c1, rfl, rfl⟩⟩ | ⟨r1, c1, rfl, rfl, rfl⟩ <;> rcases h4' with ⟨rfl, ⟨e1, e⟩ | ⟨r2, c2, e1, e⟩⟩ | ⟨r2, c2, rfl, e1, e⟩ <;> cases e <;> first | rfl | cases e1
  · obtain ⟨k, i, ch, n, p0, h1, h2, h3, h4⟩ := htau p hp
    rw [h3]
    exact h.sep p0 h2
  · show R _ S m' w (trav (opn mk) (trav (fun _ x => (close0 m x).getD .un) r)) V
    rw [trav_trav hflat hs]
    by_cases ht : ∃ vs, r = .tu vs
    · obtain ⟨vs, rfl⟩ := ht
      obtain ⟨cs, rfl, q⟩ := hr
      refine ⟨cs, rfl, RT_trav q (fun x hx f us e => ?_) rel0⟩
      subst e
      obtain ⟨k, hk⟩ := partsT_mem (x := .cl f us) trivial vs 0 hx
      obtain ⟨y, hy⟩ := hcl _ hk
      cases hy
    · have ht' : ∀ vs, r ≠ .tu vs := fun vs e => ht ⟨vs, e⟩
      rw [trav_flat ht']
      have hcl' : ∀ f us, r ≠ .cl f us := fun f us e => by
        subst e
        obtain ⟨y, hy⟩ := hcl (0, .cl f us) (by simp [parts, parts1])
        cases hy
      have hr1 : R1 G S m w r V := by cases r <;> first | exact hr | exact absurd rfl (ht' _)
      have := R1_trav (h := fun k x => opn mk k ((close0 m x).getD .un)) (k := 0) hr1 hcl' (fun p hp => rel0 p (by rw [parts_flat ht']; exact hp))
      generalize hy : trav1 (fun k x => opn mk k ((close0 m x).getD .un)) 0 r = y at *
      cases y <;> first | exact this | exact this.elim
  · show wf m' (trav (opn mk) (trav (fun _ x => (close0 m x).getD .un) r))
    rw [trav_trav hflat hs]
    refine wf_trav (fun k x hx => ?_) hs fun p hp => ?_
    · cases hq : close0 m x with
      | none => exact ⟨by simp [hq, opn, flat0], fun f vs => by simp [hq, opn]⟩
      | some y =>
        simp only [hq, Option.getD_some]
        rcases close0_inv hq with (⟨rfl, v, rfl⟩ | ⟨rfl, rfl⟩ | ⟨rfl, n, rows, rfl⟩) | ⟨i, ch, e, n, rows, rfl, hl, rfl⟩ <;> exact ⟨trivial, fun f vs e => by cases e⟩
    · obtain ⟨y, hy⟩ := hcl p hp
      obtain ⟨k, x⟩ := p
      simp only at hy ⊢
      simp only [hy, Option.getD_some]
      rcases close0_inv hy with (⟨rfl, v, rfl⟩ | ⟨rfl, rfl⟩ | ⟨rfl, n, rows, rfl⟩) | ⟨i, ch, e, n, rows, rfl, hl, rfl⟩
      · exact trivial
      · exact trivial
      · exact trivial
      · have hnew := (hmem (mk k) _).2 ⟨k, i, ch, e, n, rows, hp, hl, rfl, rfl⟩
        simp only [opn, wf0, hnew]
        simp
  · cases hq : m' i with
    | none => exact absurd hq hi
    | some t =>
      obtain ⟨k, _, _, _, _, _, _, _, e, _⟩ := (hmem _ _).1 hq
      exact ⟨k, e⟩
  · obtain ⟨k, i, ch, n, p0, h1, h2, h3, h4⟩ := htau p hp
    refine ⟨p0, h2, h3, k, i, ch, n, h1, ?_⟩
    rcases h4 with ⟨_, h5 | h5⟩ | ⟨r', c', _, h6, h7⟩
    · exact .inl h5
    · exact .inr (.inl h5)
    · exact .inr (.inr ⟨r', c', h6, h7⟩)
theorem trans_names (h : Inv S N G m w) {r c : LV} {V : Value} (hr : R G S m w r V) (hw : wf m r) (hc : closeV m r = some c) {mk : Nat → Id} (hmk : ∀ a b, mk a = mk b → a = b) :
    ∃ G' m', adds noMem (openV mk c).2 = some m' ∧ Inv S N G' m' w ∧ R G' S m' w (openV mk c).1 V ∧ wf m' (openV mk c).1 ∧ ∀ i, m' i ≠ none → ∃ k, i = mk k := by
  obtain ⟨G', m', h1, h2, h3, h4, h5, -⟩ := trans_names2 h hr hw hc hmk
  exact ⟨G', m', h1, h2, h3, h4, h5⟩
end
end Go.Proofs.YthnkioafikmmaaaDoor.Ev

namespace Go.Proofs.YthnkioafikmmaaaDoor.Ev
open Go
set_option linter.unusedVariables false
set_option linter.unusedSimpArgs false

/-- what a call of f with these arguments does -/
def Contract (T : Tab) (P : Program) (f : Nat) (args : List LV) (r : LV) : Prop :=
  ∀ (S : Nat → Prop) (w : World) (vals : Array Value) (G : Gh), (∀ b, S b → b < w.heap.size) → RL (fun x u => R G S noMem w x u ∧ wf noMem x) args vals → Tb T (fun b => w.heap.size ≤ b) w →
    Calls P f vals w fun e w' => ∃ v, e = .returned v ∧ FrN (fun b => w.heap.size ≤ b) w w' ∧
      ∀ mk : Nat → Id, (∀ a b, mk a = mk b → a = b) → ∃ G' m', adds noMem (openV mk r).2 = some m' ∧ Inv S (fun b => w.heap.size ≤ b) G' m' w' ∧ R G' S m' w' (openV mk r).1 v ∧ wf m' (openV mk r).1 ∧ ∀ i, m' i ≠ none → ∃ k, i = mk k

def enterOk (P : Program) (f : Nat) : Bool :=
  match P.funcs[f]? with
  | some fn => !(fn.name == "runtime.NumGoroutine") && (match fn.body with | some _ => true | none => false)
  | none => false

section
variable {P : Program} {ov : Ov} {S N : Nat → Prop} {G G0 : Gh} {m : Mem} {st : St} {a : Act} {w : World}

theorem run_callFunc {f : Nat} (h : enterOk P f = true) (args : Array Value) : (callFunc f args).run P w = .ok (.enter f args) w := by
  unfold enterOk at h
  cases hf : P.funcs[f]? with
  | none => rw [hf] at h; cases h
  | some fn =>
    rw [hf] at h
    simp only [Bool.and_eq_true, Bool.not_eq_true', beq_eq_false_iff_ne] at h
    cases hb : fn.body with
    | none => rw [hb] at h; cases h.2
    | some c => simp [callFunc, hf, h.1, hb]

/-- an operation's outcome: a value, or a call -/
def Op1 (P : Program) (o : Oper) (a : Act) (w : World) (Φ : Value → World → Prop) : Prop :=
  Does P o a w Φ ∨ ∃ f vals, (execOp a.eval o).run P w = .ok (.enter f vals) w ∧ Calls P f vals w fun e w' => ∃ v, e = .returned v ∧ Φ v w'

theorem Op1.wp {o : Oper} {Φ : Value → World → Prop} (h : Op1 P o a w Φ) {K : Act → World → Prop} {Q : Exit → Act → World → Prop} (hK : ∀ v w', Φ v w' → K (a.put o.dst v) w') : o.wp P a w K Q := by
  rcases h with ⟨v, w', hr, hΦ⟩ | ⟨f, vals, hr, hc⟩
  · unfold Oper.wp; rw [hr]; exact hK v w' hΦ
  · unfold Oper.wp; rw [hr]
    simp only [Oper.upon]
    refine Calls.mono hc fun e w' => ?_
    rintro ⟨v, rfl, hΦ⟩
    exact hK v w' hΦ

/-- cells that lead to nothing that is read alone -/
def noRo (x : Cell) : Prop := ∀ e n l, x ≠ .sl false e n l

theorem Inv.narrow {S2 : Nat → Prop} (h : Inv S2 N G m w) (hS : ∀ b, S b → S2 b) (hb : ∀ i cells, m i ≠ some (.box cells)) (hc : ∀ i e n rows, m i = some (.arr e n rows) → ∀ row ∈ rows, ∀ x ∈ row, noRo x) : Inv S N G m w := by
  refine ⟨fun i e n rows hi => OwG.mono (h.arr i e n rows hi) rfl fun r c row x u hr hcx ho => ?_, fun i cells hi => absurd hi (hb i cells), h.inj, fun p hp => ⟨fun q => (h.sep p hp).1 (hS _ q), (h.sep p hp).2⟩, fun b q => h.old b (hS b q)⟩
  have := hc i e n rows hi row (List.mem_of_getElem? hr) x (List.mem_of_getElem? hcx)
  cases x with
  | un => trivial
  | sc v => exact ho
  | nl => exact ho
  | sl o e' n' l =>
    cases o with
    | false => exact absurd rfl (this e' n' l)
    | true => exact ho

theorem things_mem {mk : Nat → Id} {r : LV} {m' : Mem} : ∀ {l : List (Nat × LV)} {m0 : Mem}, adds m0 (l.filterMap (thing mk)) = some m' → ∀ i t, m' i = some t → m0 i = some t ∨ ∃ k e n rows, (k, LV.ow e n rows) ∈ l ∧ t = .arr e n rows := by
  intro l; induction l with
  | nil => intro m0 h i t ht; cases h; exact .inl ht
  | cons p l ih =>
    intro m0 h i t ht
    simp only [List.filterMap_cons] at h
    cases hp : thing mk p with
    | none =>
      rw [hp] at h
      rcases ih h i t ht with h1 | ⟨k, e, n, rows, h1, h2⟩
      · exact .inl h1
      · exact .inr ⟨k, e, n, rows, by simp [h1], h2⟩
    | some q =>
      rw [hp] at h
      obtain ⟨j, x⟩ := q
      simp only [adds] at h
      split at h
      · rcases ih h i t ht with h1 | ⟨k, e, n, rows, h1, h2⟩
        · by_cases hij : i = j
          · rw [hij, updM_eq] at h1
            cases h1
            obtain ⟨k, y⟩ := p
            cases y <;> simp [thing] at hp
            obtain ⟨_, rfl⟩ := hp
            exact .inr ⟨k, _, _, _, by simp, rfl⟩
          · rw [updM_ne hij] at h1; exact .inl h1
        · exact .inr ⟨k, e, n, rows, by simp [h1], h2⟩
      · cases h

theorem travL_id : ∀ (l : List LV) (k : Nat), travL (fun _ x => x) k l = l := by
  intro l; induction l with
  | nil => intro k; rfl
  | cons x xs ih => intro k; simp [travL, ih]
theorem trav1_id (k : Nat) (x : LV) : trav1 (fun _ x => x) k x = x := by cases x <;> simp [trav1, travL_id]
theorem travT_id : ∀ (l : List LV) (k : Nat), travT (fun _ x => x) k l = l := by
  intro l; induction l with
  | nil => intro k; rfl
  | cons x xs ih => intro k; simp [travT, ih, trav1_id]

theorem R_parts {G' : Gh} {S' : Nat → Prop} {m' : Mem} {x : LV} {V : Value} (hr : R G S m w x V) (hs : small x = true) (hcl : ∀ p ∈ parts x, ∀ f us, p.2 ≠ .cl f us)
    (hp : ∀ p ∈ parts x, ∀ u, R0 G S m w p.2 u → R0 G' S' m' w p.2 u) : R G' S' m' w x V := by
  have h1 : ∀ (x : LV) (k : Nat) (V : Value), (∀ vs, x ≠ .tu vs) → R1 G S m w x V → (∀ p ∈ parts1 k x, ∀ f us, p.2 ≠ .cl f us) → (∀ p ∈ parts1 k x, ∀ u, R0 G S m w p.2 u → R0 G' S' m' w p.2 u) → R1 G' S' m' w x V := by
    intro x k V hnt hr hcl hp
    rcases three x with ⟨vs, rfl⟩ | ⟨vs, rfl⟩ | hx
    · obtain ⟨cs, rfl, q⟩ := hr
      have := RL_trav (f := fun _ x => x) (k := k) q hp
      rw [travL_id] at this
      exact ⟨cs, rfl, this⟩
    · exact absurd rfl (hnt vs)
    · have hcl' : ∀ f us, x ≠ .cl f us := fun f us e => hcl (k, x) (by rw [parts1_flat hx]; simp) f us e
      have h0 : R0 G S m w x V := by cases x <;> first | exact hr | exact hx.elim | exact absurd rfl (hcl' _ _)
      have h2 := hp (k, x) (by rw [parts1_flat hx]; simp) V h0
      cases x <;> first | exact h2 | exact hx.elim | exact absurd rfl (hcl' _ _)
  by_cases ht : ∃ vs, x = .tu vs
  · obtain ⟨vs, rfl⟩ := ht
    obtain ⟨cs, rfl, q1, q2⟩ := hr
    have hs' : ∀ x ∈ vs, small1 x = true := fun x hx => List.all_eq_true.1 (by simpa [small] using hs) x hx
    have key : ∀ (l : List LV) (k j : Nat) (y : LV), l[j]? = some y → ∀ p ∈ parts1 (k + 100 * j) y, p ∈ partsT k l := by
      intro l; induction l with
      | nil => intro k j y h; simp at h
      | cons z zs ih =>
        intro k j y h p hpp
        cases j with
        | zero => simp at h; subst h; simp only [partsT, List.mem_append]; exact .inl hpp
        | succ j =>
          simp only [partsT, List.mem_append]
          right
          refine ih (k + 100) j y (by simpa using h) p ?_
          rw [show k + 100 + 100 * j = k + 100 * (j + 1) from by omega]; exact hpp
    refine ⟨cs, rfl, q1, fun j y hj => ?_⟩
    obtain ⟨u, u1, u2⟩ := q2 j y hj
    have hnt : ∀ us, y ≠ .tu us := fun us e => by
      have := hs' y (List.mem_of_getElem? hj)
      rw [e] at this; cases this
    exact ⟨u, u1, h1 y (0 + 100 * j) u hnt u2 (fun p hpp => hcl p (key vs 0 j y hj p hpp)) (fun p hpp => hp p (key vs 0 j y hj p hpp))⟩
  · have ht' : ∀ vs, x ≠ .tu vs := fun vs e => ht ⟨vs, e⟩
    rw [parts_flat ht'] at hp hcl
    have hr1 : R1 G S m w x V := by cases x <;> first | exact hr | exact absurd rfl (ht' _)
    have := h1 x 0 V ht' hr1 hcl hp
    cases x <;> first | exact this | exact absurd rfl (ht' _)

theorem small_trav {f : Nat → LV → LV} (hf : ∀ k x, flat0 x → flat0 (f k x)) {r : LV} (hs : small r = true) : small (trav f r) = true := by
  have lenL : ∀ (l : List LV) (k : Nat), (travL f k l).length = l.length := by
    intro l; induction l with
    | nil => intro k; rfl
    | cons x xs ih => intro k; simp [travL, ih]
  have flat_small : ∀ y, flat0 y → small1 y = true := fun y hy => by cases y <;> first | rfl | exact hy.elim
  have h1 : ∀ (x : LV) (k : Nat), small1 x = true → small1 (trav1 f k x) = true := by
    intro x k hx
    rcases three x with ⟨vs, rfl⟩ | ⟨vs, rfl⟩ | h
    · simp only [trav1, small1, lenL] at hx ⊢; exact hx
    · cases hx
    · rw [trav1_flat h]; exact flat_small _ (hf k x h)
  by_cases ht : ∃ vs, r = .tu vs
  · obtain ⟨vs, rfl⟩ := ht
    simp only [trav, small, List.all_eq_true] at hs ⊢
    have : ∀ (l : List LV) (k : Nat), (∀ x ∈ l, small1 x = true) → ∀ x ∈ travT f k l, small1 x = true := by
      intro l; induction l with
      | nil => intro k _ x hx; simp [travT] at hx
      | cons y ys ih =>
        intro k h x hx
        simp only [travT, List.mem_cons] at hx
        rcases hx with rfl | hx
        · exact h1 y k (h y (by simp))
        · exact ih (k + 100) (fun z hz => h z (by simp [hz])) x hx
    exact this vs 0 hs
  · have ht' : ∀ vs, r ≠ .tu vs := fun vs e => ht ⟨vs, e⟩
    rw [small_flat ht'] at hs
    rw [trav_flat ht']
    have h2 := h1 r 0 hs
    rw [small_flat]
    · exact h2
    · intro vs e; rw [e] at h2; cases h2

theorem opn_flat {mk : Nat → Id} (k : Nat) (x : LV) (h : flat0 x) : flat0 (opn mk k x) := by cases x <;> first | trivial | exact h.elim

theorem snap1_closed {x y : LV} {u : Value} (hno : ownB0 x = false) (hy : snap1 m x = some y) (hx : R0 G S m w x u) : R0 G S noMem w y u ∧ wf0 noMem y ∧ R G S noMem w y u ∧ wf noMem y := by
  cases x <;> simp only [snap1, snap0] at hy <;> first | (cases hno; done) | (cases hy; done) | (cases hy; exact ⟨hx, trivial, hx, trivial⟩)
theorem snap0_one {x y : LV} (hno : ownB0 x = false) (hy : snap0 m x = some y) : snap1 m x = some y := by
  cases x <;> first | exact hy | (cases hno; done) | (simp only [snap0] at hy; cases hy)
theorem snap_closed {x y : LV} {u : Value} (hno : ownB x = false) (hy : snap m x = some y) (hx : R G S m w x u) : R G S noMem w y u ∧ wf noMem y := by
  have lst : ∀ {f : LV → Option LV} {vs ys : List LV} {cs : Array Value}, vs.any ownB0 = false → (∀ x z u, ownB0 x = false → R0 G S m w x u → f x = some z → R0 G S noMem w z u ∧ wf0 noMem z) → RL (R0 G S m w) vs cs → vs.mapM f = some ys →
      RL (R0 G S noMem w) ys cs ∧ ∀ x ∈ ys, wf0 noMem x := by
    intro f vs ys cs hn hf hq hm
    obtain ⟨g1, g2⟩ := mapM_get hm
    have hn' : ∀ z ∈ vs, ownB0 z = false := fun z hz => by have := List.any_eq_false.1 hn z hz; simpa using this
    refine ⟨⟨by rw [hq.1, g1], fun k x hk => ?_⟩, fun x hx => ?_⟩
    · obtain ⟨z, hz, hfz⟩ := g2 k x hk
      obtain ⟨u, u1, u2⟩ := hq.2 k z hz
      exact ⟨u, u1, (hf z x u (hn' z (List.mem_of_getElem? hz)) u2 hfz).1⟩
    · obtain ⟨k, hk⟩ := List.getElem?_of_mem hx
      obtain ⟨z, hz, hfz⟩ := g2 k x hk
      obtain ⟨u, u1, u2⟩ := hq.2 k z hz
      exact (hf z x u (hn' z (List.mem_of_getElem? hz)) u2 hfz).2
  cases x
  case ag vs =>
    simp only [snap, Option.map_eq_some_iff] at hy
    obtain ⟨ys, h1, rfl⟩ := hy
    obtain ⟨cs, rfl, q⟩ := hx
    obtain ⟨k1, k2⟩ := lst hno (fun x z u hn hx hz => by
      obtain ⟨b1, b2, _, _⟩ := snap1_closed hn (snap0_one hn hz) hx
      exact ⟨b1, b2⟩) q h1
    exact ⟨⟨cs, rfl, k1⟩, k2⟩
  case cl f vs =>
    simp only [snap, Option.map_eq_some_iff] at hy
    obtain ⟨ys, h1, rfl⟩ := hy
    obtain ⟨cs, rfl, q⟩ := hx
    obtain ⟨k1, k2⟩ := lst hno (fun x z u hn hx hz => by
      obtain ⟨b1, b2, _, _⟩ := snap1_closed hn hz hx
      exact ⟨b1, b2⟩) q h1
    exact ⟨⟨cs, rfl, k1⟩, k2⟩
  case tu vs => simp [snap, snap1, snap0] at hy
  all_goals (simp only [snap] at hy; simp only [R, R1] at hx; simp only [ownB] at hno; exact (snap1_closed hno hy hx).2.2)

/-- a call that reads alone -/
theorem do_ca (h : SR ov S N G st a w) {call : CallF} (hcall : ∀ g args r, call g args = some (r, []) → enterOk P g = true ∧ small r = true ∧ Contract ov.tb P g args r)
    {f : Opd} {f' : Operand} {xs : List Opd} {xs' : Array Operand} {ts : Array TypeId} {o : Oper} (hf : fO f f' = true) (hx : fOs xs xs'.toList = true) (ho : o.op = .call ⟨.value f', xs', ts⟩)
    {g d : Nat} {caps : List LV} (ef : opd st.s f = .cl g caps) {v : LV} {l : List (Id × Thing)} (hv : callR call st.m d g (xs.map (opd st.s) ++ caps) = some (v, l)) {m' : Mem} (hm : adds st.m l = some m') :
    Op1 P o a w (Next S N G st w v m') := by
  unfold callR at hv
  cases hsn : (xs.map (opd st.s) ++ caps).mapM (snap st.m) with
  | none => rw [hsn] at hv; cases hv
  | some ys =>
    rw [hsn] at hv
    simp only [] at hv
    cases hcl : call g ys with
    | none => rw [hcl] at hv; cases hv
    | some rr =>
      obtain ⟨r, outs⟩ := rr
      cases outs with
      | cons _ _ => rw [hcl] at hv; cases hv
      | nil =>
        rw [hcl] at hv
        simp only [] at hv
        split at hv
        · cases hv
        · rename_i hro
          cases hv
          obtain ⟨hen, hsm, hcon⟩ := hcall g ys r hcl
          -- the arguments' values
          obtain ⟨rf1, rf2⟩ := h.opd hf
          rw [ef] at rf1 rf2
          obtain ⟨cs, e1, q1, q2⟩ := rf1
          obtain ⟨l1, l2⟩ := fOs_get hx
          have l1' : xs.length = xs'.size := by simpa using l1
          have hargs : RL (fun x u => R G S st.m w x u ∧ wf st.m x) (xs.map (opd st.s) ++ caps) (xs'.map a.eval ++ cs) := by
            refine ⟨by simp [l1, q1], fun k x hk => ?_⟩
            by_cases hk1 : k < xs.length
            · rw [List.getElem?_append_left (by simpa using hk1)] at hk
              simp only [List.getElem?_map, Option.map_eq_some_iff] at hk
              obtain ⟨z, hz, rfl⟩ := hk
              obtain ⟨z', y1, y2⟩ := l2 k z hz
              refine ⟨a.eval z', ?_, h.opd y2⟩
              rw [Array.getElem?_toList] at y1
              rw [Array.getElem?_append_left (by simp; omega)]
              simp [y1]
            · rw [List.getElem?_append_right (by simpa using hk1)] at hk
              obtain ⟨u, u1, u2⟩ := q2 _ x hk
              have hw0 := rf2 x (List.mem_of_getElem? hk)
              refine ⟨u, ?_, ?_, ?_⟩
              · rw [Array.getElem?_append_right (by simp; omega)]
                have : k - (xs'.map a.eval).size = k - (xs.map (opd st.s)).length := by simp [l1]
                rw [this]; exact u1
              · have := R0_notag u2
                cases x <;> first | exact u2 | exact this.elim | exact u2.elim
              · have := R0_notag u2
                cases x <;> first | exact hw0 | exact this.elim | exact u2.elim
          obtain ⟨g1, g2⟩ := mapM_get hsn
          have hsnap : ∀ S2 : Nat → Prop, (∀ x y u, R G S st.m w x u → wf st.m x → x ∈ (xs.map (opd st.s) ++ caps) → snap st.m x = some y → R G S2 noMem w y u ∧ wf noMem y) → RL (fun x u => R G S2 noMem w x u ∧ wf noMem x) ys (xs'.map a.eval ++ cs) := by
            intro S2 hS2
            refine ⟨by rw [hargs.1, g1], fun k y hk => ?_⟩
            obtain ⟨x, hx1, hx2⟩ := g2 k y hk
            obtain ⟨u, u1, u2, u3⟩ := hargs.2 k x hx1
            exact ⟨u, u1, hS2 x y u u2 u3 (List.mem_of_getElem? hx1) hx2⟩
          -- what comes back
          have finish : ∀ (S2 : Nat → Prop), (∀ b, S b → S2 b) → (∀ b, S2 b → b < w.heap.size) → RL (fun x u => R G S2 noMem w x u ∧ wf noMem x) ys (xs'.map a.eval ++ cs) →
              (roB r = false ∨ S2 = S) → Op1 P o a w (Next S N G st w (openV (.rs d) r).1 m') := by
            intro S2 hsub hlt hrl hcase
            refine .inr ⟨g, xs'.map a.eval ++ cs, ?_, ?_⟩
            · simp [execOp, ho, resolve, Deferred.ofValue, e1, invoke, run_callFunc hen]
            refine Calls.mono (hcon S2 w _ G hlt hrl (h.tb.sub h.new)) fun e w' => ?_
            rintro ⟨vv, rfl, hfr, hres⟩
            refine ⟨vv, rfl, ?_⟩
            obtain ⟨G', m1, ha, hinv, hR, hwf, _⟩ := hres (.rs d) (fun a b e => by cases e; rfl)
            -- under S alone
            have hboth : Inv S (fun b => w.heap.size ≤ b) G' m1 w' ∧ R G' S m1 w' (openV (.rs d) r).1 vv := by
              rcases hcase with hro | rfl
              · have hpr : ∀ p ∈ parts r, roB0 p.2 = false := fun p hp => by
                  have := List.any_eq_false.1 hro p hp
                  simpa using this
                have hmem := things_mem (mk := Id.rs d) (r := r) (l := parts r) ha
                refine ⟨hinv.narrow hsub (fun i cells hi => ?_) (fun i e n rows hi row hrow x hx e' n' l' hxe => ?_), ?_⟩
                · rcases hmem i _ hi with h0 | ⟨_, _, _, _, _, h0⟩ <;> cases h0
                · rcases hmem i _ hi with h0 | ⟨k, e2, n2, rows2, h1, h0⟩
                  · cases h0
                  · cases h0
                    have := hpr _ h1
                    simp only [roB0] at this
                    have := List.any_eq_false.1 this row hrow
                    simp only [List.any_eq_true, not_exists, not_and] at this
                    have := this x hx
                    subst hxe
                    simp [roCell] at this
                · have hparts : parts (trav (opn (Id.rs d)) r) = _ := parts_trav (opn_flat (mk := Id.rs d)) hsm
                  refine R_parts hR (small_trav (opn_flat (mk := Id.rs d)) hsm) (fun p hp f us e => ?_) (fun p hp u hu => ?_)
                  · rw [show (openV (.rs d) r).1 = trav (opn (Id.rs d)) r from rfl, hparts] at hp
                    simp only [List.mem_map] at hp
                    obtain ⟨q, hq, rfl⟩ := hp
                    have := hpr q hq
                    obtain ⟨k, x⟩ := q
                    cases x <;> simp [opn, roB0] at e this
                  · rw [show (openV (.rs d) r).1 = trav (opn (Id.rs d)) r from rfl, hparts] at hp
                    simp only [List.mem_map] at hp
                    obtain ⟨q, hq, rfl⟩ := hp
                    have := hpr q hq
                    obtain ⟨k, x⟩ := q
                    cases x <;> first | exact hu | (simp [roB0] at this; done) | exact hu.elim
              · exact ⟨hinv, hR⟩
            obtain ⟨hinv', hR'⟩ := hboth
            obtain ⟨a1, a2⟩ := adds_union (m0 := noMem) ha hm (fun i hi => absurd rfl hi)
            have hd : ∀ i, m1 i ≠ none → st.m i = none := fun i hi => a1 i hi rfl
            obtain ⟨x1, x2, x3⟩ := h.inv.union (w' := w') (fun b hb => hfr.block b hb (by omega)) hfr.size h.new hinv' hd
            have hmm : m' = unionM st.m m1 := a2
            rw [hmm]
            exact ⟨_, x1, x3, R.ext hinv'.old x2 hwf hR', wf.ext x2.ne hwf, hfr.os, hfr.tape, hfr.output, hfr.size, fun b hb _ => hfr.block b hb (by omega)⟩
          have hro' : roB r = false ∨ (xs.map (opd st.s) ++ caps).any ownB = false := by
            simp only [Bool.and_eq_true, not_and, Bool.not_eq_true] at hro
            cases hq : roB r with
            | false => exact .inl rfl
            | true => exact .inr (hro hq)
          rcases hro' with hr0 | ho0
          · exact finish (wide S G st.m) (fun b hb => .inl hb) (wide_lt h.inv) (hsnap _ fun x y u hx _ _ hy => snap_R h.inv hx hy) (.inl hr0)
          · refine finish S (fun b hb => hb) h.inv.old (hsnap _ fun x y u hx hwx hmx hy => ?_) (.inr rfl)
            have hno : ownB x = false := by have := List.any_eq_false.1 ho0 x hmx; simpa using this
            exact snap_closed hno hy hx
end
end Go.Proofs.YthnkioafikmmaaaDoor.Ev

namespace Go.Proofs.YthnkioafikmmaaaDoor.Ev
open Go
set_option linter.unusedVariables false
set_option linter.unusedSimpArgs false

section
variable {P : Program} {ov : Ov} {S N : Nat → Prop} {G G0 : Gh} {m : Mem} {st : St} {a : Act} {w : World}

/-- what is behind an operation that writes -/
def NextW (S N : Nat → Prop) (G : Gh) (st : St) (w : World) (v : LV) (m' : Mem) (v' : Value) (w' : World) : Prop :=
  ∃ G', Inv S N G' m' w' ∧ (∀ x u, R G S st.m w x u → wf st.m x → R G' S m' w' x u ∧ wf m' x) ∧ R G' S m' w' v v' ∧ wf m' v ∧ FrN N w w'

theorem Next.toW (h : SR ov S N G st a w) {v : LV} {m' : Mem} {v' : Value} {w' : World} (q : Next S N G st w v m' v' w') : NextW S N G st w v m' v' w' := by
  obtain ⟨G', h1, h2, h3, h4, h5⟩ := q
  exact ⟨G', h2, fun x u hx hw => ⟨R.ext h.inv.old h1 hw hx, wf.ext h1.ne hw⟩, h3, h4, h5⟩

/-- every relation over the parts gives the relation -/
theorem R_of_R0 {G' : Gh} {m' : Mem} {w' : World} (h0 : ∀ x u, R0 G S m w x u → wf0 m x → R0 G' S m' w' x u) {x : LV} {u : Value} (hx : R G S m w x u) (hw : wf m x) : R G' S m' w' x u := by
  have h1 : ∀ x u, R1 G S m w x u → wf1 m x → R1 G' S m' w' x u := by
    intro x u hx hw
    cases x
    case ag vs => obtain ⟨cs, rfl, q⟩ := hx; exact ⟨cs, rfl, q.mono fun y z hm hr => h0 y z hr (hw y hm)⟩
    case cl f vs => obtain ⟨cs, rfl, q⟩ := hx; exact ⟨cs, rfl, q.mono fun y z hm hr => h0 y z hr (hw y hm)⟩
    all_goals (simp only [R1, wf1] at hx hw ⊢; exact h0 _ _ hx hw)
  cases x
  case tu vs => obtain ⟨cs, rfl, q⟩ := hx; exact ⟨cs, rfl, q.mono fun y z hm hr => h1 y z hr (hw y hm)⟩
  all_goals (simp only [R, wf] at hx hw ⊢; exact h1 _ _ hx hw)
theorem wf_of_wf0 {m' : Mem} (h0 : ∀ i, m i ≠ none → m' i ≠ none) {x : LV} (hw : wf m x) : wf m' x := wf.ext h0 hw

theorem plain_one {x : LV} {u : Value} (hp : plainB x = true) (h : R0 G S m w x u) : u.oneCell' = true := R0_one h (by intro e; subst e; cases hp)

/-- what is left of a memory is as it was -/
structure Keep (G : Gh) (m : Mem) (G' : Gh) (m' : Mem) : Prop where
  ne : ∀ i, m i ≠ none → m' i ≠ none
  look : ∀ i ch q', m i ≠ none → look m' i ch = some q' → ∃ q, look m i ch = some q ∧ q.2.1 = q'.2.1 ∧ G'.blkOf i ch = G.blkOf i ch ∧ G'.capOf i ch = G.capOf i ch
  box : ∀ i c', m i ≠ none → m' i = some (.box c') → (∃ c, m i = some (.box c)) ∧ G'.blk i = G.blk i

theorem R0.write {G' : Gh} {m' : Mem} {w' : World} (hS : ∀ b, S b → w'.heap[b]? = w.heap[b]?) (hk : Keep G m G' m') {x : LV} {v : Value} (hx : wf0 m x) (r : R0 G S m w x v) : R0 G' S m' w' x v := by
  cases x <;> try exact r
  case ro n rows => exact RdG.mono r (fun _ _ q => RdC.mono q (fun _ h => h) hS) (fun _ h => h) hS
  case rp vs =>
    obtain ⟨a, rfl, q⟩ := r
    refine ⟨a, rfl, fun k x hk => ?_⟩
    obtain ⟨h1, u, h2, h3⟩ := q k x hk
    refine ⟨h1, u, ?_, h3.mono (fun _ h => h) hS⟩
    have e : (a.add k).block = a.block := by unfold Addr.add; split <;> rfl
    rw [cell_same (hS _ (by rw [e]; exact h1)), h2]
  case bp i off =>
    have hi : m i ≠ none := hx
    have one := R0_one r (by simp)
    simp only [R0]
    split
    · rename_i c' hc'
      obtain ⟨⟨c, hc⟩, hG⟩ := hk.box i c' hi hc'
      simp only [R0, hc] at r
      rw [hG]; exact r
    · exact one
  case rf i ch lo n =>
    have hi : m i ≠ none := hx
    have one := R0_one r (by simp)
    simp only [R0]
    split
    · rename_i e st' rows' hl'
      obtain ⟨⟨e0, st0, rows0⟩, hl, h1, h2, h3⟩ := hk.look i ch _ hi hl'
      simp only [R0, hl] at r
      simp only at h1
      rw [h2, h3, ← h1]; exact r
    · exact one
  case ep i ch r' c =>
    have hi : m i ≠ none := hx
    have one := R0_one r (by simp)
    simp only [R0]
    split
    · rename_i e st' rows' hl'
      obtain ⟨⟨e0, st0, rows0⟩, hl, h1, h2, h3⟩ := hk.look i ch _ hi hl'
      simp only [R0, hl] at r
      simp only at h1
      rw [h2, ← h1]; exact r
    · exact one

theorem R.write {G' : Gh} {m' : Mem} {w' : World} (hS : ∀ b, S b → w'.heap[b]? = w.heap[b]?) (hk : Keep G m G' m') {x : LV} {v : Value} (hx : wf m x) (r : R G S m w x v) : R G' S m' w' x v :=
  R_of_R0 (fun x u hr hw => R0.write hS hk hw hr) r hx

/-- a box is written -/
theorem box_write (h : Inv S N G m w) {i : Id} {cells cells' : List LV} (hi : m i = some (.box cells)) {cs cs' : Array Value} {e : TypeId} (hb : w.heap[G.blk i]? = some (.cells cs e (0, 0)))
    (hr : RL (fun x u => R0 G S m w x u ∧ plainB x = true ∧ wf0 m x) cells' cs') :
    Keep G m G (updM m i (some (.box cells'))) ∧ (∀ b, S b → (w.setRow (G.blk i) cs').heap[b]? = w.heap[b]?) ∧ Inv S N G (updM m i (some (.box cells'))) (w.setRow (G.blk i) cs') ∧ FrN N w (w.setRow (G.blk i) cs') := by
  have live_i : live m (.root i) := .inl ⟨cells, hi⟩
  have hS : ∀ b, S b → (w.setRow (G.blk i) cs').heap[b]? = w.heap[b]? := fun b hb' => setRow_other w _ b cs' (fun e => (h.sep _ live_i).1 (by simp only [Gh.at]; rw [← e]; exact hb'))
  have hlook : ∀ j ch, look (updM m i (some (.box cells'))) j ch = look m j ch := by
    intro j ch
    by_cases hj : j = i
    · subst hj; simp [look, updM_eq, hi]
    · simp [look, updM_ne hj]
  have hk : Keep G m G (updM m i (some (.box cells'))) := by
    refine ⟨fun j hj => ?_, fun j ch q' _ hq => ⟨q', by rw [← hlook]; exact hq, rfl, rfl, rfl⟩, fun j c' _ hj => ?_⟩
    · by_cases hji : j = i
      · subst hji; rw [updM_eq]; simp
      · rw [updM_ne hji]; exact hj
    · by_cases hji : j = i
      · subst hji; exact ⟨⟨cells, hi⟩, rfl⟩
      · rw [updM_ne hji] at hj; exact ⟨⟨c', hj⟩, rfl⟩
  have hlive : ∀ p, live (updM m i (some (.box cells'))) p → live m p := by
    intro p hp
    cases p with
    | root j =>
      by_cases hj : j = i
      · subst hj; exact live_i
      · simp only [live] at hp ⊢; rw [updM_ne hj] at hp; exact hp
    | chld j r c =>
      obtain ⟨e, n, rows, row, e', n', l, h1, h2, h3⟩ := hp
      by_cases hj : j = i
      · subst hj; rw [updM_eq] at h1; cases h1
      · rw [updM_ne hj] at h1; exact ⟨e, n, rows, row, e', n', l, h1, h2, h3⟩
  have hother : ∀ p, live m p → p ≠ .root i → (w.setRow (G.blk i) cs').heap[G.at p]? = w.heap[G.at p]? := fun p hp hne => setRow_other w _ _ cs' (fun e => hne (h.inj p (.root i) hp live_i e))
  refine ⟨hk, hS, ⟨fun j e2 n rows hj => ?_, fun j c hj => ?_, fun p q hp hq he => h.inj p q (hlive p hp) (hlive q hq) he, fun p hp => h.sep p (hlive p hp), fun b hb' => by simpa using h.old b hb'⟩, rfl, rfl, rfl, by simp, fun b _ hn => setRow_other w _ b cs' (fun e => hn (by have := (h.sep _ live_i).2; simp only [Gh.at] at this; rw [e]; exact this))⟩
  · have hji : j ≠ i := fun e => by subst e; rw [updM_eq] at hj; cases hj
    rw [updM_ne hji] at hj
    refine OwG.mono (h.arr j e2 n rows hj) (hother (.root j) (.inr ⟨e2, n, rows, hj⟩) (fun e => by cases e; exact hji rfl)) fun r c row x u hr hc ho => OwC.mono ho ⟨rfl, rfl⟩ hS fun e' n' l hx => ?_
    subst hx
    exact hother (.chld j r c) ⟨e2, n, rows, row, e', n', l, hj, hr, hc⟩ (fun e => by cases e)
  · by_cases hji : j = i
    · subst hji
      rw [updM_eq] at hj
      cases hj
      exact ⟨cs', e, setRow_heap w _ cs cs' e (0, 0) hb, hr.mono fun x u _ hx => ⟨R0.write hS hk hx.2.2 hx.1, hx.2.1, wf0.ext hk.ne hx.2.2⟩⟩
    · rw [updM_ne hji] at hj
      obtain ⟨cs0, e0, k1, k2⟩ := h.box j c hj
      exact ⟨cs0, e0, (hother (.root j) (.inl ⟨c, hj⟩) (fun e => by cases e; exact hji rfl)).trans k1, k2.mono fun x u _ hx => ⟨R0.write hS hk hx.2.2 hx.1, hx.2.1, wf0.ext hk.ne hx.2.2⟩⟩

/-- an operation that only writes -/
def Writes (P : Program) (o : Oper) (a : Act) (w : World) (Φ : World → Prop) : Prop := ∃ w', (execOp a.eval o).run P w = .ok .skip w' ∧ Φ w'

theorem run_store_plain {t : TypeId} {n : Nat} (hz : sizeT P t = some n) {b off : Nat} {cs : Array Value} {e : TypeId} (hb : w.heap[b]? = some (.cells cs e (0, 0))) {V : Value} (hV : V.cells.size = n) (hle : off + n ≤ cs.size)
    (h1 : ∀ v ∈ V.cells.toList, v.oneCell' = true) : (storeVar t ⟨b, off, none⟩ V).run P w = .ok () (w.setRow b (cs.toList.take off ++ V.cells.toList ++ cs.toList.drop (off + n)).toArray) := by
  have := run_storeCells_at P b off e V.cells.toList 0 cs w hb (by simp; omega) h1
  simp only [storeVar, Sem.run_bind, sizeT_run hz, Result.andThen_ok]
  rw [if_neg (by simp [hV])]
  rw [this]
  simp [hV]

theorem do_so (h : SR ov S N G st a w) {x v : Opd} {x' v' : Operand} {t : TypeId} {n : Nat} {o : Oper} (hx : fO x x' = true) (hv : fO v v' = true) (ho : o.op = .store t x' v') (hz : sizeT P t = some n)
    {i : Id} {off : Nat} {cells cells' vs : List LV} (ex : opd st.s x = .bp i off) (hi : st.m i = some (.box cells)) (hu : unpack (opd st.s v) = some vs) (hl : vs.length = n) (hpl : vs.all plainB = true) (hp : putL cells off vs = some cells') :
    Writes P o a w (fun w' => NextW S N G st w (.un) (updM st.m i (some (.box cells'))) undef w') := by
  obtain ⟨r1, r2⟩ := h.opd hx
  obtain ⟨v1, v2⟩ := h.opd hv
  rw [ex] at r1
  simp only [R, R1, R0, hi] at r1
  obtain ⟨cs, e, k1, k2⟩ := h.inv.box i cells hi
  obtain ⟨q1, q2⟩ := unpack_R hu v1 v2
  have q3 : RL (fun x u => R0 G S st.m w x u ∧ plainB x = true ∧ wf0 st.m x) vs (a.eval v').cells := q1.mono fun x u hm hr => ⟨hr, List.all_eq_true.1 hpl x hm, q2 x hm⟩
  have hle : off + n ≤ cells.length := by unfold putL at hp; split at hp; · omega
                                          · cases hp
  have hone : ∀ z ∈ (a.eval v').cells.toList, z.oneCell' = true := by
    intro z hz'
    obtain ⟨k, hk⟩ := List.getElem?_of_mem hz'
    have hkn : k < vs.length := by have := (List.getElem?_eq_some_iff.1 hk).1; rw [← q1.1]; simpa using this
    obtain ⟨u, u1, u2, u3, _⟩ := q3.2 k vs[k] (List.getElem?_eq_getElem hkn)
    rw [Array.getElem?_toList, u1] at hk
    cases hk
    exact plain_one u3 u2
  have hrun := run_store_plain (P := P) hz k1 (V := a.eval v') (by rw [q1.1]; exact hl) (by rw [k2.1]; exact hle) hone
  have hnew : RL (fun x u => R0 G S st.m w x u ∧ plainB x = true ∧ wf0 st.m x) cells' (cs.toList.take off ++ (a.eval v').cells.toList ++ cs.toList.drop (off + n)).toArray := by
    unfold putL at hp
    split at hp
    case isFalse => cases hp
    cases hp
    have hcs : cs.size = cells.length := k2.1
    have hvs : (a.eval v').cells.size = vs.length := q1.1
    refine ⟨by simp; omega, fun k y hk => ?_⟩
    have lt : (cs.toList.take off).length = off := by simp; omega
    have lt2 : (cells.take off).length = off := by simp; omega
    by_cases hk1 : k < off
    · rw [List.append_assoc, List.getElem?_append_left (by omega), List.getElem?_take, if_pos hk1] at hk
      obtain ⟨u, u1, u2⟩ := k2.2 k y hk
      refine ⟨u, ?_, u2⟩
      simp only [List.getElem?_toArray, List.append_assoc]
      rw [List.getElem?_append_left (by omega), List.getElem?_take, if_pos hk1]
      simpa using u1
    · by_cases hk2 : k < off + vs.length
      · rw [List.append_assoc, List.getElem?_append_right (by omega), List.getElem?_append_left (by omega), lt2] at hk
        obtain ⟨u, u1, u2⟩ := q3.2 _ y hk
        refine ⟨u, ?_, u2⟩
        simp only [List.getElem?_toArray, List.append_assoc]
        rw [List.getElem?_append_right (by omega), List.getElem?_append_left (by simp; omega), lt]
        simpa using u1
      · have l2 : (cells.take off ++ vs).length = off + vs.length := by simp; omega
        rw [List.getElem?_append_right (by omega), l2, List.getElem?_drop] at hk
        rw [show off + vs.length + (k - (off + vs.length)) = k from by omega] at hk
        obtain ⟨u, u1, u2⟩ := k2.2 k y hk
        refine ⟨u, ?_, u2⟩
        have l3 : (cs.toList.take off ++ (a.eval v').cells.toList).length = off + vs.length := by simp; omega
        simp only [List.getElem?_toArray]
        rw [List.getElem?_append_right (by omega), l3, List.getElem?_drop, ← hl]
        rw [show off + vs.length + (k - (off + vs.length)) = k from by omega]
        simpa using u1
  obtain ⟨b1, b2, b3, b4⟩ := box_write h.inv hi k1 hnew
  refine ⟨_, ?_, G, b3, fun x u hx hw => ⟨R.write b2 b1 hw hx, wf.ext b1.ne hw⟩, trivial, trivial, b4⟩
  simp [execOp, ho, r1, Instr.storeAt, Instr.sureAddr, hrun]
end
end Go.Proofs.YthnkioafikmmaaaDoor.Ev

namespace Go.Proofs.YthnkioafikmmaaaDoor.Ev
open Go
set_option linter.unusedVariables false
set_option linter.unusedSimpArgs false

section
variable {P : Program} {ov : Ov} {S N : Nat → Prop} {G G0 : Gh} {m : Mem} {st : St} {a : Act} {w : World}

def cellAt (rows : List (List Cell)) (r c : Nat) : Option Cell := (rows[r]?).bind (·[c]?)
theorem look_cell {i : Id} {e n : Nat} {rows : List (List Cell)} (h : m i = some (.arr e n rows)) (r c : Nat) :
    look m i (some (r, c)) = match cellAt rows r c with | some (.sl true e' st' l) => some (e', st', lift l) | _ => none := by
  simp only [look, h, cellAt]
  rfl

/-- a slice of own memory is written in place -/
theorem arr_write (h : Inv S N G m w) {i : Id} {e n : Nat} {rows rows' : List (List Cell)} (hi : m i = some (.arr e n rows)) {cs' : Array Value} {cs : Array Value} (hb : w.heap[G.blk i]? = some (.cells cs e (0, 0)))
    (hsame : ∀ r c e' n' l, cellAt rows' r c = some (.sl true e' n' l) → cellAt rows r c = some (.sl true e' n' l))
    (hs : cs'.size = G.cap i * n) (hl : rows'.length ≤ G.cap i) (hc : ∀ (r : Nat) (row : List Cell), rows'[r]? = some row → row.length = n ∧ ∀ (k : Nat) (x : Cell), row[k]? = some x → ∃ u, cs'[r * n + k]? = some u ∧ OwC G S w i r k x u) :
    Keep G m G (updM m i (some (.arr e n rows'))) ∧ (∀ b, S b → (w.setRow (G.blk i) cs').heap[b]? = w.heap[b]?) ∧ Inv S N G (updM m i (some (.arr e n rows'))) (w.setRow (G.blk i) cs') ∧ FrN N w (w.setRow (G.blk i) cs') := by
  have live_i : live m (.root i) := .inr ⟨e, n, rows, hi⟩
  have hS : ∀ b, S b → (w.setRow (G.blk i) cs').heap[b]? = w.heap[b]? := fun b hb' => setRow_other w _ b cs' (fun e => (h.sep _ live_i).1 (by simp only [Gh.at]; rw [← e]; exact hb'))
  have hlookj : ∀ j, j ≠ i → ∀ ch, look (updM m i (some (.arr e n rows'))) j ch = look m j ch := fun j hj ch => by simp [look, updM_ne hj]
  have hk : Keep G m G (updM m i (some (.arr e n rows'))) := by
    refine ⟨fun j hj => ?_, fun j ch q' _ hq => ?_, fun j c' _ hj => ?_⟩
    · by_cases hji : j = i
      · subst hji; rw [updM_eq]; simp
      · rw [updM_ne hji]; exact hj
    · by_cases hji : j = i
      · subst hji
        cases ch with
        | none => rw [look_none updM_eq] at hq; cases hq; exact ⟨_, look_none hi, rfl, rfl, rfl⟩
        | some rc =>
          obtain ⟨r, c⟩ := rc
          rw [look_cell updM_eq] at hq
          split at hq
          · rename_i e' st' l hcell
            cases hq
            exact ⟨_, by rw [look_cell hi, hsame r c _ _ _ hcell], rfl, rfl, rfl⟩
          · cases hq
      · rw [hlookj j hji] at hq; exact ⟨q', hq, rfl, rfl, rfl⟩
    · by_cases hji : j = i
      · subst hji; rw [updM_eq] at hj; cases hj
      · rw [updM_ne hji] at hj; exact ⟨⟨c', hj⟩, rfl⟩
  have hlive : ∀ p, live (updM m i (some (.arr e n rows'))) p → live m p := by
    intro p hp
    cases p with
    | root j =>
      by_cases hj : j = i
      · subst hj; exact live_i
      · simp only [live] at hp ⊢; rw [updM_ne hj] at hp; exact hp
    | chld j r c =>
      obtain ⟨e0, n0, rows0, row, e', n', l, h1, h2, h3⟩ := hp
      by_cases hj : j = i
      · subst hj
        rw [updM_eq] at h1
        cases h1
        have := hsame r c e' n' l (by simp [cellAt, h2, h3])
        simp only [cellAt, Option.bind_eq_some_iff] at this
        obtain ⟨row', t1, t2⟩ := this
        exact ⟨_, _, rows, row', e', n', l, hi, t1, t2⟩
      · rw [updM_ne hj] at h1; exact ⟨e0, n0, rows0, row, e', n', l, h1, h2, h3⟩
  have hother : ∀ p, live m p → p ≠ .root i → (w.setRow (G.blk i) cs').heap[G.at p]? = w.heap[G.at p]? := fun p hp hne => setRow_other w _ _ cs' (fun e => hne (h.inj p (.root i) hp live_i e))
  refine ⟨hk, hS, ⟨fun j e2 n2 rows2 hj => ?_, fun j c hj => ?_, fun p q hp hq he => h.inj p q (hlive p hp) (hlive q hq) he, fun p hp => h.sep p (hlive p hp), fun b hb' => by simpa using h.old b hb'⟩, rfl, rfl, rfl, by simp, fun b _ hn => setRow_other w _ b cs' (fun e => hn (by have := (h.sep _ live_i).2; simp only [Gh.at] at this; rw [e]; exact this))⟩
  · by_cases hji : j = i
    · subst hji
      rw [updM_eq] at hj
      cases hj
      obtain ⟨_, _, _, _, hm, _⟩ := h.arr j e n rows hi
      refine ⟨cs', setRow_heap w _ cs cs' e (0, 0) hb, hs, hl, hm, fun r row hr => ?_⟩
      obtain ⟨g1, g2⟩ := hc r row hr
      refine ⟨g1, fun k x hk' => ?_⟩
      obtain ⟨u, u1, u2⟩ := g2 k x hk'
      refine ⟨u, u1, OwC.mono u2 ⟨rfl, rfl⟩ hS fun e' n' l hx => ?_⟩
      subst hx
      have := hsame r k e' n' l (by simp [cellAt, hr, hk'])
      simp only [cellAt, Option.bind_eq_some_iff] at this
      obtain ⟨row', t1, t2⟩ := this
      exact hother (.chld j r k) ⟨_, _, rows, row', e', n', l, hi, t1, t2⟩ (fun e => by cases e)
    · rw [updM_ne hji] at hj
      refine OwG.mono (h.arr j e2 n2 rows2 hj) (hother (.root j) (.inr ⟨e2, n2, rows2, hj⟩) (fun e => by cases e; exact hji rfl)) fun r c row x u hr hc ho => OwC.mono ho ⟨rfl, rfl⟩ hS fun e' n' l hx => ?_
      subst hx
      exact hother (.chld j r c) ⟨e2, n2, rows2, row, e', n', l, hj, hr, hc⟩ (fun e => by cases e)
  · have hji : j ≠ i := fun e => by subst e; rw [updM_eq] at hj; cases hj
    rw [updM_ne hji] at hj
    obtain ⟨cs0, e0, k1, k2⟩ := h.box j c hj
    exact ⟨cs0, e0, (hother (.root j) (.inl ⟨c, hj⟩) (fun e => by cases e; exact hji rfl)).trans k1, k2.mono fun x u _ hx => ⟨R0.write hS hk hx.2.2 hx.1, hx.2.1, wf0.ext hk.ne hx.2.2⟩⟩

theorem noOwn_OwC {x : Cell} {i : Id} {r c : Nat} {u : Value} (hn : noOwn x = true) (h : RdC S w x u) : OwC G S w i r c x u := by
  cases x with
  | un => trivial
  | sc v => exact h
  | nl => exact h
  | sl o e n l => cases o with
    | true => cases hn
    | false => exact h

theorem mul_lt_add {r r2 n k k2 : Nat} (h : r * n + k = r2 * n + k2) (hk : k < n) (hk2 : k2 < n) : r = r2 ∧ k = k2 := by
  have h1 : (r * n + k) / n = r := by rw [Nat.mul_comm, Nat.mul_add_div (by omega), Nat.div_eq_of_lt hk]; omega
  have h2 : (r2 * n + k2) / n = r2 := by rw [Nat.mul_comm, Nat.mul_add_div (by omega), Nat.div_eq_of_lt hk2]; omega
  have : r = r2 := by rw [← h1, ← h2, h]
  subst this
  exact ⟨rfl, by omega⟩

theorem do_se (h : SR ov S N G st a w) {x v : Opd} {x' v' : Operand} {t : TypeId} {n : Nat} {o : Oper} (hx : fO x x' = true) (hv : fO v v' = true) (ho : o.op = .store t x' v') (hz : sizeT P t = some n)
    {i : Id} {r c e st0 : Nat} {rows : List (List Cell)} {row : List Cell} {vs : List LV} {xs : List Cell} (ex : opd st.s x = .ep i none r c) (hi : st.m i = some (.arr e st0 rows)) (hu : unpack (opd st.s v) = some vs) (hl : vs.length = n) (hpl : vs.all plainB = true)
    (hcells : vs.mapM toCell = some xs) (hrow : rows[r]? = some row) (hle : c + n ≤ row.length) :
    Writes P o a w (fun w' => NextW S N G st w (.un) (updM st.m i (some (.arr e st0 (rows.set r (row.take c ++ xs ++ row.drop (c + n)))))) undef w') := by
  obtain ⟨r1, r2⟩ := h.opd hx
  obtain ⟨v1, v2⟩ := h.opd hv
  rw [ex] at r1
  simp only [R, R1, R0, look_none hi, Gh.blkOf] at r1
  obtain ⟨cs, k1, k2, k3, k4, k5⟩ := h.inv.arr i e st0 rows hi
  obtain ⟨g1, g2⟩ := k5 r row hrow
  obtain ⟨q1, q2⟩ := unpack_R hu v1 v2
  obtain ⟨m1, m2⟩ := mapM_get hcells
  have hxl : xs.length = n := by rw [m1, hl]
  have hrl : r < rows.length := (List.getElem?_eq_some_iff.1 hrow).1
  have hbig : r * st0 + st0 ≤ cs.size := by
    have : (r + 1) * st0 ≤ G.cap i * st0 := Nat.mul_le_mul_right _ (by omega)
    rw [Nat.add_mul, Nat.one_mul] at this; omega
  have hone : ∀ z ∈ (a.eval v').cells.toList, z.oneCell' = true := by
    intro z hz'
    obtain ⟨k, hk⟩ := List.getElem?_of_mem hz'
    have hkn : k < vs.length := by have := (List.getElem?_eq_some_iff.1 hk).1; rw [← q1.1]; simpa using this
    obtain ⟨u, u1, u2⟩ := q1.2 k vs[k] (List.getElem?_eq_getElem hkn)
    rw [Array.getElem?_toList, u1] at hk
    cases hk
    exact plain_one (List.all_eq_true.1 hpl _ (List.getElem_mem hkn)) u2
  have hVs : (a.eval v').cells.size = n := by rw [q1.1]; exact hl
  have hrun := run_store_plain (P := P) hz k1 (V := a.eval v') (off := r * st0 + c) hVs (by omega) hone
  have hget : ∀ q, (cs.toList.take (r * st0 + c) ++ (a.eval v').cells.toList ++ cs.toList.drop (r * st0 + c + n)).toArray[q]? = if r * st0 + c ≤ q ∧ q < r * st0 + c + n then (a.eval v').cells[q - (r * st0 + c)]? else cs[q]? := by
    intro q
    have lt : (cs.toList.take (r * st0 + c)).length = r * st0 + c := by simp; omega
    have l3 : (cs.toList.take (r * st0 + c) ++ (a.eval v').cells.toList).length = r * st0 + c + n := by simp; omega
    simp only [List.getElem?_toArray]
    by_cases hq1 : q < r * st0 + c
    · rw [if_neg (by omega), List.append_assoc, List.getElem?_append_left (by omega), List.getElem?_take, if_pos hq1]; simp
    · by_cases hq2 : q < r * st0 + c + n
      · rw [if_pos (by omega), List.append_assoc, List.getElem?_append_right (by omega), List.getElem?_append_left (by simp; omega), lt]; simp
      · rw [if_neg (by omega), List.getElem?_append_right (by omega), l3, List.getElem?_drop, show r * st0 + c + n + (q - (r * st0 + c + n)) = q from by omega]; simp
  have hcat : ∀ (k : Nat) (y : Cell), (row.take c ++ xs ++ row.drop (c + n))[k]? = some y → (c ≤ k ∧ k < c + n ∧ xs[k - c]? = some y) ∨ ((k < c ∨ c + n ≤ k) ∧ row[k]? = some y) := by
    intro k y hk
    have lt : (row.take c).length = c := by simp; omega
    have l3 : (row.take c ++ xs).length = c + n := by simp; omega
    by_cases hq1 : k < c
    · rw [List.append_assoc, List.getElem?_append_left (by omega), List.getElem?_take, if_pos hq1] at hk; exact .inr ⟨.inl hq1, hk⟩
    · by_cases hq2 : k < c + n
      · rw [List.append_assoc, List.getElem?_append_right (by omega), List.getElem?_append_left (by omega), lt] at hk; exact .inl ⟨by omega, hq2, hk⟩
      · rw [List.getElem?_append_right (by omega), l3, List.getElem?_drop, show c + n + (k - (c + n)) = k from by omega] at hk; exact .inr ⟨.inr (by omega), hk⟩
  have hnew : ∀ (k : Nat) (y : Cell), xs[k]? = some y → noOwn y = true ∧ ∃ u, (a.eval v').cells[k]? = some u ∧ RdC S w y u := by
    intro k y hk
    obtain ⟨z, z1, z2⟩ := m2 k y hk
    obtain ⟨u, u1, u2⟩ := q1.2 k z z1
    obtain ⟨t1, t2⟩ := toCell_R z2 u2
    exact ⟨t1, u, u1, t2⟩
  have hA : ∀ r' c' e' n' l, cellAt (rows.set r (row.take c ++ xs ++ row.drop (c + n))) r' c' = some (.sl true e' n' l) → cellAt rows r' c' = some (.sl true e' n' l) := by
    intro r' c' e' n' l hcell
    simp only [cellAt, Option.bind_eq_some_iff] at hcell ⊢
    obtain ⟨row', t1, t2⟩ := hcell
    rw [List.getElem?_set] at t1
    split at t1
    · rename_i hrr
      subst hrr
      cases t1
      rcases hcat c' _ t2 with ⟨_, _, t3⟩ | ⟨_, t3⟩
      · have := (hnew _ _ t3).1; cases this
      · exact ⟨row, hrow, t3⟩
    · exact ⟨row', t1, t2⟩
  have hB : ∀ (r' : Nat) (row' : List Cell), (rows.set r (row.take c ++ xs ++ row.drop (c + n)))[r']? = some row' → row'.length = st0 ∧ ∀ (k : Nat) (x : Cell), row'[k]? = some x →
      ∃ u, (cs.toList.take (r * st0 + c) ++ (a.eval v').cells.toList ++ cs.toList.drop (r * st0 + c + n)).toArray[r' * st0 + k]? = some u ∧ OwC G S w i r' k x u := by
    intro r' row' hr'
    rw [List.getElem?_set] at hr'
    split at hr'
    · rename_i hrr
      subst hrr
      cases hr'
      have hlen : (row.take c ++ xs ++ row.drop (c + n)).length = st0 := by simp; omega
      refine ⟨hlen, fun k y hk => ?_⟩
      have hks : k < st0 := by have := (List.getElem?_eq_some_iff.1 hk).1; omega
      rcases hcat k y hk with ⟨c1, c2, t3⟩ | ⟨c1, t3⟩
      · obtain ⟨t1, u, u1, u2⟩ := hnew _ _ t3
        refine ⟨u, ?_, noOwn_OwC t1 u2⟩
        rw [hget, if_pos (by omega), show r * st0 + k - (r * st0 + c) = k - c from by omega]; exact u1
      · obtain ⟨u, u1, u2⟩ := g2 k y t3
        exact ⟨u, by rw [hget, if_neg (by omega)]; exact u1, u2⟩
    · rename_i hrr
      obtain ⟨t1, t2⟩ := k5 r' row' hr'
      refine ⟨t1, fun k y hk => ?_⟩
      obtain ⟨u, u1, u2⟩ := t2 k y hk
      have hks : k < st0 := by have := (List.getElem?_eq_some_iff.1 hk).1; omega
      refine ⟨u, ?_, u2⟩
      rw [hget, if_neg ?_]
      · exact u1
      · intro ⟨p1, p2⟩
        have : r' * st0 + k = r * st0 + (c + (r' * st0 + k - (r * st0 + c))) := by omega
        exact hrr (mul_lt_add this hks (by omega)).1.symm
  obtain ⟨b1, b2, b3, b4⟩ := arr_write h.inv hi k1 hA (by simp; omega) (by simp; exact k3) hB
  refine ⟨_, ?_, G, b3, fun x u hx hw => ⟨R.write b2 b1 hw hx, wf.ext b1.ne hw⟩, trivial, trivial, b4⟩
  simp [execOp, ho, r1, Instr.storeAt, Instr.sureAddr, hrun]
end
end Go.Proofs.YthnkioafikmmaaaDoor.Ev

namespace Go.Proofs.YthnkioafikmmaaaDoor.Ev
open Go
set_option linter.unusedVariables false
set_option linter.unusedSimpArgs false

section
variable {P : Program} {ov : Ov} {S N : Nat → Prop} {G G0 : Gh} {m : Mem} {st : St} {a : Act} {w : World}

def bytesT (P : Program) (t : TypeId) : Option Nat := (P.info? t).map (·.bytes)

theorem nat_of (h : SR ov S N G st a w) {x : Opd} {x' : Operand} (hx : fO x x' = true) {k : Nat} (hk : natOf (opd st.s x) = some k) : a.eval x' = .int .i64 k := by
  have r1 := (h.opd hx).1
  unfold natOf at hk
  split at hk
  · rename_i n e
    rw [e] at r1
    split at hk
    · rename_i h0
      cases hk
      rw [r1.1]; congr 1; omega
    · cases hk
  · cases hk

theorem do_ms (h : SR ov S N G st a w) {x : Opd} {x' : Operand} {t el : TypeId} {n by_ : Nat} {z : List Cell} {zv : List Value} {o : Oper} (hx : fO x x' = true) (ho : o.op = .makeSlice t x' x')
    (ht : P.underlying t = some (.slice el)) (hs : sizeT P el = some n) (hbt : bytesT P el = some by_) (hby : by_ ≤ 100000) (hz : zeroT P el = some zv) (hzz : fZC z zv = true) (hn : z.length = n) {k : Nat} (hk : natOf (opd st.s x) = some k) (hkb : k ≤ big)
    {i : Id} (hi : st.m i = none) : Does P o a w (Next S N G st w (.rf i none 0 k) (updM st.m i (some (.arr el n (List.replicate k z))))) := by
  obtain ⟨v0, e1, e2⟩ := zeroT_run (P := P) (w := w) hz
  subst hn
  have ek := nat_of h hx hk
  have hflat := Flat.zero (S := S) (w := w) hzz k
  have res := Does.rows (P := P) (o := o) h hi (e := el) hflat (by simp only [List.length_replicate, maxLen]; unfold big at hkb; omega)
  rw [List.length_replicate] at res
  refine res ?_
  cases hinfo : P.info? el with
  | none => simp [bytesT, hinfo] at hbt
  | some inf =>
    have hb : inf.bytes = by_ := by simpa [bytesT, hinfo] using hbt
    have hsz : inf.size = z.length := by simpa [sizeT, hinfo] using hs
    have hzr : inf.zero = some v0 := by
      cases hq : inf.zero with
      | none => simp [zeroValue, typeInfo, hinfo, hq] at e1
      | some v1 =>
        simp [zeroValue, typeInfo, hinfo, hq] at e1
        rw [e1]
    have hsmall : by_ * k ≤ 100000 * 1000000000 := Nat.mul_le_mul hby hkb
    have hlarge : (inf.bytes : Int) * (k : Int) ≤ 281474976710656 := by
      have : ((by_ * k : Nat) : Int) ≤ 281474976710656 := by omega
      rw [Int.natCast_mul] at this
      rw [hb]; exact this
    have main := run_make (P := P) w t el inf v0 ht hinfo hzr .i64 .i64 k k (by omega) (Int.le_refl _) hlarge (by unfold big at hkb; omega)
    rw [Int.toNat_natCast, hsz, e2] at main
    simp only [execOp, ho, ek, Sem.run_bind, main, Result.andThen_ok, Sem.run_pure, madeCells]

/-! ### append -/
def okC : Cell → Bool
  | .un | .sl true _ _ _ => false | _ => true
theorem okC_own {x : Cell} (h : okC x = true) : noOwn x = true := by
  cases x with
  | sl o _ _ _ => cases o <;> first | rfl | cases h
  | _ => rfl
theorem okC_one {x : Cell} {u : Value} (h : okC x = true) (r : RdC S w x u) : u.oneCell' = true := by
  cases x with
  | un => cases h
  | sc v => obtain ⟨rfl, hs⟩ := r; cases u <;> first | rfl | cases hs
  | nl => cases r; rfl
  | sl o e st rows => obtain ⟨_, _, rfl, _⟩ := r; rfl
def bytesRows (b : ByteArray) : List (List Cell) := b.data.toList.map fun u => [.sc (.int .u8 u.toNat)]

/-- the rows that an append takes -/
def srcRows (m : Mem) (n : Nat) : LV → Option (List (List Cell))
  | .nl => some []
  | .ro st rows => if st = n ∧ rows.all (·.all okC) = true then some rows else none
  | .rf j ch lo k =>
    match look m j ch with
    | some (_, st, rows) => if st = n ∧ lo + k ≤ rows.length ∧ ((rows.drop lo).take k).all (·.all okC) = true then some ((rows.drop lo).take k) else none
    | none => none
  | .sc (.string b) => if n = 1 then some (bytesRows b) else none
  | _ => none

theorem own_ok (h : Inv S N G m w) {i : Id} {ch : Option (Nat × Nat)} {e n : Nat} {rows : List (List Cell)} (hl : look m i ch = some (e, n, rows)) :
    OwG (fun _ _ x u => okC x = true → RdC S w x u) w (G.blkOf i ch) e (G.capOf i ch) n rows := by
  rcases look_inv hl with ⟨rfl, hm⟩ | ⟨r, c, e0, n0, rows0, row0, rows', rfl, hm, hr, hc, rfl⟩
  · refine OwG.mono (h.arr i e n rows hm) rfl fun r c row x u hr hc ho => ?_
    cases x with
    | un => exact fun q => by cases q
    | sc v => exact fun _ => ho
    | nl => exact fun _ => ho
    | sl o e' n' l =>
      cases o with
      | true => exact fun q => by cases q
      | false => exact fun _ => ho
  · obtain ⟨cs, _, _, _, _, k⟩ := h.arr i e0 n0 rows0 hm
    obtain ⟨u, _, hu⟩ := (k r row0 hr).2 c _ hc
    obtain ⟨cs2, q1, q2, q3, q4, q5⟩ := hu.2
    refine ⟨cs2, q1, q2, by simpa [Ev.lift, Gh.capOf] using q3, q4, fun r2 row2 hr2 => ?_⟩
    simp only [Ev.lift, List.getElem?_map, Option.map_eq_some_iff] at hr2
    obtain ⟨row3, hr3, rfl⟩ := hr2
    obtain ⟨g1, g2⟩ := q5 r2 row3 hr3
    refine ⟨by simpa using g1, fun k2 x hk2 => ?_⟩
    simp only [List.getElem?_map, Option.map_eq_some_iff] at hk2
    obtain ⟨y, hy, rfl⟩ := hk2
    obtain ⟨u2, t1, t2⟩ := g2 k2 y hy
    exact ⟨u2, t1, fun _ => t2⟩

/-- rows that lie behind an address, as cells -/
theorem flat_of {n : Nat} {rows : List (List Cell)} {A : Addr} (hn : 0 < n) (hok : rows.all (·.all okC) = true)
    (hc : ∀ (r : Nat) (row : List Cell), rows[r]? = some row → row.length = n ∧ ∀ (k : Nat) (x : Cell), row[k]? = some x → ∃ u, w.cell? (A.add (r * n + k)) = some u ∧ RdC S w x u) :
    ∃ news : List Value, news.length = rows.length * n ∧ (∀ j u, news[j]? = some u → w.cell? (A.add j) = some u) ∧ (∀ u ∈ news, u.oneCell' = true) ∧ Flat S w n rows news.toArray := by
  have hok' : ∀ (r : Nat) (row : List Cell) (k : Nat) (x : Cell), rows[r]? = some row → row[k]? = some x → okC x = true := fun r row k x h1 h2 =>
    List.all_eq_true.1 (List.all_eq_true.1 hok row (List.mem_of_getElem? h1)) x (List.mem_of_getElem? h2)
  have split : ∀ j, j < rows.length * n → ∃ row x u, rows[j / n]? = some row ∧ row[j % n]? = some x ∧ w.cell? (A.add j) = some u ∧ RdC S w x u ∧ okC x = true := by
    intro j hj
    have h1 : j / n < rows.length := Nat.div_lt_of_lt_mul (by rw [Nat.mul_comm]; exact hj)
    have h2 : j % n < n := Nat.mod_lt _ hn
    obtain ⟨g1, g2⟩ := hc (j / n) rows[j / n] (List.getElem?_eq_getElem h1)
    have h3 : (rows[j / n])[j % n]? = some (rows[j / n])[j % n] := List.getElem?_eq_getElem (by omega)
    obtain ⟨u, u1, u2⟩ := g2 (j % n) _ h3
    rw [show j / n * n + j % n = j from by rw [Nat.mul_comm]; exact Nat.div_add_mod j n] at u1
    exact ⟨_, _, u, List.getElem?_eq_getElem h1, h3, u1, u2, hok' _ _ _ _ (List.getElem?_eq_getElem h1) h3⟩
  refine ⟨(List.range (rows.length * n)).map fun j => (w.cell? (A.add j)).getD undef, by simp, fun j u hj => ?_, fun u hu => ?_, by simp, fun r row hr => ?_⟩
  · simp only [List.getElem?_map, Option.map_eq_some_iff] at hj
    obtain ⟨j', h1, h2⟩ := hj
    obtain ⟨h0, rfl⟩ := List.getElem?_eq_some_iff.1 h1
    simp only [List.length_range] at h0
    simp only [List.getElem_range] at h2
    obtain ⟨_, _, u', _, _, q1, _⟩ := split j h0
    rw [q1] at h2 ⊢
    simpa using h2
  · simp only [List.mem_map, List.mem_range] at hu
    obtain ⟨j, h0, rfl⟩ := hu
    obtain ⟨_, x, u', _, _, q1, q2, q3⟩ := split j h0
    rw [q1]
    exact okC_one q3 q2
  · obtain ⟨g1, g2⟩ := hc r row hr
    refine ⟨g1, fun k x hk => ?_⟩
    obtain ⟨u, u1, u2⟩ := g2 k x hk
    refine ⟨okC_own (hok' r row k x hr hk), u, ?_, u2⟩
    have h1 := (List.getElem?_eq_some_iff.1 hr).1
    have h2 := (List.getElem?_eq_some_iff.1 hk).1
    have hb : r * n + k < rows.length * n := by
      have : (r + 1) * n ≤ rows.length * n := Nat.mul_le_mul_right _ h1
      rw [Nat.add_mul, Nat.one_mul] at this; omega
    simp [List.getElem?_map, List.getElem?_range, hb, u1]

def srcT (el : TypeId) : LV → TypeDesc
  | .sc _ => .string | _ => .slice el

theorem src_R (h : SR ov S N G st a w) {n : Nat} (hn : 0 < n) {x : LV} {v : Value} {rows : List (List Cell)} (hs : srcRows st.m n x = some rows) (r : R G S st.m w x v) {tx el : TypeId}
    (hk : P.underlying tx = some (srcT el x)) :
    ∃ news, Go.Src P n tx v rows.length news w ∧ Flat S w n rows news.toArray := by
  have nilF : Flat S w n [] (([] : List Value).toArray) := ⟨by simp, fun r row hr => by simp at hr⟩
  cases x <;> simp only [srcRows] at hs <;> try (cases hs; done)
  case nl =>
    cases hs
    simp only [R, R1, R0] at r
    subst r
    exact ⟨[], Go.Src.ofNil w hk 0, nilF⟩
  case sc u =>
    cases u <;> simp only at hs <;> try (cases hs; done)
    rename_i b
    split at hs
    case isFalse => cases hs
    rename_i hn1
    subst hn1
    cases hs
    simp only [R, R1, R0] at r
    obtain ⟨rfl, _⟩ := r
    have hl : (bytesRows b).length = b.size := by unfold bytesRows; rw [List.length_map, Array.length_toList]; rfl
    refine ⟨byteCells b, by rw [hl]; exact Go.Src.ofString w hk b, by simp [byteCells, bytesRows], fun r row hr => ?_⟩
    simp only [bytesRows, List.getElem?_map, Option.map_eq_some_iff] at hr
    obtain ⟨u, hu, rfl⟩ := hr
    refine ⟨rfl, fun k x hk => ?_⟩
    cases k with
    | succ k => simp at hk
    | zero =>
      simp at hk
      subst hk
      exact ⟨rfl, .int .u8 u.toNat, by simp [byteCells, hu], rfl, rfl⟩
  case ro st0 rows0 =>
    split at hs
    case isFalse => cases hs
    rename_i hc
    obtain ⟨rfl, hok⟩ := hc
    cases hs
    simp only [R, R1, R0] at r
    obtain ⟨A, c, rfl, hle, q⟩ := r
    cases hrows : rows with
    | nil =>
      exact ⟨[], Go.Src.ofSlice w hk A 0 c [] (by simp) (fun _ _ h => by simp at h) (fun _ h => by cases h), nilF⟩
    | cons row0 rest =>
      obtain ⟨_, A', hA, _⟩ := q 0 row0 (by rw [hrows]; rfl)
      subst hA
      rw [← hrows]
      obtain ⟨news, n1, n2, n3, n4⟩ := flat_of (S := S) (w := w) (A := A') hn hok (fun r row hr => by
        obtain ⟨g1, A2, g2, _, g3⟩ := q r row hr
        cases g2
        exact ⟨g1, g3⟩)
      exact ⟨news, Go.Src.ofSlice w hk A' _ c news n1 n2 n3, n4⟩
  case rf j ch lo k =>
    cases hl : look st.m j ch with
    | none => rw [hl] at hs; cases hs
    | some q =>
      obtain ⟨e0, st0, rows0⟩ := q
      rw [hl] at hs
      simp only at hs
      split at hs
      case isFalse => cases hs
      rename_i hc
      obtain ⟨rfl, hle, hok⟩ := hc
      cases hs
      simp only [R, R1, R0, hl] at r
      obtain ⟨A, c, rfl, hkc, hcap, hA⟩ := r
      have hlen : ((rows0.drop lo).take k).length = k := by simp; omega
      rcases Nat.eq_zero_or_pos k with h0 | h0
      · subst h0
        simp only [List.take_zero, List.length_nil]
        exact ⟨[], Go.Src.ofSlice w hk A 0 c [] (by simp) (fun _ _ h => by simp at h) (fun _ h => by cases h), nilF⟩
      · have hA' := hA (by omega)
        subst hA'
        obtain ⟨cs, b1, b2, b3, b4, b5⟩ := own_ok h.inv hl
        obtain ⟨news, n1, n2, n3, n4⟩ := flat_of (S := S) (w := w) (A := ⟨G.blkOf j ch, lo * st0, none⟩) hn hok (fun r row hr => by
          rw [List.getElem?_take] at hr
          split at hr
          case isFalse => cases hr
          rw [List.getElem?_drop] at hr
          obtain ⟨g1, g2⟩ := b5 (lo + r) row hr
          refine ⟨g1, fun k2 x hk2 => ?_⟩
          obtain ⟨u, u1, u2⟩ := g2 k2 x hk2
          refine ⟨u, ?_, u2 ?_⟩
          · rw [Addr.add_lit, cell_of_row w _ _ cs e0 (0, 0) b1]
            rw [show lo * st0 + (r * st0 + k2) = (lo + r) * st0 + k2 from by rw [Nat.add_mul]; omega]
            exact u1
          · refine List.all_eq_true.1 (List.all_eq_true.1 hok row ?_) x (List.mem_of_getElem? hk2)
            refine List.mem_of_getElem? (i := r) ?_
            rw [List.getElem?_take, if_pos (by assumption), List.getElem?_drop]
            exact hr)
        rw [hlen] at n1 ⊢
        exact ⟨news, Go.Src.ofSlice w hk _ k c news n1 n2 n3, n4⟩

theorem room_src (w : World) (t tx ty e : TypeId) (i : TypeInfo) (ht : P.underlying t = some (.slice e)) (hi : P.info? e = some i) (g sLen sCap : Nat) (cur : Array Value) (hg : w.heap[g]? = some (.cells cur e (0, 0))) (x : Value) (n : Nat) (news : List Value)
    (hs : Go.Src P i.size tx x n news w) (hroom : sLen + n ≤ sCap) (hfit : sLen * i.size + news.length ≤ cur.size) :
    (Builtin.append_ #[t, tx] ty #[.slice (some ⟨g, 0, none⟩) sLen sCap, x]).run P w =
      .ok (.slice (some ⟨g, 0, none⟩) (sLen + n) sCap) (w.setRow g (cur.toList.take (sLen * i.size) ++ news ++ cur.toList.drop (sLen * i.size + news.length)).toArray) := by
  have hst := run_storeCells_at P g (sLen * i.size) e news 0 cur w hg (by simpa using hfit) hs.one
  simp only [Nat.add_zero] at hst
  rcases hs.kind with ⟨e', hk⟩ | hk <;> simp [Builtin.append_, run_underlying ht, run_underlying hk, sizeOf, typeInfo, hi, hs.len, hroom, hs.cells, Addr.add_lit, hst]

/-- i's memory goes over to k, with rows more -/
def Gh.move (G : Gh) (i k : Id) (b c : Nat) : Gh :=
  { blk := fun j => if j = k then b else G.blk j, cap := fun j => if j = k then c else G.cap j, cblk := fun j => if j = k then G.cblk i else G.cblk j, ccap := fun j => if j = k then G.ccap i else G.ccap j }

theorem renew (h : Inv S N G m w) (hn : ∀ b, w.heap.size ≤ b → N b) {i k : Id} {e n : Nat} {rows more : List (List Cell)} (hi : m i = some (.arr e n rows)) (hk : m k = none) {w' : World} {B C : Nat} {cs : Array Value}
    (hB : B = G.blk i ∨ B = w.heap.size) (hheap : ∀ b, b < w.heap.size → b ≠ B → w'.heap[b]? = w.heap[b]?) (hsz : w.heap.size ≤ w'.heap.size)
    (hcs : w'.heap[B]? = some (.cells cs e (0, 0))) (hsize : cs.size = C * n) (hlen : rows.length + more.length ≤ C) (hC : C ≤ maxLen)
    (hold : ∀ (r : Nat) (row : List Cell), rows[r]? = some row → row.length = n ∧ ∀ (c : Nat) (x : Cell), row[c]? = some x → ∃ u, cs[r * n + c]? = some u ∧ OwC G S w i r c x u)
    (hnew : ∀ (r : Nat) (row : List Cell), more[r]? = some row → row.length = n ∧ ∀ (c : Nat) (x : Cell), row[c]? = some x → noOwn x = true ∧ ∃ u, cs[(rows.length + r) * n + c]? = some u ∧ RdC S w x u) :
    Keep G m (G.move i k B C) (updM (updM m i (some .dead)) k (some (.arr e n (rows ++ more)))) ∧ (∀ b, S b → w'.heap[b]? = w.heap[b]?) ∧ Inv S N (G.move i k B C) (updM (updM m i (some .dead)) k (some (.arr e n (rows ++ more)))) w' := by
  have hik : i ≠ k := fun e => by subst e; rw [hi] at hk; cases hk
  have live_i : live m (.root i) := .inr ⟨e, n, rows, hi⟩
  have hBS : ¬ S B ∧ N B := by
    rcases hB with rfl | rfl
    · exact h.sep _ live_i
    · exact ⟨fun hs => by have := h.old _ hs; omega, hn _ (Nat.le_refl _)⟩
  have hS : ∀ b, S b → w'.heap[b]? = w.heap[b]? := fun b hb => hheap b (h.old b hb) (fun e => hBS.1 (e ▸ hb))
  have mk : (updM (updM m i (some .dead)) k (some (.arr e n (rows ++ more)))) k = some (.arr e n (rows ++ more)) := updM_eq
  have mi : (updM (updM m i (some .dead)) k (some (.arr e n (rows ++ more)))) i = some .dead := by rw [updM_ne hik, updM_eq]
  have mo : ∀ j, j ≠ i → j ≠ k → (updM (updM m i (some .dead)) k (some (.arr e n (rows ++ more)))) j = m j := fun j h1 h2 => by rw [updM_ne h2, updM_ne h1]
  have gk : (G.move i k B C).blk k = B ∧ (G.move i k B C).cap k = C ∧ (G.move i k B C).cblk k = G.cblk i ∧ (G.move i k B C).ccap k = G.ccap i := by simp [Gh.move]
  have go : ∀ j, j ≠ k → (G.move i k B C).blk j = G.blk j ∧ (G.move i k B C).cap j = G.cap j ∧ (G.move i k B C).cblk j = G.cblk j ∧ (G.move i k B C).ccap j = G.ccap j := fun j hj => by simp [Gh.move, hj]
  generalize hm' : updM (updM m i (some .dead)) k (some (.arr e n (rows ++ more))) = m' at mk mi mo ⊢
  generalize hG' : G.move i k B C = G' at gk go ⊢
  have keep : Keep G m G' m' := by
    refine ⟨fun j hj => ?_, fun j ch q' hj hq => ?_, fun j c' hj hq => ?_⟩
    · by_cases h1 : j = i
      · subst h1; rw [mi]; simp
      · by_cases h2 : j = k
        · subst h2; exact absurd hk hj
        · rw [mo j h1 h2]; exact hj
    · have h2 : j ≠ k := fun e => by subst e; exact hj hk
      by_cases h1 : j = i
      · subst h1; simp [look, mi] at hq
      · have hlk : look m' j ch = look m j ch := by simp [look, mo j h1 h2]
        rw [hlk] at hq
        obtain ⟨g1, g2, g3, g4⟩ := go j h2
        refine ⟨q', hq, rfl, ?_, ?_⟩ <;> cases ch <;> simp [Gh.blkOf, Gh.capOf, g1, g2, g3, g4]
    · have h2 : j ≠ k := fun e => by subst e; exact hj hk
      by_cases h1 : j = i
      · subst h1; rw [mi] at hq; cases hq
      · rw [mo j h1 h2] at hq; exact ⟨⟨c', hq⟩, (go j h2).1⟩
  -- what lives there, lived here
  have cellNew : ∀ r c e' n' l, cellAt (rows ++ more) r c = some (.sl true e' n' l) → cellAt rows r c = some (.sl true e' n' l) := by
    intro r c e' n' l hc
    simp only [cellAt, Option.bind_eq_some_iff] at hc ⊢
    obtain ⟨row, t1, t2⟩ := hc
    by_cases hr : r < rows.length
    · rw [List.getElem?_append_left hr] at t1; exact ⟨row, t1, t2⟩
    · rw [List.getElem?_append_right (by omega)] at t1
      have := ((hnew _ row t1).2 c _ t2).1
      cases this
  have back : ∀ p, live m' p → p = .root k ∨ (∃ q, live m q ∧ G'.at p = G.at q ∧ q ≠ .root i ∧ ((∃ r c, p = .chld k r c ∧ q = .chld i r c) ∨ (p = q ∧ (∀ r c, q ≠ .chld i r c)))) := by
    intro p hp
    cases p with
    | root j =>
      by_cases h2 : j = k
      · exact .inl (by rw [h2])
      · have h1 : j ≠ i := fun e => by subst e; rcases hp with ⟨_, q⟩ | ⟨_, _, _, q⟩ <;> rw [mi] at q <;> cases q
        refine .inr ⟨.root j, ?_, (go j h2).1, fun e => by cases e; exact h1 rfl, .inr ⟨rfl, fun _ _ e => by cases e⟩⟩
        simp only [live] at hp ⊢
        rw [mo j h1 h2] at hp
        exact hp
    | chld j r c =>
      obtain ⟨e0, n0, rows0, row0, e', n', l, q1, q2, q3⟩ := hp
      by_cases h2 : j = k
      · subst h2
        rw [mk] at q1
        cases q1
        have := cellNew r c e' n' l (by simp [cellAt, q2, q3])
        simp only [cellAt, Option.bind_eq_some_iff] at this
        obtain ⟨row', t1, t2⟩ := this
        exact .inr ⟨.chld i r c, ⟨_, _, rows, row', e', n', l, hi, t1, t2⟩, by simp only [Gh.at, gk.2.2.1], fun e => (by cases e), .inl ⟨r, c, rfl, rfl⟩⟩
      · have h1 : j ≠ i := fun e => by subst e; rw [mi] at q1; cases q1
        rw [mo j h1 h2] at q1
        exact .inr ⟨.chld j r c, ⟨e0, n0, rows0, row0, e', n', l, q1, q2, q3⟩, by simp only [Gh.at, (go j h2).2.2.1], fun e => (by cases e), .inr ⟨rfl, fun r' c' e => by cases e; exact h1 rfl⟩⟩
  have atB : ∀ q, live m q → q ≠ .root i → G.at q ≠ B := by
    intro q hq hne e
    rcases hB with rfl | rfl
    · exact hne (h.inj q (.root i) hq live_i e)
    · have := h.lt hq; omega
  have heapq : ∀ q, live m q → q ≠ .root i → w'.heap[G.at q]? = w.heap[G.at q]? := fun q hq hne => hheap _ (h.lt hq) (atB q hq hne)
  refine ⟨keep, hS, fun j e2 n2 rows2 hj => ?_, fun j c hj => ?_, fun p q hp hq he => ?_, fun p hp => ?_, fun b hb => Nat.lt_of_lt_of_le (h.old b hb) hsz⟩
  · by_cases h2 : j = k
    · subst h2
      rw [mk] at hj
      cases hj
      rw [gk.1, gk.2.1]
      refine ⟨cs, hcs, hsize, by simpa using hlen, hC, fun r row hr => ?_⟩
      by_cases hrl : r < rows.length
      · rw [List.getElem?_append_left hrl] at hr
        obtain ⟨g1, g2⟩ := hold r row hr
        refine ⟨g1, fun c x hx => ?_⟩
        obtain ⟨u, u1, u2⟩ := g2 c x hx
        refine ⟨u, u1, ?_⟩
        cases x with
        | un => trivial
        | sc v => exact u2
        | nl => exact u2
        | sl o e' n' l =>
          cases o with
          | false => exact RdG.mono u2 (fun _ _ h => h) (fun _ h => h) hS
          | true =>
            obtain ⟨t1, t2⟩ := u2
            refine ⟨by rw [gk.2.2.1, gk.2.2.2]; exact t1, ?_⟩
            rw [gk.2.2.1, gk.2.2.2]
            exact OwG.mono t2 (heapq (.chld i r c) ⟨_, _, rows, row, e', n', l, hi, hr, hx⟩ (fun e => by cases e)) (fun _ _ _ _ _ _ _ h => h)
      · rw [List.getElem?_append_right (by omega)] at hr
        obtain ⟨g1, g2⟩ := hnew _ row hr
        refine ⟨g1, fun c x hx => ?_⟩
        obtain ⟨t1, u, u1, u2⟩ := g2 c x hx
        refine ⟨u, by rw [← u1, show rows.length + (r - rows.length) = r from by omega], ?_⟩
        exact noOwn_OwC t1 (RdC.mono u2 (fun _ h => h) hS)
    · have h1 : j ≠ i := fun e => by subst e; rw [mi] at hj; cases hj
      rw [mo j h1 h2] at hj
      obtain ⟨g1, g2, g3, g4⟩ := go j h2
      rw [g1, g2]
      refine OwG.mono (h.arr j e2 n2 rows2 hj) (heapq (.root j) (.inr ⟨e2, n2, rows2, hj⟩) (fun e => by cases e; exact h1 rfl)) fun r c row x u hr hc ho => OwC.mono ho ⟨by rw [g3], by rw [g4]⟩ hS fun e' n' l hx => ?_
      subst hx
      exact heapq (.chld j r c) ⟨e2, n2, rows2, row, e', n', l, hj, hr, hc⟩ (fun e => by cases e)
  · have h2 : j ≠ k := fun e => by subst e; rw [mk] at hj; cases hj
    have h1 : j ≠ i := fun e => by subst e; rw [mi] at hj; cases hj
    rw [mo j h1 h2] at hj
    obtain ⟨cs0, e0, k1, k2⟩ := h.box j c hj
    exact ⟨cs0, e0, by rw [(go j h2).1]; exact (heapq (.root j) (.inl ⟨c, hj⟩) (fun e => by cases e; exact h1 rfl)).trans k1, k2.mono fun x u _ hx => ⟨R0.write hS keep hx.2.2 hx.1, hx.2.1, wf0.ext keep.ne hx.2.2⟩⟩
  · rcases back p hp with rfl | ⟨p', p1, p2, p3, p4⟩ <;> rcases back q hq with rfl | ⟨q', q1, q2, q3, q4⟩
    · rfl
    · exact absurd (by rw [← q2, ← he]; exact gk.1) (atB q' q1 q3)
    · exact absurd (by rw [← p2, he]; exact gk.1) (atB p' p1 p3)
    · have := h.inj p' q' p1 q1 (by rw [← p2, ← q2, he])
      subst this
      rcases p4 with ⟨r, c, rfl, rfl⟩ | ⟨rfl, p5⟩ <;> rcases q4 with ⟨r', c', rfl, e'⟩ | ⟨rfl, q5⟩
      · cases e'; rfl
      · exact absurd rfl (q5 r c)
      · exact absurd e' (p5 r' c')
      · rfl
  · rcases back p hp with rfl | ⟨p', p1, p2, _⟩
    · simp only [Gh.at, gk.1]; exact hBS
    · rw [p2]; exact h.sep p' p1

theorem Flat.get {n : Nat} {rows : List (List Cell)} {news : List Value} (h : Flat S w n rows news.toArray) (r : Nat) (row : List Cell) (hr : rows[r]? = some row) : row.length = n ∧ ∀ (k : Nat) (x : Cell), row[k]? = some x → Ev.noOwn x = true ∧ ∃ u, news[r * n + k]? = some u ∧ RdC S w x u := by
  obtain ⟨g1, g2⟩ := h.2 r row hr
  refine ⟨g1, fun k x hk => ?_⟩
  obtain ⟨t1, u, t2, t3⟩ := g2 k x hk
  exact ⟨t1, u, by simpa using t2, t3⟩

/-- APPEND to a slice of one's own -/
theorem do_ap (h : SR ov S N G st a w) {x y : Opd} {x' y' : Operand} {t tx el : TypeId} {n by_ : Nat} {zv : List Value} {o : Oper} (hx : fO x x' = true) (hy : fO y y' = true)
    (ho : o.op = .call { callee := .builtin .append, args := #[x', y'], argTypes := #[t, tx] }) (ht : P.underlying t = some (.slice el)) (htx : P.underlying tx = some (srcT el (opd st.s y)))
    (hs : sizeT P el = some n) (hbt : bytesT P el = some by_) (hby : by_ ≤ 100000) (hz : zeroT P el = some zv) (hzn : zv.length = n) (hn : 0 < n)
    {i k : Id} {rows more : List (List Cell)} (ex : opd st.s x = .rf i none 0 rows.length) (hi : st.m i = some (.arr el n rows)) (hsr : srcRows st.m n (opd st.s y) = some more) (hb : rows.length + more.length ≤ big) (hk : st.m k = none) :
    Does P o a w (NextW S N G st w (.rf k none 0 (rows ++ more).length) (updM (updM st.m i (some .dead)) k (some (.arr el n (rows ++ more))))) := by
  obtain ⟨x1, x2⟩ := h.opd hx
  obtain ⟨y1, y2⟩ := h.opd hy
  obtain ⟨news, s1, s2⟩ := src_R (P := P) h hn hsr y1 htx
  rw [ex] at x1
  simp only [R, R1, R0, look_none hi, Gh.capOf, Gh.blkOf] at x1
  obtain ⟨A, c, ev, hnc, hcap, hA⟩ := x1
  have hA0 := hA (.inr trivial)
  simp only [Nat.zero_mul] at hA0
  subst hA0
  obtain ⟨cs, k1, k2, k3, k4, k5⟩ := h.inv.arr i el n rows hi
  have hcc : c = G.cap i := by omega
  subst hcc
  obtain ⟨v0, e1, e2⟩ := zeroT_run (P := P) (w := w) hz
  cases hinfo : P.info? el with
  | none => simp [bytesT, hinfo] at hbt
  | some inf =>
    have hbb : inf.bytes = by_ := by simpa [bytesT, hinfo] using hbt
    have hsz : inf.size = n := by simpa [sizeT, hinfo] using hs
    have hzr : inf.zero = some v0 := by
      cases hq : inf.zero with
      | none => simp [zeroValue, typeInfo, hinfo, hq] at e1
      | some v1 =>
        simp [zeroValue, typeInfo, hinfo, hq] at e1
        rw [e1]
    have hzs : v0.cells.size = n := by rw [e2]; simpa using hzn
    have hsmall : (rows.length + more.length) * by_ ≤ 1000000000 * 100000 := Nat.mul_le_mul hb hby
    have hnl : news.length = more.length * n := s1.newsLen
    have hcs : cs.size = G.cap i * n := k2
    have blk_lt : G.blk i < w.heap.size := (Array.getElem?_eq_some_iff.1 k1).1
    have fin : ∀ (v' : Value) (w' : World) (B C : Nat) (cs' : Array Value), (execOp a.eval o).run P w = .ok (.value v') w' →
        (B = G.blk i ∨ B = w.heap.size) → (∀ b, b < w.heap.size → b ≠ B → w'.heap[b]? = w.heap[b]?) → w.heap.size ≤ w'.heap.size → w'.heap[B]? = some (.cells cs' el (0, 0)) → cs'.size = C * n → rows.length + more.length ≤ C → C ≤ maxLen →
        (∀ j, j < rows.length * n → cs'[j]? = cs[j]?) → (∀ j, j < more.length * n → cs'[rows.length * n + j]? = news[j]?) → w'.os = w.os → w'.tape = w.tape → w'.output = w.output →
        v' = .slice (some ⟨B, 0, none⟩) (rows.length + more.length) C →
        Does P o a w (NextW S N G st w (.rf k none 0 (rows ++ more).length) (updM (updM st.m i (some .dead)) k (some (.arr el n (rows ++ more))))) := by
      intro v' w' B C cs' hrun hB hheap hsize hcs' hC1 hC2 hC3 ho1 ho2 f1 f2 f3 hv
      have hA1 : ∀ (r : Nat) (row : List Cell), rows[r]? = some row → row.length = n ∧ ∀ (c : Nat) (x : Cell), row[c]? = some x → ∃ u, cs'[r * n + c]? = some u ∧ OwC G S w i r c x u := by
        intro r row hr
        obtain ⟨g1, g2⟩ := k5 r row hr
        refine ⟨g1, fun c x hx => ?_⟩
        obtain ⟨u, u1, u2⟩ := g2 c x hx
        refine ⟨u, ?_, u2⟩
        rw [ho1 _ ?_]; · exact u1
        have h1 := (List.getElem?_eq_some_iff.1 hr).1
        have h2 := (List.getElem?_eq_some_iff.1 hx).1
        have : (r + 1) * n ≤ rows.length * n := Nat.mul_le_mul_right _ h1
        rw [Nat.add_mul, Nat.one_mul] at this; omega
      have hA2 : ∀ (r : Nat) (row : List Cell), more[r]? = some row → row.length = n ∧ ∀ (c : Nat) (x : Cell), row[c]? = some x → noOwn x = true ∧ ∃ u, cs'[(rows.length + r) * n + c]? = some u ∧ RdC S w x u := by
        intro r row hr
        obtain ⟨g1, g2⟩ := s2.get r row hr
        refine ⟨g1, fun c x hx => ?_⟩
        obtain ⟨t1, u, u1, u2⟩ := g2 c x hx
        refine ⟨t1, u, ?_, u2⟩
        rw [show (rows.length + r) * n + c = rows.length * n + (r * n + c) from by rw [Nat.add_mul]; omega, ho2 _ ?_]; · exact u1
        have h1 := (List.getElem?_eq_some_iff.1 hr).1
        have h2 := (List.getElem?_eq_some_iff.1 hx).1
        have : (r + 1) * n ≤ more.length * n := Nat.mul_le_mul_right _ h1
        rw [Nat.add_mul, Nat.one_mul] at this; omega
      obtain ⟨b1, b2, b3⟩ := renew h.inv h.new (more := more) hi hk hB hheap hsize hcs' hC1 hC2 hC3 hA1 hA2
      · refine ⟨v', w', hrun, _, b3, fun x u hx hw => ⟨R.write b2 b1 hw hx, wf.ext b1.ne hw⟩, ?_, ?_, f1, f2, f3, hsize, fun b hb' hN => hheap b hb' (fun e => hN ?_)⟩
        · subst hv
          simp only [R, R1, R0, look_none updM_eq, Gh.capOf, Gh.blkOf]
          exact ⟨⟨B, 0, none⟩, C, by simp, by simpa using hC2, by simp [Gh.move], fun _ => by simp [Gh.move]⟩
        · simp [wf, wf1, wf0, updM_eq]
        · rcases hB with rfl | rfl
          · rw [e]; exact (h.inv.sep (.root i) (.inr ⟨_, _, _, hi⟩)).2
          · omega
    have step : ∀ v' w', (Builtin.append_ #[t, tx] o.type #[a.eval x', a.eval y']).run P w = .ok v' w' → (execOp a.eval o).run P w = .ok (.value v') w' := by
      intro v' w' hrun
      simp only [execOp, ho, resolve, invoke, builtin, Sem.run_bind, Sem.run_pure, Result.andThen_ok, List.map_toArray, List.map_cons, List.map_nil, hrun]
    by_cases hroom : rows.length + more.length ≤ G.cap i
    · rcases Nat.eq_zero_or_pos (G.cap i) with h0 | h0
      · -- nothing
        have m0 : more.length = 0 := by omega
        have r0 : rows.length = 0 := by omega
        have hnothing := run_append_nothing (P := P) w t tx o.type el inf ht hinfo (some ⟨G.blk i, 0, none⟩) rows.length (G.cap i) hnc (a.eval y') (by rw [hsz]; rw [m0] at s1; rw [m0] at hnl; have : news = [] := List.eq_nil_of_length_eq_zero (by simpa using hnl); rw [this] at s1; exact s1)
        refine fin _ w (G.blk i) (G.cap i) cs (step _ _ (by rw [ev]; exact hnothing)) (.inl rfl) (fun _ _ _ => rfl) (Nat.le_refl _) k1 hcs hroom k4 (fun _ _ => rfl) (fun j hj => by rw [m0] at hj; simp at hj) rfl rfl rfl (by rw [m0]; rfl)
      · have hfit : rows.length * inf.size + news.length ≤ cs.size := by rw [hsz, hnl, hcs, ← Nat.add_mul]; exact Nat.mul_le_mul_right _ hroom
        have hrun := room_src (P := P) w t tx o.type el inf ht hinfo (G.blk i) rows.length (G.cap i) cs k1 (a.eval y') more.length news (by rw [hsz]; exact s1) hroom hfit
        refine fin _ _ (G.blk i) (G.cap i) _ (step _ _ (by rw [ev]; exact hrun)) (.inl rfl) (fun b _ hb' => setRow_other w _ b _ hb') (by simp) (setRow_heap w _ cs _ el (0, 0) k1) ?_ hroom k4 (fun j hj => ?_) (fun j hj => ?_) rfl rfl rfl rfl
        · simp; omega
        · rw [hsz] at *
          have lt : (cs.toList.take (rows.length * n)).length = rows.length * n := by simp; omega
          simp only [List.getElem?_toArray, List.append_assoc]
          rw [List.getElem?_append_left (by omega), List.getElem?_take, if_pos hj]; simp
        · rw [hsz] at *
          have lt : (cs.toList.take (rows.length * n)).length = rows.length * n := by simp; omega
          simp only [List.getElem?_toArray, List.append_assoc]
          rw [List.getElem?_append_right (by omega), List.getElem?_append_left (by omega), lt]
          congr 1; omega
    · have hold : (Builtin.firstCells inf.size rows.length (.slice (some ⟨G.blk i, 0, none⟩) rows.length (G.cap i))).run P w.drew = .ok (cs.toList.take (rows.length * n)).toArray w.drew := by
        have hfit : rows.length * n ≤ cs.size := by rw [hcs]; exact Nat.mul_le_mul_right _ hnc
        refine run_firstCells_some w.drew _ rows.length ⟨G.blk i, 0, none⟩ rows.length (G.cap i) _ (by rw [hsz]; simp; omega) (fun j u hu => ?_)
        rw [Addr.add_lit]
        rw [List.getElem?_take] at hu
        split at hu
        · have : w.drew.cell? ⟨G.blk i, 0 + j, none⟩ = w.cell? ⟨G.blk i, 0 + j, none⟩ := rfl
          rw [this, cell_of_row w _ _ cs el (0, 0) k1, Nat.zero_add]
          simpa using hu
        · cases hu
      have hfits := growslice_fits (need := rows.length + more.length) (old := G.cap i) (bytes := inf.bytes) (by omega) (by rw [hbb]; omega)
      have hrun := run_append_grow_src (P := P) w t tx o.type el inf v0 ht hinfo hzr (some ⟨G.blk i, 0, none⟩) rows.length (G.cap i) _ hold (a.eval y') more.length news (by rw [hsz]; exact s1) (by omega) (by unfold big at hb; omega) hfits
      have hge := grownCap_ge w (rows.length + more.length) (G.cap i) el
      have hcm := grownCap_le_maxLen w (rows.length + more.length) (G.cap i) el (by unfold big at hb; simp only [maxLen]; omega)
      have lt : (cs.toList.take (rows.length * n)).length = rows.length * n := by
        have hfit : rows.length * n ≤ cs.size := by rw [hcs]; exact Nat.mul_le_mul_right _ hnc
        simp; omega
      refine fin _ _ w.heap.size _ _ (step _ _ (by rw [ev]; exact hrun)) (.inr rfl) (fun b hb' _ => heap_alloc_old w.drew _ b hb') (by simp) (heap_alloc_new w.drew _) ?_ hge hcm (fun j hj => ?_) (fun j hj => ?_) rfl rfl rfl rfl
      · rw [Array.size_append, size_zeroCells, hzs, List.size_toArray, List.length_append, lt, hnl, ← Nat.add_mul, ← Nat.add_mul]
        congr 1; omega
      · rw [Array.getElem?_append_left (by rw [List.size_toArray, List.length_append, lt]; omega)]
        simp only [List.getElem?_toArray]
        rw [List.getElem?_append_left (by omega), List.getElem?_take, if_pos hj]; simp
      · rw [Array.getElem?_append_left (by rw [List.size_toArray, List.length_append, lt]; omega)]
        simp only [List.getElem?_toArray]
        rw [List.getElem?_append_right (by omega), lt]
        congr 1; omega

/-- APPEND to nothing -/
theorem do_ap_nil (h : SR ov S N G st a w) {x y : Opd} {x' y' : Operand} {t tx el : TypeId} {n by_ : Nat} {zv : List Value} {o : Oper} (hx : fO x x' = true) (hy : fO y y' = true)
    (ho : o.op = .call { callee := .builtin .append, args := #[x', y'], argTypes := #[t, tx] }) (ht : P.underlying t = some (.slice el)) (htx : P.underlying tx = some (srcT el (opd st.s y)))
    (hs : sizeT P el = some n) (hbt : bytesT P el = some by_) (hby : by_ ≤ 100000) (hz : zeroT P el = some zv) (hzn : zv.length = n) (hn : 0 < n)
    {k : Id} {more : List (List Cell)} (ex : opd st.s x = .nl) (hsr : srcRows st.m n (opd st.s y) = some more) (hb : more.length ≤ big) (hk : st.m k = none) :
    Does P o a w (fun v' w' => if more.length = 0 then Next S N G st w .nl st.m v' w' else Next S N G st w (.rf k none 0 more.length) (updM st.m k (some (.arr el n more))) v' w') := by
  obtain ⟨x1, x2⟩ := h.opd hx
  obtain ⟨y1, y2⟩ := h.opd hy
  obtain ⟨news, s1, s2⟩ := src_R (P := P) h hn hsr y1 htx
  rw [ex] at x1
  simp only [R, R1, R0] at x1
  obtain ⟨v0, e1, e2⟩ := zeroT_run (P := P) (w := w) hz
  cases hinfo : P.info? el with
  | none => simp [bytesT, hinfo] at hbt
  | some inf =>
    have hbb : inf.bytes = by_ := by simpa [bytesT, hinfo] using hbt
    have hsz : inf.size = n := by simpa [sizeT, hinfo] using hs
    have hzr : inf.zero = some v0 := by
      cases hq : inf.zero with
      | none => simp [zeroValue, typeInfo, hinfo, hq] at e1
      | some v1 =>
        simp [zeroValue, typeInfo, hinfo, hq] at e1
        rw [e1]
    have hzs : v0.cells.size = n := by rw [e2]; simpa using hzn
    have hsmall : more.length * by_ ≤ 1000000000 * 100000 := Nat.mul_le_mul hb hby
    have hnl : news.length = more.length * n := s1.newsLen
    have step : ∀ v' w', (Builtin.append_ #[t, tx] o.type #[a.eval x', a.eval y']).run P w = .ok v' w' → (execOp a.eval o).run P w = .ok (.value v') w' := by
      intro v' w' hrun
      simp only [execOp, ho, resolve, invoke, builtin, Sem.run_bind, Sem.run_pure, Result.andThen_ok, List.map_toArray, List.map_cons, List.map_nil, hrun]
    by_cases h0 : more.length = 0
    · have hnothing := run_append_nothing (P := P) w t tx o.type el inf ht hinfo none 0 0 (Nat.le_refl _) (a.eval y') (by rw [hsz]; rw [h0] at s1; rw [h0] at hnl; have : news = [] := List.eq_nil_of_length_eq_zero (by simpa using hnl); rw [this] at s1; exact s1)
      simp only [h0, if_true]
      exact Does.same h (step _ _ (by rw [x1]; exact hnothing)) rfl trivial
    · simp only [h0, if_false]
      have hfits := growslice_fits (need := 0 + more.length) (old := 0) (bytes := inf.bytes) (by omega) (by rw [hbb, Nat.zero_add]; omega)
      have hrun := run_append_grow_src (P := P) w t tx o.type el inf v0 ht hinfo hzr none 0 0 [] (run_firstCells_none w.drew _ 0 0 _) (a.eval y') more.length news (by rw [hsz]; exact s1) (by omega) (by unfold big at hb; omega) hfits
      have hge := grownCap_ge w (0 + more.length) 0 el
      have hcm := grownCap_le_maxLen w (0 + more.length) 0 el (by unfold big at hb; simp only [maxLen]; omega)
      generalize hC : grownCap w (0 + more.length) 0 el = C at hrun hge hcm
      generalize hcs : ((([] : List Value) ++ news).toArray ++ Builtin.zeroCells v0.cells (C - (0 + more.length))) = cs at hrun
      have hold : ∀ b, S b → (w.drew.alloc (.cells cs el)).heap[b]? = w.heap[b]? := fun b hb => heap_alloc_old w.drew _ b (h.inv.old b hb)
      have ext : Ext G st.m w (G.put k w.heap.size C) (updM st.m k (some (.arr el n more))) (w.drew.alloc (.cells cs el)) :=
        have q : Ext G st.m w.drew (G.put k w.heap.size C) (updM st.m k (some (.arr el n more))) (w.drew.alloc (.cells cs el)) := Ext.add hk _ _ _ _
        ⟨q.mem, q.blk, q.heap, q.size⟩
      have inv' : Inv S N G st.m w.drew := h.inv.ext (fun _ _ => rfl) (Nat.le_refl _)
      refine ⟨_, _, step _ _ (by rw [x1]; exact hrun), G.put k w.heap.size C, ext, ?_, ?_, ?_, rfl, rfl, rfl, by simp, fun b hb' _ => heap_alloc_old w.drew _ b hb'⟩
      · refine Inv.add (w := w.drew) inv' h.new hk (fun e' n' rows' q => by cases q; exact s2.noOwn) (fun e' n' rows' q => ?_) (fun _ q => by cases q)
        cases q
        refine ⟨cs, heap_alloc_new w.drew _, ?_, by omega, hcm, fun r row hr => ?_⟩
        · rw [← hcs, Array.size_append, size_zeroCells, hzs, List.size_toArray, List.nil_append, hnl, ← Nat.add_mul]
          congr 1; omega
        · obtain ⟨g1, g2⟩ := s2.get r row hr
          refine ⟨g1, fun c x hx => ?_⟩
          obtain ⟨t1, u, u1, u2⟩ := g2 c x hx
          refine ⟨u, ?_, noOwn_OwC t1 (RdC.mono u2 (fun _ h => h) hold)⟩
          rw [← hcs, Array.getElem?_append_left (by simp; exact (List.getElem?_eq_some_iff.1 u1).1)]
          simpa using u1
      · simp only [R, R1, R0, look_none updM_eq, Gh.capOf, Gh.blkOf]
        exact ⟨_, C, by rw [Nat.zero_add], by omega, by simp [Gh.put], fun _ => by simp [Gh.put]⟩
      · simp [wf, wf1, wf0, updM_eq]
end
end Go.Proofs.YthnkioafikmmaaaDoor.Ev
