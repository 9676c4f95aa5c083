/- What a call hands back goes under new names. -/
import Derived.Test.YtjdcohcdgdjobaaEvM
namespace Go.Proofs.Ytjdcohcdgdjobaa.Ev
open Go
set_option linter.unusedVariables false
set_option linter.unusedSimpArgs false

section
variable {P : Program} {S N : Nat → Prop} {G G0 : Gh} {m : Mem} {st : St} {a : Act} {w : World}

/-- neither a struct nor a tuple -/
def flat0 : LV → Prop
  | .ag _ => False | .tu _ => False | _ => True

theorem partsL_travL {f : Nat → LV → LV} : ∀ (l : List LV) (k : Nat), partsL k (travL f k l) = (partsL k l).map fun p => (p.1, f p.1 p.2) := by
  intro l; induction l with
  | nil => intro k; rfl
  | cons x xs ih => intro k; simp [travL, partsL, ih]
theorem three (x : LV) : (∃ vs, x = .ag vs) ∨ (∃ vs, x = .tu vs) ∨ flat0 x := by
  cases x <;> first | exact .inl ⟨_, rfl⟩ | exact .inr (.inl ⟨_, rfl⟩) | exact .inr (.inr trivial)
theorem trav1_flat {f : Nat → LV → LV} {k : Nat} {x : LV} (h : flat0 x) : trav1 f k x = f k x := by
  cases x <;> first | rfl | exact h.elim
theorem parts1_flat {k : Nat} {x : LV} (h : flat0 x) : parts1 k x = [(k, x)] := by
  cases x <;> first | rfl | exact h.elim
theorem trav_flat {f : Nat → LV → LV} {x : LV} (h : ∀ vs, x ≠ .tu vs) : trav f x = trav1 f 0 x := by
  cases x <;> first | rfl | exact absurd rfl (h _)
theorem parts_flat {x : LV} (h : ∀ vs, x ≠ .tu vs) : parts x = parts1 0 x := by
  cases x <;> first | rfl | exact absurd rfl (h _)
theorem small_flat {x : LV} (h : ∀ vs, x ≠ .tu vs) : small x = small1 x := by
  cases x <;> first | rfl | exact absurd rfl (h _)
theorem parts1_trav1 {f : Nat → LV → LV} (hf : ∀ k x, flat0 x → flat0 (f k x)) {k : Nat} {x : LV} (hx : small1 x = true) : parts1 k (trav1 f k x) = (parts1 k x).map fun p => (p.1, f p.1 p.2) := by
  rcases three x with ⟨vs, rfl⟩ | ⟨vs, rfl⟩ | h
  · exact partsL_travL vs k
  · simp [small1] at hx
  · rw [trav1_flat h, parts1_flat h, parts1_flat (hf k x h)]; rfl
theorem partsT_travT {f : Nat → LV → LV} (hf : ∀ k x, flat0 x → flat0 (f k x)) : ∀ (l : List LV) (k : Nat), (∀ x ∈ l, small1 x = true) → partsT k (travT f k l) = (partsT k l).map fun p => (p.1, f p.1 p.2) := by
  intro l; induction l with
  | nil => intro k _; rfl
  | cons x xs ih =>
    intro k h
    simp only [travT, partsT, List.map_append]
    rw [parts1_trav1 hf (h x (by simp)), ih (k + 100) (fun y hy => h y (by simp [hy]))]
theorem parts_trav {f : Nat → LV → LV} (hf : ∀ k x, flat0 x → flat0 (f k x)) {r : LV} (hs : small r = true) : parts (trav f r) = (parts r).map fun p => (p.1, f p.1 p.2) := by
  by_cases ht : ∃ vs, r = .tu vs
  · obtain ⟨vs, rfl⟩ := ht
    exact partsT_travT hf vs 0 (fun x hx => List.all_eq_true.1 (by simpa [small] using hs) x hx)
  · have ht' : ∀ vs, r ≠ .tu vs := fun vs e => ht ⟨vs, e⟩
    rw [small_flat ht'] at hs
    rw [trav_flat ht', parts_flat ht', ← parts1_trav1 hf hs]
    refine parts_flat fun vs e => ?_
    rcases three r with ⟨us, rfl⟩ | ⟨us, rfl⟩ | h
    · cases e
    · exact ht' us rfl
    · rw [trav1_flat h] at e
      have := hf 0 r h
      rw [e] at this
      exact this
theorem partsL_keys : ∀ (l : List LV) (k : Nat), (∀ p ∈ partsL k l, k ≤ p.1 ∧ p.1 < k + l.length) ∧ ((partsL k l).map (·.1)).Nodup := by
  intro l; induction l with
  | nil => intro k; simp [partsL]
  | cons x xs ih =>
    intro k
    obtain ⟨i1, i2⟩ := ih (k + 1)
    refine ⟨fun p hp => ?_, ?_⟩
    · simp only [partsL, List.mem_cons] at hp
      rcases hp with rfl | hp
      · simp
      · have := i1 p hp; simp; omega
    · simp only [partsL, List.map_cons, List.nodup_cons]
      refine ⟨fun hm => ?_, i2⟩
      simp only [List.mem_map] at hm
      obtain ⟨p, hp, e⟩ := hm
      have := i1 p hp
      omega
theorem parts1_keys {x : LV} {k : Nat} (hx : small1 x = true) : (∀ p ∈ parts1 k x, k ≤ p.1 ∧ p.1 < k + 100) ∧ ((parts1 k x).map (·.1)).Nodup := by
  cases x
  case ag vs =>
    obtain ⟨h1, h2⟩ := partsL_keys vs k
    have hl : vs.length ≤ 100 := by simpa [small1] using hx
    exact ⟨fun p hp => by have := h1 p hp; omega, h2⟩
  all_goals exact ⟨fun p hp => by simp only [parts1, List.mem_singleton] at hp; subst hp; simp, by simp [parts1]⟩
theorem partsT_keys : ∀ (l : List LV) (k : Nat), (∀ x ∈ l, small1 x = true) → (∀ p ∈ partsT k l, k ≤ p.1) ∧ ((partsT k l).map (·.1)).Nodup := by
  intro l; induction l with
  | nil => intro k _; simp [partsT]
  | cons x xs ih =>
    intro k h
    obtain ⟨i1, i2⟩ := ih (k + 100) (fun y hy => h y (by simp [hy]))
    obtain ⟨j1, j2⟩ := parts1_keys (k := k) (h x (by simp))
    refine ⟨fun p hp => ?_, ?_⟩
    · simp only [partsT, List.mem_append] at hp
      rcases hp with hp | hp
      · exact (j1 p hp).1
      · have := i1 p hp; omega
    · simp only [partsT, List.map_append, List.nodup_append]
      refine ⟨j2, i2, fun a ha b hb e => ?_⟩
      simp only [List.mem_map] at ha hb
      obtain ⟨p, hp, rfl⟩ := ha
      obtain ⟨q, hq, rfl⟩ := hb
      have := j1 p hp
      have := i1 q hq
      omega
theorem parts_keys {r : LV} (hs : small r = true) : ((parts r).map (·.1)).Nodup := by
  by_cases ht : ∃ vs, r = .tu vs
  · obtain ⟨vs, rfl⟩ := ht
    exact (partsT_keys vs 0 (fun x hx => List.all_eq_true.1 (by simpa [small] using hs) x hx)).2
  · have ht' : ∀ vs, r ≠ .tu vs := fun vs e => ht ⟨vs, e⟩
    rw [small_flat ht'] at hs
    rw [parts_flat ht']
    exact (parts1_keys hs).2

theorem adds_nodup : ∀ {l : List (Id × Thing)} {m0 : Mem}, (l.map (·.1)).Nodup → (∀ p ∈ l, m0 p.1 = none) → ∃ m', adds m0 l = some m' ∧ ∀ i, (∀ x, (i, x) ∈ l → m' i = some x) ∧ ((∀ x, (i, x) ∉ l) → m' i = m0 i) := by
  intro l; induction l with
  | nil => intro m0 _ _; exact ⟨m0, rfl, fun i => ⟨fun x hx => by simp at hx, fun _ => rfl⟩⟩
  | cons p l ih =>
    intro m0 hn h0
    obtain ⟨j, x⟩ := p
    simp only [List.map_cons, List.nodup_cons, List.mem_map, not_exists, not_and] at hn
    obtain ⟨m', e1, e2⟩ := ih (m0 := updM m0 j (some x)) hn.2 (fun p hp => by
      rw [updM_ne (fun e => hn.1 p hp e)]
      exact h0 p (by simp [hp]))
    refine ⟨m', by simp only [adds, h0 (j, x) (by simp)]; exact e1, fun i => ⟨fun y hy => ?_, fun hy => ?_⟩⟩
    · simp only [List.mem_cons] at hy
      rcases hy with hy | hy
      · cases hy
        rw [(e2 j).2 (fun z hz => hn.1 _ hz rfl), updM_eq]
      · exact (e2 i).1 y hy
    · rw [(e2 i).2 (fun z hz => hy z (by simp [hz])), updM_ne (fun (e : i = j) => hy x (by simp [e]))]

theorem noDup_get : ∀ {l : List (Nat × LV)}, noDup (l.filterMap rootOf) = true → ∀ (a b : Nat) (p q : Nat × LV), l[a]? = some p → l[b]? = some q → ∀ i, rootOf p = some i → rootOf q = some i → a = b := by
  intro l; induction l with
  | nil => intro _ a b p q h; simp at h
  | cons x xs ih =>
    intro h a b p q ha hb i hp hq
    have hrest : noDup (xs.filterMap rootOf) = true := by
      simp only [List.filterMap_cons] at h
      cases hx : rootOf x with
      | none => rw [hx] at h; exact h
      | some j => rw [hx] at h; simp only [noDup, Bool.and_eq_true] at h; exact h.2
    have hfst : ∀ j, rootOf x = some j → ∀ y ∈ xs, rootOf y ≠ some j := by
      intro j hj y hy hyj
      simp only [List.filterMap_cons, hj, noDup, Bool.and_eq_true, List.all_eq_true, decide_eq_true_eq] at h
      exact h.1 j (List.mem_filterMap.2 ⟨y, hy, hyj⟩) rfl
    cases a with
    | zero =>
      cases b with
      | zero => rfl
      | succ b => simp at ha hb; subst ha; exact absurd hq (hfst i hp q (List.mem_of_getElem? hb))
    | succ a =>
      cases b with
      | zero => simp at ha hb; subst hb; exact absurd hp (hfst i hq p (List.mem_of_getElem? ha))
      | succ b => congr 1; exact ih hrest a b p q (by simpa using ha) (by simpa using hb) i hp hq

theorem RL_trav {R R' : LV → Value → Prop} {f : Nat → LV → LV} : ∀ {vs : List LV} {k : Nat} {cs : Array Value}, RL R vs cs → (∀ p ∈ partsL k vs, ∀ u, R p.2 u → R' (f p.1 p.2) u) → RL R' (travL f k vs) cs := by
  intro vs
  have len : ∀ (l : List LV) (k : Nat), (travL f k l).length = l.length := by
    intro l; induction l with
    | nil => intro k; rfl
    | cons x xs ih => intro k; simp [travL, ih]
  have get : ∀ (l : List LV) (k j : Nat) (y : LV), (travL f k l)[j]? = some y → ∃ x, l[j]? = some x ∧ y = f (k + j) x ∧ (k + j, x) ∈ partsL k l := by
    intro l; induction l with
    | nil => intro k j y h; simp [travL] at h
    | cons x xs ih =>
      intro k j y h
      cases j with
      | zero => simp [travL] at h; exact ⟨x, by simp, h.symm, by simp [partsL]⟩
      | succ j =>
        obtain ⟨z, h1, h2, h3⟩ := ih (k + 1) j y (by simpa [travL] using h)
        refine ⟨z, by simpa using h1, by rw [h2]; congr 1; omega, ?_⟩
        simp only [partsL, List.mem_cons]
        right
        have : k + (j + 1) = k + 1 + j := by omega
        rw [this]; exact h3
  intro k cs h hf
  refine ⟨by rw [h.1, len], fun j y hj => ?_⟩
  obtain ⟨x, h1, rfl, h3⟩ := get vs k j y hj
  obtain ⟨u, u1, u2⟩ := h.2 j x h1
  exact ⟨u, u1, hf _ h3 u u2⟩

end
end Go.Proofs.Ytjdcohcdgdjobaa.Ev
