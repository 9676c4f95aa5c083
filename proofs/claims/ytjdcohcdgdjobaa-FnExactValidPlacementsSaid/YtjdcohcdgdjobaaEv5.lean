/- A store stands on either side of an operation that reads, if what it writes is read by no operand of the other. -/
import Derived.Test.YtjdcohcdgdjobaaEvV
namespace Go.Proofs.Ytjdcohcdgdjobaa.Ev
open Go
set_option linter.unusedVariables false
set_option linter.unusedSimpArgs false

def idOf : LV → Option Id
  | .rf i _ _ _ | .bp i _ | .ep i _ _ _ => some i
  | _ => none
def isCa : IOp → Bool
  | .ca .. => true | _ => false

section
variable {m m' : Mem}
theorem look_at {i : Id} {ch : Option (Nat × Nat)} (h : m' i = m i) : look m' i ch = look m i ch := by
  unfold look; rw [h]
theorem loadAt_off {n : Nat} {g : Bool} {v : LV} (h : ∀ j, idOf v = some j → m' j = m j) : loadAt m' n g v = loadAt m n g v := by
  cases v <;> try rfl
  case bp i off => simp only [loadAt, h i rfl]
  case ep i ch r c => simp only [loadAt, look_at (h i rfl)]
theorem snap0_off {v : LV} (h : ∀ j, idOf v = some j → m' j = m j) : snap0 m' v = snap0 m v := by
  cases v <;> try rfl
  case rf i ch lo n => simp only [snap0, look_at (h i rfl)]
theorem snap0_no {v : LV} (h : ownB0 v = false) : snap0 m' v = snap0 m v := by
  cases v <;> first | rfl | cases h
theorem snap1_no {v : LV} (h : ownB0 v = false) : snap1 m' v = snap1 m v := by
  cases v <;> first | rfl | cases h
theorem snap_no {v : LV} (h : ownB v = false) : snap m' v = snap m v := by
  cases v
  case ag vs =>
    simp only [ownB, List.any_eq_false] at h
    simp only [snap]; rw [mapM_local fun x hx => snap0_no (by simpa using h x hx)]
  case cl f vs =>
    simp only [ownB, List.any_eq_false] at h
    simp only [snap]; rw [mapM_local fun x hx => snap1_no (by simpa using h x hx)]
  case tu vs => rfl
  all_goals (simp only [ownB] at h; exact snap1_no (m := m) (m' := m') h)

theorem evR_off {call : CallF} {d : Nat} {s : Nat → LV} {io : IOp} (hca : isCa io = false) (h : ∀ x ∈ opdsI io, ∀ j, idOf (opd s x) = some j → m' j = m j) : evR call d ⟨s, m'⟩ io = evR call d ⟨s, m⟩ io := by
  cases io <;> simp only [opdsI, List.mem_cons, List.not_mem_nil, or_false, forall_eq_or_imp, forall_eq] at h <;> try rfl
  case ld n g x => simp only [evR]; rw [loadAt_off h]
  case nc x =>
    simp only [evR]
    generalize opd s x = X at *
    cases X <;> try rfl
    case bp i off => simp only [h i rfl]
    case ep i ch r c => simp only [look_at (h i rfl)]
  case fa off x =>
    simp only [evR]
    generalize opd s x = X at *
    cases X <;> try rfl
    case bp i q => simp only [h i rfl]
    case ep i ch r c => simp only [look_at (h i rfl)]
  case ia n x i =>
    simp only [evR]
    have h1 := h.1
    generalize opd s x = X at *
    generalize opd s i = I at *
    cases X <;> cases I <;> try rfl
    case ro.sc n1 rows v => cases v <;> rfl
    case rf.sc j ch lo k v =>
      cases v <;> try rfl
      simp only [look_at (h1 j rfl)]
  case «by» x =>
    simp only [evR]
    generalize opd s x = X at *
    cases X <;> try rfl
    case rf j ch lo k => rw [snap0_off h]
  case ln b x =>
    cases b
    · simp only [evR]
      generalize opd s x = X at *
      cases X <;> try rfl
      case rf j ch lo k => simp only [look_at (h j rfl)]
    · rfl
  case sl n x lo hi =>
    simp only [evR, sliceV]
    have h1 := h.1
    generalize opd s x = X at *
    cases X <;> try rfl
    case sc v => cases v <;> rfl
    case rf j ch lo k => simp only [look_at (h1 j rfl)]
  case ca f xs => cases hca
def noOwnV : LV → Bool
  | .cl _ (_ :: _) => false
  | v => !ownB v
theorem evR_no {call : CallF} {d : Nat} {s : Nat → LV} {f : Opd} {xs : List Opd} (h : ∀ x ∈ opdsI (.ca f xs), noOwnV (opd s x) = true) : evR call d ⟨s, m'⟩ (.ca f xs) = evR call d ⟨s, m⟩ (.ca f xs) := by
  simp only [opdsI, List.mem_cons, forall_eq_or_imp] at h
  simp only [evR]
  obtain ⟨h1, h2⟩ := h
  generalize opd s f = F at *
  cases F <;> try rfl
  case cl g caps =>
    cases caps with
    | cons _ _ => cases h1
    | nil =>
      simp only [callR, List.append_nil]
      have hw : ∀ x ∈ xs.map (opd s), snap m' x = snap m x := by
        intro x hx
        simp only [List.mem_map] at hx
        obtain ⟨y, hy, rfl⟩ := hx
        have := h2 y hy
        generalize opd s y = Y at *
        unfold noOwnV at this
        split at this
        · cases this
        · exact snap_no (by simpa using this)
      rw [mapM_local hw]

/-- what a store does to memory -/
def appC (m : Mem) : Option (Id × Thing) → Mem
  | some (i, t) => updM m i (some t) | none => m
def isSt (x : OpI) : Option Nat :=
  match x.w, x.op with
  | true, .so _ (.t a) v => if konst v = true ∧ x.d = 0 then some a else none
  | _, _ => none

theorem so_form {call : CallF} {x : OpI} {p : Nat} (hx : isSt x = some p) {s : Nat → LV} {s1 : St} (h : evO call x ⟨s, m⟩ = some s1) :
    ∃ ch : Option (Id × Thing), s1 = ⟨s, appC m ch⟩ ∧ (∀ i t, ch = some (i, t) → idOf (s p) = some i ∧ m i ≠ none) ∧
      ∀ (s' : Nat → LV) (m' : Mem), (∀ t ∈ looks x, s' t = s t) → (∀ i t, ch = some (i, t) → m' i = m i) → evO call x ⟨s', m'⟩ = some ⟨s', appC m' ch⟩ := by
  obtain ⟨d, op, g, w⟩ := x
  unfold isSt at hx
  split at hx
  case h_2 => cases hx
  rename_i n a v hw hop
  split at hx
  case isFalse => cases hx
  rename_i hk
  obtain ⟨hk, hd0⟩ := hk
  cases hx
  simp only at hw hop hd0
  subst hw hop hd0
  -- the store itself
  have core : ∀ {s1 : St}, evD call ⟨0, .so n (.t p) v, g, true⟩ ⟨s, m⟩ = some s1 → ∃ i t, s1 = ⟨s, updM m i (some t)⟩ ∧ idOf (s p) = some i ∧ m i ≠ none ∧
      ∀ (s' : Nat → LV) (m' : Mem), s' p = s p → opd s' v = opd s v → m' i = m i → evD call ⟨0, .so n (.t p) v, g, true⟩ ⟨s', m'⟩ = some ⟨s', updM m' i (some t)⟩ := by
    intro s1 h
    have h : (match evW 0 ⟨s, m⟩ (.so n (.t p) v) with | some (_, m') => some (⟨s, m'⟩ : St) | none => none) = some s1 := by
      simp only [evD] at h
      cases hq : evW 0 ⟨s, m⟩ (.so n (.t p) v) with
      | none => rw [hq] at h; cases h
      | some q => rw [hq] at h; exact h
    simp only [evW] at h
    cases hu : unpack (opd s v) with
    | none => rw [hu] at h; cases h
    | some vs =>
      rw [hu] at h
      simp only [] at h
      by_cases hc : vs.length = n ∧ vs.all plainB = true
      · rw [if_pos hc] at h
        simp only [opd] at h
        cases hp : s p <;> rw [hp] at h <;> try (cases h; done)
        case bp i off =>
          simp only [] at h
          cases hm : m i with
          | none => rw [hm] at h; cases h
          | some th =>
            rw [hm] at h
            cases th <;> try (cases h; done)
            case box cells =>
              simp only [] at h
              cases hq : putL cells off vs with
              | none => rw [hq] at h; cases h
              | some c =>
                rw [hq] at h
                cases h
                refine ⟨i, .box c, rfl, rfl, by simp [hm], fun s' m' e1 e2 e3 => ?_⟩
                simp only [evD, evW, e2, hu]
                rw [if_pos hc]
                simp only [opd, e1, hp, e3, hm, hq]
        case ep i ch r c =>
          cases ch with
          | some _ => cases h
          | none =>
            simp only [] at h
            cases hm : m i with
            | none => rw [hm] at h; cases h
            | some th =>
              cases hv : vs.mapM toCell with
              | none => rw [hm, hv] at h; cases th <;> cases h
              | some xs =>
                rw [hm, hv] at h
                cases th <;> try (cases h; done)
                case arr e n0 rows =>
                  simp only [] at h
                  cases hr : rows[r]? with
                  | none => rw [hr] at h; cases h
                  | some row =>
                    rw [hr] at h
                    simp only [] at h
                    by_cases hb : c + n ≤ row.length
                    · rw [if_pos hb] at h
                      cases h
                      refine ⟨i, _, rfl, rfl, by simp [hm], fun s' m' e1 e2 e3 => ?_⟩
                      simp only [evD, evW, e2, hu]
                      rw [if_pos hc]
                      simp only [opd, e1, hp, e3, hm, hv, hr]
                      rw [if_pos hb]
                    · rw [if_neg hb] at h; cases h
      · rw [if_neg hc] at h; cases h
  have lv : ∀ {s' : Nat → LV}, (∀ t ∈ looks ⟨0, .so n (.t p) v, g, true⟩, s' t = s t) → s' p = s p ∧ opd s' v = opd s v := by
    intro s' hs
    refine ⟨hs p (by simp [looks, opdsI]), ?_⟩
    cases v with
    | k _ => rfl
    | t q => exact hs q (by simp [looks, opdsI])
  cases g with
  | none =>
    simp only [evO] at h
    obtain ⟨i, t, k1, k2, k3, k4⟩ := core h
    refine ⟨some (i, t), k1, fun i' t' e => by cases e; exact ⟨k2, k3⟩, fun s' m' hs hm => ?_⟩
    simp only [evO]
    exact k4 s' m' (lv hs).1 (lv hs).2 (hm i t rfl)
  | some q =>
    obtain ⟨gs, want⟩ := q
    simp only [evO] at h
    have hg : ∀ {s' : Nat → LV}, (∀ t ∈ looks ⟨0, .so n (.t p) v, some (gs, want), true⟩, s' t = s t) → s' gs = s gs := fun hs => hs gs (by simp [looks])
    cases hq : s gs <;> rw [hq] at h <;> try (cases h; done)
    case sc u =>
      cases u <;> try (cases h; done)
      case bool b =>
        simp only [] at h
        by_cases hb : b = want
        · rw [if_pos hb] at h
          obtain ⟨i, t, k1, k2, k3, k4⟩ := core h
          refine ⟨some (i, t), k1, fun i' t' e => by cases e; exact ⟨k2, k3⟩, fun s' m' hs hm => ?_⟩
          simp only [evO, hg hs, hq]
          rw [if_pos hb]
          exact k4 s' m' (lv hs).1 (lv hs).2 (hm i t rfl)
        · rw [if_neg hb] at h
          cases h
          refine ⟨none, rfl, fun i' t' e => (by cases e), fun s' m' hs hm => ?_⟩
          simp only [evO, hg hs, hq]
          rw [if_neg hb]; rfl
    case tu vs =>
      cases vs with
      | cons _ _ => cases h
      | nil =>
        cases h
        refine ⟨none, rfl, fun i' t' e => (by cases e), fun s' m' hs hm => ?_⟩
        simp only [evO, hg hs, hq]; rfl

theorem adds_front {k : Id} {t : Thing} : ∀ {l : List (Id × Thing)} {m m2 : Mem}, m k ≠ none → adds (updM m k (some t)) l = some m2 → ∃ m2', adds m l = some m2' ∧ m2 = updM m2' k (some t) ∧ m2' k = m k := by
  intro l
  induction l with
  | nil => intro m m2 _ h; cases h; exact ⟨m, rfl, rfl, rfl⟩
  | cons p l ih =>
    intro m m2 hk h
    obtain ⟨j, x⟩ := p
    simp only [adds] at h ⊢
    have hne : j ≠ k := fun e => by subst e; rw [updM_eq] at h; cases h
    rw [updM_ne hne] at h
    cases hj : m j with
    | some _ => rw [hj] at h; cases h
    | none =>
      rw [hj] at h
      simp only [] at h ⊢
      have hc : updM (updM m k (some t)) j (some x) = updM (updM m j (some x)) k (some t) := by
        funext i
        simp only [updM]
        by_cases h1 : i = j
        · subst h1; simp [hne]
        · simp [h1]
      rw [hc] at h
      obtain ⟨m2', q1, q2, q3⟩ := ih (m := updM m j (some x)) (by rw [updM_ne (Ne.symm hne)]; exact hk) h
      exact ⟨m2', q1, q2, by rw [q3, updM_ne (Ne.symm hne)]⟩
theorem adds_back {k : Id} {t : Thing} : ∀ {l : List (Id × Thing)} {m m1 : Mem}, m k ≠ none → adds m l = some m1 → adds (updM m k (some t)) l = some (updM m1 k (some t)) := by
  intro l
  induction l with
  | nil => intro m m1 _ h; cases h; rfl
  | cons p l ih =>
    intro m m1 hk h
    obtain ⟨j, x⟩ := p
    simp only [adds] at h ⊢
    cases hj : m j with
    | some _ => rw [hj] at h; cases h
    | none =>
      rw [hj] at h
      simp only [] at h
      have hne : j ≠ k := fun e => by subst e; exact hk hj
      rw [updM_ne hne, hj]
      simp only []
      have hc : updM (updM m k (some t)) j (some x) = updM (updM m j (some x)) k (some t) := by
        funext i
        simp only [updM]
        by_cases h1 : i = j
        · subst h1; simp [hne]
        · simp [h1]
      rw [hc]
      exact ih (by rw [updM_ne (Ne.symm hne)]; exact hk) h

/-- does a reading operation look away from what a pointer leads to? -/
def offB (s : Nat → LV) (p : Nat) (y : OpI) : Prop :=
  if isCa y.op = true then ∀ x ∈ opdsI y.op, noOwnV (opd s x) = true else ∀ x ∈ opdsI y.op, ∀ i, idOf (s p) = some i → idOf (opd s x) ≠ some i
theorem off_evR {call : CallF} {s : Nat → LV} {p : Nat} {y : OpI} {i : Id} (h : offB s p y) (hp : idOf (s p) = some i) (hm : ∀ j, j ≠ i → m' j = m j) : evR call y.d ⟨s, m'⟩ y.op = evR call y.d ⟨s, m⟩ y.op := by
  unfold offB at h
  by_cases hc : isCa y.op = true
  · rw [if_pos hc] at h
    cases hop : y.op with
    | ca f xs => rw [hop] at h; exact evR_no h
    | _ => rw [hop] at hc; cases hc
  · rw [if_neg hc] at h
    refine evR_off (by simpa using hc) fun x hx j hj => hm j fun e => ?_
    subst e
    exact h x hx j hp hj
end

section
variable {P : Program} {S N : Nat → Prop} {G : Gh} {a : Act} {w : World} {st : St} {call : CallF}
theorem rd_of {y : OpI} (oy : rdOk y = true) : ∀ z ∈ opdsI y.op, konst z = true := by
  simp only [rdOk, Bool.and_eq_true, List.all_eq_true] at oy; exact oy.2
/-- the store first, then the other; or the other first -/
theorem swap_sr (h : SR S N G st a w) {x y : OpI} {p : Nat} (hx : isSt x = some p) (oy : rdOk y = true) (hd : y.d ∉ looks x) (hoff : offB st.s p y) {s1 s2 : St} (h1 : evO call x st = some s1) (h2 : evO call y s1 = some s2) :
    ∃ s1', evO call y st = some s1' ∧ evO call x s1' = some s2 := by
  obtain ⟨s, m⟩ := st
  obtain ⟨ch, rfl, c1, c2⟩ := so_form hx h1
  rw [evO_out oy] at h2
  have same : outR call y ⟨s, appC m ch⟩ = outR call y ⟨s, m⟩ := by
    refine outR_same (fun _ _ => rfl) (fun _ _ => rfl) ?_
    cases ch with
    | none => rfl
    | some q =>
      obtain ⟨i, t⟩ := q
      exact off_evR hoff (c1 i t rfl).1 fun j hj => updM_ne hj
  rw [same] at h2
  cases hy : outR call y ⟨s, m⟩ with
  | none => rw [hy] at h2; cases h2
  | some q =>
    obtain ⟨u, ly⟩ := q
    rw [hy] at h2
    simp only [] at h2
    cases hb : adds (appC m ch) ly with
    | none => rw [hb] at h2; cases h2
    | some m2 =>
      rw [hb] at h2
      cases h2
      have key : ∃ m2', adds m ly = some m2' ∧ m2 = appC m2' ch ∧ ∀ i t, ch = some (i, t) → m2' i = m i := by
        cases ch with
        | none => exact ⟨m2, hb, rfl, fun i t e => by cases e⟩
        | some q =>
          obtain ⟨i, t⟩ := q
          obtain ⟨m2', q1, q2, q3⟩ := adds_front (c1 i t rfl).2 hb
          exact ⟨m2', q1, q2, fun i' t' e => by cases e; exact q3⟩
      obtain ⟨m2', q1, rfl, q3⟩ := key
      refine ⟨⟨updS s y.d u, m2'⟩, ?_, ?_⟩
      · rw [evO_out oy, hy]; simp only [q1]
      · exact c2 _ _ (fun t ht => by
          have : t ≠ y.d := fun e => by subst e; exact hd ht
          simp [updS, this]) q3
theorem swap_rs (h : SR S N G st a w) {x y : OpI} {p : Nat} (hy : isSt y = some p) (ox : rdOk x = true) (hd : x.d ∉ looks y) (hoff : offB st.s p x) {s1 s2 : St} (h1 : evO call x st = some s1) (h2 : evO call y s1 = some s2) :
    ∃ s1', evO call y st = some s1' ∧ evO call x s1' = some s2 := by
  obtain ⟨s, m⟩ := st
  rw [evO_out ox] at h1
  cases hx : outR call x ⟨s, m⟩ with
  | none => rw [hx] at h1; cases h1
  | some q =>
    obtain ⟨v, lx⟩ := q
    rw [hx] at h1
    simp only [] at h1
    cases ha : adds m lx with
    | none => rw [ha] at h1; cases h1
    | some m1 =>
      rw [ha] at h1
      cases h1
      obtain ⟨am1, _, _⟩ := adds_keep ha
      obtain ⟨ch, rfl, c1, c2⟩ := so_form hy h2
      have hp : p ∈ looks y := by
        unfold isSt at hy
        split at hy
        case h_2 => cases hy
        rename_i n b v' hw hop
        split at hy
        case isFalse => cases hy
        cases hy
        simp [looks, hop, opdsI]
      have hpd : p ≠ x.d := fun e => by subst e; exact hd hp
      have sp : (updS s x.d v) p = s p := by simp [updS, hpd]
      have mi : ∀ i t, ch = some (i, t) → m1 i = m i ∧ m i ≠ none ∧ idOf (s p) = some i := by
        intro i t e
        obtain ⟨k1, k2⟩ := c1 i t e
        rw [sp] at k1
        have hw := (h.opdw (x := .t p) rfl).1
        simp only [Ev.opd] at hw
        have : m i ≠ none := by
          cases hs : s p <;> rw [hs] at k1 hw <;> first | (cases k1; exact hw) | cases k1
        exact ⟨am1 i this, this, k1⟩
      have ey := c2 s m (fun t ht => by
          have : t ≠ x.d := fun e => by subst e; exact hd ht
          simp [updS, this]) (fun i t e => (mi i t e).1.symm)
      refine ⟨_, ey, ?_⟩
      have same : outR call x ⟨s, appC m ch⟩ = outR call x ⟨s, m⟩ := by
        refine outR_same (fun _ _ => rfl) (fun _ _ => rfl) ?_
        cases ch with
        | none => rfl
        | some q =>
          obtain ⟨i, t⟩ := q
          exact off_evR hoff (mi i t rfl).2.2 fun j hj => updM_ne hj
      rw [evO_out ox, same, hx]
      have : adds (appC m ch) lx = some (appC m1 ch) := by
        cases ch with
        | none => exact ha
        | some q =>
          obtain ⟨i, t⟩ := q
          exact adds_back (mi i t rfl).2.1 ha
      simp only [this]
end

/-! ### what is looked at when a region is through -/
inductive Ck where
  | ne (p b : Nat) | no (b : Nat)
  deriving DecidableEq
def ckB (s : Nat → LV) : Ck → Bool
  | .ne p b => decide (idOf (s p) ≠ idOf (s b)) || (idOf (s b)).isNone
  | .no b => noOwnV (s b)
def cks (p : Nat) (y : OpI) : List Ck :=
  (opdsI y.op).filterMap fun | .t b => some (if isCa y.op = true then .no b else .ne p b) | .k _ => none
def ckS : Ck → List Nat
  | .ne p b => [p, b] | .no b => [b]
theorem konst_k {v : LV} (h : konst (.k v) = true) : idOf v = none ∧ noOwnV v = true := by
  cases v with
  | sc _ => exact ⟨rfl, rfl⟩
  | nl => exact ⟨rfl, rfl⟩
  | cl f caps =>
    cases caps with
    | nil => exact ⟨rfl, rfl⟩
    | cons _ _ => cases h
  | _ => cases h
theorem off_of {s : Nat → LV} {p : Nat} {y : OpI} (hk : ∀ z ∈ opdsI y.op, konst z = true) (h : ∀ c ∈ cks p y, ckB s c = true) : offB s p y := by
  unfold offB
  split
  · rename_i hc
    intro x hx
    cases x with
    | t b =>
      have := h (.no b) (List.mem_filterMap.2 ⟨.t b, hx, by simp [hc]⟩)
      exact this
    | k v =>
      exact (konst_k (hk _ hx)).2
  · rename_i hc
    intro x hx i hi
    cases x with
    | t b =>
      have := h (.ne p b) (List.mem_filterMap.2 ⟨.t b, hx, by simp [hc]⟩)
      simp only [ckB, Bool.or_eq_true, decide_eq_true_eq] at this
      simp only [Ev.opd]
      rcases this with h1 | h1
      · exact fun e => h1 (hi.trans e.symm)
      · intro e; rw [e] at h1; cases h1
    | k v =>
      simp only [Ev.opd, (konst_k (hk _ hx)).1]
      intro e; cases e
theorem evL_slot {call : CallF} {b : Nat} : ∀ {l : List OpI} {st st' : St}, evL call l st = some st' → (∀ z ∈ l, z.w = true → z.d = 0) → (∀ z ∈ l, z.w = true ∨ z.d ≠ b) → st'.s b = st.s b := by
  intro l
  induction l with
  | nil => intro st st' h _ _; cases h; rfl
  | cons x l ih =>
    intro st st' h h0 hz
    simp only [evL] at h
    split at h
    case h_2 => cases h
    rename_i s1 h1
    rw [ih h (fun z hm => h0 z (by simp [hm])) fun z hm => hz z (by simp [hm])]
    have hx := hz x (by simp)
    have hD : ∀ {s1 : St}, evD call x st = some s1 → s1.s b = st.s b := by
      intro s1 h1
      unfold evD at h1
      cases hw : x.w with
      | true =>
        rw [hw] at h1
        have hd0 := h0 x (by simp) hw
        simp only [hd0] at h1
        split at h1
        · cases h1; rfl
        · cases h1
      | false =>
        rw [hw] at h1 hx
        have hne : x.d ≠ b := by rcases hx with h2 | h2; cases h2; exact h2
        simp only [] at h1
        split at h1
        · split at h1
          case h_2 => cases h1
          cases h1
          simp [updS, Ne.symm hne]
        · split at h1
          case h_2 => cases h1
          split at h1
          case h_2 => cases h1
          cases h1
          simp [updS, Ne.symm hne]
    have hS : (evSkip x st).s b = st.s b := by
      unfold evSkip
      cases hw : x.w with
      | true => rfl
      | false =>
        rw [hw] at hx
        have hne : x.d ≠ b := by rcases hx with h2 | h2; cases h2; exact h2
        simp [updS, Ne.symm hne]
    unfold evO at h1
    split at h1
    · exact hD h1
    · split at h1
      · split at h1
        · exact hD h1
        · cases h1; exact hS
      · cases h1; exact hS
      · cases h1
end Go.Proofs.Ytjdcohcdgdjobaa.Ev
