/- A store stands on either side of an operation that reads, if what it writes is read by no operand of the other. -/
import Derived.Test.YthnkioafikmmaaaDoorEvV
namespace Go.Proofs.YthnkioafikmmaaaDoor.Ev
open Go
set_option linter.unusedVariables false
set_option linter.unusedSimpArgs false

def idOf : LV → Option Id
  | .rf i _ _ _ | .bp i _ | .ep i _ _ _ => some i
  | _ => none
def isCa : IOp → Bool
  | .ca .. => true | _ => false

section
variable {m m' : Mem}
theorem look_at {i : Id} {ch : Option (Nat × Nat)} (h : m' i = m i) : look m' i ch = look m i ch := by
  unfold look; rw [h]
theorem loadAt_off {n : Nat} {g : Bool} {v : LV} (h : ∀ j, idOf v = some j → m' j = m j) : loadAt m' n g v = loadAt m n g v := by
  cases v <;> try rfl
  case bp i off => simp only [loadAt, h i rfl]
  case ep i ch r c => simp only [loadAt, look_at (h i rfl)]
theorem snap0_off {v : LV} (h : ∀ j, idOf v = some j → m' j = m j) : snap0 m' v = snap0 m v := by
  cases v <;> try rfl
  case rf i ch lo n => simp only [snap0, look_at (h i rfl)]
theorem snap0_no {v : LV} (h : ownB0 v = false) : snap0 m' v = snap0 m v := by
  cases v <;> first | rfl | cases h
theorem snap1_no {v : LV} (h : ownB0 v = false) : snap1 m' v = snap1 m v := by
  cases v <;> first | rfl | cases h
theorem snap_no {v : LV} (h : ownB v = false) : snap m' v = snap m v := by
  cases v
  case ag vs =>
    simp only [ownB, List.any_eq_false] at h
    simp only [snap]; rw [mapM_local fun x hx => snap0_no (by simpa using h x hx)]
  case cl f vs =>
    simp only [ownB, List.any_eq_false] at h
    simp only [snap]; rw [mapM_local fun x hx => snap1_no (by simpa using h x hx)]
  case tu vs => rfl
  all_goals (simp only [ownB] at h; exact snap1_no (m := m) (m' := m') h)

theorem evR_off {call : CallF} {d : Nat} {s : Nat → LV} {io : IOp} (hca : isCa io = false) (h : ∀ x ∈ opdsI io, ∀ j, idOf (opd s x) = some j → m' j = m j) : evR call d ⟨s, m'⟩ io = evR call d ⟨s, m⟩ io := by
  cases io <;> simp only [opdsI, List.mem_cons, List.not_mem_nil, or_false, forall_eq_or_imp, forall_eq] at h <;> try rfl
  case ld n g x => simp only [evR]; rw [loadAt_off h]
  case nc x =>
    simp only [evR]
    generalize opd s x = X at *
    cases X <;> try rfl
    case bp i off => simp only [h i rfl]
    case ep i ch r c => simp only [look_at (h i rfl)]
  case fa off x =>
    simp only [evR]
    generalize opd s x = X at *
    cases X <;> try rfl
    case bp i q => simp only [h i rfl]
    case ep i ch r c => simp only [look_at (h i rfl)]
  case ia n x i =>
    simp only [evR]
    have h1 := h.1
    generalize opd s x = X at *
    generalize opd s i = I at *
    cases X <;> cases I <;> try rfl
    case ro.sc n1 rows v => cases v <;> rfl
    case rf.sc j ch lo k v =>
      cases v <;> try rfl
      simp only [look_at (h1 j rfl)]
  case «by» x =>
    simp only [evR]
    generalize opd s x = X at *
    cases X <;> try rfl
    case rf j ch lo k => rw [snap0_off h]
  case ln b x =>
    cases b
    · simp only [evR]
      generalize opd s x = X at *
      cases X <;> try rfl
      case rf j ch lo k => simp only [look_at (h j rfl)]
    · rfl
  case sl n x lo hi =>
    simp only [evR, sliceV]
    have h1 := h.1
    generalize opd s x = X at *
    cases X <;> try rfl
    case sc v => cases v <;> rfl
    case rf j ch lo k => simp only [look_at (h1 j rfl)]
  case isn neg x =>
    simp only [evR, isnV]
    generalize opd s x = X at *
    have e : nilV m' X = nilV m X := by
      cases X <;> try rfl
      case rf j ch lo k => simp only [nilV, look_at (h j rfl)]
    rw [e]
  case s3 x lo hi mx =>
    simp only [evR, s3V]
    have h1 := h.1
    generalize opd s x = X at *
    have e : lenV m' X = lenV m X := by
      cases X <;> try rfl
      case rf j ch lo k => simp only [lenV, look_at (h1 j rfl)]
    rw [e]
  case ca f xs => cases hca
def noOwnV : LV → Bool
  | .cl _ (_ :: _) => false
  | v => !ownB v
theorem evR_no {call : CallF} {d : Nat} {s : Nat → LV} {f : Opd} {xs : List Opd} (h : ∀ x ∈ opdsI (.ca f xs), noOwnV (opd s x) = true) : evR call d ⟨s, m'⟩ (.ca f xs) = evR call d ⟨s, m⟩ (.ca f xs) := by
  simp only [opdsI, List.mem_cons, forall_eq_or_imp] at h
  simp only [evR]
  obtain ⟨h1, h2⟩ := h
  generalize opd s f = F at *
  cases F <;> try rfl
  case cl g caps =>
    cases caps with
    | cons _ _ => cases h1
    | nil =>
      simp only [callR, List.append_nil]
      have hw : ∀ x ∈ xs.map (opd s), snap m' x = snap m x := by
        intro x hx
        simp only [List.mem_map] at hx
        obtain ⟨y, hy, rfl⟩ := hx
        have := h2 y hy
        generalize opd s y = Y at *
        unfold noOwnV at this
        split at this
        · cases this
        · exact snap_no (by simpa using this)
      rw [mapM_local hw]

/-- what a store does to memory -/
def appC (m : Mem) : Option (Id × Thing) → Mem
  | some (i, t) => updM m i (some t) | none => m
def isSt (x : OpI) : Option Nat :=
  match x.w, x.op with
  | true, .so _ (.t a) v => if konst v = true ∧ x.d = 0 then some a else none
  | _, _ => none

theorem so_form {call : CallF} {x : OpI} {p : Nat} (hx : isSt x = some p) {s : Nat → LV} {s1 : St} (h : evO call x ⟨s, m⟩ = some s1) :
    ∃ ch : Option (Id × Thing), s1 = ⟨s, appC m ch⟩ ∧ (∀ i t, ch = some (i, t) → idOf (s p) = some i ∧ m i ≠ none) ∧
      ∀ (s' : Nat → LV) (m' : Mem), (∀ t ∈ looks x, s' t = s t) → (∀ i t, ch = some (i, t) → m' i = m i) → evO call x ⟨s', m'⟩ = some ⟨s', appC m' ch⟩ := by
  obtain ⟨d, op, g, w⟩ := x
  unfold isSt at hx
  split at hx
  case h_2 => cases hx
  rename_i n a v hw hop
  split at hx
  case isFalse => cases hx
  rename_i hk
  obtain ⟨hk, hd0⟩ := hk
  cases hx
  simp only at hw hop hd0
  subst hw hop hd0
  -- the store itself
  have core : ∀ {s1 : St}, evD call ⟨0, .so n (.t p) v, g, true⟩ ⟨s, m⟩ = some s1 → ∃ i t, s1 = ⟨s, updM m i (some t)⟩ ∧ idOf (s p) = some i ∧ m i ≠ none ∧
      ∀ (s' : Nat → LV) (m' : Mem), s' p = s p → opd s' v = opd s v → m' i = m i → evD call ⟨0, .so n (.t p) v, g, true⟩ ⟨s', m'⟩ = some ⟨s', updM m' i (some t)⟩ := by
    intro s1 h
    have h : (match evW 0 ⟨s, m⟩ (.so n (.t p) v) with | some (_, m') => some (⟨s, m'⟩ : St) | none => none) = some s1 := by
      simp only [evD] at h
      cases hq : evW 0 ⟨s, m⟩ (.so n (.t p) v) with
      | none => rw [hq] at h; cases h
      | some q => rw [hq] at h; exact h
    simp only [evW] at h
    cases hu : unpack (opd s v) with
    | none => rw [hu] at h; cases h
    | some vs =>
      rw [hu] at h
      simp only [] at h
      by_cases hc : vs.length = n ∧ vs.all plainB = true
      · rw [if_pos hc] at h
        simp only [opd] at h
        cases hp : s p <;> rw [hp] at h <;> try (cases h; done)
        case bp i off =>
          simp only [] at h
          cases hm : m i with
          | none => rw [hm] at h; cases h
          | some th =>
            rw [hm] at h
            cases th <;> try (cases h; done)
            case box cells =>
              simp only [] at h
              cases hq : putL cells off vs with
              | none => rw [hq] at h; cases h
              | some c =>
                rw [hq] at h
                cases h
                refine ⟨i, .box c, rfl, rfl, by simp [hm], fun s' m' e1 e2 e3 => ?_⟩
                simp only [evD, evW, e2, hu]
                rw [if_pos hc]
                simp only [opd, e1, hp, e3, hm, hq]
        case ep i ch r c =>
          cases ch with
          | some _ => cases h
          | none =>
            simp only [] at h
            cases hm : m i with
            | none => rw [hm] at h; cases h
            | some th =>
              cases hv : vs.mapM toCell with
              | none => rw [hm, hv] at h; cases th <;> cases h
              | some xs =>
                rw [hm, hv] at h
                cases th <;> try (cases h; done)
                case arr e n0 rows =>
                  simp only [] at h
                  cases hr : rows[r]? with
                  | none => rw [hr] at h; cases h
                  | some row =>
                    rw [hr] at h
                    simp only [] at h
                    by_cases hb : c + n ≤ row.length
                    · rw [if_pos hb] at h
                      cases h
                      refine ⟨i, _, rfl, rfl, by simp [hm], fun s' m' e1 e2 e3 => ?_⟩
                      simp only [evD, evW, e2, hu]
                      rw [if_pos hc]
                      simp only [opd, e1, hp, e3, hm, hv, hr]
                      rw [if_pos hb]
                    · rw [if_neg hb] at h; cases h
      · rw [if_neg hc] at h; cases h
  have lv : ∀ {s' : Nat → LV}, (∀ t ∈ looks ⟨0, .so n (.t p) v, g, true⟩, s' t = s t) → s' p = s p ∧ opd s' v = opd s v := by
    intro s' hs
    refine ⟨hs p (by simp [looks, opdsI]), ?_⟩
    cases v with
    | k _ => rfl
    | t q => exact hs q (by simp [looks, opdsI])
  cases g with
  | none =>
    simp only [evO] at h
    obtain ⟨i, t, k1, k2, k3, k4⟩ := core h
    refine ⟨some (i, t), k1, fun i' t' e => by cases e; exact ⟨k2, k3⟩, fun s' m' hs hm => ?_⟩
    simp only [evO]
    exact k4 s' m' (lv hs).1 (lv hs).2 (hm i t rfl)
  | some q =>
    obtain ⟨gs, want⟩ := q
    simp only [evO] at h
    have hg : ∀ {s' : Nat → LV}, (∀ t ∈ looks ⟨0, .so n (.t p) v, some (gs, want), true⟩, s' t = s t) → s' gs = s gs := fun hs => hs gs (by simp [looks])
    cases hq : s gs <;> rw [hq] at h <;> try (cases h; done)
    case sc u =>
      cases u <;> try (cases h; done)
      case bool b =>
        simp only [] at h
        by_cases hb : b = want
        · rw [if_pos hb] at h
          obtain ⟨i, t, k1, k2, k3, k4⟩ := core h
          refine ⟨some (i, t), k1, fun i' t' e => by cases e; exact ⟨k2, k3⟩, fun s' m' hs hm => ?_⟩
          simp only [evO, hg hs, hq]
          rw [if_pos hb]
          exact k4 s' m' (lv hs).1 (lv hs).2 (hm i t rfl)
        · rw [if_neg hb] at h
          cases h
          refine ⟨none, rfl, fun i' t' e => (by cases e), fun s' m' hs hm => ?_⟩
          simp only [evO, hg hs, hq]
          rw [if_neg hb]; rfl
    case tu vs =>
      cases vs with
      | cons _ _ => cases h
      | nil =>
        cases h
        refine ⟨none, rfl, fun i' t' e => (by cases e), fun s' m' hs hm => ?_⟩
        simp only [evO, hg hs, hq]; rfl

theorem adds_front {k : Id} {t : Thing} : ∀ {l : List (Id × Thing)} {m m2 : Mem}, m k ≠ none → adds (updM m k (some t)) l = some m2 → ∃ m2', adds m l = some m2' ∧ m2 = updM m2' k (some t) ∧ m2' k = m k := by
  intro l
  induction l with
  | nil => intro m m2 _ h; cases h; exact ⟨m, rfl, rfl, rfl⟩
  | cons p l ih =>
    intro m m2 hk h
    obtain ⟨j, x⟩ := p
    simp only [adds] at h ⊢
    have hne : j ≠ k := fun e => by subst e; rw [updM_eq] at h; cases h
    rw [updM_ne hne] at h
    cases hj : m j with
    | some _ => rw [hj] at h; cases h
    | none =>
      rw [hj] at h
      simp only [] at h ⊢
      have hc : updM (updM m k (some t)) j (some x) = updM (updM m j (some x)) k (some t) := by
        funext i
        simp only [updM]
        by_cases h1 : i = j
        · subst h1; simp [hne]
        · simp [h1]
      rw [hc] at h
      obtain ⟨m2', q1, q2, q3⟩ := ih (m := updM m j (some x)) (by rw [updM_ne (Ne.symm hne)]; exact hk) h
      exact ⟨m2', q1, q2, by rw [q3, updM_ne (Ne.symm hne)]⟩
theorem adds_back {k : Id} {t : Thing} : ∀ {l : List (Id × Thing)} {m m1 : Mem}, m k ≠ none → adds m l = some m1 → adds (updM m k (some t)) l = some (updM m1 k (some t)) := by
  intro l
  induction l with
  | nil => intro m m1 _ h; cases h; rfl
  | cons p l ih =>
    intro m m1 hk h
    obtain ⟨j, x⟩ := p
    simp only [adds] at h ⊢
    cases hj : m j with
    | some _ => rw [hj] at h; cases h
    | none =>
      rw [hj] at h
      simp only [] at h
      have hne : j ≠ k := fun e => by subst e; exact hk hj
      rw [updM_ne hne, hj]
      simp only []
      have hc : updM (updM m k (some t)) j (some x) = updM (updM m j (some x)) k (some t) := by
        funext i
        simp only [updM]
        by_cases h1 : i = j
        · subst h1; simp [hne]
        · simp [h1]
      rw [hc]
      exact ih (by rw [updM_ne (Ne.symm hne)]; exact hk) h

/-- operations that look at no memory -/
def noLook : IOp → Bool
  | .mv _ | .pk .. | .bd .. | .fd .. | .ar .. | .eq .. | .ng _ | .nt _ | .cv .. | .xt .. | .mx .. | .mn .. | .mf .. | .bx _ | .al _ | .bs .. | .ms .. | .mz .. => true
  | _ => false
theorem noLook_evR {call : CallF} {d : Nat} {s : Nat → LV} {m m' : Mem} {io : IOp} (h : noLook io = true) : evR call d ⟨s, m'⟩ io = evR call d ⟨s, m⟩ io := by
  cases io <;> first | rfl | cases h
/-- does a reading operation look away from what a pointer leads to? -/
def offB (s : Nat → LV) (p : Nat) (y : OpI) : Prop :=
  if noLook y.op = true then True else if isCa y.op = true then ∀ x ∈ opdsI y.op, noOwnV (opd s x) = true else ∀ x ∈ opdsI y.op, ∀ i, idOf (s p) = some i → idOf (opd s x) ≠ some i
theorem off_evR {call : CallF} {s : Nat → LV} {p : Nat} {y : OpI} {i : Id} (h : offB s p y) (hp : idOf (s p) = some i) (hm : ∀ j, j ≠ i → m' j = m j) : evR call y.d ⟨s, m'⟩ y.op = evR call y.d ⟨s, m⟩ y.op := by
  unfold offB at h
  by_cases hl : noLook y.op = true
  · exact noLook_evR hl
  rw [if_neg hl] at h
  by_cases hc : isCa y.op = true
  · rw [if_pos hc] at h
    cases hop : y.op with
    | ca f xs => rw [hop] at h; exact evR_no h
    | _ => rw [hop] at hc; cases hc
  · rw [if_neg hc] at h
    refine evR_off (by simpa using hc) fun x hx j hj => hm j fun e => ?_
    subst e
    exact h x hx j hp hj
end

section
variable {P : Program} {ov : Ov} {S N : Nat → Prop} {G : Gh} {a : Act} {w : World} {st : St} {call : CallF}
theorem rd_of {y : OpI} (oy : rdOk y = true) : ∀ z ∈ opdsI y.op, konst z = true := by
  simp only [rdOk, Bool.and_eq_true, List.all_eq_true] at oy; exact oy.2
/-- the store first, then the other; or the other first -/
theorem swap_sr (h : SR ov S N G st a w) {x y : OpI} {p : Nat} (hx : isSt x = some p) (oy : rdOk y = true) (hd : y.d ∉ looks x) (hoff : offB st.s p y) {s1 s2 : St} (h1 : evO call x st = some s1) (h2 : evO call y s1 = some s2) :
    ∃ s1', evO call y st = some s1' ∧ evO call x s1' = some s2 := by
  obtain ⟨s, m⟩ := st
  obtain ⟨ch, rfl, c1, c2⟩ := so_form hx h1
  rw [evO_out oy] at h2
  have same : outR call y ⟨s, appC m ch⟩ = outR call y ⟨s, m⟩ := by
    refine outR_same (fun _ _ => rfl) (fun _ _ => rfl) ?_
    cases ch with
    | none => rfl
    | some q =>
      obtain ⟨i, t⟩ := q
      exact off_evR hoff (c1 i t rfl).1 fun j hj => updM_ne hj
  rw [same] at h2
  cases hy : outR call y ⟨s, m⟩ with
  | none => rw [hy] at h2; cases h2
  | some q =>
    obtain ⟨u, ly⟩ := q
    rw [hy] at h2
    simp only [] at h2
    cases hb : adds (appC m ch) ly with
    | none => rw [hb] at h2; cases h2
    | some m2 =>
      rw [hb] at h2
      cases h2
      have key : ∃ m2', adds m ly = some m2' ∧ m2 = appC m2' ch ∧ ∀ i t, ch = some (i, t) → m2' i = m i := by
        cases ch with
        | none => exact ⟨m2, hb, rfl, fun i t e => by cases e⟩
        | some q =>
          obtain ⟨i, t⟩ := q
          obtain ⟨m2', q1, q2, q3⟩ := adds_front (c1 i t rfl).2 hb
          exact ⟨m2', q1, q2, fun i' t' e => by cases e; exact q3⟩
      obtain ⟨m2', q1, rfl, q3⟩ := key
      refine ⟨⟨updS s y.d u, m2'⟩, ?_, ?_⟩
      · rw [evO_out oy, hy]; simp only [q1]
      · exact c2 _ _ (fun t ht => by
          have : t ≠ y.d := fun e => by subst e; exact hd ht
          simp [updS, this]) q3
theorem swap_rs (h : SR ov S N G st a w) {x y : OpI} {p : Nat} (hy : isSt y = some p) (ox : rdOk x = true) (hd : x.d ∉ looks y) (hoff : offB st.s p x) {s1 s2 : St} (h1 : evO call x st = some s1) (h2 : evO call y s1 = some s2) :
    ∃ s1', evO call y st = some s1' ∧ evO call x s1' = some s2 := by
  obtain ⟨s, m⟩ := st
  rw [evO_out ox] at h1
  cases hx : outR call x ⟨s, m⟩ with
  | none => rw [hx] at h1; cases h1
  | some q =>
    obtain ⟨v, lx⟩ := q
    rw [hx] at h1
    simp only [] at h1
    cases ha : adds m lx with
    | none => rw [ha] at h1; cases h1
    | some m1 =>
      rw [ha] at h1
      cases h1
      obtain ⟨am1, _, _⟩ := adds_keep ha
      obtain ⟨ch, rfl, c1, c2⟩ := so_form hy h2
      have hp : p ∈ looks y := by
        unfold isSt at hy
        split at hy
        case h_2 => cases hy
        rename_i n b v' hw hop
        split at hy
        case isFalse => cases hy
        cases hy
        simp [looks, hop, opdsI]
      have hpd : p ≠ x.d := fun e => by subst e; exact hd hp
      have sp : (updS s x.d v) p = s p := by simp [updS, hpd]
      have mi : ∀ i t, ch = some (i, t) → m1 i = m i ∧ m i ≠ none ∧ idOf (s p) = some i := by
        intro i t e
        obtain ⟨k1, k2⟩ := c1 i t e
        rw [sp] at k1
        have hw := (h.opdw (x := .t p) rfl).1
        simp only [Ev.opd] at hw
        have : m i ≠ none := by
          cases hs : s p <;> rw [hs] at k1 hw <;> first | (cases k1; exact hw) | cases k1
        exact ⟨am1 i this, this, k1⟩
      have ey := c2 s m (fun t ht => by
          have : t ≠ x.d := fun e => by subst e; exact hd ht
          simp [updS, this]) (fun i t e => (mi i t e).1.symm)
      refine ⟨_, ey, ?_⟩
      have same : outR call x ⟨s, appC m ch⟩ = outR call x ⟨s, m⟩ := by
        refine outR_same (fun _ _ => rfl) (fun _ _ => rfl) ?_
        cases ch with
        | none => rfl
        | some q =>
          obtain ⟨i, t⟩ := q
          exact off_evR hoff (mi i t rfl).2.2 fun j hj => updM_ne hj
      rw [evO_out ox, same, hx]
      have : adds (appC m ch) lx = some (appC m1 ch) := by
        cases ch with
        | none => exact ha
        | some q =>
          obtain ⟨i, t⟩ := q
          exact adds_back (mi i t rfl).2.1 ha
      simp only [this]
end

/-! ### operations that move memory, beside those that read -/
def idsOf : LV → List Id
  | .ag vs => vs.filterMap idOf
  | v => match idOf v with | some i => [i] | none => []
def isWo (x : OpI) : Bool :=
  match x.w, x.g, x.op with
  | false, none, .ap _ _ _ a b => konst a && konst b
  | false, none, .bw _ _ _ _ ps => (ps.map (·.2)).all konst
  | _, _, _ => false
/-- the pieces that such an operation may look at -/
def AtW (s : Nat → LV) (x : OpI) (q : Id) : Prop := (∃ t ∈ looks x, q ∈ idsOf (s t)) ∨ q = .op x.d ∨ q = .ex x.d

open Classical in
noncomputable def glue (A : Id → Prop) (m1 m' : Mem) : Mem := fun q => if A q then m1 q else m' q
section
variable {A : Id → Prop} {m m' m1 m2 : Mem} {i j k : Id}
theorem glue_in (h : A i) : glue A m1 m' i = m1 i := if_pos h
theorem glue_out (h : ¬ A i) : glue A m1 m' i = m' i := if_neg h
theorem glue_upd {x : Option Thing} (h : A i) : glue A (updM m1 i x) m' = updM (glue A m1 m') i x := by
  funext q
  by_cases hq : q = i
  · subst hq; rw [glue_in h, updM_eq, updM_eq]
  · rw [updM_ne hq]
    by_cases ha : A q
    · rw [glue_in ha, glue_in ha, updM_ne hq]
    · rw [glue_out ha, glue_out ha]
theorem glue_self (h : ∀ q, A q → m' q = m q) : glue A m m' = m' := by
  funext q
  by_cases ha : A q
  · rw [glue_in ha, h q ha]
  · rw [glue_out ha]
theorem glue_glue : glue A m2 (glue A m1 m') = glue A m2 m' := by
  funext q
  by_cases ha : A q
  · rw [glue_in ha, glue_in ha]
  · rw [glue_out ha, glue_out ha, glue_out ha]

/-- what is moved: seen from a memory that agrees with the first one at A; what is there and not in B stays -/
structure Tr (A B : Id → Prop) (m : Mem) (f : Mem → Option (LV × Mem)) : Prop where
  tr : ∀ m', (∀ q, A q → m' q = m q) → f m' = (f m).map fun p => (p.1, glue A p.2 m')
  off : ∀ v m1, f m = some (v, m1) → ∀ q, (¬ A q ∨ m q ≠ none ∧ ¬ B q) → m1 q = m q
  ne : ∀ v m1, f m = some (v, m1) → ∀ q, m q ≠ none → m1 q ≠ none

variable {B : Id → Prop}
theorem updM_offB {x : Option Thing} (h : A i) (hb : B i) : ∀ q, (¬ A q ∨ m q ≠ none ∧ ¬ B q) → updM m1 i x q = m1 q := fun q hq => updM_ne fun e => by
  subst e
  rcases hq with hq | hq
  · exact hq h
  · exact hq.2 hb
theorem updM_offN {x : Option Thing} (h : A i) (hn : m i = none) : ∀ q, (¬ A q ∨ m q ≠ none ∧ ¬ B q) → updM m1 i x q = m1 q := fun q hq => updM_ne fun e => by
  subst e
  rcases hq with hq | hq
  · exact hq h
  · exact hq.1 hn
theorem updM_off {x : Option Thing} (h : A i) : ∀ q, ¬ A q → updM m i x q = m q := fun q hq => updM_ne fun e => hq (e ▸ h)
theorem updM_some {t : Thing} {q : Id} (h : m q ≠ none) : updM m i (some t) q ≠ none := by
  by_cases e : q = i
  · subst e; rw [updM_eq]; simp
  · rw [updM_ne e]; exact h

theorem exV_Tr {X : LV} (hX : ∀ i, idOf X = some i → A i ∧ B i) (hk : A k) : Tr A B m fun m => exV m k X := by
  cases X <;> try exact ⟨fun m' _ => rfl, fun v m1 h => (by cases h), fun v m1 h => by cases h⟩
  rename_i i ch lo cnt
  cases ch with
  | none => exact ⟨fun m' _ => rfl, fun v m1 h => (by cases h), fun v m1 h => by cases h⟩
  | some rc =>
    obtain ⟨r, c⟩ := rc
    obtain ⟨hi, hiB⟩ := hX i rfl
    refine ⟨fun m' hm => ?_, fun v m1 h q hq => ?_, fun v m1 h q hq => ?_⟩
    · simp only [exV, hm i hi, hm k hk]
      split <;> try rfl
      split <;> try rfl
      split <;> try rfl
      split <;> try rfl
      simp only [Option.map_some, glue_upd hk, glue_upd hi, glue_self hm]
    · simp only [exV] at h
      split at h
      case h_2 => cases h
      rename_i hkn
      split at h
      case h_2 => cases h
      split at h
      case h_2 => cases h
      split at h
      case isFalse => cases h
      cases h
      rw [updM_offN hk hkn q hq, updM_offB hi hiB q hq]
    · simp only [exV] at h
      split at h
      case h_2 => cases h
      split at h
      case h_2 => cases h
      split at h
      case h_2 => cases h
      split at h
      case isFalse => cases h
      cases h
      exact updM_some (updM_some hq)

theorem srcRows_at {n : Nat} {Y : LV} (hY : ∀ i, idOf Y = some i → m' i = m i) : srcRows m' n Y = srcRows m n Y := by
  cases Y <;> try rfl
  case sc v => cases v <;> rfl
  case rf j ch lo k => simp only [srcRows, look_at (hY j rfl)]

theorem apT_Tr {d e n : Nat} {X Y : LV} (hX : ∀ i, idOf X = some i → A i ∧ B i) (hY : ∀ i, idOf Y = some i → A i ∧ B i) (hk : A (.op d)) : Tr A B m fun m => apT m d e n X Y := by
  cases Y <;> try exact ⟨fun m' _ => rfl, fun v m1 h => (by cases h), fun v m1 h => by cases h⟩
  rename_i j ch lo cnt
  cases ch with
  | some rc => exact ⟨fun m' _ => rfl, fun v m1 h => (by cases h), fun v m1 h => by cases h⟩
  | none =>
    obtain ⟨hj, hjB⟩ := hY j rfl
    have hXi : ∀ i ch lo2 k, X = .rf i ch lo2 k → A i ∧ B i := fun i ch lo2 k e => hX i (by rw [e]; rfl)
    refine ⟨fun m' hm => ?_, fun v m1 h q hq => ?_, fun v m1 h q hq => ?_⟩
    · simp only [apT, hm j hj, hm _ hk]
      split <;> try rfl
      split <;> try rfl
      split <;> try rfl
      · split <;> try rfl
        simp only [Option.map_some, glue_upd hk, glue_upd hj, glue_self hm]
      · rename_i i lo2 k
        obtain ⟨hi, hiB⟩ := hXi i none lo2 k rfl
        rw [hm i hi]
        split <;> try rfl
        split <;> try rfl
        simp only [Option.map_some, glue_upd hk, glue_upd hj, glue_upd hi, glue_self hm]
    · simp only [apT] at h
      split at h
      case h_2 => cases h
      split at h
      case isFalse => cases h
      rename_i hc
      have hkn := hc.2.2.2.2.2
      split at h
      · split at h
        case isFalse => cases h
        cases h
        rw [updM_offN hk hkn q hq, updM_offB hj hjB q hq]
      · rename_i i lo2 k
        obtain ⟨hi, hiB⟩ := hXi i none lo2 k rfl
        split at h
        case h_2 => cases h
        split at h
        case isFalse => cases h
        cases h
        rw [updM_offN hk hkn q hq, updM_offB hi hiB q hq, updM_offB hj hjB q hq]
      · cases h
    · simp only [apT] at h
      split at h
      case h_2 => cases h
      split at h
      case isFalse => cases h
      split at h
      · split at h
        case isFalse => cases h
        cases h
        exact updM_some (updM_some hq)
      · split at h
        case h_2 => cases h
        split at h
        case isFalse => cases h
        cases h
        exact updM_some (updM_some (updM_some hq))
      · cases h

theorem apW_Tr {d e n : Nat} {str : Bool} {X Y : LV} (hX : ∀ i, idOf X = some i → A i ∧ B i) (hY : ∀ i, idOf Y = some i → A i ∧ B i) (hk : A (.op d)) : Tr A B m fun m => apW m d e n str X Y := by
  have hT := apT_Tr (m := m) (e := e) (n := n) hX hY hk
  have hXi : ∀ i ch lo2 k, X = .rf i ch lo2 k → A i ∧ B i := fun i ch lo2 k e => hX i (by rw [e]; rfl)
  refine ⟨fun m' hm => ?_, fun v m1 h q hq => ?_, fun v m1 h q hq => ?_⟩
  · simp only [apW, srcRows_at fun i hi => hm i (hY i hi).1, hm _ hk]
    split
    · split <;> try rfl
      · split <;> try rfl
        split
        · simp only [Option.map_some, glue_self hm]
        · simp only [Option.map_some, glue_upd hk, glue_self hm]
      · rename_i i lo2 k
        obtain ⟨hi, hiB⟩ := hXi i none lo2 k rfl
        rw [hm i hi]
        split <;> try rfl
        split <;> try rfl
        simp only [Option.map_some, glue_upd hk, glue_upd hi, glue_self hm]
    · split
      · rfl
      · exact hT.tr m' hm
  · simp only [apW] at h
    split at h
    · split at h
      · split at h
        case isFalse => cases h
        rename_i hc
        split at h
        · cases h; rfl
        · cases h; rw [updM_offN hk hc.2 q hq]
      · rename_i i lo2 k
        obtain ⟨hi, hiB⟩ := hXi i none lo2 k rfl
        split at h
        case h_2 => cases h
        split at h
        case isFalse => cases h
        rename_i hc
        cases h
        rw [updM_offN hk hc.2.2.2.2.2 q hq, updM_offB hi hiB q hq]
      · cases h
    · split at h
      · cases h
      · exact hT.off v m1 h q hq
  · simp only [apW] at h
    split at h
    · split at h
      · split at h
        case isFalse => cases h
        split at h
        · cases h; exact hq
        · cases h; exact updM_some hq
      · split at h
        case h_2 => cases h
        split at h
        case isFalse => cases h
        cases h
        exact updM_some (updM_some hq)
      · cases h
    · split at h
      · cases h
      · exact hT.ne v m1 h q hq

theorem adoptAll_Tr {k : Id} (hk : A k) : ∀ {l : List (Nat × Nat × Id)} {m : Mem}, (∀ p ∈ l, A p.2.2) → (∀ m', (∀ q, A q → m' q = m q) → adoptAll m' k l = (adoptAll m k l).map fun p => glue A p m') ∧
    (∀ m1, adoptAll m k l = some m1 → (∀ q, q ≠ k → (∀ p ∈ l, p.2.2 ≠ q) → m1 q = m q) ∧ ∀ q, m q ≠ none → m1 q ≠ none) := by
  intro l
  induction l with
  | nil => intro m _; exact ⟨fun m' hm => by simp only [adoptAll, Option.map_some, glue_self hm], fun m1 h => by cases h; exact ⟨fun _ _ _ => rfl, fun _ h => h⟩⟩
  | cons p l ih =>
    intro m hl
    obtain ⟨r, c, j⟩ := p
    have hj : A j := hl (r, c, j) (by simp)
    have hl' : ∀ p ∈ l, A p.2.2 := fun p hp => hl p (by simp [hp])
    refine ⟨fun m' hm => ?_, fun m1 h => ?_⟩
    · simp only [adoptAll, hm k hk, hm j hj]
      split
      case h_2 => rfl
      rename_i e n rows e' st' rows' _ _
      split
      case h_2 => rfl
      rename_i row vs _ _
      split
      case h_2 => rfl
      split
      case isFalse => rfl
      generalize rows.set r (row.set c (Cell.sl true e' st' vs)) = rs
      have h1 := (ih (m := updM (updM m j (some .dead)) k (some (.arr e n rs))) hl').1 (updM (updM m' j (some .dead)) k (some (.arr e n rs))) (fun q hq => by
        by_cases e1 : q = k
        · subst e1; rw [updM_eq, updM_eq]
        · rw [updM_ne e1, updM_ne e1]
          by_cases e2 : q = j
          · subst e2; rw [updM_eq, updM_eq]
          · rw [updM_ne e2, updM_ne e2]; exact hm q hq)
      rw [h1]
      cases adoptAll (updM (updM m j (some .dead)) k (some (.arr e n rs))) k l with
      | none => rfl
      | some m2 =>
        simp only [Option.map_some, Option.some.injEq]
        funext q
        by_cases ha : A q
        · rw [glue_in ha, glue_in ha]
        · rw [glue_out ha, glue_out ha, updM_off hk q ha, updM_off hj q ha]
    · simp only [adoptAll] at h
      split at h
      case h_2 => cases h
      split at h
      case h_2 => cases h
      split at h
      case h_2 => cases h
      split at h
      case isFalse => cases h
      obtain ⟨h1, h2⟩ := (ih hl').2 m1 h
      refine ⟨fun q hq hq2 => ?_, fun q hq => h2 q (updM_some (updM_some hq))⟩
      rw [h1 q hq fun p hp => hq2 p (by simp [hp]), updM_ne hq, updM_ne (fun e => hq2 (r, c, j) (by simp) e.symm)]

theorem toCellU_at {v : LV} (h : ∀ i, idOf v = some i → m' i = m i) : toCellU m' v = toCellU m v := by
  cases v <;> try rfl
  case rf i ch lo k => cases ch <;> simp only [toCellU, h i rfl]
theorem unpack_ids {v : LV} {vs : List LV} (h : unpack v = some vs) : ∀ x ∈ vs, ∀ i, idOf x = some i → i ∈ idsOf v := by
  intro x hx i hi
  cases v <;> simp only [unpack] at h <;> cases h
  case ag => exact List.mem_filterMap.2 ⟨x, hx, hi⟩
  all_goals
    simp only [List.mem_cons, List.not_mem_nil, or_false] at hx
    subst hx
    simp only [idOf] at hi
    first | (cases hi; done) | (simp only [idsOf, idOf]; cases hi; simp)
theorem fillU_at {s s' : Nat → LV} {n : Nat} : ∀ {ps : List (Nat × Opd)} {rows : List (List Cell)}, (∀ p ∈ ps, opd s' p.2 = opd s p.2) → (∀ p ∈ ps, ∀ i ∈ idsOf (opd s p.2), m' i = m i) → fillU m' s' n rows ps = fillU m s n rows ps := by
  intro ps
  induction ps with
  | nil => intro rows _ _; rfl
  | cons p ps ih =>
    intro rows h1 h2
    obtain ⟨r, x⟩ := p
    have hx := h1 (r, x) (by simp)
    simp only at hx
    simp only [fillU, hx]
    cases hu : unpack (opd s x) with
    | none => rfl
    | some vs =>
      simp only []
      have hm : vs.mapM (toCellU m') = vs.mapM (toCellU m) := by
        have : ∀ v ∈ vs, toCellU m' v = toCellU m v := fun v hv => toCellU_at fun i hi => h2 (r, x) (by simp) i (unpack_ids hu v hv i hi)
        clear hu
        induction vs with
        | nil => rfl
        | cons v vs ihv => rw [List.mapM_cons, List.mapM_cons, this v (by simp), ihv fun z hz => this z (by simp [hz])]
      rw [hm]
      cases vs.mapM (toCellU m) with
      | none => rfl
      | some row =>
        simp only []
        split
        · exact ih (fun p hp => h1 p (by simp [hp])) (fun p hp => h2 p (by simp [hp]))
        · rfl
theorem adsV_ids {r : Nat} {p : Nat × Nat × Id} : ∀ {vs : List LV} {c : Nat}, p ∈ adsV r c vs → ∃ x ∈ vs, idOf x = some p.2.2 := by
  intro vs
  induction vs with
  | nil => intro c h; simp [adsV] at h
  | cons v vs ih =>
    intro c h
    unfold adsV at h
    split at h
    · rename_i q; cases q
    · rename_i q
      cases q
      rcases List.mem_cons.1 h with rfl | h
      · exact ⟨_, List.mem_cons_self .., rfl⟩
      · obtain ⟨x, h1, h2⟩ := ih h; exact ⟨x, by simp [h1], h2⟩
    · rename_i q
      cases q
      obtain ⟨x, h1, h2⟩ := ih h; exact ⟨x, by simp [h1], h2⟩
theorem adsOf_ids {s : Nat → LV} {p : Nat × Nat × Id} : ∀ {ps : List (Nat × Opd)}, p ∈ adsOf s ps → ∃ q ∈ ps, p.2.2 ∈ idsOf (opd s q.2) := by
  intro ps
  induction ps with
  | nil => intro h; simp [adsOf] at h
  | cons q ps ih =>
    intro h
    obtain ⟨r, x⟩ := q
    simp only [adsOf, List.mem_append] at h
    rcases h with h | h
    · split at h
      · rename_i vs hu
        obtain ⟨z, h1, h2⟩ := adsV_ids h
        exact ⟨(r, x), by simp, unpack_ids hu z h1 _ h2⟩
      · simp at h
    · obtain ⟨q, h1, h2⟩ := ih h; exact ⟨q, by simp [h1], h2⟩
theorem adsOf_congr {s s' : Nat → LV} : ∀ {ps : List (Nat × Opd)}, (∀ p ∈ ps, opd s' p.2 = opd s p.2) → adsOf s' ps = adsOf s ps := by
  intro ps
  induction ps with
  | nil => intro _; rfl
  | cons q ps ih =>
    intro h
    obtain ⟨r, x⟩ := q
    have hx := h (r, x) (by simp)
    simp only at hx
    simp only [adsOf, hx, ih fun p hp => h p (by simp [hp])]

/-- what such an operation gives -/
structure WoF (call : CallF) (x : OpI) (s : Nat → LV) (m : Mem) (v : LV) (m1 : Mem) : Prop where
  ne : ∀ q, m q ≠ none → m1 q ≠ none
  off : ∀ q, (¬ AtW s x q ∨ m q ≠ none ∧ ¬ ∃ t ∈ looks x, q ∈ idsOf (s t)) → m1 q = m q
  tr : ∀ (s' : Nat → LV) (m' : Mem), (∀ t ∈ looks x, s' t = s t) → (∀ q, AtW s x q → m' q = m q) → evO call x ⟨s', m'⟩ = some ⟨updS s' x.d v, glue (AtW s x) m1 m'⟩

theorem wo_of {call : CallF} {d : Nat} {op : IOp} (hw : isW op = true) {s : Nat → LV} {s1 : St} (W : (Nat → LV) → Mem → Option (LV × Mem)) (hW : ∀ s m, evW d ⟨s, m⟩ op = W s m)
    (hs : ∀ s', (∀ t ∈ looks (⟨d, op, none, false⟩ : OpI), s' t = s t) → W s' = W s) (hT : Tr (AtW s ⟨d, op, none, false⟩) (fun q => ∃ t ∈ looks (⟨d, op, none, false⟩ : OpI), q ∈ idsOf (s t)) m (W s))
    (h : evO call ⟨d, op, none, false⟩ ⟨s, m⟩ = some s1) : ∃ v m1, s1 = ⟨updS s d v, m1⟩ ∧ WoF call ⟨d, op, none, false⟩ s m v m1 := by
  have ev : ∀ s m, evO call ⟨d, op, none, false⟩ ⟨s, m⟩ = match W s m with | some (v, m') => some ⟨updS s d v, m'⟩ | none => none := by
    intro s m
    simp only [evO, evD, hw, hW]
    rfl
  rw [ev] at h
  cases hq : W s m with
  | none => rw [hq] at h; cases h
  | some p =>
    obtain ⟨v, m1⟩ := p
    rw [hq] at h
    cases h
    refine ⟨v, m1, rfl, hT.ne v m1 hq, hT.off v m1 hq, fun s' m' h1 h2 => ?_⟩
    rw [ev, hs s' h1, hT.tr m' h2, hq]
    rfl

theorem wo_form {call : CallF} {x : OpI} (hx : isWo x = true) {s : Nat → LV} {s1 : St} (h : evO call x ⟨s, m⟩ = some s1) : ∃ v m1, s1 = ⟨updS s x.d v, m1⟩ ∧ WoF call x s m v m1 := by
  obtain ⟨d, op, g, w⟩ := x
  have hkx : (w = false ∧ g = none) ∧ ∀ z ∈ opdsI op, konst z = true := by
    unfold isWo at hx
    split at hx
    · rename_i e1 e2 e3
      simp only at e1 e2 e3
      subst e3
      simp only [Bool.and_eq_true] at hx
      refine ⟨⟨e1, e2⟩, fun z hz => ?_⟩
      simp only [opdsI, List.mem_cons, List.not_mem_nil, or_false] at hz
      rcases hz with rfl | rfl
      · exact hx.1
      · exact hx.2
    · rename_i e1 e2 e3
      simp only at e1 e2 e3
      subst e3
      exact ⟨⟨e1, e2⟩, List.all_eq_true.1 hx⟩
    · cases hx
  obtain ⟨⟨rfl, rfl⟩, hkx⟩ := hkx
  have lk : ∀ z ∈ opdsI op, ∀ t, z = .t t → t ∈ looks (⟨d, op, none, false⟩ : OpI) := by
    intro z hz t e
    subst e
    simp only [looks, List.append_nil]
    exact List.mem_filterMap.2 ⟨_, hz, rfl⟩
  have hop : ∀ s', (∀ t ∈ looks (⟨d, op, none, false⟩ : OpI), s' t = s t) → ∀ z ∈ opdsI op, Ev.opd s' z = Ev.opd s z := by
    intro s' hs z hz
    cases z with
    | t t => exact hs t (lk _ hz t rfl)
    | k v => rfl
  have hA : ∀ z ∈ opdsI op, ∀ i ∈ idsOf (Ev.opd s z), ∃ t ∈ looks (⟨d, op, none, false⟩ : OpI), i ∈ idsOf (s t) := by
    intro z hz i hi
    cases z with
    | t t => exact ⟨t, lk _ hz t rfl, hi⟩
    | k v =>
      exfalso
      have := hkx _ hz
      cases v with
      | sc _ => simp [Ev.opd, idsOf, idOf] at hi
      | nl => simp [Ev.opd, idsOf, idOf] at hi
      | cl f caps => simp [Ev.opd, idsOf, idOf] at hi
      | _ => cases this
  unfold isWo at hx
  split at hx
  · rename_i e n str a b _ _ e3
    simp only at e3
    subst e3
    have ida : ∀ V i, idOf V = some i → i ∈ idsOf V := by
      intro V i hi
      cases V <;> simp only [idOf] at hi <;> first | (cases hi; done) | (cases hi; simp [idsOf, idOf])
    have hAa : ∀ z ∈ opdsI (.ap e n str a b), ∀ i, idOf (Ev.opd s z) = some i → AtW s ⟨d, .ap e n str a b, none, false⟩ i ∧ ∃ t ∈ looks (⟨d, .ap e n str a b, none, false⟩ : OpI), i ∈ idsOf (s t) := fun z hz i hi => ⟨.inl (hA z hz i (ida _ i hi)), hA z hz i (ida _ i hi)⟩
    have ma : a ∈ opdsI (.ap e n str a b) := by simp [opdsI]
    have mb : b ∈ opdsI (.ap e n str a b) := by simp [opdsI]
    refine wo_of rfl (fun s m => apW (exSt d a ⟨s, m⟩).m d e n str (Ev.opd (exSt d a ⟨s, m⟩).s a) (Ev.opd (exSt d a ⟨s, m⟩).s b)) (fun _ _ => rfl) (fun s' hs => ?_) ?_ h
    · funext m
      have ha := hop s' hs a ma
      have hb := hop s' hs b mb
      cases a with
      | k v => simp only [exSt, hb]; rfl
      | t ta =>
        simp only [Ev.opd] at ha
        simp only [exSt, ha]
        cases exV m (.ex d) (s ta) with
        | none => simp only [hb]; simp only [Ev.opd, ha]
        | some p =>
          simp only [Ev.opd]
          cases b with
          | k v => simp only [updS]; rfl
          | t tb =>
            simp only [Ev.opd] at hb
            simp only [updS, hb]; rfl
    · cases a with
      | k v => exact apW_Tr (hAa _ ma) (hAa _ mb) (.inr (.inl rfl))
      | t ta =>
        have hX := hAa _ ma
        have hY := hAa _ mb
        simp only [Ev.opd] at hX
        have tX := exV_Tr (m := m) (k := .ex d) hX (.inr (.inr rfl))
        cases hq : exV m (.ex d) (s ta) with
        | none =>
          have t2 := apW_Tr (m := m) (d := d) (e := e) (n := n) (str := str) (X := s ta) (Y := Ev.opd s b) hX hY (.inr (.inl rfl))
          have e1 : ∀ m', (∀ q, AtW s ⟨d, .ap e n str (.t ta) b, none, false⟩ q → m' q = m q) → exSt d (.t ta) ⟨s, m'⟩ = ⟨s, m'⟩ := by
            intro m' hm
            have := tX.tr m' hm
            simp only [hq] at this
            simp only [exSt]
            rw [this]; rfl
          refine ⟨fun m' hm => ?_, fun v m1 h1 => ?_, fun v m1 h1 => ?_⟩
          · rw [e1 m' hm, e1 m fun _ _ => rfl]; exact t2.tr m' hm
          · rw [e1 m fun _ _ => rfl] at h1; exact t2.off v m1 h1
          · rw [e1 m fun _ _ => rfl] at h1; exact t2.ne v m1 h1
        | some p =>
          obtain ⟨X', mx⟩ := p
          have hX' : (∃ c, X' = .rf (.ex d) none 0 c) ∧ m (.ex d) = none := by
            unfold exV at hq
            split at hq
            case h_2 => cases hq
            split at hq
            case h_2 => cases hq
            rename_i hkn
            split at hq
            case h_2 => cases hq
            split at hq
            case h_2 => cases hq
            split at hq
            case isFalse => cases hq
            cases hq
            exact ⟨⟨_, rfl⟩, hkn⟩
          obtain ⟨⟨c, rfl⟩, hkn⟩ := hX'
          generalize hAd : AtW s ⟨d, .ap e n str (.t ta) b, none, false⟩ = A at *
          generalize hBd : (fun q => ∃ t ∈ looks (⟨d, .ap e n str (.t ta) b, none, false⟩ : OpI), q ∈ idsOf (s t)) = B at *
          have hBi : ∀ i, (∃ t ∈ looks (⟨d, .ap e n str (.t ta) b, none, false⟩ : OpI), i ∈ idsOf (s t)) → B i := fun i hi => by rw [← hBd]; exact hi
          have hdA : A (.op d) := by rw [← hAd]; exact .inr (.inl rfl)
          have hxA : A (.ex d) := by rw [← hAd]; exact .inr (.inr rfl)
          have tX' : Tr A B m fun m => exV m (.ex d) (s ta) := exV_Tr (fun i hi => ⟨(hX i hi).1, hBi i (hX i hi).2⟩) hxA
          have hbA : ∀ i, idOf (Ev.opd (updS s ta (.rf (.ex d) none 0 c)) b) = some i → A i ∧ (B i ∨ i = .ex d) := by
            intro i hi
            cases b with
            | k v => exact ⟨(hY i hi).1, .inl (hBi i (hY i hi).2)⟩
            | t tb =>
              simp only [Ev.opd, updS] at hi
              split at hi
              · cases hi; exact ⟨hxA, .inr rfl⟩
              · exact ⟨(hY i hi).1, .inl (hBi i (hY i hi).2)⟩
          have t2 := apW_Tr (A := A) (B := fun i => B i ∨ i = .ex d) (m := mx) (d := d) (e := e) (n := n) (str := str) (X := .rf (.ex d) none 0 c) (Y := Ev.opd (updS s ta (.rf (.ex d) none 0 c)) b) (fun i hi => by cases hi; exact ⟨hxA, .inr rfl⟩) hbA hdA
          have eX : Ev.opd (updS s ta (.rf (.ex d) none 0 c)) (.t ta) = .rf (.ex d) none 0 c := by simp [Ev.opd, updS]
          have e1 : ∀ m', (∀ q, A q → m' q = m q) → exSt d (.t ta) ⟨s, m'⟩ = ⟨updS s ta (.rf (.ex d) none 0 c), glue A mx m'⟩ := by
            intro m' hm
            have := tX'.tr m' hm
            simp only [hq] at this
            simp only [exSt]
            rw [this]; rfl
          have e0 : exSt d (.t ta) ⟨s, m⟩ = ⟨updS s ta (.rf (.ex d) none 0 c), mx⟩ := by simp only [exSt, hq]
          refine ⟨fun m' hm => ?_, fun v m1 h1 q hq' => ?_, fun v m1 h1 q hq' => ?_⟩
          · rw [e1 m' hm, e0]
            simp only [eX]
            have := t2.tr (glue A mx m') (fun q ha => glue_in ha)
            try simp only at this
            rw [this]
            simp only [glue_glue]
          · rw [e0] at h1
            simp only [eX] at h1
            have hmx := tX'.off _ mx hq q hq'
            rw [t2.off v m1 h1 q ?_, hmx]
            rcases hq' with h3 | ⟨h3, h4⟩
            · exact .inl h3
            · refine .inr ⟨by rw [hmx]; exact h3, fun h5 => ?_⟩
              rcases h5 with h5 | h5
              · exact h4 h5
              · subst h5; exact h3 hkn
          · rw [e0] at h1
            simp only [eX] at h1
            exact t2.ne v m1 h1 q (tX'.ne _ mx hq q hq')
  · rename_i e n z len ps _ _ e3
    simp only at e3
    subst e3
    have mp : ∀ p ∈ ps, p.2 ∈ opdsI (.bw e n z len ps) := fun p hp => List.mem_map.2 ⟨p, hp, rfl⟩
    refine wo_of rfl (fun s m => match fillU m s n (List.replicate len z) ps with
      | some rows => if (ps.map (·.1)).Nodup ∧ m (.op d) = none then
        (match adoptAll (updM m (.op d) (some (.arr e n rows))) (.op d) (adsOf s ps) with | some m' => some (.rf (.op d) none 0 len, m') | none => none) else none
      | none => none) (fun _ _ => rfl) (fun s' hs => ?_) ?_ h
    · funext m
      have h1 : ∀ p ∈ ps, Ev.opd s' p.2 = Ev.opd s p.2 := fun p hp => hop s' hs _ (mp p hp)
      rw [fillU_at (m := m) (m' := m) h1 (fun _ _ _ _ => rfl), adsOf_congr h1]
    · have hd : AtW s ⟨d, .bw e n z len ps, none, false⟩ (.op d) := .inr (.inl rfl)
      have hads : ∀ p ∈ adsOf s ps, ∃ t ∈ looks (⟨d, .bw e n z len ps, none, false⟩ : OpI), p.2.2 ∈ idsOf (s t) := fun p hp => by
        obtain ⟨q, h1, h2⟩ := adsOf_ids hp
        exact hA _ (mp q h1) _ h2
      have ha := fun (m : Mem) => adoptAll_Tr (A := AtW s ⟨d, .bw e n z len ps, none, false⟩) hd (l := adsOf s ps) (m := m) (fun p hp => .inl (hads p hp))
      refine ⟨fun m' hm => ?_, fun v m1 h1 q hq => ?_, fun v m1 h1 q hq => ?_⟩
      · have hf := fillU_at (m := m) (m' := m') (s := s) (s' := s) (n := n) (ps := ps) (rows := List.replicate len z) (fun _ _ => rfl) (fun p hp i hi => hm i (.inl (hA _ (mp p hp) i hi)))
        simp only [hf, hm _ hd]
        cases fillU m s n (List.replicate len z) ps with
        | none => rfl
        | some rows =>
          simp only []
          split <;> try rfl
          rw [(ha (updM m (.op d) (some (.arr e n rows)))).1 (updM m' (.op d) (some (.arr e n rows))) (fun q hq => by
            by_cases e1 : q = .op d
            · subst e1; rw [updM_eq, updM_eq]
            · rw [updM_ne e1, updM_ne e1]; exact hm q hq)]
          cases adoptAll (updM m (.op d) (some (.arr e n rows))) (.op d) (adsOf s ps) with
          | none => rfl
          | some m2 =>
            simp only [Option.map_some, Option.some.injEq, Prod.mk.injEq, true_and]
            funext q
            by_cases hq : AtW s ⟨d, .bw e n z len ps, none, false⟩ q
            · rw [glue_in hq, glue_in hq]
            · rw [glue_out hq, glue_out hq, updM_ne (fun e1 => hq (by rw [e1]; exact hd))]
      · split at h1
        case h_2 => cases h1
        split at h1
        case isFalse => cases h1
        rename_i hc
        split at h1
        case h_2 => cases h1
        rename_i m2 h2
        cases h1
        have hqd : q ≠ .op d := fun e1 => by
          subst e1
          rcases hq with hq | hq
          · exact hq hd
          · exact hq.1 hc.2
        rw [((ha _).2 _ h2).1 q hqd fun p hp e1 => ?_, updM_ne hqd]
        subst e1
        rcases hq with hq | hq
        · exact hq (.inl (hads p hp))
        · exact hq.2 (hads p hp)
      · split at h1
        case h_2 => cases h1
        split at h1
        case isFalse => cases h1
        split at h1
        case h_2 => cases h1
        rename_i m2 h2
        cases h1
        exact ((ha _).2 _ h2).2 q (updM_some hq)
  · cases hx
end

/-! a reading operation's new pieces bear its own number -/
theorem evR_ids {call : CallF} {d : Nat} {st : St} {io : IOp} {v : LV} {l : List (Id × Thing)} (h : evR call d st io = some (v, l)) : ∀ p ∈ l, p.1 = .op d ∨ ∃ k, p.1 = .rs d k := by
  have th : ∀ r, ∀ p ∈ (openV (.rs d) r).2, ∃ k, p.1 = Id.rs d k := by
    intro r p hp
    obtain ⟨q, _, hq⟩ := List.mem_filterMap.1 hp
    obtain ⟨k, x⟩ := q
    cases x <;> simp only [thing] at hq <;> cases hq
    exact ⟨_, rfl⟩
  have ca : ∀ m f xs, callR call m d f xs = some (v, l) → ∀ p ∈ l, p.1 = .op d ∨ ∃ k, p.1 = .rs d k := by
    intro m f xs hc
    unfold callR at hc
    split at hc
    case h_2 => cases hc
    split at hc
    case h_2 => cases hc
    split at hc
    case isTrue => cases hc
    cases hc
    exact fun p hp => .inr (th _ p hp)
  have no : ∀ o, noAdd o = some (v, l) → ∀ p ∈ l, p.1 = .op d ∨ ∃ k, p.1 = .rs d k := by
    intro o ho
    cases o <;> cases ho
    intro p hp; simp at hp
  cases io <;> simp only [evR] at h
  case ca f xs =>
    split at h
    · exact ca _ _ _ h
    · cases h
  case ln b x => cases b <;> simp only [evR] at h <;> (repeat' split at h) <;> first | (cases h; done) | (cases h; intro p hp; simp at hp)
  all_goals first
    | exact no _ h
    | ((repeat' split at h) <;> first | (cases h; done) | exact no _ h | (cases h; intro p hp; simp at hp; done) | (cases h; intro p hp; simp at hp; subst hp; exact .inl rfl))
theorem outR_ids {call : CallF} {io : OpI} {st : St} {v : LV} {l : List (Id × Thing)} (h : outR call io st = some (v, l)) : ∀ p ∈ l, p.1 = .op io.d ∨ ∃ k, p.1 = .rs io.d k := by
  unfold outR at h
  repeat' split at h
  all_goals first | (cases h; done) | exact evR_ids h | (cases h; intro p hp; simp at hp)

open Classical in
theorem adds_tr : ∀ {l : List (Id × Thing)} {m m2 m' : Mem}, adds m l = some m2 → (∀ p ∈ l, m' p.1 = m p.1) → adds m' l = some (fun q => if ∃ p ∈ l, p.1 = q then m2 q else m' q) := by
  intro l
  induction l with
  | nil => intro m m2 m' h _; cases h; simp [adds]
  | cons p l ih =>
    intro m m2 m' h hm
    obtain ⟨i, x⟩ := p
    simp only [adds] at h ⊢
    rw [hm (i, x) (by simp)]
    cases hi : m i with
    | some _ => rw [hi] at h; cases h
    | none =>
      rw [hi] at h
      simp only [] at h ⊢
      have hfr := (adds_keep h).2.2
      have hne : ∀ p ∈ l, p.1 ≠ i := fun p hp e => by
        have := (hfr p hp).1
        rw [e, updM_eq] at this; cases this
      rw [ih (m' := updM m' i (some x)) h (fun p hp => by rw [updM_ne (hne p hp), updM_ne (hne p hp)]; exact hm p (by simp [hp]))]
      congr 1
      funext q
      by_cases h1 : ∃ p ∈ l, p.1 = q
      · rw [if_pos h1, if_pos (by obtain ⟨p, h2, h3⟩ := h1; exact ⟨p, by simp [h2], h3⟩)]
      · rw [if_neg h1]
        by_cases h2 : q = i
        · subst h2
          rw [updM_eq, if_pos ⟨(q, x), by simp, rfl⟩, (adds_keep h).1 q (by rw [updM_eq]; simp), updM_eq]
        · rw [updM_ne h2, if_neg]
          rintro ⟨p, h3, h4⟩
          rcases List.mem_cons.1 h3 with rfl | h3
          · exact h2 h4.symm
          · exact h1 ⟨p, h3, h4⟩

/-- does a reading operation look away from what these slots lead to? -/
def offW (s : Nat → LV) (x y : OpI) : Prop :=
  if noLook y.op = true then True else if isCa y.op = true then ∀ z ∈ opdsI y.op, noOwnV (opd s z) = true else ∀ z ∈ opdsI y.op, ∀ t ∈ looks x, ∀ i ∈ idsOf (s t), idOf (opd s z) ≠ some i
section
variable {P : Program} {ov : Ov} {S N : Nat → Prop} {G : Gh} {a : Act} {w : World} {st : St} {call : CallF} {m m' : Mem}
theorem offW_evR {s : Nat → LV} {x y : OpI} (h : offW s x y) (hm : ∀ z ∈ opdsI y.op, ∀ j, idOf (opd s z) = some j → (¬ ∃ t ∈ looks x, j ∈ idsOf (s t)) → m' j = m j) : evR call y.d ⟨s, m'⟩ y.op = evR call y.d ⟨s, m⟩ y.op := by
  unfold offW at h
  by_cases hl : noLook y.op = true
  · exact noLook_evR hl
  rw [if_neg hl] at h
  by_cases hc : isCa y.op = true
  · rw [if_pos hc] at h
    cases hop : y.op with
    | ca f xs => rw [hop] at h; exact evR_no h
    | _ => rw [hop] at hc; cases hc
  · rw [if_neg hc] at h
    refine evR_off (by simpa using hc) fun z hz j hj => hm z hz j hj ?_
    rintro ⟨t, h1, h2⟩
    exact h z hz t h1 j h2 hj
theorem SR.id_ne (h : SR ov S N G st a w) {z : Opd} (hk : konst z = true) {j : Id} (hj : idOf (Ev.opd st.s z) = some j) : st.m j ≠ none := by
  have hw := (h.opdw hk).1
  cases hs : Ev.opd st.s z <;> rw [hs] at hj hw <;> first | (cases hj; exact hw) | cases hj
theorem SR.ids_ne (h : SR ov S N G st a w) {t : Nat} {j : Id} (hj : j ∈ idsOf (st.s t)) : st.m j ≠ none := by
  have hw := (h.slot t).2
  have one : ∀ x, wf0 st.m x → idOf x = some j → st.m j ≠ none := by
    intro x hx hi
    cases x <;> simp only [idOf] at hi <;> first | (cases hi; done) | (cases hi; exact hx)
  cases hs : st.s t <;> rw [hs] at hj hw
  case ag vs =>
    obtain ⟨x, h1, h2⟩ := List.mem_filterMap.1 hj
    exact one x (hw x h1) h2
  all_goals
    simp only [idsOf, idOf] at hj
    first | (simp at hj; done) | (simp at hj; subst hj; exact hw)

/-- what moves memory first, then what reads; or the other way round -/
theorem swap_wr (h : SR ov S N G st a w) {x y : OpI} (hx : isWo x = true) (oy : rdOk y = true) (hd : y.d ∉ looks x) (hd2 : x.d ∉ looks y) (hne : x.d ≠ y.d) (hoff : offW st.s x y) {s1 s2 : St} (h1 : evO call x st = some s1) (h2 : evO call y s1 = some s2) :
    ∃ s1', evO call y st = some s1' ∧ evO call x s1' = some s2 := by
  obtain ⟨s, m⟩ := st
  obtain ⟨v, m1, rfl, F⟩ := wo_form hx h1
  have ky := rd_of oy
  rw [evO_out oy] at h2
  have same : outR call y ⟨updS s x.d v, m1⟩ = outR call y ⟨s, m⟩ := by
    refine outR_same (fun t ht => ?_) (opd_upd hd2) ?_
    · have : t ≠ x.d := fun e => by subst e; exact hd2 ht
      simp [updS, this]
    · exact offW_evR hoff fun z hz j hj hno => F.off j (.inr ⟨h.id_ne (ky z hz) hj, hno⟩)
  rw [same] at h2
  cases hy : outR call y ⟨s, m⟩ with
  | none => rw [hy] at h2; cases h2
  | some q =>
    obtain ⟨u, ly⟩ := q
    rw [hy] at h2
    simp only [] at h2
    cases hb : adds m1 ly with
    | none => rw [hb] at h2; cases h2
    | some m2 =>
      rw [hb] at h2
      cases h2
      obtain ⟨k1, k2, k3⟩ := adds_keep hb
      have fresh : ∀ p ∈ ly, m p.1 = none ∧ m1 p.1 = none := fun p hp => by
        have h3 := (k3 p hp).1
        refine ⟨?_, h3⟩
        cases hq : m p.1 with
        | none => rfl
        | some _ => exact absurd h3 (F.ne _ (by rw [hq]; simp))
      have ids := outR_ids hy
      have hb' := adds_tr (m' := m) hb (fun p hp => by rw [(fresh p hp).1, (fresh p hp).2])
      have notA : ∀ q, AtW s x q → ¬ ∃ p ∈ ly, p.1 = q := by
        rintro q hq ⟨p, hp, rfl⟩
        rcases hq with ⟨t, h3, h4⟩ | h3 | h3
        · exact h.ids_ne h4 (fresh p hp).1
        · rcases ids p hp with e | ⟨k, e⟩ <;> rw [e] at h3
          · simp only [Id.op.injEq] at h3; exact hne h3.symm
          · cases h3
        · rcases ids p hp with e | ⟨k, e⟩ <;> rw [e] at h3 <;> cases h3
      refine ⟨_, by rw [evO_out oy, hy]; simp only [hb']; rfl, ?_⟩
      rw [F.tr (updS s y.d u) _ (fun t ht => ?_) (fun q hq => ?_)]
      · rw [updS_comm hne]
        congr 2
        funext q
        by_cases hq : AtW s x q
        · rw [glue_in hq]
          refine (k2 q fun z hz => notA q hq ⟨_, hz, rfl⟩).symm
        · rw [glue_out hq]
          split
          · rfl
          · rename_i h3
            rw [k2 q fun z hz => h3 ⟨_, hz, rfl⟩, F.off q (.inl hq)]
      · have : t ≠ y.d := fun e => by subst e; exact hd ht
        simp [updS, this]
      · rw [if_neg (notA q hq)]
theorem swap_rw (h : SR ov S N G st a w) {x y : OpI} (hy : isWo y = true) (ox : rdOk x = true) (hd : x.d ∉ looks y) (hd2 : y.d ∉ looks x) (hne : x.d ≠ y.d) (hoff : offW st.s y x) {s1 s2 : St} (h1 : evO call x st = some s1) (h2 : evO call y s1 = some s2) :
    ∃ s1', evO call y st = some s1' ∧ evO call x s1' = some s2 := by
  obtain ⟨s, m⟩ := st
  have kx := rd_of ox
  rw [evO_out ox] at h1
  cases hx : outR call x ⟨s, m⟩ with
  | none => rw [hx] at h1; cases h1
  | some q =>
    obtain ⟨v, lx⟩ := q
    rw [hx] at h1
    simp only [] at h1
    cases ha : adds m lx with
    | none => rw [ha] at h1; cases h1
    | some m1 =>
      rw [ha] at h1
      cases h1
      obtain ⟨k1, k2, k3⟩ := adds_keep ha
      have ids := outR_ids hx
      have sl : ∀ t ∈ looks y, updS s x.d v t = s t := fun t ht => by
        have : t ≠ x.d := fun e => by subst e; exact hd ht
        simp [updS, this]
      obtain ⟨u, m2, rfl, F⟩ := wo_form hy h2
      have eA : ∀ q, AtW (updS s x.d v) y q ↔ AtW s y q := fun q => by
        unfold AtW
        constructor <;> rintro (⟨t, h3, h4⟩ | h3)
        · exact .inl ⟨t, h3, by rw [← sl t h3]; exact h4⟩
        · exact .inr h3
        · exact .inl ⟨t, h3, by rw [sl t h3]; exact h4⟩
        · exact .inr h3
      have notA : ∀ q, AtW s y q → ¬ ∃ p ∈ lx, p.1 = q := by
        rintro q hq ⟨p, hp, rfl⟩
        rcases hq with ⟨t, h3, h4⟩ | h3 | h3
        · exact h.ids_ne h4 (k3 p hp).1
        · rcases ids p hp with e | ⟨k, e⟩ <;> rw [e] at h3
          · simp only [Id.op.injEq] at h3; exact hne h3
          · cases h3
        · rcases ids p hp with e | ⟨k, e⟩ <;> rw [e] at h3 <;> cases h3
      have mA : ∀ q, AtW s y q → m1 q = m q := fun q hq => k2 q fun z hz => notA q hq ⟨_, hz, rfl⟩
      have ey := F.tr s m (fun t ht => (sl t ht).symm) (fun q hq => (mA q ((eA q).1 hq)).symm)
      refine ⟨_, ey, ?_⟩
      generalize hgl : glue (AtW (updS s x.d v) y) m2 m = mg
      have g1 : ∀ q, AtW s y q → mg q = m2 q := fun q hq => by rw [← hgl]; exact glue_in ((eA q).2 hq)
      have g2 : ∀ q, ¬ AtW s y q → mg q = m q := fun q hq => by rw [← hgl]; exact glue_out fun h3 => hq ((eA q).1 h3)
      have same : outR call x ⟨updS s y.d u, mg⟩ = outR call x ⟨s, m⟩ := by
        refine outR_same (fun t ht => ?_) (opd_upd hd2) ?_
        · have : t ≠ y.d := fun e => by subst e; exact hd2 ht
          simp [updS, this]
        · refine offW_evR hoff fun z hz j hj hno => ?_
          have hm := h.id_ne (kx z hz) hj
          by_cases hq : AtW s y j
          · rw [g1 j hq, F.off j (.inr ⟨by rw [mA j hq]; exact hm, fun ⟨t, h3, h4⟩ => hno ⟨t, h3, by rw [← sl t h3]; exact h4⟩⟩), mA j hq]
          · exact g2 j hq
      have hb' := adds_tr (m' := mg) ha (fun p hp => g2 _ fun hq => notA _ hq ⟨p, hp, rfl⟩)
      rw [evO_out ox, same, hx]
      simp only [hb', Option.some.injEq]
      rw [updS_comm hne]
      congr 1
      funext q
      split
      · rename_i h3
        rw [F.off q (.inl fun hq => notA q ((eA q).1 hq) h3)]
      · rename_i h3
        by_cases hq : AtW s y q
        · exact g1 q hq
        · rw [g2 q hq, F.off q (.inl fun h4 => hq ((eA q).1 h4)), k2 q fun z hz => h3 ⟨_, hz, rfl⟩]
end

/-! ### what is looked at when a region is through -/
inductive Ck where
  | ne (p b : Nat) | no (b : Nat) | nx (p b : Nat)
  deriving DecidableEq
def ckB (s : Nat → LV) : Ck → Bool
  | .ne p b => decide (idOf (s p) ≠ idOf (s b)) || (idOf (s b)).isNone
  | .no b => noOwnV (s b)
  | .nx p b => (idsOf (s p)).all fun i => decide (idOf (s b) ≠ some i)
def cks (p : Nat) (y : OpI) : List Ck :=
  if noLook y.op = true then [] else (opdsI y.op).filterMap fun | .t b => some (if isCa y.op = true then .no b else .ne p b) | .k _ => none
def ckS : Ck → List Nat
  | .ne p b | .nx p b => [p, b] | .no b => [b]
/-- beside an operation that moves memory -/
def ckw (x y : OpI) : List Ck :=
  if noLook y.op = true then [] else if isCa y.op = true then (opdsI y.op).filterMap fun | .t b => some (.no b) | .k _ => none
  else (looks x).flatMap fun p => (opdsI y.op).filterMap fun | .t b => some (.nx p b) | .k _ => none
theorem konst_k {v : LV} (h : konst (.k v) = true) : idOf v = none ∧ noOwnV v = true := by
  cases v with
  | sc _ => exact ⟨rfl, rfl⟩
  | nl => exact ⟨rfl, rfl⟩
  | cl f caps =>
    cases caps with
    | nil => exact ⟨rfl, rfl⟩
    | cons _ _ => cases h
  | _ => cases h
theorem off_of {s : Nat → LV} {p : Nat} {y : OpI} (hk : ∀ z ∈ opdsI y.op, konst z = true) (h : ∀ c ∈ cks p y, ckB s c = true) : offB s p y := by
  unfold offB
  split
  · trivial
  rename_i hl
  unfold cks at h
  rw [if_neg hl] at h
  split
  · rename_i hc
    intro x hx
    cases x with
    | t b =>
      have := h (.no b) (List.mem_filterMap.2 ⟨.t b, hx, by simp [hc]⟩)
      exact this
    | k v =>
      exact (konst_k (hk _ hx)).2
  · rename_i hc
    intro x hx i hi
    cases x with
    | t b =>
      have := h (.ne p b) (List.mem_filterMap.2 ⟨.t b, hx, by simp [hc]⟩)
      simp only [ckB, Bool.or_eq_true, decide_eq_true_eq] at this
      simp only [Ev.opd]
      rcases this with h1 | h1
      · exact fun e => h1 (hi.trans e.symm)
      · intro e; rw [e] at h1; cases h1
    | k v =>
      simp only [Ev.opd, (konst_k (hk _ hx)).1]
      intro e; cases e
theorem offW_of {s : Nat → LV} {x y : OpI} (hk : ∀ z ∈ opdsI y.op, konst z = true) (h : ∀ c ∈ ckw x y, ckB s c = true) : offW s x y := by
  unfold offW
  unfold ckw at h
  split
  · trivial
  rename_i hl
  rw [if_neg hl] at h
  split
  · rename_i hc
    rw [if_pos hc] at h
    intro z hz
    cases z with
    | t b => exact h (.no b) (List.mem_filterMap.2 ⟨.t b, hz, rfl⟩)
    | k v => exact (konst_k (hk _ hz)).2
  · rename_i hc
    rw [if_neg hc] at h
    intro z hz t ht i hi
    cases z with
    | t b =>
      have := h (.nx t b) (List.mem_flatMap.2 ⟨t, ht, List.mem_filterMap.2 ⟨.t b, hz, rfl⟩⟩)
      simp only [ckB, List.all_eq_true, decide_eq_true_eq] at this
      exact this i hi
    | k v =>
      simp only [Ev.opd, (konst_k (hk _ hz)).1]
      intro e; cases e
theorem evL_slot {call : CallF} {b : Nat} : ∀ {l : List OpI} {st st' : St}, evL call l st = some st' → (∀ z ∈ l, z.w = true → z.d = 0) → (∀ z ∈ l, z.w = true ∨ z.d ≠ b) → st'.s b = st.s b := by
  intro l
  induction l with
  | nil => intro st st' h _ _; cases h; rfl
  | cons x l ih =>
    intro st st' h h0 hz
    simp only [evL] at h
    split at h
    case h_2 => cases h
    rename_i s1 h1
    rw [ih h (fun z hm => h0 z (by simp [hm])) fun z hm => hz z (by simp [hm])]
    have hx := hz x (by simp)
    have hD : ∀ {s1 : St}, evD call x st = some s1 → s1.s b = st.s b := by
      intro s1 h1
      unfold evD at h1
      cases hw : x.w with
      | true =>
        rw [hw] at h1
        have hd0 := h0 x (by simp) hw
        simp only [hd0] at h1
        split at h1
        · cases h1; rfl
        · cases h1
      | false =>
        rw [hw] at h1 hx
        have hne : x.d ≠ b := by rcases hx with h2 | h2; cases h2; exact h2
        simp only [] at h1
        split at h1
        · split at h1
          case h_2 => cases h1
          cases h1
          simp [updS, Ne.symm hne]
        · split at h1
          case h_2 => cases h1
          split at h1
          case h_2 => cases h1
          cases h1
          simp [updS, Ne.symm hne]
    have hS : (evSkip x st).s b = st.s b := by
      unfold evSkip
      cases hw : x.w with
      | true => rfl
      | false =>
        rw [hw] at hx
        have hne : x.d ≠ b := by rcases hx with h2 | h2; cases h2; exact h2
        simp [updS, Ne.symm hne]
    unfold evO at h1
    split at h1
    · exact hD h1
    · split at h1
      · split at h1
        · exact hD h1
        · cases h1; exact hS
      · cases h1; exact hS
      · cases h1
end Go.Proofs.YthnkioafikmmaaaDoor.Ev
