/- Operations in any order. -/
import Derived.Test.YthnkioafikmmaaaDoorEvU
namespace Go.Proofs.YthnkioafikmmaaaDoor.Ev
open Go
set_option linter.unusedVariables false
set_option linter.unusedSimpArgs false

def opdsI : IOp → List Opd
  | .isn _ x | .mv x | .bx x | .ld _ _ x | .nc x | .fa _ x | .fd _ _ _ x | .ng x | .nt x | .cv _ x | .by x | .xt x _ | .ln _ x | .ms _ _ _ x | .mz _ _ x => [x]
  | .pk c a b => [c, a, b]
  | .al _ => []
  | .bd _ ps => ps.map (·.2.2)
  | .bs _ _ _ _ ps | .bw _ _ _ _ ps => ps.map (·.2)
  | .ia _ x i | .ix x i | .ar _ _ x i | .eq _ _ x i | .mx x i | .mn x i => [x, i]
  | .mf _ xs => xs
  | .sl _ x lo hi => x :: (lo.toList ++ hi.toList)
  | .s3 x lo hi mx => x :: hi :: mx :: lo.toList
  | .ca f xs => f :: xs
  | .so _ x v => [x, v]
  | .ap _ _ _ x y => [x, y]
  | .cw _ _ xs => xs

theorem fillL_congr {s s' : Nat → LV} : ∀ {ps : List (Nat × Nat × Opd)} {z : List LV}, (∀ x ∈ ps.map (·.2.2), opd s x = opd s' x) → fillL s z ps = fillL s' z ps := by
  intro ps
  induction ps with
  | nil => intro z _; rfl
  | cons p ps ih =>
    intro z h
    obtain ⟨off, n, x⟩ := p
    simp only [fillL]
    rw [h x (by simp)]
    cases unpack (opd s' x) with
    | none => rfl
    | some vs =>
      simp only []
      split
      · cases putL z off vs with
        | none => rfl
        | some c => exact ih fun y hy => h y (by simp only [List.map_cons, List.mem_cons]; exact .inr hy)
      · rfl
theorem fillR_congr {s s' : Nat → LV} {n : Nat} : ∀ {ps : List (Nat × Opd)} {rows : List (List Cell)}, (∀ x ∈ ps.map (·.2), opd s x = opd s' x) → fillR s n rows ps = fillR s' n rows ps := by
  intro ps
  induction ps with
  | nil => intro z _; rfl
  | cons p ps ih =>
    intro rows h
    obtain ⟨i, x⟩ := p
    simp only [fillR]
    rw [h x (by simp)]
    cases unpack (opd s' x) with
    | none => rfl
    | some vs =>
      simp only []
      cases vs.mapM toCell with
      | none => rfl
      | some row =>
        simp only []
        split
        · exact ih fun y hy => h y (by simp only [List.map_cons, List.mem_cons]; exact .inr hy)
        · rfl
theorem map_congr {s s' : Nat → LV} {xs : List Opd} (h : ∀ x ∈ xs, opd s x = opd s' x) : xs.map (opd s) = xs.map (opd s') := List.map_congr_left h
theorem natOr_congr {s s' : Nat → LV} {n : Nat} {x : Option Opd} (h : ∀ y ∈ x.toList, opd s y = opd s' y) : natOr s n x = natOr s' n x := by
  cases x with
  | none => rfl
  | some y => simp only [natOr]; rw [h y (by simp)]

theorem evR_congr {call : CallF} {d : Nat} {s s' : Nat → LV} {m : Mem} {io : IOp} (h : ∀ x ∈ opdsI io, opd s x = opd s' x) : evR call d ⟨s, m⟩ io = evR call d ⟨s', m⟩ io := by
  cases io <;> simp only [opdsI, List.mem_cons, List.not_mem_nil, or_false, forall_eq_or_imp, forall_eq] at h
  case bd z ps => simp only [evR]; rw [fillL_congr h]
  case bs e n z len ps => simp only [evR]; rw [fillR_congr h]
  case mf f xs => simp only [evR]; rw [map_congr h]
  case sl n x lo hi =>
    simp only [evR]
    congr 1
    unfold sliceV
    have h1 := h.1
    have h2 : ∀ k, natOr s k lo = natOr s' k lo := fun k => natOr_congr fun y hy => h.2 y (List.mem_append_left _ hy)
    have h3 : ∀ k, natOr s k hi = natOr s' k hi := fun k => natOr_congr fun y hy => h.2 y (List.mem_append_right _ hy)
    simp only [h1, h2, h3]
  case s3 x lo hi mx =>
    obtain ⟨h1, h2, h3, h4⟩ := h
    have h5 : natOr s 0 lo = natOr s' 0 lo := natOr_congr h4
    simp only [evR, s3V, h1, h2, h3, h5]
  case ca f xs => simp only [evR]; rw [h.1, map_congr h.2]
  case ln b x => cases b <;> simp only [evR, h]
  all_goals first
    | rfl
    | (simp only [evR, h]; done)
    | (obtain ⟨h1, h2⟩ := h; simp only [evR, h1, h2]; done)
    | (obtain ⟨h1, h2, h3⟩ := h; simp only [evR, h1, h2, h3]; done)

section
variable {m m' : Mem}

theorem loadAt_local (hm : ∀ i, m i ≠ none → m' i = m i) {n : Nat} {g : Bool} {v : LV} (hw : wf m v) : loadAt m' n g v = loadAt m n g v := by
  cases v <;> try rfl
  case bp i off => simp only [loadAt, hm i hw]
  case ep i ch r c => simp only [loadAt, look_ext (hm i hw)]
theorem snap0_local (hm : ∀ i, m i ≠ none → m' i = m i) {v : LV} (hw : wf0 m v) : snap0 m' v = snap0 m v := by
  cases v <;> try rfl
  case rf i ch lo n => simp only [snap0, look_ext (hm i hw)]
theorem mapM_local {f g : LV → Option LV} : ∀ {l : List LV}, (∀ x ∈ l, f x = g x) → l.mapM f = l.mapM g := by
  intro l
  induction l with
  | nil => intro _; rfl
  | cons x xs ih =>
    intro h
    simp only [List.mapM_cons]
    rw [h x (by simp), ih fun y hy => h y (by simp [hy])]
theorem snap1_local (hm : ∀ i, m i ≠ none → m' i = m i) (hb : ∀ i cells, m i = some (.box cells) → ∀ x ∈ cells, wf0 m x) {v : LV} (hw : wf0 m v) : snap1 m' v = snap1 m v := by
  cases v <;> try rfl
  case rf i ch lo n => exact snap0_local hm hw
  case bp i off =>
    simp only [snap1, hm i hw]
    cases hq : m i with
    | none => rfl
    | some t =>
      cases t with
      | box cells =>
        simp only []
        split
        · rw [mapM_local fun x hx => snap0_local hm (hb i cells hq x (List.mem_of_mem_drop hx))]
        · rfl
      | _ => rfl
  case ep i ch r c => simp only [snap1, look_ext (hm i hw)]
theorem snap_local (hm : ∀ i, m i ≠ none → m' i = m i) (hb : ∀ i cells, m i = some (.box cells) → ∀ x ∈ cells, wf0 m x) {v : LV} (hw : wf m v) : snap m' v = snap m v := by
  cases v
  case ag vs => simp only [snap]; rw [mapM_local fun x hx => snap0_local hm (hw x hx)]
  case cl f vs => simp only [snap]; rw [mapM_local fun x hx => snap1_local hm hb (hw x hx)]
  case tu vs => rfl
  all_goals (simp only [wf, wf1] at hw; exact snap1_local hm hb hw)

theorem evR_local {call : CallF} {d : Nat} {s : Nat → LV} {io : IOp} (hm : ∀ i, m i ≠ none → m' i = m i) (hb : ∀ i cells, m i = some (.box cells) → ∀ x ∈ cells, wf0 m x) (h : ∀ x ∈ opdsI io, wf m (opd s x)) (h' : ∀ x ∈ opdsI io, ∀ f caps, opd s x = .cl f caps → ∀ y ∈ caps, wf m y) :
    evR call d ⟨s, m'⟩ io = evR call d ⟨s, m⟩ io := by
  cases io <;> simp only [opdsI, List.mem_cons, List.not_mem_nil, or_false, forall_eq_or_imp, forall_eq] at h <;> try rfl
  case ld n g x => simp only [evR]; rw [loadAt_local hm h]
  case nc x =>
    simp only [evR]
    generalize opd s x = X at *
    cases X <;> try rfl
    case bp i off => simp only [hm i h]
    case ep i ch r c => simp only [look_ext (hm i h)]
  case fa off x =>
    simp only [evR]
    generalize opd s x = X at *
    cases X <;> try rfl
    case bp i q => simp only [hm i h]
    case ep i ch r c => simp only [look_ext (hm i h)]
  case ia n x i =>
    simp only [evR]
    have h1 := h.1
    generalize opd s x = X at *
    generalize opd s i = I at *
    cases X <;> cases I <;> try rfl
    case ro.sc n1 rows v => cases v <;> rfl
    case rf.sc j ch lo k v =>
      cases v <;> try rfl
      simp only [look_ext (hm j h1)]
  case «by» x =>
    simp only [evR]
    generalize opd s x = X at *
    cases X <;> try rfl
    case rf j ch lo k => rw [snap0_local hm (v := .rf j ch lo k) h]
  case ln b x =>
    cases b
    · simp only [evR]
      generalize opd s x = X at *
      cases X <;> try rfl
      case rf j ch lo k => simp only [look_ext (hm j h)]
    · rfl
  case sl n x lo hi =>
    simp only [evR, sliceV]
    have h1 := h.1
    generalize opd s x = X at *
    cases X <;> try rfl
    case sc v => cases v <;> rfl
    case rf j ch lo k => simp only [look_ext (hm j h1)]
  case isn neg x =>
    simp only [evR, isnV]
    generalize opd s x = X at *
    have e : nilV m' X = nilV m X := by
      cases X <;> try rfl
      case rf j ch lo k => simp only [nilV, look_ext (hm j h)]
    rw [e]
  case s3 x lo hi mx =>
    simp only [evR, s3V]
    have h1 := h.1
    generalize opd s x = X at *
    have e : lenV m' X = lenV m X := by
      cases X <;> try rfl
      case rf j ch lo k => simp only [lenV, look_ext (hm j h1)]
    rw [e]
  case ca f xs =>
    simp only [evR]
    have h1 := h' f (by simp [opdsI])
    generalize opd s f = F at *
    cases F <;> try rfl
    case cl g caps =>
      simp only [callR]
      have h2 := h.2
      have hw : ∀ x ∈ xs.map (opd s) ++ caps, wf m x := by
        intro x hx
        simp only [List.mem_append, List.mem_map] at hx
        rcases hx with ⟨y, hy, rfl⟩ | hx
        · exact h2 y hy
        · exact h1 g caps rfl x hx
      rw [mapM_local fun x hx => snap_local hm hb (hw x hx)]
end

section
variable {P : Program} {ov : Ov} {S N : Nat → Prop} {G G0 : Gh} {m : Mem} {st st' : St} {a : Act} {w : World} {nt : Nat} {ops : Array Oper}

/-- no operand but a slot or a plain constant -/
def konst : Opd → Bool
  | .t _ | .k (.sc _) | .k .nl | .k (.cl _ []) => true | _ => false

theorem R_caps {f : Nat} {caps : List LV} {u : Value} (h : R G S m w (.cl f caps) u) (hw : wf m (.cl f caps)) : ∀ y ∈ caps, wf m y := by
  intro y hy
  obtain ⟨cs, _, q⟩ := h
  obtain ⟨k, hk⟩ := List.getElem?_of_mem hy
  obtain ⟨u, _, hu⟩ := q.2 k y hk
  have hw0 := hw y hy
  cases y <;> first | exact hw0 | exact hu.elim

theorem SR.opdw (h : SR ov S N G st a w) {x : Opd} (hk : konst x = true) : wf st.m (Ev.opd st.s x) ∧ ∀ f caps, Ev.opd st.s x = .cl f caps → ∀ y ∈ caps, wf st.m y := by
  cases x with
  | t n =>
    obtain ⟨q1, q2⟩ := h.slot n
    refine ⟨q2, fun f caps e => ?_⟩
    simp only [Ev.opd] at e
    rw [e] at q1 q2
    exact R_caps q1 q2
  | k v =>
    simp only [Ev.opd]
    unfold konst at hk
    split at hk
    · rename_i e; cases e
    · rename_i e; cases e; exact ⟨trivial, fun f caps e => by cases e⟩
    · rename_i e; cases e; exact ⟨trivial, fun f caps e => by cases e⟩
    · rename_i e; cases e; exact ⟨fun x hx => by simp at hx, fun f caps e => by cases e; intro y hy; simp at hy⟩
    · cases hk
theorem SR.boxes (h : SR ov S N G st a w) : ∀ i cells, st.m i = some (.box cells) → ∀ x ∈ cells, wf0 st.m x := by
  intro i cells hi x hx
  obtain ⟨cs, e, _, q⟩ := h.inv.box i cells hi
  obtain ⟨k, hk⟩ := List.getElem?_of_mem hx
  obtain ⟨u, _, hu⟩ := q.2 k x hk
  exact hu.2.2

/-! ### what is added -/
theorem adds_keep : ∀ {l : List (Id × Thing)} {m m' : Mem}, adds m l = some m' → (∀ i, m i ≠ none → m' i = m i) ∧ (∀ i, (∀ x, (i, x) ∉ l) → m' i = m i) ∧ ∀ p ∈ l, m p.1 = none ∧ m' p.1 ≠ none := by
  intro l
  induction l with
  | nil => intro m m' h; cases h; exact ⟨fun _ _ => rfl, fun _ _ => rfl, fun p hp => by simp at hp⟩
  | cons p l ih =>
    intro m m' h
    obtain ⟨j, x⟩ := p
    simp only [adds] at h
    split at h
    case h_2 => cases h
    rename_i hj
    obtain ⟨i1, i2, i3⟩ := ih h
    refine ⟨fun i hi => ?_, fun i hi => ?_, fun p hp => ?_⟩
    · have hne : i ≠ j := fun e => by subst e; exact hi hj
      rw [i1 i (by rw [updM_ne hne]; exact hi), updM_ne hne]
    · have hne : i ≠ j := fun e => by subst e; exact hi x (by simp)
      rw [i2 i (fun y hy => hi y (by simp [hy])), updM_ne hne]
    · simp only [List.mem_cons] at hp
      rcases hp with rfl | hp
      · refine ⟨hj, ?_⟩
        simp only
        rw [i1 j (by rw [updM_eq]; simp), updM_eq]; simp
      · obtain ⟨k1, k2⟩ := i3 p hp
        refine ⟨?_, k2⟩
        by_cases hne : p.1 = j
        · rw [hne]; exact hj
        · rw [updM_ne hne] at k1; exact k1
theorem adds_comm {l l' : List (Id × Thing)} {m m1 m2 : Mem} (h1 : adds m l = some m1) (h2 : adds m1 l' = some m2) : ∃ m1', adds m l' = some m1' ∧ adds m1' l = some m2 := by
  induction l generalizing m m1 m2 with
  | nil => cases h1; exact ⟨m2, h2, rfl⟩
  | cons p l ih =>
    obtain ⟨j, x⟩ := p
    simp only [adds] at h1
    split at h1
    case h_2 => cases h1
    rename_i hj
    obtain ⟨q, k1, k2⟩ := ih h1 h2
    -- l' behind j
    have key : ∀ (l' : List (Id × Thing)) (m q : Mem), m j = none → adds (updM m j (some x)) l' = some q → ∃ q', adds m l' = some q' ∧ q' j = none ∧ updM q' j (some x) = q := by
      intro l'
      induction l' with
      | nil => intro m q hj h; cases h; exact ⟨m, rfl, hj, rfl⟩
      | cons p l' ih' =>
        intro m q hj h
        obtain ⟨i, y⟩ := p
        simp only [adds] at h
        split at h
        case h_2 => cases h
        rename_i hi
        have hne : i ≠ j := fun e => by subst e; rw [updM_eq] at hi; cases hi
        rw [updM_ne hne] at hi
        have hsw : updM (updM m j (some x)) i (some y) = updM (updM m i (some y)) j (some x) := by
          funext t
          by_cases g1 : t = i
          · subst g1; rw [updM_eq, updM_ne hne, updM_eq]
          · by_cases g2 : t = j
            · subst g2; rw [updM_ne g1, updM_eq, updM_eq]
            · rw [updM_ne g1, updM_ne g2, updM_ne g2, updM_ne g1]
        rw [hsw] at h
        obtain ⟨q', g1, g2, g3⟩ := ih' _ q (by rw [updM_ne (Ne.symm hne)]; exact hj) h
        refine ⟨q', ?_, g2, g3⟩
        simp only [adds, hi]
        exact g1
    obtain ⟨q', g1, g2, g3⟩ := key l' m q hj k1
    refine ⟨q', g1, ?_⟩
    simp only [adds, g2, g3]
    exact k2

/-! ### two that may change places -/
def looks (io : OpI) : List Nat := ((opdsI io.op).filterMap fun | .t n => some n | _ => none) ++ (match io.g with | some (t, _) => [t] | none => [])
def rdOk (io : OpI) : Bool := !io.w && !isW io.op && (opdsI io.op).all konst
def swapOk (x y : OpI) : Bool := rdOk x && rdOk y && !(looks y).contains x.d && !(looks x).contains y.d && decide (x.d ≠ y.d)

theorem updS_comm {s : Nat → LV} {d e : Nat} {u v : LV} (h : d ≠ e) : updS (updS s d u) e v = updS (updS s e v) d u := by
  funext t
  simp only [updS]
  by_cases h1 : t = d
  · subst h1; simp [h]
  · simp [h1]

theorem opd_upd {s : Nat → LV} {io : OpI} {d : Nat} {v : LV} (h : d ∉ looks io) : ∀ x ∈ opdsI io.op, opd (updS s d v) x = opd s x := by
  intro x hx
  cases x with
  | k u => rfl
  | t n =>
    have : n ≠ d := fun e => by
      subst e
      exact h (List.mem_append_left _ (List.mem_filterMap.2 ⟨.t n, hx, rfl⟩))
    simp [opd, updS, this]

/-- one that reads alone: what it gives, and what it adds -/
def outR (call : CallF) (io : OpI) (st : St) : Option (LV × List (Id × Thing)) :=
  match io.g with
  | none => evR call io.d st io.op
  | some (t, want) =>
    match st.s t with
    | .sc (.bool b) => if b = want then evR call io.d st io.op else some (.tu [], [])
    | .tu [] => some (.tu [], [])
    | _ => none
theorem evO_out {call : CallF} {io : OpI} (h : rdOk io = true) : evO call io st = match outR call io st with | some (v, l) => (match adds st.m l with | some m' => some ⟨updS st.s io.d v, m'⟩ | none => none) | none => none := by
  simp only [rdOk, Bool.and_eq_true, Bool.not_eq_true'] at h
  obtain ⟨⟨h1, h2⟩, _⟩ := h
  have hd : evD call io st = match evR call io.d st io.op with | some (v, l) => (match adds st.m l with | some m' => some ⟨updS st.s io.d v, m'⟩ | none => none) | none => none := by
    simp only [evD, h1, h2]
    rfl
  have hs : evSkip io st = ⟨updS st.s io.d (.tu []), st.m⟩ := by simp only [evSkip, h1]
  unfold evO outR
  cases io.g with
  | none => exact hd
  | some p =>
    obtain ⟨t, want⟩ := p
    simp only []
    generalize st.s t = X
    cases X <;> try rfl
    case sc v =>
      cases v <;> try rfl
      simp only []
      split
      · exact hd
      · rw [hs]; rfl
    case tu vs =>
      cases vs <;> try rfl
      simp only [hs]
      rfl
theorem outR_same {call : CallF} {io : OpI} {s s' : Nat → LV} {m m' : Mem} (hg : ∀ t ∈ looks io, s t = s' t) (ho : ∀ x ∈ opdsI io.op, opd s x = opd s' x)
    (hl : evR call io.d ⟨s', m⟩ io.op = evR call io.d ⟨s', m'⟩ io.op) : outR call io ⟨s, m⟩ = outR call io ⟨s', m'⟩ := by
  have he : evR call io.d ⟨s, m⟩ io.op = evR call io.d ⟨s', m'⟩ io.op := (evR_congr ho).trans hl
  unfold outR
  cases hgd : io.g with
  | none => exact he
  | some p =>
    obtain ⟨t, want⟩ := p
    simp only []
    rw [hg t (by unfold looks; rw [hgd]; simp), he]

theorem swap (h : SR ov S N G st a w) {call : CallF} {x y : OpI} (hok : swapOk x y = true) {s1 s2 : St} (h1 : evO call x st = some s1) (h2 : evO call y s1 = some s2) : ∃ s1', evO call y st = some s1' ∧ evO call x s1' = some s2 := by
  simp only [swapOk, Bool.and_eq_true, Bool.not_eq_true', decide_eq_true_eq] at hok
  obtain ⟨⟨⟨⟨ox, oy⟩, lxy⟩, lyx⟩, hne⟩ := hok
  have lxy' : x.d ∉ looks y := by simpa using lxy
  have lyx' : y.d ∉ looks x := by simpa using lyx
  have kx : ∀ z ∈ opdsI x.op, konst z = true := by
    simp only [rdOk, Bool.and_eq_true, List.all_eq_true] at ox; exact ox.2
  have ky : ∀ z ∈ opdsI y.op, konst z = true := by
    simp only [rdOk, Bool.and_eq_true, List.all_eq_true] at oy; exact oy.2
  rw [evO_out ox] at h1
  cases hx : outR call x st with
  | none => rw [hx] at h1; cases h1
  | some p =>
    obtain ⟨v, lx⟩ := p
    rw [hx] at h1
    simp only [] at h1
    cases ha : adds st.m lx with
    | none => rw [ha] at h1; cases h1
    | some m1 =>
      rw [ha] at h1
      cases h1
      rw [evO_out oy] at h2
      obtain ⟨am1, am2, am3⟩ := adds_keep ha
      -- y is the same before
      have ey : outR call y ⟨updS st.s x.d v, m1⟩ = outR call y st := by
        refine outR_same (fun t ht => ?_) (opd_upd lxy') ?_
        · have : t ≠ x.d := fun e => by subst e; exact lxy' ht
          simp [updS, this]
        · exact evR_local am1 h.boxes (fun z hz => (h.opdw (ky z hz)).1) (fun z hz => (h.opdw (ky z hz)).2)
      rw [ey] at h2
      cases hy : outR call y st with
      | none => rw [hy] at h2; cases h2
      | some q =>
        obtain ⟨u, ly⟩ := q
        rw [hy] at h2
        simp only [] at h2
        cases hb : adds m1 ly with
        | none => rw [hb] at h2; cases h2
        | some m2 =>
          rw [hb] at h2
          cases h2
          obtain ⟨m1', c1, c2⟩ := adds_comm ha hb
          obtain ⟨bm1, _, _⟩ := adds_keep c1
          have ex : outR call x ⟨updS st.s y.d u, m1'⟩ = outR call x st := by
            refine outR_same (fun t ht => ?_) (opd_upd lyx') ?_
            · have : t ≠ y.d := fun e => by subst e; exact lyx' ht
              simp [updS, this]
            · exact evR_local bm1 h.boxes (fun z hz => (h.opdw (kx z hz)).1) (fun z hz => (h.opdw (kx z hz)).2)
          refine ⟨⟨updS st.s y.d u, m1'⟩, ?_, ?_⟩
          · rw [evO_out oy, hy]; simp only [c1]
          · rw [evO_out ox, ex, hx]; simp only [c2]
            rw [updS_comm hne]
end
end Go.Proofs.YthnkioafikmmaaaDoor.Ev
