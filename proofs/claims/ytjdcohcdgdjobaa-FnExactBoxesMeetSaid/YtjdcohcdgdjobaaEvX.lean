/- At a loop's head: what is kept gets the names that it always has there; all else is forgotten. -/
import Derived.Test.YtjdcohcdgdjobaaEvW
namespace Go.Proofs.Ytjdcohcdgdjobaa.Ev
open Go
set_option linter.unusedVariables false
set_option linter.unusedSimpArgs false

def gathL (f : Nat → Id) : Nat → List LV → List (Id × Id)
  | _, [] => []
  | k, x :: xs => match idOf x with | some i => (i, f k) :: gathL f (k + 1) xs | none => gathL f (k + 1) xs
def gath1 (t : Nat) : LV → List (Id × Id)
  | .ag vs | .cl _ vs => gathL (.ce t) 0 vs
  | v => match idOf v with | some i => [(i, .sl t)] | none => []
def gath (s : Nat → LV) : List Nat → List (Id × Id)
  | [] => []
  | t :: ts => gath1 t (s t) ++ gath s ts
def subI : Id → Nat → Id
  | .sl t, k => .ce t k
  | .ce t k0, k => .ce (t + 1000 * (k0 + 1)) k
  | i, _ => i
def gathM (m : Mem) : List (Id × Id) → List (Id × Id)
  | [] => []
  | (i, j) :: l => (match m i with | some (.box cells) => gathL (subI j) 0 cells | _ => []) ++ gathM m l
def ded : List (Id × Id) → List (Id × Id)
  | [] => []
  | p :: l => p :: (ded l).filter fun q => decide (q.1 ≠ p.1)

def toN (lk : List (Id × Id)) (i : Id) : Option Id :=
  match lk with
  | [] => none
  | p :: l => if p.1 = i then some p.2 else toN l i
def toO (lk : List (Id × Id)) (j : Id) : Option Id :=
  match lk with
  | [] => none
  | p :: l => if p.2 = j then some p.1 else toO l j
def renO (lk : List (Id × Id)) : LV → Option LV
  | .rf i ch lo n => match toN lk i with | some j => some (.rf j ch lo n) | none => none
  | .bp i o => match toN lk i with | some j => some (.bp j o) | none => none
  | .ep i ch r c => match toN lk i with | some j => some (.ep j ch r c) | none => none
  | v => some v
def renL (lk : List (Id × Id)) : List LV → Option (List LV)
  | [] => some []
  | x :: xs => match renO lk x, renL lk xs with | some y, some ys => some (y :: ys) | _, _ => none
def renV (lk : List (Id × Id)) : LV → LV
  | .ag vs => match renL lk vs with | some l => .ag l | none => .un
  | .cl f vs => match renL lk vs with | some l => .cl f l | none => .un
  | .tu [] => .tu []
  | .tu _ => .un
  | v => match renO lk v with | some y => y | none => .un
def renT (lk : List (Id × Id)) : Thing → Option Thing
  | .box cells => match renL lk cells with | some l => some (.box l) | none => none
  | t => some t
def newM (lk : List (Id × Id)) (m : Mem) : Mem := fun j =>
  match toO lk j with
  | some i => (match m i with | some t => renT lk t | none => none)
  | none => none
def thOk (lk : List (Id × Id)) (m : Mem) : List (Id × Id) → Bool
  | [] => true
  | p :: l => (match m p.1 with | some t => (renT lk t).isSome | none => true) && thOk lk m l
def has (l : List Nat) (t : Nat) : Bool := match l with | [] => false | x :: xs => if x = t then true else has xs t

def cleanBy (lk : List (Id × Id)) (keep : List Nat) (st : St) : Option St :=
  if (noDup (lk.map (·.2)) && thOk lk st.m lk) = true then some ⟨fun t => if has keep t = true then renV lk (st.s t) else .un, newM lk st.m⟩ else none
def clean (keep : List Nat) (st : St) : Option St :=
  cleanBy (ded (gath st.s keep ++ gathM st.m (gath st.s keep))) keep st

section
variable {P : Program} {S N : Nat → Prop} {G G0 : Gh} {m : Mem} {st st' : St} {a : Act} {w : World} {nt : Nat} {lk : List (Id × Id)}

theorem toN_mem {i j : Id} : ∀ {lk : List (Id × Id)}, toN lk i = some j → (i, j) ∈ lk := by
  intro lk
  induction lk with
  | nil => intro h; cases h
  | cons p l ih =>
    intro h
    simp only [toN] at h
    split at h
    · rename_i e; cases h; obtain ⟨x, y⟩ := p; simp at e; subst e; simp
    · exact List.mem_cons_of_mem _ (ih h)
theorem toO_mem {i j : Id} : ∀ {lk : List (Id × Id)}, toO lk j = some i → (i, j) ∈ lk := by
  intro lk
  induction lk with
  | nil => intro h; cases h
  | cons p l ih =>
    intro h
    simp only [toO] at h
    split at h
    · rename_i e; cases h; obtain ⟨x, y⟩ := p; simp at e; subst e; simp
    · exact List.mem_cons_of_mem _ (ih h)
theorem noDup_nodup : ∀ {l : List Id}, noDup l = true → l.Nodup := by
  intro l
  induction l with
  | nil => intro _; simp
  | cons x xs ih =>
    intro h
    simp only [noDup, Bool.and_eq_true, List.all_eq_true, decide_eq_true_eq] at h
    rw [List.nodup_cons]
    exact ⟨fun hm => h.1 x hm rfl, ih h.2⟩
theorem toO_of {i j : Id} : ∀ {lk : List (Id × Id)}, (lk.map (·.2)).Nodup → (i, j) ∈ lk → toO lk j = some i := by
  intro lk
  induction lk with
  | nil => intro _ h; simp at h
  | cons p l ih =>
    intro hn hm
    simp only [List.map_cons, List.nodup_cons, List.mem_map, not_exists, not_and] at hn
    simp only [toO]
    rcases List.mem_cons.1 hm with rfl | hm'
    · simp
    · rw [if_neg (fun e => hn.1 (i, j) hm' e.symm)]
      exact ih hn.2 hm'

theorem ded_nodup : ∀ (l : List (Id × Id)), ((ded l).map (·.1)).Nodup := by
  intro l
  induction l with
  | nil => simp [ded]
  | cons p l ih =>
    simp only [ded, List.map_cons, List.nodup_cons, List.mem_map, List.mem_filter, decide_eq_true_eq]
    refine ⟨fun ⟨q, hq, e⟩ => hq.2 e, ?_⟩
    exact List.Nodup.sublist (List.Sublist.map _ List.filter_sublist) ih

theorem thOk_get : ∀ {l : List (Id × Id)}, thOk lk m l = true → ∀ p ∈ l, ∀ t, m p.1 = some t → (renT lk t).isSome = true := by
  intro l
  induction l with
  | nil => intro _ p hp; simp at hp
  | cons q l ih =>
    intro h p hp t ht
    simp only [thOk, Bool.and_eq_true] at h
    rcases List.mem_cons.1 hp with rfl | hp
    · have := h.1; rw [ht] at this; exact this
    · exact ih h.2 p hp t ht
theorem has_mem {l : List Nat} {t : Nat} : has l t = true → t ∈ l := by
  induction l with
  | nil => intro h; cases h
  | cons x xs ih =>
    intro h
    simp only [has] at h
    split at h
    · rename_i e; subst e; simp
    · exact List.mem_cons_of_mem _ (ih h)

def newGh (lk : List (Id × Id)) (G : Gh) : Gh where
  blk j := match toO lk j with | some i => G.blk i | none => 0
  cap j := match toO lk j with | some i => G.cap i | none => 0
  cblk j := match toO lk j with | some i => G.cblk i | none => fun _ _ => 0
  ccap j := match toO lk j with | some i => G.ccap i | none => fun _ _ => 0

theorem renL_get : ∀ {vs ys : List LV}, renL lk vs = some ys → ys.length = vs.length ∧ ∀ (k : Nat) (y : LV), ys[k]? = some y → ∃ x, vs[k]? = some x ∧ renO lk x = some y := by
  intro vs
  induction vs with
  | nil => intro ys h; cases h; exact ⟨rfl, fun k y hk => by simp at hk⟩
  | cons v vs ih =>
    intro ys h
    simp only [renL] at h
    split at h
    · rename_i y ys' h1 h2
      cases h
      obtain ⟨i1, i2⟩ := ih h2
      refine ⟨by simp [i1], fun k z hk => ?_⟩
      cases k with
      | zero => simp at hk; subst hk; exact ⟨v, by simp, h1⟩
      | succ k => simpa using i2 k z (by simpa using hk)
    · cases h

theorem fst_unique {i j j' : Id} : ∀ {lk : List (Id × Id)}, (lk.map (·.1)).Nodup → (i, j) ∈ lk → (i, j') ∈ lk → j = j' := by
  intro lk
  induction lk with
  | nil => intro _ h; simp at h
  | cons p l ih =>
    intro hn h1 h2
    simp only [List.map_cons, List.nodup_cons, List.mem_map, not_exists, not_and] at hn
    rcases List.mem_cons.1 h1 with e1 | h1 <;> rcases List.mem_cons.1 h2 with e2 | h2
    · rw [← e1] at e2; cases e2; rfl
    · exact absurd (by rw [← e1]) (hn.1 (i, j') h2)
    · exact absurd (by rw [← e2]) (hn.1 (i, j) h1)
    · exact ih hn.2 h1 h2
theorem OwC.named {G' : Gh} {i j : Id} {r c : Nat} {x : Cell} {v : Value} (h : OwC G S w i r c x v) (h1 : G'.cblk j = G.cblk i) (h2 : G'.ccap j = G.ccap i) : OwC G' S w j r c x v := by
  cases x with
  | un => trivial
  | sc u => exact h
  | nl => exact h
  | sl o e n rows =>
    cases o with
    | false => exact h
    | true => obtain ⟨k1, k2⟩ := h; exact ⟨by rw [h1, h2]; exact k1, by rw [h1, h2]; exact k2⟩

theorem clean_SA (h : SA nt S N G st a w) (hd1 : (lk.map (·.1)).Nodup) {keep : List Nat} (hc : cleanBy lk keep st = some st') : ∃ G', SA nt S N G' st' a w := by
  unfold cleanBy at hc
  split at hc
  case isFalse => cases hc
  rename_i hcond
  simp only [Bool.and_eq_true] at hcond
  obtain ⟨hnd, hth⟩ := hcond
  have hd2 := noDup_nodup hnd
  cases hc
  have look_new : ∀ i j ch, (i, j) ∈ lk → look (newM lk st.m) j ch = look st.m i ch := by
    intro i j ch hij
    have hO := toO_of hd2 hij
    unfold look newM
    simp only [hO]
    cases hm : st.m i with
    | none => rfl
    | some t =>
      cases t with
      | box cells =>
        simp only [renT]
        cases renL lk cells <;> rfl
      | arr e n rows => rfl
      | dead => rfl
  have gh_new : ∀ i j, (i, j) ∈ lk → (newGh lk G).blk j = G.blk i ∧ (newGh lk G).cap j = G.cap i ∧ (newGh lk G).cblk j = G.cblk i ∧ (newGh lk G).ccap j = G.ccap i := by
    intro i j hij
    have hO := toO_of hd2 hij
    simp only [newGh, hO, and_self]
  have blk_new : ∀ i j ch, (i, j) ∈ lk → (newGh lk G).blkOf j ch = G.blkOf i ch ∧ (newGh lk G).capOf j ch = G.capOf i ch := by
    intro i j ch hij
    obtain ⟨g1, g2, g3, g4⟩ := gh_new i j hij
    cases ch with
    | none => exact ⟨g1, g2⟩
    | some rc => exact ⟨by simp only [Gh.blkOf, g3], by simp only [Gh.capOf, g4]⟩
  have ne_new : ∀ i j, (i, j) ∈ lk → st.m i ≠ none → newM lk st.m j ≠ none := by
    intro i j hij hi
    have hO := toO_of hd2 hij
    unfold newM
    simp only [hO]
    cases hm : st.m i with
    | none => exact absurd hm hi
    | some t =>
      have := thOk_get hth (i, j) hij t hm
      simp only []
      intro e; rw [e] at this; cases this
  have r0 : ∀ x y u, R0 G S st.m w x u → wf0 st.m x → renO lk x = some y → R0 (newGh lk G) S (newM lk st.m) w y u ∧ wf0 (newM lk st.m) y := by
    intro x y u hx hw hy
    cases x <;> simp only [renO] at hy <;> try (cases hy; exact ⟨hx, trivial⟩)
    case rf i ch lo n =>
      split at hy
      case h_2 => cases hy
      rename_i j hj
      cases hy
      have hm := toN_mem hj
      simp only [R0] at hx ⊢
      rw [look_new i j ch hm, (blk_new i j ch hm).1, (blk_new i j ch hm).2]
      exact ⟨hx, ne_new i j hm hw⟩
    case bp i off =>
      split at hy
      case h_2 => cases hy
      rename_i j hj
      cases hy
      have hm := toN_mem hj
      refine ⟨?_, ne_new i j hm hw⟩
      have one := R0_one hx (by simp)
      simp only [R0]
      split
      · rename_i c' hc'
        unfold newM at hc'
        simp only [toO_of hd2 hm] at hc'
        cases hmi : st.m i with
        | none => rw [hmi] at hc'; cases hc'
        | some t =>
          rw [hmi] at hc'
          cases t with
          | box cells =>
            simp only [R0, hmi] at hx
            rw [(gh_new i j hm).1]; exact hx
          | arr e n rows => simp only [renT] at hc'; cases hc'
          | dead => simp only [renT] at hc'; cases hc'
      · exact one
    case ep i ch r c =>
      split at hy
      case h_2 => cases hy
      rename_i j hj
      cases hy
      have hm := toN_mem hj
      simp only [R0] at hx ⊢
      rw [look_new i j ch hm, (blk_new i j ch hm).1]
      exact ⟨hx, ne_new i j hm hw⟩
  have rl : ∀ vs ys cs, RL (R0 G S st.m w) vs cs → (∀ x ∈ vs, wf0 st.m x) → renL lk vs = some ys → RL (R0 (newGh lk G) S (newM lk st.m) w) ys cs ∧ ∀ y ∈ ys, wf0 (newM lk st.m) y := by
    intro vs ys cs hr hw hy
    obtain ⟨g1, g2⟩ := renL_get hy
    refine ⟨⟨by rw [hr.1, g1], fun k y hk => ?_⟩, fun y hy' => ?_⟩
    · obtain ⟨x, hx, hxy⟩ := g2 k y hk
      obtain ⟨u, u1, u2⟩ := hr.2 k x hx
      exact ⟨u, u1, (r0 x y u u2 (hw x (List.mem_of_getElem? hx)) hxy).1⟩
    · obtain ⟨k, hk⟩ := List.getElem?_of_mem hy'
      obtain ⟨x, hx, hxy⟩ := g2 k y hk
      obtain ⟨u, u1, u2⟩ := hr.2 k x hx
      exact (r0 x y u u2 (hw x (List.mem_of_getElem? hx)) hxy).2
  have rv : ∀ x u, R G S st.m w x u → wf st.m x → R (newGh lk G) S (newM lk st.m) w (renV lk x) u ∧ wf (newM lk st.m) (renV lk x) := by
    intro x u hx hw
    cases x
    case ag vs =>
      simp only [renV]
      split
      · rename_i l hl
        obtain ⟨cs, rfl, q⟩ := hx
        obtain ⟨k1, k2⟩ := rl vs l cs q hw hl
        exact ⟨⟨cs, rfl, k1⟩, k2⟩
      · exact ⟨trivial, trivial⟩
    case cl f vs =>
      simp only [renV]
      split
      · rename_i l hl
        obtain ⟨cs, rfl, q⟩ := hx
        obtain ⟨k1, k2⟩ := rl vs l cs q hw hl
        exact ⟨⟨cs, rfl, k1⟩, k2⟩
      · exact ⟨trivial, trivial⟩
    case tu vs =>
      cases vs with
      | nil =>
        obtain ⟨cs, rfl, q1, q2⟩ := hx
        exact ⟨⟨cs, rfl, q1, fun k x hk => by simp at hk⟩, fun x hx => by simp at hx⟩
      | cons _ _ => exact ⟨trivial, trivial⟩
    all_goals
      simp only [R, R1] at hx
      simp only [wf, wf1] at hw
      simp only [renV]
      split
      · rename_i y hy
        obtain ⟨k1, k2⟩ := r0 _ y u hx hw hy
        have hfl := R0_notag k1
        cases y <;> first | exact ⟨k1, k2⟩ | exact hfl.elim | exact k1.elim
      · exact ⟨trivial, trivial⟩
  have lv : ∀ p, live (newM lk st.m) p → ∃ q, live st.m q ∧ (newGh lk G).at p = G.at q ∧ ((∃ i j, (i, j) ∈ lk ∧ p = .root j ∧ q = .root i) ∨ ∃ i j r c, (i, j) ∈ lk ∧ p = .chld j r c ∧ q = .chld i r c) := by
    intro p hp
    cases p with
    | root j =>
      have hne : newM lk st.m j ≠ none := by rcases hp with ⟨_, q⟩ | ⟨_, _, _, q⟩ <;> rw [q] <;> simp
      cases hO : toO lk j with
      | none => unfold newM at hne; simp [hO] at hne
      | some i =>
        have hij := toO_mem hO
        refine ⟨.root i, ?_, (gh_new i j hij).1, .inl ⟨i, j, hij, rfl, rfl⟩⟩
        rcases hp with ⟨c, q⟩ | ⟨e, n, rows, q⟩
        · unfold newM at q
          simp only [hO] at q
          cases hm : st.m i with
          | none => rw [hm] at q; cases q
          | some t =>
            rw [hm] at q
            cases t with
            | box cells => exact .inl ⟨cells, hm⟩
            | arr e n rows => exact .inr ⟨e, n, rows, hm⟩
            | dead => simp only [renT] at q; cases q
        · unfold newM at q
          simp only [hO] at q
          cases hm : st.m i with
          | none => rw [hm] at q; cases q
          | some t =>
            rw [hm] at q
            cases t with
            | box cells => exact .inl ⟨cells, hm⟩
            | arr e n rows => exact .inr ⟨e, n, rows, hm⟩
            | dead => simp only [renT] at q; cases q
    | chld j r c =>
      obtain ⟨e, n, rows, row, e', n', l, q1, q2, q3⟩ := hp
      cases hO : toO lk j with
      | none => unfold newM at q1; simp [hO] at q1
      | some i =>
        have hij := toO_mem hO
        have hm : st.m i = some (.arr e n rows) := by
          unfold newM at q1
          simp only [hO] at q1
          cases hm : st.m i with
          | none => rw [hm] at q1; cases q1
          | some t =>
            rw [hm] at q1
            cases t with
            | box cells => simp only [renT] at q1; split at q1 <;> cases q1
            | arr e n rows => simp only [renT] at q1; cases q1; rfl
            | dead => simp only [renT] at q1; cases q1
        exact ⟨.chld i r c, ⟨e, n, rows, row, e', n', l, hm, q2, q3⟩, by simp only [Gh.at, (gh_new i j hij).2.2.1], .inr ⟨i, j, r, c, hij, rfl, rfl⟩⟩
  have olds : ∀ {i j j'}, (i, j) ∈ lk → (i, j') ∈ lk → j = j' := by
    intro i j j' h1 h2
    exact fst_unique hd1 h1 h2
  refine ⟨newGh lk G, ⟨⟨⟨fun j e n rows hj => ?_, fun j cells hj => ?_, fun p q hp hq he => ?_, fun p hp => ?_, h.inv.old⟩, fun t => ?_, h.df, h.new⟩, h.size⟩⟩
  · cases hO : toO lk j with
    | none => unfold newM at hj; simp [hO] at hj
    | some i =>
      have hij := toO_mem hO
      have hm : st.m i = some (.arr e n rows) := by
        unfold newM at hj
        simp only [hO] at hj
        cases hm : st.m i with
        | none => rw [hm] at hj; cases hj
        | some t =>
          rw [hm] at hj
          cases t with
          | box cells => simp only [renT] at hj; split at hj <;> cases hj
          | arr e n rows => simp only [renT] at hj; cases hj; rfl
          | dead => simp only [renT] at hj; cases hj
      obtain ⟨g1, g2, g3, g4⟩ := gh_new i j hij
      rw [g1, g2]
      exact OwG.mono (h.inv.arr i e n rows hm) rfl fun r c row x u _ _ ho => OwC.named ho g3 g4
  · cases hO : toO lk j with
    | none => unfold newM at hj; simp [hO] at hj
    | some i =>
      have hij := toO_mem hO
      unfold newM at hj
      simp only [hO] at hj
      cases hm : st.m i with
      | none => rw [hm] at hj; cases hj
      | some t =>
        rw [hm] at hj
        cases t with
        | arr e n rows => simp only [renT] at hj; cases hj
        | dead => simp only [renT] at hj; cases hj
        | box old =>
          simp only [renT] at hj
          split at hj
          case h_2 => cases hj
          rename_i l hl
          cases hj
          obtain ⟨cs, e, k1, k2⟩ := h.inv.box i old hm
          obtain ⟨g1, g2⟩ := renL_get hl
          refine ⟨cs, e, by rw [(gh_new i j hij).1]; exact k1, by rw [k2.1, g1], fun k y hk => ?_⟩
          obtain ⟨x, hx, hxy⟩ := g2 k y hk
          obtain ⟨u, u1, u2, u3, u4⟩ := k2.2 k x hx
          obtain ⟨q1, q2⟩ := r0 x y u u2 u4 hxy
          refine ⟨u, u1, q1, ?_, q2⟩
          cases x <;> simp only [renO] at hxy <;> first | (cases hxy; exact u3) | (split at hxy <;> cases hxy; rfl)
  · obtain ⟨p', p1, p2, p3⟩ := lv p hp
    obtain ⟨q', q1, q2, q3⟩ := lv q hq
    have := h.inv.inj p' q' p1 q1 (by rw [← p2, ← q2, he])
    subst this
    rcases p3 with ⟨i, j, h1, rfl, rfl⟩ | ⟨i, j, r, c, h1, rfl, rfl⟩ <;> rcases q3 with ⟨i', j', h2, rfl, e⟩ | ⟨i', j', r', c', h2, rfl, e⟩ <;> cases e
    · rw [olds h1 h2]
    · rw [olds h1 h2]
  · obtain ⟨p', p1, p2, _⟩ := lv p hp
    rw [p2]
    exact h.inv.sep p' p1
  · obtain ⟨q1, q2⟩ := h.slot t
    simp only []
    split
    · exact rv _ _ q1 q2
    · exact ⟨trivial, trivial⟩
end
end Go.Proofs.Ytjdcohcdgdjobaa.Ev
