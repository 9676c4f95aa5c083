/- Calls that are lent slices: what they write into them comes back. -/
import Derived.Test.YthnkioafikmmaaaDoorEvX
namespace Go.Proofs.YthnkioafikmmaaaDoor.Ev
open Go
set_option linter.unusedVariables false
set_option linter.unusedSimpArgs false

def mk0 (k : Nat) : Id := .pr 0 k
theorem mk0_inj : ∀ a b, mk0 a = mk0 b → a = b := fun a b h => by cases h; rfl

/-- what a call hands back beside what it was lent: one plain value, or nothing -/
def isRV : LV → Bool
  | .sc _ | .tu [] => true | _ => false
def voidR : LV → Value → Prop
  | .sc u, v => ScR u v | .tu [], v => v = .tuple #[] | _, _ => False
theorem voidR_R {G : Gh} {S : Nat → Prop} {m : Mem} {w : World} {r : LV} {v : Value} (h : voidR r v) : R G S m w r v ∧ wf m r := by
  cases r with
  | sc u => exact ⟨h, trivial⟩
  | tu vs =>
    cases vs with
    | nil => subst h; exact ⟨⟨#[], rfl, rfl, fun k x hk => by simp at hk⟩, fun x hx => by simp at hx⟩
    | cons _ _ => exact h.elim
  | _ => exact h.elim
/-! what is lent, and the functions behind it -/
def noClB : LV → Bool
  | .cl _ _ => false | _ => true
def preA : List LV → List LV
  | [] => []
  | x :: xs => if noClB x = true then x :: preA xs else []
def postA : List LV → List LV
  | [] => []
  | x :: xs => if noClB x = true then postA xs else x :: xs
theorem pre_post : ∀ l : List LV, preA l ++ postA l = l := by
  intro l
  induction l with
  | nil => rfl
  | cons x xs ih =>
    unfold preA postA
    split
    · simp [ih]
    · rfl
theorem preA_noCl : ∀ {l : List LV} {x : LV}, x ∈ preA l → noClB x = true := by
  intro l
  induction l with
  | nil => intro x h; simp [preA] at h
  | cons y ys ih =>
    intro x h
    unfold preA at h
    split at h
    · rcases List.mem_cons.1 h with rfl | h
      · assumption
      · exact ih h
    · simp at h
theorem partsT_app : ∀ {a b : List LV} {k : Nat}, partsT k (a ++ b) = partsT k a ++ partsT (k + 100 * a.length) b := by
  intro a
  induction a with
  | nil => intro b k; simp [partsT]
  | cons x xs ih =>
    intro b k
    simp only [List.cons_append, partsT, ih, List.append_assoc, List.length_cons]
    rw [show k + 100 + 100 * xs.length = k + 100 * (xs.length + 1) from by omega]
theorem travT_app {f : Nat → LV → LV} : ∀ {a b : List LV} {k : Nat}, travT f k (a ++ b) = travT f k a ++ travT f (k + 100 * a.length) b := by
  intro a
  induction a with
  | nil => intro b k; simp [travT]
  | cons x xs ih =>
    intro b k
    simp only [List.cons_append, travT, ih, List.length_cons]
    rw [show k + 100 + 100 * xs.length = k + 100 * (xs.length + 1) from by omega]
theorem partsT_pre {l : List LV} {p : Nat × LV} (h : p ∈ partsT 0 (preA l)) : p ∈ partsT 0 l := by
  rw [← pre_post l, partsT_app]
  exact List.mem_append_left _ h

/-- what a call does that is lent slices -/
def ContractW (T : Tab) (P : Program) (f : Nat) (ys : List LV) (r : LV) (ys' : List LV) : Prop :=
  ∀ (S N : Nat → Prop) (w : World) (vals : Array Value) (G : Gh) (m0 : Mem), adds noMem (openV mk0 (.tu ys)).2 = some m0 → Inv S N G m0 w → R G S m0 w (openV mk0 (.tu ys)).1 (.tuple vals) → wf m0 (openV mk0 (.tu ys)).1 → (∀ b, w.heap.size ≤ b → N b) → (∀ b, S b → ¬ N b) → Tb T N w →
    Calls P f vals w fun e w' => ∃ v, e = .returned v ∧ voidR r v ∧ FrN N w w' ∧ ∃ G' m', adds noMem (openV mk0 (.tu ys')).2 = some m' ∧ Inv S N G' m' w' ∧
      ∀ k e n rows, (k, LV.ow e n rows) ∈ parts (.tu ys') → G'.blk (mk0 k) = G.blk (mk0 k) ∧ G'.cap (mk0 k) = G.cap (mk0 k)

/-- the first of some values without its first rows -/
def cutA : Nat → List LV → List LV
  | 0, l => l
  | lo + 1, .rf i ch a n :: xs => .rf i ch (a + (lo + 1)) (n - (lo + 1)) :: xs
  | _ + 1, l => l
theorem cutA_zero (l : List LV) : cutA 0 l = l := by cases l <;> rfl
theorem cutA_len (lo : Nat) (l : List LV) : (cutA lo l).length = l.length := by
  cases lo with
  | zero => rw [cutA_zero]
  | succ lo =>
    cases l with
    | nil => rfl
    | cons x xs => cases x <;> rfl
theorem cutA_wf {m : Mem} {lo : Nat} {l : List LV} (h : ∀ x ∈ l, wf1 m x) : ∀ x ∈ cutA lo l, wf1 m x := by
  cases lo with
  | zero => rw [cutA_zero]; exact h
  | succ lo =>
    cases l with
    | nil => exact h
    | cons x xs =>
      cases x <;> try exact h
      rename_i i ch a n
      intro y hy
      rcases List.mem_cons.1 hy with rfl | hy
      · exact h (.rf i ch a n) (by simp)
      · exact h y (by simp [hy])
/-- what a call does that is lent a slice without its first rows: it hands the whole back -/
def ContractV (T : Tab) (P : Program) (f lo : Nat) (ys : List LV) (r : LV) (ys' : List LV) : Prop :=
  ∀ (S N : Nat → Prop) (w : World) (vals vals0 : Array Value) (G : Gh) (m0 : Mem) (as : List LV), (openV mk0 (.tu ys)).1 = .tu as → adds noMem (openV mk0 (.tu ys)).2 = some m0 → Inv S N G m0 w → R G S m0 w (.tu as) (.tuple vals0) → wf m0 (.tu as) → RL (R1 G S m0 w) (cutA lo as) vals → (∀ b, w.heap.size ≤ b → N b) → (∀ b, S b → ¬ N b) → Tb T N w →
    Calls P f vals w fun e w' => ∃ v, e = .returned v ∧ voidR r v ∧ FrN N w w' ∧ ∃ G' m', adds noMem (openV mk0 (.tu ys')).2 = some m' ∧ Inv S N G' m' w' ∧
      ∀ k e n rows, (k, LV.ow e n rows) ∈ parts (.tu ys') → G'.blk (mk0 k) = G.blk (mk0 k) ∧ G'.cap (mk0 k) = G.cap (mk0 k)
theorem ContractV.w {T : Tab} {P : Program} {f : Nat} {ys ys' : List LV} {r : LV} (h : ContractV T P f 0 ys r ys') : ContractW T P f ys r ys' := by
  intro S N w vals G m0 ha hinv hR hW h1 h2 h3
  obtain ⟨as, has⟩ : ∃ as, (openV mk0 (.tu ys)).1 = .tu as := ⟨_, rfl⟩
  rw [has] at hR hW
  obtain ⟨cs, e, q⟩ := hR
  cases e
  exact h S N w vals vals G m0 as has ha hinv ⟨_, rfl, q⟩ hW (by rw [cutA_zero]; exact q) h1 h2 h3

def rootL : List (Nat × LV) → List Id
  | [] => []
  | (_, .rf i none _ _) :: l => i :: rootL l
  | _ :: l => rootL l
def fgtSt : List Id → St → St
  | [], st => st
  | i :: l, st => fgtSt l ⟨fun t => fgt2 i (st.s t), fgtM i st.m⟩

def back1 (m : Mem) (x y : LV) : Option Mem :=
  match x with
  | .rf i none _ _ =>
    (match y, m i with
    | .ow e n rows, some (.arr e0 n0 rows0) => if e0 = e ∧ n0 = n ∧ rows0.length = rows.length then some (updM m i (some (.arr e n rows))) else none
    | _, _ => none)
  | .rf i (some (r, c)) _ _ =>
    (match y, m i with
    | .ow e n rows, some (.arr e0 n0 rows0) =>
      match rows0[r]?, low rows with
      | some row, some rv =>
        match row[c]? with
        | some (.sl true e1 n1 rv0) => if e1 = e ∧ n1 = n ∧ rv0.length = rv.length then some (updM m i (some (.arr e0 n0 (rows0.set r (row.set c (.sl true e n rv)))))) else none
        | _ => none
      | _, _ => none
    | _, _ => none)
  | _ => some m
def backs : List (Nat × LV) → List (Nat × LV) → Mem → Option Mem
  | [], [], m => some m
  | (k, x) :: l, (k', y) :: l', m => if k = k' then (match back1 m x y with | some m1 => backs l l' m1 | none => none) else none
  | _, _, _ => none

section
variable {P : Program} {ov : Ov} {S N N' : Nat → Prop} {G G0 G' : Gh} {m m' m1 : Mem} {st : St} {a : Act} {w w' : World}

/-- what is behind the handing back -/
def BkAt (m m1 : Mem) (x y : LV) : Prop :=
  (∀ i lo n, x = .rf i none lo n → ∃ e n0 rows0 rows, y = .ow e n0 rows ∧ m i = some (.arr e n0 rows0) ∧ rows.length = rows0.length ∧ m1 i = some (.arr e n0 rows)) ∧
  (∀ i r c lo n, x = .rf i (some (r, c)) lo n → ∃ e0 n0 rows0 row e n1 rv0 rv, y = .ow e n1 (lift rv) ∧ m i = some (.arr e0 n0 rows0) ∧ rows0[r]? = some row ∧ row[c]? = some (.sl true e n1 rv0) ∧ rv.length = rv0.length ∧ m1 i = some (.arr e0 n0 (rows0.set r (row.set c (.sl true e n1 rv)))))

theorem back1_spec {x y : LV} (h : back1 m x y = some m1) : (∀ i, rootOf (0, x) ≠ some i → m1 i = m i) ∧ BkAt m m1 x y := by
  have triv : m1 = m → (∀ i ch lo n, x ≠ .rf i ch lo n) → (∀ i, rootOf (0, x) ≠ some i → m1 i = m i) ∧ BkAt m m1 x y := fun e hx => ⟨fun i _ => by rw [e], ⟨fun i lo n q => absurd q (hx _ _ _ _), fun i r c lo n q => absurd q (hx _ _ _ _)⟩⟩
  cases x
  case rf i ch lo n =>
    cases ch with
    | none =>
      simp only [back1] at h
      split at h
      case h_2 => cases h
      rename_i e n1 rows e0 n0 rows0 hm
      split at h
      case isFalse => cases h
      rename_i hc
      obtain ⟨rfl, rfl, hl⟩ := hc
      cases h
      refine ⟨fun j hj => updM_ne (fun q => hj (by simp [rootOf, q])), ⟨fun j lo n q => ?_, fun j r c lo n q => (by cases q)⟩⟩
      cases q
      exact ⟨_, _, _, _, rfl, hm, hl.symm, updM_eq⟩
    | some rc =>
      obtain ⟨r, c⟩ := rc
      simp only [back1] at h
      split at h
      case h_2 => cases h
      rename_i e n1 rows e0 n0 rows0 hm
      split at h
      case h_2 => cases h
      rename_i row rv h1 h2
      split at h
      case h_2 => cases h
      rename_i e1 n2 rv0 h3
      split at h
      case isFalse => cases h
      rename_i hc
      obtain ⟨rfl, rfl, hl⟩ := hc
      cases h
      refine ⟨fun j hj => updM_ne (fun q => hj (by simp [rootOf, q])), ⟨fun j lo n q => (by cases q), fun j r c lo n q => ?_⟩⟩
      cases q
      exact ⟨_, _, _, _, _, _, _, _, by rw [← low_get h2], hm, h1, h3, hl.symm, updM_eq⟩
  all_goals
    simp only [back1] at h
    cases h
    exact triv rfl (fun _ _ _ _ q => by cases q)

theorem backs_spec : ∀ {l l' : List (Nat × LV)} {m m1 : Mem}, backs l l' m = some m1 → noDup (l.filterMap rootOf) = true →
    (∀ i, (∀ p ∈ l, rootOf p ≠ some i) → m1 i = m i) ∧ ∀ k x, (k, x) ∈ l → ∃ y, (k, y) ∈ l' ∧ BkAt m m1 x y := by
  intro l
  induction l with
  | nil =>
    intro l' m m1 h _
    cases l' with
    | nil => cases h; exact ⟨fun _ _ => rfl, fun k x hx => by simp at hx⟩
    | cons p l' => cases h
  | cons p l ih =>
    intro l' m m1 h hd
    obtain ⟨k, x⟩ := p
    cases l' with
    | nil => cases h
    | cons p' l' =>
      obtain ⟨k', y⟩ := p'
      simp only [backs] at h
      split at h
      case isFalse => cases h
      rename_i hk
      subst hk
      split at h
      case h_2 => cases h
      rename_i m2 h2
      obtain ⟨b1, b2⟩ := back1_spec h2
      have hd2 : noDup (l.filterMap rootOf) = true ∧ ∀ i, rootOf (k, x) = some i → ∀ p ∈ l, rootOf p ≠ some i := by
        rw [List.filterMap_cons] at hd
        cases hr : rootOf (k, x) with
        | none => rw [hr] at hd; exact ⟨hd, fun i hi => by cases hi⟩
        | some j =>
          rw [hr] at hd
          simp only [noDup, Bool.and_eq_true, List.all_eq_true, decide_eq_true_eq] at hd
          refine ⟨hd.2, fun i hi p hp hpi => ?_⟩
          cases hi
          exact hd.1 _ (List.mem_filterMap.2 ⟨p, hp, hpi⟩) rfl
      obtain ⟨i1, i2⟩ := ih h hd2.1
      have hroot : ∀ k2, rootOf (k2, x) = rootOf (k, x) := fun k2 => by cases x <;> rfl
      have hne : ∀ k2 z, (k2, z) ∈ l → ∀ i ch lo n, z = .rf i ch lo n → m2 i = m i := by
        intro k2 z hz i ch lo n e
        refine b1 i fun q => ?_
        rw [hroot] at q
        exact hd2.2 i q (k2, z) hz (by rw [e]; rfl)
      refine ⟨fun i hi => ?_, fun k2 z hz => ?_⟩
      · rw [i1 i (fun p hp => hi p (by simp [hp]))]
        exact b1 i (by rw [hroot]; exact hi (k, x) (by simp))
      · rcases List.mem_cons.1 hz with hz | hz
        · cases hz
          refine ⟨y, by simp, ⟨fun i lo n e => ?_, fun i r c lo n e => ?_⟩⟩
          · obtain ⟨e1, n1, r0, r1, q1, q2, q3, q4⟩ := b2.1 i lo n e
            refine ⟨e1, n1, r0, r1, q1, q2, q3, ?_⟩
            rw [i1 i (fun p hp => hd2.2 i (by rw [e]; rfl) p hp)]; exact q4
          · obtain ⟨e0, n0, r0, row, e1, n1, v0, v1, q1, q2, q3, q4, q5, q6⟩ := b2.2 i r c lo n e
            refine ⟨e0, n0, r0, row, e1, n1, v0, v1, q1, q2, q3, q4, q5, ?_⟩
            rw [i1 i (fun p hp => hd2.2 i (by rw [e]; rfl) p hp)]; exact q6
        · obtain ⟨y2, y1, y3⟩ := i2 k2 z hz
          refine ⟨y2, by simp [y1], ⟨fun i lo n e => ?_, fun i r c lo n e => ?_⟩⟩
          · have := y3.1 i lo n e
            rw [hne k2 z hz i _ _ _ e] at this; exact this
          · have := y3.2 i r c lo n e
            rw [hne k2 z hz i _ _ _ e] at this; exact this

theorem rootL_mem {i : Id} {k lo n : Nat} : ∀ {ps : List (Nat × LV)}, (k, LV.rf i none lo n) ∈ ps → i ∈ rootL ps := by
  intro ps
  induction ps with
  | nil => intro h; simp at h
  | cons p ps ih =>
    intro h
    rcases List.mem_cons.1 h with rfl | h
    · simp [rootL]
    · have := ih h
      unfold rootL
      split
      · simp_all
      · rename_i q; cases q; exact List.mem_cons_of_mem _ this
      · rename_i q; cases q; exact this

open Classical in
noncomputable def backG (G G' : Gh) (ps : List (Nat × LV)) : Gh :=
  { G with
    cblk := fun j => if h : ∃ k lo n, (k, LV.rf j none lo n) ∈ ps then G'.cblk (mk0 (Classical.choose h)) else G.cblk j
    ccap := fun j => if h : ∃ k lo n, (k, LV.rf j none lo n) ∈ ps then G'.ccap (mk0 (Classical.choose h)) else G.ccap j }

theorem back_Inv {ps ps' : List (Nat × LV)} (h : Inv S N G m w) (hps : noDup (ps.filterMap rootOf) = true) (hkeys : (ps.map (·.1)).Nodup)
    (hlo : ∀ k i ch lo n, (k, LV.rf i ch lo n) ∈ ps → lo = 0)
    (hbox : ∀ j cells, m j = some (.box cells) → ∀ y ∈ cells, ∀ i ∈ rootL ps, ledTo y ≠ some i)
    (hN1 : ∀ p, live m p → ¬ lentP ps p → ¬ N' (G.at p)) (hNS : ∀ b, S b → ¬ N' b) (hNN : ∀ b, N' b → N b)
    (fr : FrN N' w w') (inv' : Inv S N' G' m' w') (hm' : ∀ k e n rows, (k, LV.ow e n rows) ∈ ps' → m' (mk0 k) = some (.arr e n rows))
    (hG' : ∀ k i ch n, (k, LV.rf i ch 0 n) ∈ ps → G'.blk (mk0 k) = G.blkOf i ch ∧ G'.cap (mk0 k) = G.capOf i ch)
    (hb : backs ps ps' m = some m1) :
    ∃ G1, Inv S N G1 m1 w' ∧ (∀ y u, R0 G S m w y u → (∀ i ∈ rootL ps, ledTo y ≠ some i) → R0 G1 S m1 w' y u) ∧ (∀ k, m k ≠ none → m1 k ≠ none) := by
  obtain ⟨b1, b2⟩ := backs_spec hb hps
  -- a root is handed over once
  have uniq : ∀ {j k k' ch ch' lo lo' n n'}, (k, LV.rf j ch lo n) ∈ ps → (k', LV.rf j ch' lo' n') ∈ ps → k = k' ∧ ch = ch' := by
    intro j k k' ch ch' lo lo' n n' h1 h2
    obtain ⟨x, hx⟩ := List.getElem?_of_mem h1
    obtain ⟨y, hy⟩ := List.getElem?_of_mem h2
    have := noDup_get hps x y _ _ hx hy j rfl rfl
    subst this
    rw [hx] at hy
    cases hy
    exact ⟨rfl, rfl⟩
  have keyU : ∀ {k x y}, (k, x) ∈ ps → (k, y) ∈ ps → x = y := fun {k x y} h1 h2 => key_unique hkeys h1 h2
  have hGA : ∀ {j k lo n}, (k, LV.rf j none lo n) ∈ ps → (backG G G' ps).cblk j = G'.cblk (mk0 k) ∧ (backG G G' ps).ccap j = G'.ccap (mk0 k) := by
    intro j k lo n hp
    have hex : ∃ k lo n, (k, LV.rf j none lo n) ∈ ps := ⟨k, lo, n, hp⟩
    have e : Classical.choose hex = k := by
      obtain ⟨lo', n', hq⟩ := Classical.choose_spec hex
      exact (uniq hq hp).1
    simp only [backG, dif_pos hex, e, and_self]
  have hGC : ∀ {j}, (∀ k lo n, (k, LV.rf j none lo n) ∉ ps) → (backG G G' ps).cblk j = G.cblk j ∧ (backG G G' ps).ccap j = G.ccap j := by
    intro j hn
    have hex : ¬ ∃ k lo n, (k, LV.rf j none lo n) ∈ ps := fun ⟨k, lo, n, q⟩ => hn k lo n q
    simp only [backG, dif_neg hex, and_self]
  have fA : ∀ {j k lo n}, (k, LV.rf j none lo n) ∈ ps → ∃ e n0 rows0 rows, m j = some (.arr e n0 rows0) ∧ rows.length = rows0.length ∧ m1 j = some (.arr e n0 rows) ∧ m' (mk0 k) = some (.arr e n0 rows) ∧ G'.blk (mk0 k) = G.blk j ∧ G'.cap (mk0 k) = G.cap j := by
    intro j k lo n hp
    obtain ⟨y, hy, q, _⟩ := b2 _ _ hp
    obtain ⟨e, n0, rows0, rows, rfl, q2, q3, q4⟩ := q j lo n rfl
    have hl := hlo _ _ _ _ _ hp
    subst hl
    exact ⟨e, n0, rows0, rows, q2, q3, q4, hm' _ _ _ _ hy, hG' _ _ _ _ hp⟩
  have fB : ∀ {j k r c lo n}, (k, LV.rf j (some (r, c)) lo n) ∈ ps → ∃ e0 n0 rows0 row e n1 rv0 rv, m j = some (.arr e0 n0 rows0) ∧ rows0[r]? = some row ∧ row[c]? = some (.sl true e n1 rv0) ∧ rv.length = rv0.length ∧
      m1 j = some (.arr e0 n0 (rows0.set r (row.set c (.sl true e n1 rv)))) ∧ m' (mk0 k) = some (.arr e n1 (lift rv)) ∧ G'.blk (mk0 k) = G.cblk j r c ∧ G'.cap (mk0 k) = G.ccap j r c := by
    intro j k r c lo n hp
    obtain ⟨y, hy, _, q⟩ := b2 _ _ hp
    obtain ⟨e0, n0, rows0, row, e, n1, rv0, rv, rfl, q2, q3, q4, q5, q6⟩ := q j r c lo n rfl
    have hl := hlo _ _ _ _ _ hp
    subst hl
    exact ⟨e0, n0, rows0, row, e, n1, rv0, rv, q2, q3, q4, q5, q6, hm' _ _ _ _ hy, hG' _ _ _ _ hp⟩
  have kind : ∀ j, (∃ k lo n, (k, LV.rf j none lo n) ∈ ps) ∨ (∃ k r c lo n, (k, LV.rf j (some (r, c)) lo n) ∈ ps) ∨ (∀ k ch lo n, (k, LV.rf j ch lo n) ∉ ps) := by
    intro j
    by_cases hA : ∃ k lo n, (k, LV.rf j none lo n) ∈ ps
    · exact .inl hA
    by_cases hB : ∃ k r c lo n, (k, LV.rf j (some (r, c)) lo n) ∈ ps
    · exact .inr (.inl hB)
    refine .inr (.inr fun k ch lo n q => ?_)
    cases ch with
    | none => exact hA ⟨k, lo, n, q⟩
    | some rc => exact hB ⟨k, rc.1, rc.2, lo, n, q⟩
  have fC : ∀ {j}, (∀ k ch lo n, (k, LV.rf j ch lo n) ∉ ps) → m1 j = m j := by
    intro j hn
    refine b1 j fun p hp e => ?_
    obtain ⟨k, x⟩ := p
    cases x <;> simp only [rootOf] at e <;> cases e
    exact hn _ _ _ _ hp
  have nlC : ∀ {j}, (∀ k ch lo n, (k, LV.rf j ch lo n) ∉ ps) → ¬ lentP ps (.root j) ∧ ∀ r c, ¬ lentP ps (.chld j r c) := by
    intro j hn
    refine ⟨?_, fun r c => ?_⟩
    · rintro ⟨k, i, ch, n, hp, ⟨rfl, e⟩ | ⟨_, _, rfl, e⟩ | ⟨_, _, rfl, e⟩⟩ <;> cases e
      exact hn _ _ _ _ hp
    · rintro ⟨k, i, ch, n, hp, ⟨rfl, e⟩ | ⟨_, _, rfl, e⟩ | ⟨_, _, rfl, e⟩⟩ <;> cases e <;> exact hn _ _ _ _ hp
  have nlB : ∀ {j k r c lo n}, (k, LV.rf j (some (r, c)) lo n) ∈ ps → ¬ lentP ps (.root j) ∧ ∀ r' c', ¬ (r' = r ∧ c' = c) → ¬ lentP ps (.chld j r' c') := by
    intro j k r c lo n hj
    refine ⟨?_, fun r' c' hrc => ?_⟩
    · rintro ⟨k2, i, ch, n2, hp, ⟨rfl, e⟩ | ⟨_, _, rfl, e⟩ | ⟨_, _, rfl, e⟩⟩ <;> cases e
      have := (uniq hp hj).2; cases this
    · rintro ⟨k2, i, ch, n2, hp, ⟨rfl, e⟩ | ⟨_, _, rfl, e⟩ | ⟨_, _, rfl, e⟩⟩ <;> cases e
      · have := (uniq hp hj).2
        cases this
        exact hrc ⟨rfl, rfl⟩
      · have := (uniq hp hj).2; cases this
  have hS : ∀ b, S b → w'.heap[b]? = w.heap[b]? := fun b hb => fr.block b (h.old b hb) (hNS b hb)
  have hsame : ∀ p, live m p → ¬ lentP ps p → w'.heap[G.at p]? = w.heap[G.at p]? := fun p hp hn => fr.block _ (h.lt hp) (hN1 p hp hn)
  -- new pieces and old ones
  have tau : ∀ p, live m1 p → (∃ p', live m' p' ∧ (backG G G' ps).at p = G'.at p' ∧ ∃ k j, (∃ lo n, (k, LV.rf j none lo n) ∈ ps ∧ ((p = .root j ∧ p' = .root (mk0 k)) ∨ ∃ r c, p = .chld j r c ∧ p' = .chld (mk0 k) r c)) ∨
        ∃ r c lo n, (k, LV.rf j (some (r, c)) lo n) ∈ ps ∧ p = .chld j r c ∧ p' = .root (mk0 k)) ∨
      (live m p ∧ (backG G G' ps).at p = G.at p ∧ ¬ lentP ps p) := by
    intro p hp
    cases p with
    | root j =>
      rcases kind j with ⟨k, lo, n, hj⟩ | ⟨k, r, c, lo, n, hj⟩ | hj
      · obtain ⟨e, n0, rows0, rows, q1, q2, q3, q4, q5, q6⟩ := fA hj
        exact .inl ⟨.root (mk0 k), .inr ⟨_, _, _, q4⟩, q5.symm, k, j, .inl ⟨lo, n, hj, .inl ⟨rfl, rfl⟩⟩⟩
      · obtain ⟨e0, n0, rows0, row, e, n1, rv0, rv, q1, _⟩ := fB hj
        exact .inr ⟨.inr ⟨_, _, _, q1⟩, rfl, (nlB hj).1⟩
      · refine .inr ⟨?_, rfl, (nlC hj).1⟩
        have e := fC hj
        simp only [live, e] at hp
        exact hp
    | chld j r' c' =>
      rcases kind j with ⟨k, lo, n, hj⟩ | ⟨k, r, c, lo, n, hj⟩ | hj
      · obtain ⟨e, n0, rows0, rows, q1, q2, q3, q4, q5, q6⟩ := fA hj
        refine .inl ⟨.chld (mk0 k) r' c', ?_, ?_, k, j, .inl ⟨lo, n, hj, .inr ⟨r', c', rfl, rfl⟩⟩⟩
        · obtain ⟨a1, a2, a3, a4, a5, a6, a7, z1, z2, z3⟩ := hp
          rw [q3] at z1
          cases z1
          exact ⟨_, _, _, _, _, _, _, q4, z2, z3⟩
        · simp only [Gh.at, (hGA hj).1]
      · obtain ⟨e0, n0, rows0, row, e, n1, rv0, rv, q1, q2, q3, q4, q5, q6, q7, q8⟩ := fB hj
        have hno : ∀ k lo n, (k, LV.rf j none lo n) ∉ ps := fun k' lo' n' q => by have := (uniq q hj).2; cases this
        by_cases hrc : r' = r ∧ c' = c
        · obtain ⟨rfl, rfl⟩ := hrc
          refine .inl ⟨.root (mk0 k), .inr ⟨_, _, _, q6⟩, ?_, k, j, .inr ⟨r', c', lo, n, hj, rfl, rfl⟩⟩
          simp only [Gh.at, (hGC hno).1, q7]
        · refine .inr ⟨?_, by simp only [Gh.at, (hGC hno).1], (nlB hj).2 r' c' hrc⟩
          obtain ⟨a1, a2, a3, a4, a5, a6, a7, z1, z2, z3⟩ := hp
          rw [q5] at z1
          cases z1
          rw [List.getElem?_set] at z2
          split at z2
          · rename_i hr
            subst hr
            split at z2
            case isFalse => cases z2
            cases z2
            rw [List.getElem?_set] at z3
            split at z3
            · rename_i hcc; exact absurd ⟨rfl, hcc.symm⟩ hrc
            · exact ⟨_, _, _, _, _, _, _, q1, q2, z3⟩
          · exact ⟨_, _, _, _, _, _, _, q1, z2, z3⟩
      · have e := fC hj
        have hno : ∀ k lo n, (k, LV.rf j none lo n) ∉ ps := fun k lo n => hj k none lo n
        refine .inr ⟨?_, by simp only [Gh.at, (hGC hno).1], (nlC hj).2 r' c'⟩
        simp only [live, e] at hp
        exact hp
  have nosep : ∀ p p', live m p → ¬ lentP ps p → live m' p' → G.at p ≠ G'.at p' := fun p p' h1 h2 h3 e => hN1 p h1 h2 (by rw [e]; exact (inv'.sep p' h3).2)
  have r0 : ∀ y u, R0 G S m w y u → (∀ i ∈ rootL ps, ledTo y ≠ some i) → R0 (backG G G' ps) S m1 w' y u := by
    intro y u hy hled
    cases y <;> try exact hy
    case ro st rows => exact RdG.mono hy (fun _ _ q => RdC.mono q (fun _ h => h) hS) (fun _ h => h) hS
    case rp vs =>
      obtain ⟨a, rfl, q⟩ := hy
      refine ⟨a, rfl, fun k x hk => ?_⟩
      obtain ⟨h1, u, h2, h3⟩ := q k x hk
      refine ⟨h1, u, ?_, h3.mono (fun _ h => h) hS⟩
      have e : (a.add k).block = a.block := by unfold Addr.add; split <;> rfl
      rw [cell_same (hS _ (by rw [e]; exact h1)), h2]
    case rf j ch lo n =>
      have one := R0_one hy (by simp)
      simp only [R0] at hy ⊢
      rcases kind j with ⟨k, lo', n', hj⟩ | ⟨k, r, c, lo', n', hj⟩ | hj
      · obtain ⟨e, n0, rows0, rows, q1, q2, q3, q4, q5, q6⟩ := fA hj
        cases ch with
        | none => rw [look_none q1] at hy; rw [look_none q3]; exact hy
        | some rc => exact absurd rfl (hled j (rootL_mem hj))
      · obtain ⟨e0, n0, rows0, row, e, n1, rv0, rv, q1, q2, q3, q4, q5, q6, q7, q8⟩ := fB hj
        have hno : ∀ k lo n, (k, LV.rf j none lo n) ∉ ps := fun k' lo' n' q => by have := (uniq q hj).2; cases this
        cases ch with
        | none => rw [look_none q1] at hy; rw [look_none q5]; exact hy
        | some rc =>
          obtain ⟨r', c'⟩ := rc
          have hr : r < rows0.length := (List.getElem?_eq_some_iff.1 q2).1
          have hc : c < row.length := (List.getElem?_eq_some_iff.1 q3).1
          by_cases hrc : r' = r ∧ c' = c
          · obtain ⟨rfl, rfl⟩ := hrc
            rw [look_some q1 q2 q3] at hy
            rw [look_some q5 (row := row.set c' (.sl true e n1 rv)) (List.getElem?_set_self hr) (List.getElem?_set_self hc)]
            simp only [Gh.capOf, Gh.blkOf, (hGC hno).1, (hGC hno).2] at hy ⊢
            exact hy
          · have el : look m1 j (some (r', c')) = look m j (some (r', c')) := by
              have ez : ((rows0.set r (row.set c (.sl true e n1 rv)))[r']?).bind (·[c']?) = (rows0[r']?).bind (·[c']?) := by
                by_cases hrr : r' = r
                · have hcc : c ≠ c' := fun e => hrc ⟨hrr, e.symm⟩
                  rw [hrr, List.getElem?_set_self hr, q2]
                  exact List.getElem?_set_ne hcc
                · rw [List.getElem?_set_ne (Ne.symm hrr)]
              simp only [look, q1, q5, ez]
            rw [el]
            simp only [Gh.capOf, Gh.blkOf, (hGC hno).1, (hGC hno).2] at hy ⊢
            exact hy
      · have hno : ∀ k lo n, (k, LV.rf j none lo n) ∉ ps := fun k lo n => hj k none lo n
        rw [look_ext (fC hj)]
        cases ch with
        | none => exact hy
        | some rc =>
          simp only [Gh.capOf, Gh.blkOf, (hGC hno).1, (hGC hno).2] at hy ⊢
          exact hy
    case ep j ch r' c' =>
      have one := R0_one hy (by simp)
      simp only [R0] at hy ⊢
      rcases kind j with ⟨k, lo', n', hj⟩ | ⟨k, r, c, lo', n', hj⟩ | hj
      · obtain ⟨e, n0, rows0, rows, q1, q2, q3, q4, q5, q6⟩ := fA hj
        cases ch with
        | none => rw [look_none q1] at hy; rw [look_none q3]; exact hy
        | some rc => exact absurd rfl (hled j (rootL_mem hj))
      · obtain ⟨e0, n0, rows0, row, e, n1, rv0, rv, q1, q2, q3, q4, q5, q6, q7, q8⟩ := fB hj
        have hno : ∀ k lo n, (k, LV.rf j none lo n) ∉ ps := fun k' lo' n' q => by have := (uniq q hj).2; cases this
        cases ch with
        | none => rw [look_none q1] at hy; rw [look_none q5]; exact hy
        | some rc =>
          obtain ⟨r2, c2⟩ := rc
          have hr : r < rows0.length := (List.getElem?_eq_some_iff.1 q2).1
          have hc : c < row.length := (List.getElem?_eq_some_iff.1 q3).1
          by_cases hrc : r2 = r ∧ c2 = c
          · obtain ⟨rfl, rfl⟩ := hrc
            rw [look_some q1 q2 q3] at hy
            rw [look_some q5 (row := row.set c2 (.sl true e n1 rv)) (List.getElem?_set_self hr) (List.getElem?_set_self hc)]
            simp only [Gh.blkOf, (hGC hno).1] at hy ⊢
            exact hy
          · have el : look m1 j (some (r2, c2)) = look m j (some (r2, c2)) := by
              have ez : ((rows0.set r (row.set c (.sl true e n1 rv)))[r2]?).bind (·[c2]?) = (rows0[r2]?).bind (·[c2]?) := by
                by_cases hrr : r2 = r
                · have hcc : c ≠ c2 := fun e => hrc ⟨hrr, e.symm⟩
                  rw [hrr, List.getElem?_set_self hr, q2]
                  exact List.getElem?_set_ne hcc
                · rw [List.getElem?_set_ne (Ne.symm hrr)]
              simp only [look, q1, q5, ez]
            rw [el]
            simp only [Gh.blkOf, (hGC hno).1] at hy ⊢
            exact hy
      · have hno : ∀ k lo n, (k, LV.rf j none lo n) ∉ ps := fun k lo n => hj k none lo n
        rw [look_ext (fC hj)]
        cases ch with
        | none => exact hy
        | some rc =>
          simp only [Gh.blkOf, (hGC hno).1] at hy ⊢
          exact hy
    case bp j off =>
      have one := R0_one hy (by simp)
      simp only [R0] at hy ⊢
      rcases kind j with ⟨k, lo', n', hj⟩ | ⟨k, r, c, lo', n', hj⟩ | hj
      · obtain ⟨e, n0, rows0, rows, q1, q2, q3, q4, q5, q6⟩ := fA hj
        rw [q3]; exact one
      · obtain ⟨e0, n0, rows0, row, e, n1, rv0, rv, q1, q2, q3, q4, q5, q6, q7, q8⟩ := fB hj
        rw [q5]; exact one
      · rw [fC hj]; exact hy
  refine ⟨backG G G' ps, ⟨fun j e n rows hj => ?_, fun j cells hj => ?_, fun p q hp hq he => ?_, fun p hp => ?_, fun b hb => Nat.lt_of_lt_of_le (h.old b hb) fr.size⟩, r0, fun j hj => ?_⟩
  · rcases kind j with ⟨k, lo, n', hk⟩ | ⟨k, r, c, lo, n', hk⟩ | hk
    · obtain ⟨e', n0, rows0, rows', q1, q2, q3, q4, q5, q6⟩ := fA hk
      rw [q3] at hj
      cases hj
      have := inv'.arr _ _ _ _ q4
      rw [q5, q6] at this
      exact OwG.mono this rfl fun r c row x u _ _ ho => OwC.named ho (hGA hk).1 (hGA hk).2
    · obtain ⟨e0, n0, rows0, row, e1, n1, rv0, rv, q1, q2, q3, q4, q5, q6, q7, q8⟩ := fB hk
      have hno : ∀ k lo n, (k, LV.rf j none lo n) ∉ ps := fun k' lo' n' q => by have := (uniq q hk).2; cases this
      rw [q5] at hj
      cases hj
      have hr : r < rows0.length := (List.getElem?_eq_some_iff.1 q2).1
      have hc : c < row.length := (List.getElem?_eq_some_iff.1 q3).1
      obtain ⟨cs, k1, k2, k3, k4, k5⟩ := h.arr j _ _ rows0 q1
      have hold : ∀ r' c' row' x u, rows0[r']? = some row' → row'[c']? = some x → ¬ (r' = r ∧ c' = c) → OwC G S w j r' c' x u → OwC (backG G G' ps) S w' j r' c' x u := by
        intro r' c' row' x u hr' hc' hrc ho
        refine OwC.mono ho ⟨by rw [(hGC hno).1], by rw [(hGC hno).2]⟩ hS fun e' st rows' hx => ?_
        subst hx
        exact hsame (.chld j r' c') ⟨_, _, _, _, _, _, _, q1, hr', hc'⟩ ((nlB hk).2 r' c' hrc)
      refine ⟨cs, (hsame (.root j) (.inr ⟨_, _, _, q1⟩) (nlB hk).1).trans k1, k2, by rw [List.length_set]; exact k3, k4, fun r' row' hr' => ?_⟩
      rw [List.getElem?_set] at hr'
      split at hr'
      · rename_i hrr
        subst hrr
        cases hr'
        obtain ⟨g1, g2⟩ := k5 r row q2
        refine ⟨by rw [List.length_set]; exact g1, fun q x hx => ?_⟩
        rw [List.getElem?_set] at hx
        split at hx
        · rename_i hcc
          subst hcc
          cases hx
          obtain ⟨u, u1, u2, u3⟩ := g2 c _ q3
          refine ⟨u, u1, ?_, ?_⟩
          · simp only [(hGC hno).1, (hGC hno).2, q4]; exact u2
          · have := inv'.arr _ _ _ _ q6
            rw [q7, q8] at this
            simp only [(hGC hno).1, (hGC hno).2]
            obtain ⟨ds, d1, d2, d3, d4, d5⟩ := this
            refine ⟨ds, d1, d2, by rw [lift_length] at d3; exact d3, d4, fun r2 vrow hr2 => ?_⟩
            obtain ⟨f1, f2⟩ := d5 r2 (vrow.map Cell.sc) (by simp [lift, hr2])
            refine ⟨by simpa using f1, fun k2 v hv => ?_⟩
            obtain ⟨u5, u6, u7⟩ := f2 k2 (.sc v) (by simp [hv])
            exact ⟨u5, u6, u7⟩
        · rename_i hcc
          obtain ⟨u, u1, u2⟩ := g2 q x hx
          exact ⟨u, u1, hold r q row x u q2 hx (fun z => hcc z.2.symm) u2⟩
      · rename_i hrr
        obtain ⟨g1, g2⟩ := k5 r' row' hr'
        refine ⟨g1, fun q x hx => ?_⟩
        obtain ⟨u, u1, u2⟩ := g2 q x hx
        exact ⟨u, u1, hold r' q row' x u hr' hx (fun z => hrr z.1.symm) u2⟩
    · have e1 := fC hk
      rw [e1] at hj
      have hno : ∀ k lo n, (k, LV.rf j none lo n) ∉ ps := fun k lo n => hk k none lo n
      refine OwG.mono (h.arr j e n rows hj) (hsame (.root j) (.inr ⟨_, _, _, hj⟩) (nlC hk).1) fun r c row x u hr hc ho => ?_
      refine OwC.mono ho ⟨by rw [(hGC hno).1], by rw [(hGC hno).2]⟩ hS fun e' st rows' hx => ?_
      subst hx
      exact hsame (.chld j r c) ⟨_, _, _, _, _, _, _, hj, hr, hc⟩ ((nlC hk).2 r c)
  · rcases kind j with ⟨k, lo, n', hk⟩ | ⟨k, r, c, lo, n', hk⟩ | hk
    · obtain ⟨e', n0, rows0, rows', q1, q2, q3, q4, q5, q6⟩ := fA hk
      rw [q3] at hj; cases hj
    · obtain ⟨e0, n0, rows0, row, e1, n1, rv0, rv, q1, q2, q3, q4, q5, q6, q7, q8⟩ := fB hk
      rw [q5] at hj; cases hj
    · rw [fC hk] at hj
      obtain ⟨cs, e, k1, k2⟩ := h.box j cells hj
      refine ⟨cs, e, (hsame (.root j) (.inl ⟨_, hj⟩) (nlC hk).1).trans k1, k2.mono fun y u hy hx => ⟨r0 y u hx.1 (hbox j cells hj y hy), hx.2.1, ?_⟩⟩
      refine wf0.ext (fun i hi => ?_) hx.2.2
      rcases kind i with ⟨k, lo, n', hk⟩ | ⟨k, r, c, lo, n', hk⟩ | hk
      · obtain ⟨_, _, _, _, _, _, q3, _⟩ := fA hk
        rw [q3]; simp
      · obtain ⟨_, _, _, _, _, _, _, _, _, _, _, _, q5, _⟩ := fB hk
        rw [q5]; simp
      · rw [fC hk]; exact hi
  · rcases tau p hp with ⟨p', p1, p2, k, j, p3⟩ | ⟨p1, p2, p3⟩ <;> rcases tau q hq with ⟨q', q1, q2, k', j', q3⟩ | ⟨q1, q2, q3⟩
    · have e := inv'.inj p' q' p1 q1 (by rw [← p2, ← q2, he])
      subst e
      rcases p3 with ⟨lo, n, a1, ⟨rfl, rfl⟩ | ⟨r, c, rfl, rfl⟩⟩ | ⟨r, c, lo, n, a1, rfl, rfl⟩ <;> rcases q3 with ⟨lo', n', a1', ⟨rfl, a3'⟩ | ⟨r', c', rfl, a3'⟩⟩ | ⟨r', c', lo', n', a1', rfl, a3'⟩ <;> cases a3' <;> have := keyU a1 a1' <;> cases this <;> rfl
    · exact absurd (by rw [← p2, ← q2, he]) (nosep q p' q1 q3 p1)
    · exact absurd (by rw [← p2, ← q2, he]) (nosep p q' p1 p3 q1)
    · exact h.inj p q p1 q1 (by rw [← p2, ← q2, he])
  · rcases tau p hp with ⟨p', p1, p2, k, j, p3⟩ | ⟨p1, p2, p3⟩
    · rw [p2]; obtain ⟨z1, z2⟩ := inv'.sep p' p1; exact ⟨z1, hNN _ z2⟩
    · rw [p2]; exact h.sep p p1
  · rcases kind j with ⟨k, lo, n', hk⟩ | ⟨k, r, c, lo, n', hk⟩ | hk
    · obtain ⟨_, _, _, _, _, _, q3, _⟩ := fA hk
      rw [q3]; simp
    · obtain ⟨_, _, _, _, _, _, _, _, _, _, _, _, q5, _⟩ := fB hk
      rw [q5]; simp
    · rw [fC hk]; exact hj
end
end Go.Proofs.YthnkioafikmmaaaDoor.Ev

namespace Go.Proofs.YthnkioafikmmaaaDoor.Ev
open Go
set_option linter.unusedVariables false
set_option linter.unusedSimpArgs false

def fgl0 : List Id → LV → LV
  | [], y => y
  | i :: l, y => fgl0 l (fgt0 i y)
def fgl1 (l : List Id) : LV → LV
  | .ag vs => .ag (vs.map (fgl0 l))
  | .cl f vs => .cl f (vs.map (fgl0 l))
  | v => fgl0 l v
def fgl2 (l : List Id) : LV → LV
  | .tu vs => .tu (vs.map (fgl1 l))
  | v => fgl1 l v
def fgtMs : List Id → Mem → Mem
  | [], m => m
  | i :: l, m => fgtMs l (fgtM i m)

section
variable {P : Program} {ov : Ov} {S N N' : Nat → Prop} {G G0 G' : Gh} {m m' m1 : Mem} {st st' : St} {a : Act} {w w' : World}

theorem fgl0_un : ∀ l, fgl0 l .un = .un := by
  intro l; induction l with
  | nil => rfl
  | cons i l ih => exact ih
theorem fgl0_cases : ∀ (l : List Id) (y : LV), fgl0 l y = y ∧ (∀ i ∈ l, ledTo y ≠ some i) ∨ fgl0 l y = .un := by
  intro l
  induction l with
  | nil => intro y; exact .inl ⟨rfl, fun i hi => by simp at hi⟩
  | cons i l ih =>
    intro y
    simp only [fgl0]
    rcases fgt0_led (i := i) y with ⟨e1, e2⟩ | e1
    · rw [e1]
      rcases ih y with ⟨h1, h2⟩ | h1
      · refine .inl ⟨h1, fun j hj => ?_⟩
        rcases List.mem_cons.1 hj with rfl | hj
        · exact e2
        · exact h2 j hj
      · exact .inr h1
    · rw [e1]; exact .inr (fgl0_un l)
theorem fgtMs_facts : ∀ (l : List Id) {m : Mem}, (∀ k, m k ≠ none → fgtMs l m k ≠ none) ∧ (∀ k e n rows, fgtMs l m k = some (.arr e n rows) ↔ m k = some (.arr e n rows)) ∧
    (∀ k cells, fgtMs l m k = some (.box cells) → m k = some (.box cells) ∧ ∀ y ∈ cells, ∀ i ∈ l, ledTo y ≠ some i) := by
  intro l
  induction l with
  | nil => intro m; exact ⟨fun _ h => h, fun _ _ _ _ => Iff.rfl, fun k cells h => ⟨h, fun y _ i hi => by simp at hi⟩⟩
  | cons i l ih =>
    intro m
    obtain ⟨h1, h2, h3⟩ := ih (m := fgtM i m)
    refine ⟨fun k hk => h1 k (fgtM_ne hk), fun k e n rows => (h2 k e n rows).trans fgtM_arr, fun k cells hk => ?_⟩
    obtain ⟨q1, q2⟩ := h3 k cells hk
    obtain ⟨p1, p2⟩ := fgtM_box q1
    refine ⟨p1, fun y hy j hj => ?_⟩
    rcases List.mem_cons.1 hj with rfl | hj
    · exact p2 y hy
    · exact q2 y hy j hj
theorem fgtMs_R0 : ∀ (l : List Id) {m : Mem} {y : LV} {u : Value}, R0 G S m w y u → R0 G S (fgtMs l m) w y u := by
  intro l
  induction l with
  | nil => intro m y u h; exact h
  | cons i l ih => intro m y u h; exact ih (fgtM_R0 h)
theorem fgtMs_Inv : ∀ (l : List Id) {m : Mem}, Inv S N G m w → Inv S N G (fgtMs l m) w := by
  intro l
  induction l with
  | nil => intro m h; exact h
  | cons i l ih => intro m h; exact ih (fgtM_Inv h)

theorem fgl_R1 {l : List Id} (h0 : ∀ y u, R0 G S m w y u → wf0 m y → (∀ i ∈ l, ledTo y ≠ some i) → R0 G' S m' w' y u) {y : LV} {u : Value} (hx : R1 G S m w y u) (hw : wf1 m y) : R1 G' S m' w' (fgl1 l y) u := by
  have h1 : ∀ y u, R0 G S m w y u → wf0 m y → R0 G' S m' w' (fgl0 l y) u := by
    intro y u hy hw
    rcases fgl0_cases l y with ⟨e1, e2⟩ | e1
    · rw [e1]; exact h0 y u hy hw e2
    · rw [e1]; trivial
  cases y
  case ag vs => obtain ⟨cs, rfl, q⟩ := hx; exact ⟨cs, rfl, RL_map q fun z hz v hv => h1 z v hv (hw z hz)⟩
  case cl f vs => obtain ⟨cs, rfl, q⟩ := hx; exact ⟨cs, rfl, RL_map q fun z hz v hv => h1 z v hv (hw z hz)⟩
  case tu vs => exact hx.elim
  case ow e n rows => exact hx.elim
  case un =>
    have q := h1 .un u hx trivial
    rcases fgl0_cases l .un with ⟨e1, _⟩ | e1 <;> simp only [fgl1] <;> rw [e1] at q ⊢ <;> exact q
  case sc v =>
    have q := h1 (.sc v) u hx trivial
    rcases fgl0_cases l (.sc v) with ⟨e1, _⟩ | e1 <;> simp only [fgl1] <;> rw [e1] at q ⊢ <;> exact q
  case nl =>
    have q := h1 .nl u hx trivial
    rcases fgl0_cases l .nl with ⟨e1, _⟩ | e1 <;> simp only [fgl1] <;> rw [e1] at q ⊢ <;> exact q
  case ro n rows =>
    have q := h1 (.ro n rows) u hx trivial
    rcases fgl0_cases l (.ro n rows) with ⟨e1, _⟩ | e1 <;> simp only [fgl1] <;> rw [e1] at q ⊢ <;> exact q
  case rf i ch lo n =>
    have q := h1 (.rf i ch lo n) u hx hw
    rcases fgl0_cases l (.rf i ch lo n) with ⟨e1, _⟩ | e1 <;> simp only [fgl1] <;> rw [e1] at q ⊢ <;> exact q
  case bp i off =>
    have q := h1 (.bp i off) u hx hw
    rcases fgl0_cases l (.bp i off) with ⟨e1, _⟩ | e1 <;> simp only [fgl1] <;> rw [e1] at q ⊢ <;> exact q
  case ep i ch r c =>
    have q := h1 (.ep i ch r c) u hx hw
    rcases fgl0_cases l (.ep i ch r c) with ⟨e1, _⟩ | e1 <;> simp only [fgl1] <;> rw [e1] at q ⊢ <;> exact q
  case rp vs =>
    have q := h1 (.rp vs) u hx trivial
    rcases fgl0_cases l (.rp vs) with ⟨e1, _⟩ | e1 <;> simp only [fgl1] <;> rw [e1] at q ⊢ <;> exact q
theorem fgl_R {l : List Id} (h0 : ∀ y u, R0 G S m w y u → wf0 m y → (∀ i ∈ l, ledTo y ≠ some i) → R0 G' S m' w' y u) {y : LV} {u : Value} (hx : R G S m w y u) (hw : wf m y) : R G' S m' w' (fgl2 l y) u := by
  cases y
  case tu vs => obtain ⟨cs, rfl, q⟩ := hx; exact ⟨cs, rfl, RL_map q fun z hz v hv => fgl_R1 h0 hv (hw z hz)⟩
  case ow e n rows => exact hx.elim
  case ag vs => exact fgl_R1 h0 (y := .ag vs) hx hw
  case cl f vs => exact fgl_R1 h0 (y := .cl f vs) hx hw
  case un =>
    have q := fgl_R1 (u := u) h0 (y := .un) hx trivial
    rcases fgl0_cases l .un with ⟨e1, _⟩ | e1 <;> simp only [fgl2, fgl1] at q ⊢ <;> rw [e1] at q ⊢ <;> exact q
  case sc v =>
    have q := fgl_R1 (u := u) h0 (y := (.sc v)) hx trivial
    rcases fgl0_cases l (.sc v) with ⟨e1, _⟩ | e1 <;> simp only [fgl2, fgl1] at q ⊢ <;> rw [e1] at q ⊢ <;> exact q
  case nl =>
    have q := fgl_R1 (u := u) h0 (y := .nl) hx trivial
    rcases fgl0_cases l .nl with ⟨e1, _⟩ | e1 <;> simp only [fgl2, fgl1] at q ⊢ <;> rw [e1] at q ⊢ <;> exact q
  case ro n rows =>
    have q := fgl_R1 (u := u) h0 (y := (.ro n rows)) hx trivial
    rcases fgl0_cases l (.ro n rows) with ⟨e1, _⟩ | e1 <;> simp only [fgl2, fgl1] at q ⊢ <;> rw [e1] at q ⊢ <;> exact q
  case rf i ch lo n =>
    have q := fgl_R1 (u := u) h0 (y := (.rf i ch lo n)) hx hw
    rcases fgl0_cases l (.rf i ch lo n) with ⟨e1, _⟩ | e1 <;> simp only [fgl2, fgl1] at q ⊢ <;> rw [e1] at q ⊢ <;> exact q
  case bp i off =>
    have q := fgl_R1 (u := u) h0 (y := (.bp i off)) hx hw
    rcases fgl0_cases l (.bp i off) with ⟨e1, _⟩ | e1 <;> simp only [fgl2, fgl1] at q ⊢ <;> rw [e1] at q ⊢ <;> exact q
  case ep i ch r c =>
    have q := fgl_R1 (u := u) h0 (y := (.ep i ch r c)) hx hw
    rcases fgl0_cases l (.ep i ch r c) with ⟨e1, _⟩ | e1 <;> simp only [fgl2, fgl1] at q ⊢ <;> rw [e1] at q ⊢ <;> exact q
  case rp vs =>
    have q := fgl_R1 (u := u) h0 (y := (.rp vs)) hx trivial
    rcases fgl0_cases l (.rp vs) with ⟨e1, _⟩ | e1 <;> simp only [fgl2, fgl1] at q ⊢ <;> rw [e1] at q ⊢ <;> exact q
theorem fgl_wf0 {l : List Id} (h : ∀ k, m k ≠ none → m' k ≠ none) {y : LV} (hw : wf0 m y) : wf0 m' (fgl0 l y) := by
  rcases fgl0_cases l y with ⟨e, _⟩ | e
  · rw [e]; exact wf0.ext h hw
  · rw [e]; trivial
theorem fgl_wf1 {l : List Id} (h : ∀ k, m k ≠ none → m' k ≠ none) {y : LV} (hw : wf1 m y) : wf1 m' (fgl1 l y) := by
  cases y
  case ag vs =>
    intro x hx
    obtain ⟨z, hz, rfl⟩ := List.mem_map.1 hx
    exact fgl_wf0 h (hw z hz)
  case cl f vs =>
    intro x hx
    obtain ⟨z, hz, rfl⟩ := List.mem_map.1 hx
    exact fgl_wf0 h (hw z hz)
  case un =>
    rcases fgl0_cases l .un with ⟨e1, _⟩ | e1 <;> simp only [fgl1] <;> rw [e1] <;> first | trivial | exact wf1.ext h hw
  case sc v =>
    rcases fgl0_cases l (.sc v) with ⟨e1, _⟩ | e1 <;> simp only [fgl1] <;> rw [e1] <;> first | trivial | exact wf1.ext h hw
  case nl =>
    rcases fgl0_cases l .nl with ⟨e1, _⟩ | e1 <;> simp only [fgl1] <;> rw [e1] <;> first | trivial | exact wf1.ext h hw
  case ro n rows =>
    rcases fgl0_cases l (.ro n rows) with ⟨e1, _⟩ | e1 <;> simp only [fgl1] <;> rw [e1] <;> first | trivial | exact wf1.ext h hw
  case rf i ch lo n =>
    rcases fgl0_cases l (.rf i ch lo n) with ⟨e1, _⟩ | e1 <;> simp only [fgl1] <;> rw [e1] <;> first | trivial | exact wf1.ext h hw
  case bp i off =>
    rcases fgl0_cases l (.bp i off) with ⟨e1, _⟩ | e1 <;> simp only [fgl1] <;> rw [e1] <;> first | trivial | exact wf1.ext h hw
  case ep i ch r c =>
    rcases fgl0_cases l (.ep i ch r c) with ⟨e1, _⟩ | e1 <;> simp only [fgl1] <;> rw [e1] <;> first | trivial | exact wf1.ext h hw
  case rp vs =>
    rcases fgl0_cases l (.rp vs) with ⟨e1, _⟩ | e1 <;> simp only [fgl1] <;> rw [e1] <;> first | trivial | exact wf1.ext h hw
  case tu vs =>
    rcases fgl0_cases l (.tu vs) with ⟨e1, _⟩ | e1 <;> simp only [fgl1] <;> rw [e1] <;> first | trivial | exact wf1.ext h hw
  case ow e n rows =>
    rcases fgl0_cases l (.ow e n rows) with ⟨e1, _⟩ | e1 <;> simp only [fgl1] <;> rw [e1] <;> first | trivial | exact wf1.ext h hw
theorem fgl_wf {l : List Id} (h : ∀ k, m k ≠ none → m' k ≠ none) {y : LV} (hw : wf m y) : wf m' (fgl2 l y) := by
  cases y
  case tu vs =>
    intro x hx
    obtain ⟨z, hz, rfl⟩ := List.mem_map.1 hx
    exact fgl_wf1 h (hw z hz)
  case ag vs => exact fgl_wf1 (y := .ag vs) h hw
  case cl f vs => exact fgl_wf1 (y := .cl f vs) h hw
  case un =>
    rcases fgl0_cases l .un with ⟨e1, _⟩ | e1 <;> simp only [fgl2, fgl1] <;> rw [e1] <;> first | trivial | exact wf.ext h hw
  case sc v =>
    rcases fgl0_cases l (.sc v) with ⟨e1, _⟩ | e1 <;> simp only [fgl2, fgl1] <;> rw [e1] <;> first | trivial | exact wf.ext h hw
  case nl =>
    rcases fgl0_cases l .nl with ⟨e1, _⟩ | e1 <;> simp only [fgl2, fgl1] <;> rw [e1] <;> first | trivial | exact wf.ext h hw
  case ro n rows =>
    rcases fgl0_cases l (.ro n rows) with ⟨e1, _⟩ | e1 <;> simp only [fgl2, fgl1] <;> rw [e1] <;> first | trivial | exact wf.ext h hw
  case rf i ch lo n =>
    rcases fgl0_cases l (.rf i ch lo n) with ⟨e1, _⟩ | e1 <;> simp only [fgl2, fgl1] <;> rw [e1] <;> first | trivial | exact wf.ext h hw
  case bp i off =>
    rcases fgl0_cases l (.bp i off) with ⟨e1, _⟩ | e1 <;> simp only [fgl2, fgl1] <;> rw [e1] <;> first | trivial | exact wf.ext h hw
  case ep i ch r c =>
    rcases fgl0_cases l (.ep i ch r c) with ⟨e1, _⟩ | e1 <;> simp only [fgl2, fgl1] <;> rw [e1] <;> first | trivial | exact wf.ext h hw
  case rp vs =>
    rcases fgl0_cases l (.rp vs) with ⟨e1, _⟩ | e1 <;> simp only [fgl2, fgl1] <;> rw [e1] <;> first | trivial | exact wf.ext h hw
  case ow e n rows =>
    rcases fgl0_cases l (.ow e n rows) with ⟨e1, _⟩ | e1 <;> simp only [fgl2, fgl1] <;> rw [e1] <;> first | trivial | exact wf.ext h hw

/-! ### the call -/
def wrN : Nat := 1000000
/-- a function value with what it holds, as the called one may look at it -/
def roLV : LV → Bool
  | .sc _ | .nl | .ro _ _ => true | _ => false
def shot1 (m : Mem) : LV → Option LV
  | .bp i off => (match m i with | some (.box cells) => if off ≤ cells.length ∧ cells.all roLV = true then some (.rp (cells.drop off)) else none | _ => none)
  | .rp vs => some (.rp vs) | .sc v => some (.sc v) | .nl => some .nl | .ro n r => some (.ro n r)
  | _ => none
def shotL (m : Mem) : List LV → Option (List LV)
  | [] => some []
  | x :: xs => match shot1 m x, shotL m xs with | some y, some ys => some (y :: ys) | _, _ => none
def shotC (m : Mem) : LV → Option LV
  | .cl f vs => (match shotL m vs with | some l => some (.cl f l) | none => none)
  | _ => none
def shotA (m : Mem) : List LV → Option (List LV)
  | [] => some []
  | x :: xs => match shotC m x, shotA m xs with | some y, some ys => some (y :: ys) | _, _ => none
def evCW (call : CallF) (d g : Nat) (xs : List Opd) (st : St) : Option St :=
  match closeV st.m (.tu (preA (xs.map (opd st.s)))), shotA st.m (postA (xs.map (opd st.s))) with
  | some (.tu ys), some zs =>
    (match call (wrN + g) (ys ++ zs) with
    | some (r, y' :: ys') =>
      if g < wrN ∧ isRV r = true ∧ (zs.isEmpty || !roB (.tu (y' :: ys'))) = true then
        (match backs (parts (.tu (preA (xs.map (opd st.s))))) (parts (.tu (y' :: ys'))) (fgtMs (rootL (parts (.tu (preA (xs.map (opd st.s)))))) st.m) with
        | some m1 => some ⟨updS (fun t => fgl2 (rootL (parts (.tu (preA (xs.map (opd st.s)))))) (st.s t)) d r, m1⟩
        | none => none)
      else none
    | _ => none)
  | _, _ => none

def puN : Nat := 3000000
/-- a slice without its first rows: the whole, and how many -/
def wholeV (m : Mem) : LV → Option (LV × Nat)
  | .rf i ch (lo + 1) n => (match look m i ch with | some (_, _, rows) => if lo + 1 + n = rows.length then some (.rf i ch 0 rows.length, lo + 1) else none | none => none)
  | _ => none
def evCP (call : CallF) (d g : Nat) (xs : List Opd) (st : St) : Option St :=
  match xs.map (opd st.s) with
  | [v] =>
    (match wholeV st.m v with
    | some (v0, lo) =>
      (match closeV st.m (.tu [v0]) with
      | some (.tu ys) =>
        (match call (puN + g) (.sc (.int .i64 (lo : Nat)) :: ys) with
        | some (r, y' :: ys') =>
          if g < wrN ∧ isRV r = true then
            (match backs (parts (.tu [v0])) (parts (.tu (y' :: ys'))) (fgtMs (rootL (parts (.tu [v0]))) st.m) with
            | some m1 => some ⟨updS (fun t => fgl2 (rootL (parts (.tu [v0]))) (st.s t)) d r, m1⟩
            | none => none)
          else none
        | _ => none)
      | _ => none)
    | none => none)
  | _ => none

/-! calls that are given slices: they are gone for the caller -/
def mvN : Nat := 2000000
def pullT (m : Mem) (i : Id) (r c : Nat) : Option Thing → Mem
  | some (.arr e n rows) => (match rows[r]? with | some row => updM m i (some (.arr e n (pullRows rows row r c))) | none => m)
  | _ => m
def takeP (m : Mem) : List (Nat × LV) → Mem
  | [] => m
  | (_, .rf i none _ _) :: l => takeP (updM m i (some .dead)) l
  | (_, .rf i (some (r, c)) _ _) :: l => takeP (pullT m i r c (m i)) l
  | _ :: l => takeP m l
theorem pullT_ne {m : Mem} {i q : Id} {r c : Nat} (h : q ≠ i) : ∀ x, pullT m i r c x q = m q := by
  intro x
  cases x with
  | none => rfl
  | some t =>
    cases t with
    | arr e n rows =>
      simp only [pullT]
      cases rows[r]? with
      | none => rfl
      | some row => exact updM_ne h
    | _ => rfl
def evCM (call : CallF) (d g : Nat) (xs : List Opd) (st : St) : Option St :=
  match closeV st.m (.tu (xs.map (opd st.s))) with
  | some (.tu ys) =>
    (match call (mvN + g) ys with
    | some (r, [.un]) =>
      if g < wrN then
        (match adds (takeP st.m (parts (.tu (xs.map (opd st.s))))) (openV (.rs d) r).2 with
        | some m1 => some ⟨updS st.s d (openV (.rs d) r).1, m1⟩
        | none => none)
      else none
    | _ => none)
  | _ => none
def ContractM (T : Tab) (P : Program) (f : Nat) (ys : List LV) (r : LV) : Prop :=
  ∀ (S N : Nat → Prop) (w : World) (vals : Array Value) (G : Gh) (m0 : Mem), adds noMem (openV mk0 (.tu ys)).2 = some m0 → Inv S N G m0 w → R G S m0 w (openV mk0 (.tu ys)).1 (.tuple vals) → wf m0 (openV mk0 (.tu ys)).1 → (∀ b, w.heap.size ≤ b → N b) → (∀ b, S b → ¬ N b) → Tb T N w →
    Calls P f vals w fun e w' => ∃ v, e = .returned v ∧ FrN N w w' ∧
      ∀ mk : Nat → Id, (∀ a b, mk a = mk b → a = b) → ∃ G' m', adds noMem (openV mk r).2 = some m' ∧ Inv S N G' m' w' ∧ R G' S m' w' (openV mk r).1 v ∧ wf m' (openV mk r).1

/-- what is known of the functions that write into what they are lent, or are given slices -/
structure CallW (T : Tab) (P : Program) (call : CallF) : Prop where
  w : ∀ g ys r ys', g < wrN → ys' ≠ [] → isRV r = true → call (wrN + g) ys = some (r, ys') → enterOk P g = true ∧ ContractW T P g ys r ys'
  m : ∀ g ys r, g < wrN → call (mvN + g) ys = some (r, [.un]) → enterOk P g = true ∧ small r = true ∧ ContractM T P g ys r
  p : ∀ g ys r ys' (lo : Nat), g < wrN → ys' ≠ [] → isRV r = true → call (puN + g) (.sc (.int .i64 (lo : Nat)) :: ys) = some (r, ys') → enterOk P g = true ∧ ContractV T P g lo ys r ys'

/-! what is beside the lent slices may be looked at -/
theorem R0.sup {S2 : Nat → Prop} (hS : ∀ b, S b → S2 b) {x : LV} {v : Value} (h : R0 G S m w x v) : R0 G S2 m w x v := by
  cases x <;> try exact h
  case ro n rows => exact RdG.mono h (fun _ _ q => RdC.mono q hS (fun _ _ => rfl)) hS (fun _ _ => rfl)
  case rp vs =>
    obtain ⟨a, rfl, q⟩ := h
    refine ⟨a, rfl, fun k x hk => ?_⟩
    obtain ⟨h1, u, h2, h3⟩ := q k x hk
    exact ⟨hS _ h1, u, h2, h3.mono hS (fun _ _ => rfl)⟩
theorem R1.sup {S2 : Nat → Prop} (hS : ∀ b, S b → S2 b) {x : LV} {v : Value} (h : R1 G S m w x v) : R1 G S2 m w x v := by
  cases x
  case ag vs => obtain ⟨cs, rfl, q⟩ := h; exact ⟨cs, rfl, q.mono fun y z _ hr => R0.sup hS hr⟩
  case cl f vs => obtain ⟨cs, rfl, q⟩ := h; exact ⟨cs, rfl, q.mono fun y z _ hr => R0.sup hS hr⟩
  all_goals (simp only [R1] at h ⊢; exact R0.sup hS h)
theorem Inv.sup {S2 : Nat → Prop} (h : Inv S N G m w) (hS : ∀ b, S b → S2 b) (hlt : ∀ b, S2 b → b < w.heap.size) (hn : ∀ p, live m p → ¬ S2 (G.at p)) : Inv S2 N G m w :=
  ⟨fun i e n rows hi => OwG.mono (h.arr i e n rows hi) rfl fun r c row x u _ _ ho => by
      cases x with
      | un => trivial
      | sc v => exact ho
      | nl => exact ho
      | sl o e' n' l =>
        cases o with
        | false => exact RdG.mono ho (fun _ _ h => h) hS (fun _ _ => rfl)
        | true => exact ho,
    fun i cells hi => by
      obtain ⟨cs, e, k1, k2⟩ := h.box i cells hi
      exact ⟨cs, e, k1, k2.mono fun x u _ hx => ⟨R0.sup hS hx.1, hx.2⟩⟩,
    h.inj, fun p hp => ⟨hn p hp, (h.sep p hp).2⟩, hlt⟩
/-- a memory's own blocks that are variables -/
def boxS (S : Nat → Prop) (G : Gh) (m : Mem) : Nat → Prop := fun b => S b ∨ ∃ i cells, m i = some (.box cells) ∧ G.blk i = b
theorem shot1_R {G0 : Gh} {m0 : Mem} (h : Inv S N G m w) {x y : LV} {v : Value} (hy : shot1 m x = some y) (hr : R0 G S m w x v) : R0 G0 (boxS S G m) m0 w y v ∧ wf0 m0 y := by
  have hS : ∀ b, S b → boxS S G m b := fun b hb => .inl hb
  cases x <;> simp only [shot1] at hy <;> try (cases hy; done)
  case sc u => cases hy; exact ⟨hr, trivial⟩
  case nl => cases hy; exact ⟨hr, trivial⟩
  case ro n rows => cases hy; exact ⟨R0.sup (G := G0) (m := m0) (x := .ro n rows) hS hr, trivial⟩
  case rp vs => cases hy; exact ⟨R0.sup (G := G0) (m := m0) (x := .rp vs) hS hr, trivial⟩
  case bp i off =>
    cases hm : m i with
    | none => rw [hm] at hy; cases hy
    | some t =>
      rw [hm] at hy
      cases t with
      | box cells =>
        simp only at hy
        split at hy
        case isFalse => cases hy
        rename_i hc
        cases hy
        simp only [R0, hm] at hr
        subst hr
        obtain ⟨cs, e, k1, k2⟩ := h.box i cells hm
        refine ⟨⟨_, rfl, fun k z hz => ⟨.inr ⟨i, cells, hm, rfl⟩, ?_⟩⟩, trivial⟩
        rw [List.getElem?_drop] at hz
        obtain ⟨u, u1, u2, _⟩ := k2.2 _ z hz
        refine ⟨u, by rw [add_lit, cell_lit k1]; exact u1, ?_⟩
        have hro := List.all_eq_true.1 hc.2 z (List.mem_of_getElem? hz)
        cases z <;> simp only [roLV] at hro <;> try (cases hro; done)
        case sc u' => exact u2
        case nl => exact u2
        case ro n rows => exact RdG.mono u2 (fun _ _ q => RdC.mono q hS (fun _ _ => rfl)) hS (fun _ _ => rfl)
      | arr _ _ _ => cases hy
      | dead => cases hy
theorem shotL_R {G0 : Gh} {m0 : Mem} (h : Inv S N G m w) : ∀ {vs l : List LV} {cs : List Value}, shotL m vs = some l → RL (R0 G S m w) vs cs.toArray → RL (R0 G0 (boxS S G m) m0 w) l cs.toArray ∧ ∀ y ∈ l, wf0 m0 y := by
  intro vs
  induction vs with
  | nil => intro l cs hl hr; cases hl; exact ⟨⟨hr.1, fun k x hk => by simp at hk⟩, fun y hy => by simp at hy⟩
  | cons x xs ih =>
    intro l cs hl hr
    simp only [shotL] at hl
    split at hl
    case h_2 => cases hl
    rename_i y ys h1 h2
    cases hl
    cases cs with
    | nil => have := hr.1; simp at this
    | cons c cs =>
      obtain ⟨u, u1, u2⟩ := hr.2 0 x rfl
      simp at u1
      subst u1
      obtain ⟨b1, b2⟩ := shot1_R (G0 := G0) (m0 := m0) h h1 u2
      obtain ⟨i1, i2⟩ := ih (cs := cs) h2 ⟨by have := hr.1; simpa using this, fun k z hz => by
        obtain ⟨u, u1, u2⟩ := hr.2 (k + 1) z (by simpa using hz)
        exact ⟨u, by simpa using u1, u2⟩⟩
      refine ⟨⟨by have := i1.1; simpa using this, fun k z hz => ?_⟩, fun z hz => ?_⟩
      · cases k with
        | zero => simp at hz; subst hz; exact ⟨c, by simp, b1⟩
        | succ k =>
          obtain ⟨u, u1, u2⟩ := i1.2 k z (by simpa using hz)
          exact ⟨u, by simpa using u1, u2⟩
      · rcases List.mem_cons.1 hz with rfl | hz
        · exact b2
        · exact i2 z hz
theorem shotA_R {G0 : Gh} {m0 : Mem} (h : Inv S N G m w) : ∀ {xs zs : List LV}, shotA m xs = some zs → zs.length = xs.length ∧ (∀ z ∈ zs, ∃ f l, z = .cl f l) ∧
    ∀ (k : Nat) (z : LV), zs[k]? = some z → ∃ x, xs[k]? = some x ∧ ∀ v, R G S m w x v → R1 G0 (boxS S G m) m0 w z v ∧ wf1 m0 z := by
  intro xs
  induction xs with
  | nil => intro zs hz; cases hz; exact ⟨rfl, fun z hz => by simp at hz, fun k z hz => by simp at hz⟩
  | cons x xs ih =>
    intro zs hz
    simp only [shotA] at hz
    split at hz
    case h_2 => cases hz
    rename_i y ys h1 h2
    cases hz
    obtain ⟨i0, i1, i2⟩ := ih h2
    have hx : ∃ f vs l, x = .cl f vs ∧ y = .cl f l ∧ shotL m vs = some l := by
      unfold shotC at h1
      split at h1
      · rename_i f vs
        split at h1
        · rename_i l hl; cases h1; exact ⟨f, vs, l, rfl, rfl, hl⟩
        · cases h1
      · cases h1
    obtain ⟨f, vs, l, rfl, rfl, hl⟩ := hx
    refine ⟨by simp [i0], fun z hz => ?_, fun k z hz => ?_⟩
    · rcases List.mem_cons.1 hz with rfl | hz
      · exact ⟨f, l, rfl⟩
      · exact i1 z hz
    · cases k with
      | zero =>
        simp at hz; subst hz
        refine ⟨_, rfl, fun v hv => ?_⟩
        obtain ⟨cs, rfl, q⟩ := hv
        obtain ⟨b1, b2⟩ := shotL_R (G0 := G0) (m0 := m0) (cs := cs.toList) h hl (by simpa using q)
        exact ⟨⟨cs, rfl, by simpa using b1⟩, b2⟩
      | succ k =>
        obtain ⟨x', h3, h4⟩ := i2 k z (by simpa using hz)
        exact ⟨x', by simpa using h3, h4⟩

theorem travT_len (f : Nat → LV → LV) : ∀ (l : List LV) (k : Nat), (travT f k l).length = l.length := by
  intro l
  induction l with
  | nil => intro k; rfl
  | cons y ys ih => intro k; simp [travT, ih]
theorem adds_in : ∀ {l : List (Id × Thing)} {m m' : Mem}, adds m l = some m' → ∀ i x, (i, x) ∈ l → m' i = some x := by
  intro l
  induction l with
  | nil => intro m m' _ i x h; simp at h
  | cons p l ih =>
    intro m m' h i x hx
    obtain ⟨j, y⟩ := p
    simp only [adds] at h
    split at h
    case h_2 => cases h
    rcases List.mem_cons.1 hx with hx | hx
    · cases hx
      have := (adds_keep h).1 i (by rw [updM_eq]; simp)
      rw [this, updM_eq]
    · exact ih h i x hx

variable {nt : Nat} {ops : Array Oper}
theorem cw_core (h : SA nt ov S N G st a w) {vs ys zs ys' : List LV} {y' r : LV} {us us0 : Array Value} {g d : Nat} {m1 : Mem} (hd : d < nt)
    (hall : ∀ (k : Nat) (x : LV), vs[k]? = some x → ∃ u, us0[k]? = some u ∧ R G S st.m w x u ∧ wf st.m x) (hvl : vs.length = us0.size)
    (hcl : closeV st.m (.tu (preA vs)) = some (.tu ys)) (hzs : shotA st.m (postA vs) = some zs) (hrv : isRV r = true) (hro : (zs.isEmpty || !roB (.tu (y' :: ys'))) = true)
    (hb : backs (parts (.tu (preA vs))) (parts (.tu (y' :: ys'))) (fgtMs (rootL (parts (.tu (preA vs)))) st.m) = some m1)
    (hcon : ∀ (S2 N2 : Nat → Prop) (G0 : Gh) (m0 : Mem), adds noMem (openV mk0 (.tu (ys ++ zs))).2 = some m0 → Inv S2 N2 G0 m0 w → R G0 S2 m0 w (openV mk0 (.tu (ys ++ zs))).1 (.tuple us0) → wf m0 (openV mk0 (.tu (ys ++ zs))).1 →
      (∀ k i ch n, (k, LV.rf i ch 0 n) ∈ parts (.tu (preA vs)) → G0.blk (mk0 k) = G.blkOf i ch ∧ G0.cap (mk0 k) = G.capOf i ch) → (∀ b, w.heap.size ≤ b → N2 b) → (∀ b, S2 b → ¬ N2 b) → Tb ov.tb N2 w →
      Calls P g us w fun e w' => ∃ v, e = .returned v ∧ voidR r v ∧ FrN N2 w w' ∧ ∃ G' m', adds noMem (openV mk0 (.tu (y' :: ys'))).2 = some m' ∧ Inv S2 N2 G' m' w' ∧
        ∀ k e n rows, (k, LV.ow e n rows) ∈ parts (.tu (y' :: ys')) → G'.blk (mk0 k) = G0.blk (mk0 k) ∧ G'.cap (mk0 k) = G0.cap (mk0 k)) :
    Calls P g us w fun e w' => ∃ v, e = .returned v ∧ (∃ G', SA nt ov S N G' ⟨updS (fun t => fgl2 (rootL (parts (.tu (preA vs)))) (st.s t)) d r, m1⟩ (a.put (some d) v) w') ∧ FrN N w w' := by
  have hpp := pre_post vs
  have hpl : (preA vs).length ≤ us0.size := by
    have := congrArg List.length hpp
    simp only [List.length_append] at this
    omega
  have hcl' := hcl
  unfold closeV at hcl'
  split at hcl'
  case isFalse => cases hcl'
  rename_i hcond
  obtain ⟨hsm, hallc, hdup⟩ := hcond
  have hsm' : ∀ x ∈ preA vs, small1 x = true := fun x hx => List.all_eq_true.1 (by simpa [small] using hsm) x hx
  have one : ∀ x ∈ preA vs, ∀ u, R G S st.m w x u ∧ wf st.m x → R1 G S st.m w x u ∧ wf1 st.m x := by
    intro x hx u hu
    have := hsm' x hx
    cases x <;> first | exact hu | (cases this; done)
  have preAt : ∀ (k : Nat) (x : LV), (preA vs)[k]? = some x → vs[k]? = some x := by
    intro k x hk
    rw [← hpp, List.getElem?_append_left (List.getElem?_eq_some_iff.1 hk).1]; exact hk
  have hX : R G S st.m w (.tu (preA vs)) (.tuple (us0.toList.take (preA vs).length).toArray) ∧ wf st.m (.tu (preA vs)) := by
    refine ⟨⟨_, rfl, by simp; omega, fun k x hk => ?_⟩, fun x hx => ?_⟩
    · obtain ⟨u, u1, u2⟩ := hall k x (preAt k x hk)
      refine ⟨u, ?_, (one x (List.mem_of_getElem? hk) u u2).1⟩
      rw [List.getElem?_toArray, List.getElem?_take, if_pos (List.getElem?_eq_some_iff.1 hk).1]
      simpa using u1
    · obtain ⟨k, hk⟩ := List.getElem?_of_mem hx
      obtain ⟨u, u1, u2⟩ := hall k x (preAt k x hk)
      exact (one x hx u u2).2
  obtain ⟨hX1, hX2⟩ := hX
  obtain ⟨G0, m0, t1, t2, t3, t4, t5, t6, t7⟩ := trans_names2 h.inv hX1 hX2 hcl mk0_inj
  obtain ⟨z0, z1, z2⟩ := shotA_R (G0 := G0) (m0 := m0) h.inv hzs
  -- the closed ones, opened
  obtain ⟨as, lth, hop⟩ : ∃ as lth, openV mk0 (.tu ys) = (.tu as, lth) := ⟨_, _, rfl⟩
  have hasl : as.length = ys.length := by
    have : as = travT (opn mk0) 0 ys := by have := congrArg Prod.fst hop; simp only [openV, trav] at this; exact (LV.tu.inj this).symm
    rw [this]
    exact travT_len _ _ _
  have hysl : ys.length = (preA vs).length := by
    rw [hop] at t3
    obtain ⟨cs, e, q⟩ := t3
    cases e
    have := q.1
    simp at this
    omega
  have hopz : openV mk0 (.tu (ys ++ zs)) = (.tu (as ++ zs), lth) := by
    have e1 : as = travT (opn mk0) 0 ys := by have := congrArg Prod.fst hop; simp only [openV, trav] at this; exact (LV.tu.inj this).symm
    have e2 : lth = (partsT 0 ys).filterMap (thing mk0) := by have := congrArg Prod.snd hop; exact this.symm
    have hz1 : ∀ (k : Nat), travT (opn mk0) k zs = zs ∧ (partsT k zs).filterMap (thing mk0) = [] := by
      clear hzs z0 z2 hcon hro
      induction zs with
      | nil => intro k; exact ⟨rfl, rfl⟩
      | cons z zs ih =>
        intro k
        obtain ⟨f, l, rfl⟩ := z1 z (by simp)
        obtain ⟨i1, i2⟩ := ih (fun z hz => z1 z (by simp [hz])) (k + 100)
        refine ⟨by simp [travT, trav1, opn, i1], ?_⟩
        show List.filterMap (thing mk0) ((k, .cl f l) :: partsT (k + 100) zs) = []
        rw [List.filterMap_cons]
        exact i2
    simp only [openV, trav, parts]
    rw [travT_app, partsT_app, List.filterMap_append, (hz1 _).1, (hz1 _).2, List.append_nil, e1, e2]
  rw [hop] at t1 t3 t4
  simp only at t1 t3 t4
  generalize hps : parts (.tu (preA vs)) = ps at *
  have hlo : ∀ k i ch lo n, (k, LV.rf i ch lo n) ∈ ps → lo = 0 := by
    intro k i ch lo n hp
    have := List.all_eq_true.1 hallc _ hp
    simp only [close0] at this
    split at this
    · split at this
      · rename_i hq; exact hq.1
      · cases this
    · cases this
  -- what may be looked at, and what is the callee's own
  obtain ⟨S2, s1, s2, s3, s4, s5⟩ : ∃ S2 : Nat → Prop, (∀ b, S b → S2 b) ∧ (S2 = S ∨ roB (.tu (y' :: ys')) = false) ∧ (∀ b, S2 b → b < w.heap.size) ∧ (∀ b, S2 b → ¬ (w.heap.size ≤ b ∨ ∃ p0, live st.m p0 ∧ lentP ps p0 ∧ G.at p0 = b)) ∧
      ∀ (k : Nat) (z : LV), zs[k]? = some z → ∃ x, (postA vs)[k]? = some x ∧ ∀ v, R G S st.m w x v → R1 G0 S2 m0 w z v ∧ wf1 m0 z := by
    have hSN : ∀ b, S b → ¬ (w.heap.size ≤ b ∨ ∃ p0, live st.m p0 ∧ lentP ps p0 ∧ G.at p0 = b) := by
      intro b hb q
      rcases q with q | ⟨p0, z1, z2, z3⟩
      · have := h.inv.old b hb; omega
      · exact (h.inv.sep p0 z1).1 (by rw [z3]; exact hb)
    by_cases hz : zs.isEmpty = true
    · refine ⟨S, fun _ hb => hb, .inl rfl, h.inv.old, hSN, fun k z hk => ?_⟩
      have : zs = [] := by simpa using hz
      subst this; simp at hk
    · refine ⟨boxS S G st.m, fun b hb => .inl hb, .inr (by simpa [hz] using hro), fun b hb => ?_, fun b hb => ?_, z2⟩
      · rcases hb with hb | ⟨i, cells, hi, rfl⟩
        · exact h.inv.old b hb
        · exact h.inv.lt (p := .root i) (.inl ⟨cells, hi⟩)
      · rcases hb with hb | ⟨i, cells, hi, rfl⟩
        · exact hSN b hb
        · intro q
          rcases q with q | ⟨p0, z1, ⟨k, j, ch, n, hp, z2⟩, z3⟩
          · have := h.inv.lt (p := .root i) (.inl ⟨cells, hi⟩); simp only [Gh.at] at this; omega
          · have := h.inv.inj p0 (.root i) z1 (.inl ⟨cells, hi⟩) z3
            subst this
            -- a lent root is an array
            rcases z2 with ⟨_, e⟩ | ⟨_, _, _, e⟩ | ⟨_, _, _, e⟩ <;> cases e
            have hcc := List.all_eq_true.1 hallc _ hp
            rename_i ech
            subst ech
            simp only [close0, look, hi] at hcc
            cases hcc
  have hinv0 : Inv S2 (fun b => w.heap.size ≤ b ∨ ∃ p0, live st.m p0 ∧ lentP ps p0 ∧ G.at p0 = b) G0 m0 w := by
    have i0 : Inv S (fun b => w.heap.size ≤ b ∨ ∃ p0, live st.m p0 ∧ lentP ps p0 ∧ G.at p0 = b) G0 m0 w :=
      ⟨t2.arr, t2.box, t2.inj, fun p hp => ⟨(t2.sep p hp).1, by obtain ⟨p0, z1, z2, z3⟩ := t7 p hp; exact .inr ⟨p0, z1, z3, z2.symm⟩⟩, t2.old⟩
    refine i0.sup s1 s3 fun p hp q => ?_
    exact s4 _ q (i0.sep p hp).2
  have hargs : R G0 S2 m0 w (.tu (as ++ zs)) (.tuple us0) ∧ wf m0 (.tu (as ++ zs)) := by
    obtain ⟨cs, e, q⟩ := t3
    cases e
    have hposl := congrArg List.length hpp
    simp only [List.length_append] at hposl
    refine ⟨⟨us0, rfl, by simp; omega, fun k x hk => ?_⟩, fun x hx => ?_⟩
    · by_cases hk1 : k < as.length
      · rw [List.getElem?_append_left hk1] at hk
        obtain ⟨u, u1, u2⟩ := q.2 k x hk
        rw [List.getElem?_toArray, List.getElem?_take] at u1
        split at u1
        · exact ⟨u, by simpa using u1, R1.sup s1 u2⟩
        · cases u1
      · rw [List.getElem?_append_right (by omega)] at hk
        obtain ⟨x', h3, h4⟩ := s5 _ x hk
        have hv : vs[k]? = some x' := by
          rw [← hpp, List.getElem?_append_right (by omega), ← hysl, ← hasl]; exact h3
        obtain ⟨u, u1, u2, _⟩ := hall k x' hv
        exact ⟨u, u1, (h4 u u2).1⟩
    · rcases List.mem_append.1 hx with hx | hx
      · exact t4 x hx
      · obtain ⟨k, hk⟩ := List.getElem?_of_mem hx
        obtain ⟨x', h3, h4⟩ := s5 k x hk
        have hv : vs[(preA vs).length + k]? = some x' := by
          have e : (preA vs ++ postA vs)[(preA vs).length + k]? = some x' := by
            rw [List.getElem?_append_right (by omega), Nat.add_sub_cancel_left]; exact h3
          rwa [hpp] at e
        obtain ⟨u, u1, u2, _⟩ := hall _ x' hv
        exact (h4 u u2).2
  refine Calls.mono (hcon S2 _ G0 m0 (by rw [hopz]; exact t1) hinv0 (by rw [hopz]; exact hargs.1) (by rw [hopz]; exact hargs.2) (fun k i ch n hk => t6 k i ch n hk) (fun b hb => .inl hb) s4 (h.tb.sub fun b hb => by rcases hb with hb | ⟨p0, z1, _, rfl⟩; exact h.new b hb; exact (h.inv.sep p0 z1).2)) fun e w' => ?_
  rintro ⟨vv, rfl, hsc, hfr, G', m', a1, a2, a3⟩
  refine ⟨vv, rfl, ?_⟩
  have hSN : ∀ b, S b → ¬ (w.heap.size ≤ b ∨ ∃ p0, live st.m p0 ∧ lentP ps p0 ∧ G.at p0 = b) := fun b hb => s4 b (s1 b hb)
  have a2' : Inv S (fun b => w.heap.size ≤ b ∨ ∃ p0, live st.m p0 ∧ lentP ps p0 ∧ G.at p0 = b) G' m' w' := by
    rcases s2 with rfl | hno
    · exact a2
    · have hmem := fun i t ht => things_mem (mk := mk0) (r := .tu (y' :: ys')) (l := parts (.tu (y' :: ys'))) a1 i t ht
      refine a2.narrow s1 (fun i cells hi => ?_) (fun i e n rows hi row hrow x hx e' n' l' hxe => ?_)
      · rcases hmem i _ hi with h0 | ⟨_, _, _, _, _, h0⟩ <;> cases h0
      · rcases hmem i _ hi with h0 | ⟨k, e2, n2, rows2, h1, h0⟩
        · cases h0
        · cases h0
          have h2 : roB0 (LV.ow e n rows) = false := by simpa using List.any_eq_false.1 hno _ h1
          simp only [roB0] at h2
          have h3 := List.any_eq_false.1 h2 row hrow
          simp only [List.any_eq_true, not_exists, not_and] at h3
          have h4 := h3 x hx
          subst hxe
          simp [roCell] at h4
  have hNN : ∀ b, (w.heap.size ≤ b ∨ ∃ p0, live st.m p0 ∧ lentP ps p0 ∧ G.at p0 = b) → N b := by
    rintro b (hb | ⟨p0, z1, _, rfl⟩)
    · exact h.new b hb
    · exact (h.inv.sep p0 z1).2
  have liveF : ∀ p, live (fgtMs (rootL ps) st.m) p → live st.m p := by
    intro p hp
    obtain ⟨_, k2, k3⟩ := fgtMs_facts (rootL ps) (m := st.m)
    cases p with
    | root k =>
      rcases hp with ⟨c, q⟩ | ⟨e, n, rows, q⟩
      · exact .inl ⟨c, (k3 k c q).1⟩
      · exact .inr ⟨e, n, rows, (k2 _ _ _ _).1 q⟩
    | chld k r c =>
      obtain ⟨e, n, rows, row, e', n', l, q, q2⟩ := hp
      exact ⟨e, n, rows, row, e', n', l, (k2 _ _ _ _).1 q, q2⟩
  have hfr' : FrN N w w' := ⟨hfr.os, hfr.tape, hfr.output, hfr.size, fun b hb hn => hfr.block b hb (fun q => hn (hNN b q))⟩
  obtain ⟨G1, b1, b2, b3⟩ := back_Inv (ps := ps) (ps' := parts (.tu (y' :: ys'))) (N' := fun b => w.heap.size ≤ b ∨ ∃ p0, live st.m p0 ∧ lentP ps p0 ∧ G.at p0 = b) (m' := m') (G' := G')
    (fgtMs_Inv (rootL ps) h.inv) hdup (by rw [← hps]; exact parts_keys hsm) hlo
    (fun j cells hj => ((fgtMs_facts (rootL ps) (m := st.m)).2.2 j cells hj).2)
    (fun p hp hn q => by
      rcases q with q | ⟨p0, z1, z2, z3⟩
      · have := h.inv.lt (liveF p hp); omega
      · have := h.inv.inj p0 p z1 (liveF p hp) z3
        subst this
        exact hn z2)
    hSN hNN hfr a2'
    (fun k e n rows hk => adds_in a1 _ _ (List.mem_filterMap.2 ⟨_, hk, rfl⟩))
    (fun k i ch n hk => by
      obtain ⟨q1, q2⟩ := t6 k i ch n hk
      obtain ⟨c1, c2⟩ := backs_spec hb hdup
      obtain ⟨y, hy, bk⟩ := c2 k _ hk
      have : ∃ e n rows, y = .ow e n rows := by
        cases ch with
        | none => obtain ⟨_, _, _, _, rfl, _⟩ := bk.1 i 0 n rfl; exact ⟨_, _, _, rfl⟩
        | some rc => obtain ⟨_, _, _, _, _, _, _, _, rfl, _⟩ := bk.2 i rc.1 rc.2 0 n rfl; exact ⟨_, _, _, rfl⟩
      obtain ⟨e, n2, rows, rfl⟩ := this
      obtain ⟨q3, q4⟩ := a3 _ _ _ _ hy
      exact ⟨q3.trans q1, q4.trans q2⟩)
    hb
  have wfs : ∀ k, st.m k ≠ none → m1 k ≠ none := fun k hk => b3 k ((fgtMs_facts (rootL ps) (m := st.m)).1 k hk)
  have base : SA nt ov S N G1 ⟨fun t => fgl2 (rootL ps) (st.s t), m1⟩ a w' :=
    ⟨⟨b1, fun t => ⟨fgl_R (fun y u hy hw hl => b2 y u (fgtMs_R0 _ hy) hl) (h.slot t).1 (h.slot t).2, fgl_wf wfs (h.slot t).2⟩, h.df, fun b hb => h.new b (Nat.le_trans hfr.size hb), h.tb.fr hfr'⟩, h.size, h.few⟩
  exact ⟨⟨G1, base.put hd b1 (fun x u hx hw => ⟨hx, hw⟩) (voidR_R hsc).1 (voidR_R (G := G) (S := S) (w := w) hsc).2 (FrN.refl _ _)⟩, hfr'⟩
theorem cw_does (h : SA nt ov S N G st a w) {call : CallF} (hcall : CallW ov.tb P call) {f' : Operand} {xs : List Opd} {xs' : Array Operand} {ts : Array TypeId} {o : Oper} {g d : Nat} (hf : fO (.k (.cl g [])) f' = true) (hx : fOs xs xs'.toList = true)
    (ho : o.op = .call ⟨.value f', xs', ts⟩) (hd : d < nt) (hv : evCW call d g xs st = some st') :
    Op1 P o a w (fun v w' => (∃ G', SA nt ov S N G' st' (a.put (some d) v) w') ∧ FrN N w w') := by
  unfold evCW at hv
  split at hv
  case h_2 => cases hv
  rename_i ys zs hcl hzs
  split at hv
  case h_2 => cases hv
  rename_i r y' ys' hc
  split at hv
  case isFalse => cases hv
  rename_i hcond0
  obtain ⟨hg, hrv, hro⟩ := hcond0
  split at hv
  case h_2 => cases hv
  rename_i m1 hb
  cases hv
  obtain ⟨hen, hcon⟩ := hcall.w g (ys ++ zs) r (y' :: ys') hg (by simp) hrv hc
  have e1 := (h.toSR.opd hf).1
  simp only [opd] at e1
  obtain ⟨cs0, e1, q1, _⟩ := e1
  obtain ⟨l1, l2⟩ := fOs_get hx
  have l1' : xs.length = xs'.size := by simpa using l1
  -- all arguments
  have hall : ∀ (k : Nat) (x : LV), (xs.map (opd st.s))[k]? = some x → ∃ u, (xs'.map a.eval)[k]? = some u ∧ R G S st.m w x u ∧ wf st.m x := by
    intro k x hk
    simp only [List.getElem?_map, Option.map_eq_some_iff] at hk
    obtain ⟨z, hz, rfl⟩ := hk
    obtain ⟨z', y1, y2⟩ := l2 k z hz
    rw [Array.getElem?_toList] at y1
    exact ⟨a.eval z', by simp [y1], h.toSR.opd y2⟩
  have hvl : (xs.map (opd st.s)).length = (xs'.map a.eval).size := by simp [l1']
  generalize xs.map (opd st.s) = vs at *
  generalize hus : xs'.map a.eval = us at *
  refine .inr ⟨g, us, ?_, ?_⟩
  · have : cs0 = #[] := by simpa using q1
    simp [execOp, ho, resolve, Deferred.ofValue, e1, invoke, run_callFunc hen, this, hus]
  exact cw_core h hd hall hvl hcl hzs hrv hro hb fun S2 N2 G0 m0 b1 b2 b3 b4 _ b6 b7 b8 => hcon S2 N2 w us G0 m0 b1 b2 b3 b4 b6 b7 b8
theorem cp_does (h : SA nt ov S N G st a w) {call : CallF} (hcall : CallW ov.tb P call) {f' : Operand} {xs : List Opd} {xs' : Array Operand} {ts : Array TypeId} {o : Oper} {g d : Nat} (hf : fO (.k (.cl g [])) f' = true) (hx : fOs xs xs'.toList = true)
    (ho : o.op = .call ⟨.value f', xs', ts⟩) (hd : d < nt) (hv : evCP call d g xs st = some st') :
    Op1 P o a w (fun v w' => (∃ G', SA nt ov S N G' st' (a.put (some d) v) w') ∧ FrN N w w') := by
  unfold evCP at hv
  split at hv
  case h_2 => cases hv
  rename_i v hvs
  split at hv
  case h_2 => cases hv
  rename_i v0 lo hwh
  split at hv
  case h_2 => cases hv
  rename_i ys hcl
  split at hv
  case h_2 => cases hv
  rename_i r y' ys' hc
  split at hv
  case isFalse => cases hv
  rename_i hcond0
  obtain ⟨hg, hrv⟩ := hcond0
  split at hv
  case h_2 => cases hv
  rename_i m1 hb
  cases hv
  obtain ⟨hen, hcon⟩ := hcall.p g ys r (y' :: ys') lo hg (by simp) hrv hc
  have e1 := (h.toSR.opd hf).1
  simp only [opd] at e1
  obtain ⟨cs0, e1, q1, _⟩ := e1
  obtain ⟨l1, l2⟩ := fOs_get hx
  have l1' : xs.length = xs'.size := by simpa using l1
  have hl1 : xs.length = 1 := by have := congrArg List.length hvs; simpa using this
  have hone : ∃ u, xs'.map a.eval = #[u] ∧ R G S st.m w v u ∧ wf st.m v := by
    have h0 : (xs.map (opd st.s))[0]? = some v := by rw [hvs]; rfl
    simp only [List.getElem?_map, Option.map_eq_some_iff] at h0
    obtain ⟨z, hz, rfl⟩ := h0
    obtain ⟨z', y1, y2⟩ := l2 0 z hz
    rw [Array.getElem?_toList] at y1
    refine ⟨a.eval z', ?_, h.toSR.opd y2⟩
    apply Array.ext'
    apply List.ext_getElem?
    intro k
    rw [Array.getElem?_toList]
    cases k with
    | zero => simp [y1]
    | succ k => rw [Array.getElem?_eq_none (by simp; omega)]; rfl
  obtain ⟨u, hus, hru, hwu⟩ := hone
  -- the whole
  unfold wholeV at hwh
  split at hwh
  case h_2 => cases hwh
  rename_i i ch lo' n
  split at hwh
  case h_2 => cases hwh
  rename_i e0 n0 rows hlk
  split at hwh
  case isFalse => cases hwh
  rename_i hlen
  cases hwh
  have hru : R0 G S st.m w (.rf i ch (lo' + 1) n) u := hru
  have hru' := hru
  simp only [R0, hlk] at hru'
  obtain ⟨A, c, rfl, hnc, hcap, hA⟩ := hru'
  have hwhole : R0 G S st.m w (.rf i ch 0 rows.length) (.slice (some ⟨G.blkOf i ch, 0, none⟩) rows.length (G.capOf i ch)) := by
    simp only [R0, hlk]
    exact ⟨_, _, rfl, by omega, by omega, fun _ => by rw [Nat.zero_mul]⟩
  refine .inr ⟨g, #[.slice (some A) n c], ?_, ?_⟩
  · have : cs0 = #[] := by simpa using q1
    simp [execOp, ho, resolve, Deferred.ofValue, e1, invoke, run_callFunc hen, this, hus]
  have hys : ys = [.ow e0 n0 rows] := by
    have hcl' := hcl
    unfold closeV at hcl'
    split at hcl'
    case isFalse => cases hcl'
    have := Option.some.inj hcl'
    simp [trav, travT, trav1, close0, hlk] at this
    exact this.symm
  subst hys
  refine cw_core h hd (vs := [.rf i ch 0 rows.length]) (us0 := #[.slice (some ⟨G.blkOf i ch, 0, none⟩) rows.length (G.capOf i ch)]) (zs := []) (ys' := ys') (y' := y') ?_ rfl hcl rfl hrv rfl hb fun S2 N2 G0 m0 b1 b2 b3 b4 b5 b6 b7 b8 => ?_
  · intro k x hk
    cases k with
    | zero => cases hk; exact ⟨_, rfl, hwhole, hwu⟩
    | succ k => simp at hk
  · have b1 : adds noMem (openV mk0 (.tu [LV.ow e0 n0 rows])).2 = some m0 := b1
    have b3 : R G0 S2 m0 w (.tu [.rf (mk0 0) none 0 rows.length]) (.tuple #[.slice (some ⟨G.blkOf i ch, 0, none⟩) rows.length (G.capOf i ch)]) := b3
    have b4 : wf m0 (.tu [.rf (mk0 0) none 0 rows.length]) := b4
    obtain ⟨c1, c2⟩ := b5 0 i ch rows.length (by simp [preA, noClB, parts, partsT, parts1])
    have hm0 : m0 (mk0 0) = some (.arr e0 n0 rows) := adds_in b1 _ _ (by simp [openV, parts, partsT, parts1, thing])
    refine hcon S2 N2 w #[.slice (some A) n c] #[.slice (some ⟨G.blkOf i ch, 0, none⟩) rows.length (G.capOf i ch)] G0 m0 [.rf (mk0 0) none 0 rows.length] rfl b1 b2 b3 b4 ⟨rfl, fun k x hk => ?_⟩ b6 b7 b8
    cases k with
    | succ k => simp [cutA] at hk
    | zero =>
      cases hk
      refine ⟨_, rfl, ?_⟩
      have hl0 : look m0 (mk0 0) none = some (e0, n0, rows) := look_none hm0
      show R0 G0 S2 m0 w (.rf (mk0 0) none (0 + (lo' + 1)) (rows.length - (lo' + 1))) _
      rw [Nat.zero_add, show rows.length - (lo' + 1) = n by omega]
      simp only [R0, hl0]
      refine ⟨A, c, rfl, hnc, ?_, fun hq => ?_⟩
      · show lo' + 1 + c = G0.cap (mk0 0)
        rw [c2]; exact hcap
      · show A = ⟨G0.blk (mk0 0), (lo' + 1) * n0, none⟩
        rw [c1]; exact hA hq
end

/-! ### what is given away -/
section
variable {P : Program} {ov : Ov} {S N N' : Nat → Prop} {G G0 G' : Gh} {m m' m1 : Mem} {st st' : St} {a : Act} {w w' : World}
theorem rootOf_key {k k2 : Nat} {x : LV} : rootOf (k, x) = rootOf (k2, x) := by cases x <;> rfl
theorem takeP_off : ∀ {ps : List (Nat × LV)} {m : Mem} {q : Id}, (∀ p ∈ ps, rootOf p ≠ some q) → takeP m ps q = m q := by
  intro ps
  induction ps with
  | nil => intro m q _; rfl
  | cons p ps ih =>
    intro m q h
    obtain ⟨k, x⟩ := p
    have h0 := h (k, x) (by simp)
    have h1 : ∀ p ∈ ps, rootOf p ≠ some q := fun p hp => h p (by simp [hp])
    cases x
    case rf i ch lo n =>
      have hne : q ≠ i := fun e => h0 (by rw [e]; rfl)
      cases ch with
      | none => simp only [takeP]; rw [ih h1, updM_ne hne]
      | some rc =>
        obtain ⟨r, c⟩ := rc
        simp only [takeP]
        rw [ih h1, pullT_ne hne]
    all_goals (simp only [takeP]; exact ih h1)
theorem takeP_at : ∀ {ps : List (Nat × LV)} {m : Mem}, noDup (ps.filterMap rootOf) = true → ∀ {k i ch lo n}, (k, LV.rf i ch lo n) ∈ ps →
    (ch = none → takeP m ps i = some .dead) ∧ (∀ r c e n0 rows row, ch = some (r, c) → m i = some (.arr e n0 rows) → rows[r]? = some row → takeP m ps i = some (.arr e n0 (pullRows rows row r c))) := by
  intro ps
  induction ps with
  | nil => intro m _ k i ch lo n h; simp at h
  | cons p ps ih =>
    intro m hd k i ch lo n h
    obtain ⟨k0, x⟩ := p
    rcases List.mem_cons.1 h with h | h
    · cases h
      simp only [List.filterMap_cons, rootOf, noDup, Bool.and_eq_true, List.all_eq_true, decide_eq_true_eq] at hd
      have hno : ∀ p ∈ ps, rootOf p ≠ some i := fun p hp e => hd.1 i (List.mem_filterMap.2 ⟨p, hp, e⟩) rfl
      refine ⟨fun e => ?_, fun r c e n0 rows row ech hm hr => ?_⟩
      · subst e
        simp only [takeP]
        rw [takeP_off hno, updM_eq]
      · subst ech
        simp only [takeP, hm, pullT, hr]
        rw [takeP_off hno, updM_eq]
    · have hd2 : noDup (ps.filterMap rootOf) = true ∧ ∀ j, rootOf (k0, x) = some j → j ≠ i := by
        rw [List.filterMap_cons] at hd
        cases hr : rootOf (k0, x) with
        | none => rw [hr] at hd; exact ⟨hd, fun j hj => by cases hj⟩
        | some j =>
          rw [hr] at hd
          simp only [noDup, Bool.and_eq_true, List.all_eq_true, decide_eq_true_eq] at hd
          refine ⟨hd.2, fun j' hj' => ?_⟩
          cases hj'
          exact fun e => hd.1 i (List.mem_filterMap.2 ⟨_, h, rfl⟩) e.symm
      have go : ∀ m2 : Mem, m2 i = m i → (ch = none → takeP m2 ps i = some .dead) ∧ (∀ r c e n0 rows row, ch = some (r, c) → m i = some (.arr e n0 rows) → rows[r]? = some row → takeP m2 ps i = some (.arr e n0 (pullRows rows row r c))) := fun m2 e => by
        obtain ⟨g1, g2⟩ := ih (m := m2) hd2.1 h
        exact ⟨g1, fun r c e' n0 rows row q1 q2 q3 => g2 r c e' n0 rows row q1 (by rw [e]; exact q2) q3⟩
      cases x
      case rf j ch2 lo2 n2 =>
        have hji : i ≠ j := fun e => hd2.2 j rfl e.symm
        cases ch2 with
        | none => simp only [takeP]; exact go _ (updM_ne hji)
        | some rc =>
          obtain ⟨r, c⟩ := rc
          simp only [takeP]
          exact go _ (pullT_ne hji _)
      all_goals (simp only [takeP]; exact go _ rfl)

theorem take_Inv {ps : List (Nat × LV)} (h : Inv S N G m w) (hps : noDup (ps.filterMap rootOf) = true)
    (hlk : ∀ k i ch lo n, (k, LV.rf i ch lo n) ∈ ps → lo = 0 ∧ look m i ch ≠ none)
    (hsame : ∀ p, live m p → ¬ lentP ps p → w'.heap[G.at p]? = w.heap[G.at p]?) (hS : ∀ b, S b → w'.heap[b]? = w.heap[b]?) (hsz : w.heap.size ≤ w'.heap.size) :
    Keep G m G (takeP m ps) ∧ Inv S N G (takeP m ps) w' ∧ ∀ p, live (takeP m ps) p → live m p ∧ ¬ lentP ps p := by
  have uniq : ∀ {j k k' ch ch' lo lo' n n'}, (k, LV.rf j ch lo n) ∈ ps → (k', LV.rf j ch' lo' n') ∈ ps → k = k' ∧ ch = ch' := by
    intro j k k' ch ch' lo lo' n n' h1 h2
    obtain ⟨x, hx⟩ := List.getElem?_of_mem h1
    obtain ⟨y, hy⟩ := List.getElem?_of_mem h2
    have := noDup_get hps x y _ _ hx hy j rfl rfl
    subst this
    rw [hx] at hy
    cases hy
    exact ⟨rfl, rfl⟩
  have fA : ∀ {j k lo n}, (k, LV.rf j none lo n) ∈ ps → takeP m ps j = some .dead ∧ m j ≠ none := fun {j k lo n} hp => ⟨(takeP_at hps hp).1 rfl, look_ne (hlk _ _ _ _ _ hp).2⟩
  have fB : ∀ {j k r c lo n}, (k, LV.rf j (some (r, c)) lo n) ∈ ps → ∃ e n0 rows row e' n' rv, m j = some (.arr e n0 rows) ∧ rows[r]? = some row ∧ row[c]? = some (.sl true e' n' rv) ∧ takeP m ps j = some (.arr e n0 (pullRows rows row r c)) := by
    intro j k r c lo n hp
    have hl := (hlk _ _ _ _ _ hp).2
    cases hq : look m j (some (r, c)) with
    | none => exact absurd hq hl
    | some q =>
      obtain ⟨e1, n1, rs⟩ := q
      rcases look_inv hq with ⟨q0, _⟩ | ⟨r1, c1, e0, n0, rows0, row0, rv, q0, t1, t2, t3, _⟩
      · cases q0
      · cases q0
        exact ⟨_, _, _, _, _, _, _, t1, t2, t3, (takeP_at hps hp).2 _ _ _ _ _ _ rfl t1 t2⟩
  have fC : ∀ {j}, (∀ k ch lo n, (k, LV.rf j ch lo n) ∉ ps) → takeP m ps j = m j := by
    intro j hn
    refine takeP_off fun p hp e => ?_
    obtain ⟨k, x⟩ := p
    cases x <;> simp only [rootOf] at e <;> cases e
    exact hn _ _ _ _ hp
  have kind : ∀ j, (∃ k lo n, (k, LV.rf j none lo n) ∈ ps) ∨ (∃ k r c lo n, (k, LV.rf j (some (r, c)) lo n) ∈ ps) ∨ (∀ k ch lo n, (k, LV.rf j ch lo n) ∉ ps) := by
    intro j
    by_cases hA : ∃ k lo n, (k, LV.rf j none lo n) ∈ ps
    · exact .inl hA
    by_cases hB : ∃ k r c lo n, (k, LV.rf j (some (r, c)) lo n) ∈ ps
    · exact .inr (.inl hB)
    refine .inr (.inr fun k ch lo n q => ?_)
    cases ch with
    | none => exact hA ⟨k, lo, n, q⟩
    | some rc => exact hB ⟨k, rc.1, rc.2, lo, n, q⟩
  have nlC : ∀ {j}, (∀ k ch lo n, (k, LV.rf j ch lo n) ∉ ps) → ¬ lentP ps (.root j) ∧ ∀ r c, ¬ lentP ps (.chld j r c) := by
    intro j hn
    refine ⟨?_, fun r c => ?_⟩
    · rintro ⟨k, i, ch, n, hp, ⟨rfl, e⟩ | ⟨_, _, rfl, e⟩ | ⟨_, _, rfl, e⟩⟩ <;> cases e
      exact hn _ _ _ _ hp
    · rintro ⟨k, i, ch, n, hp, ⟨rfl, e⟩ | ⟨_, _, rfl, e⟩ | ⟨_, _, rfl, e⟩⟩ <;> cases e <;> exact hn _ _ _ _ hp
  have nlB : ∀ {j k r c lo n}, (k, LV.rf j (some (r, c)) lo n) ∈ ps → ¬ lentP ps (.root j) ∧ ∀ r' c', ¬ (r' = r ∧ c' = c) → ¬ lentP ps (.chld j r' c') := by
    intro j k r c lo n hj
    refine ⟨?_, fun r' c' hrc => ?_⟩
    · rintro ⟨k2, i, ch, n2, hp, ⟨rfl, e⟩ | ⟨_, _, rfl, e⟩ | ⟨_, _, rfl, e⟩⟩ <;> cases e
      have := (uniq hp hj).2; cases this
    · rintro ⟨k2, i, ch, n2, hp, ⟨rfl, e⟩ | ⟨_, _, rfl, e⟩ | ⟨_, _, rfl, e⟩⟩ <;> cases e
      · have := (uniq hp hj).2
        cases this
        exact hrc ⟨rfl, rfl⟩
      · have := (uniq hp hj).2; cases this
  have keep : Keep G m G (takeP m ps) := by
    refine ⟨fun q hq => ?_, fun q ch q' hq hl => ?_, fun q c' hq hl => ?_⟩
    · rcases kind q with ⟨k, lo, n, hp⟩ | ⟨k, r, c, lo, n, hp⟩ | hp
      · rw [(fA hp).1]; simp
      · obtain ⟨_, _, _, _, _, _, _, _, _, _, t4⟩ := fB hp
        rw [t4]; simp
      · rw [fC hp]; exact hq
    · rcases kind q with ⟨k, lo, n, hp⟩ | ⟨k, r, c, lo, n, hp⟩ | hp
      · simp [look, (fA hp).1] at hl
      · obtain ⟨e, n0, rows, row, e', n', rv, t1, t2, t3, t4⟩ := fB hp
        have hcl := (List.getElem?_eq_some_iff.1 t3).1
        cases ch with
        | none => rw [look_none t4] at hl; cases hl; exact ⟨_, look_none t1, rfl, rfl, rfl⟩
        | some rc =>
          obtain ⟨r2, c2⟩ := rc
          obtain ⟨e3, n3, rows3⟩ := q'
          rcases look_inv hl with ⟨q0, _⟩ | ⟨r1, c1, e1, n1, rows1, row1, rv1, q0, u1, u2, u3, u4⟩
          · cases q0
          · cases q0
            rw [t4] at u1
            cases u1
            obtain ⟨row0, s1, s2, s3⟩ := pull_in t2 hcl u2
            rcases s3 _ _ u3 with s4 | ⟨s4, _⟩
            · cases s4
            · exact ⟨_, look_some t1 s1 s4, rfl, rfl, rfl⟩
      · rw [look_ext (fC hp)] at hl
        exact ⟨q', hl, rfl, rfl, rfl⟩
    · rcases kind q with ⟨k, lo, n, hp⟩ | ⟨k, r, c, lo, n, hp⟩ | hp
      · rw [(fA hp).1] at hl; cases hl
      · obtain ⟨_, _, _, _, _, _, _, _, _, _, t4⟩ := fB hp
        rw [t4] at hl; cases hl
      · rw [fC hp] at hl; exact ⟨⟨c', hl⟩, rfl⟩
  have back : ∀ p, live (takeP m ps) p → live m p ∧ ¬ lentP ps p := by
    intro p hp
    cases p with
    | root q =>
      rcases kind q with ⟨k, lo, n, hq⟩ | ⟨k, r, c, lo, n, hq⟩ | hq
      · exfalso
        rcases hp with ⟨_, t⟩ | ⟨_, _, _, t⟩ <;> rw [(fA hq).1] at t <;> cases t
      · obtain ⟨e, n0, rows, row, e', n', rv, t1, t2, t3, t4⟩ := fB hq
        exact ⟨.inr ⟨_, _, _, t1⟩, (nlB hq).1⟩
      · refine ⟨?_, (nlC hq).1⟩
        have e := fC hq
        simp only [live, e] at hp
        exact hp
    | chld q r2 c2 =>
      obtain ⟨e0, n1, rows0, row0, e3, n3, l, q1, q2, q3⟩ := hp
      rcases kind q with ⟨k, lo, n, hq⟩ | ⟨k, r, c, lo, n, hq⟩ | hq
      · rw [(fA hq).1] at q1; cases q1
      · obtain ⟨e, n0, rows, row, e', n', rv, t1, t2, t3, t4⟩ := fB hq
        rw [t4] at q1
        cases q1
        obtain ⟨row1, s1, s2, s3⟩ := pull_in t2 (List.getElem?_eq_some_iff.1 t3).1 q2
        rcases s3 _ _ q3 with s4 | ⟨s4, s5⟩
        · cases s4
        · exact ⟨⟨_, _, _, _, _, _, _, t1, s1, s4⟩, (nlB hq).2 r2 c2 s5⟩
      · rw [fC hq] at q1
        exact ⟨⟨e0, n1, rows0, row0, e3, n3, l, q1, q2, q3⟩, (nlC hq).2 r2 c2⟩
  refine ⟨keep, ⟨fun q e2 n2 rows2 hq => ?_, fun q c' hq => ?_, fun p q hp hq he => h.inj p q (back p hp).1 (back q hq).1 he, fun p hp => h.sep p (back p hp).1, fun b hb => Nat.lt_of_lt_of_le (h.old b hb) hsz⟩, back⟩
  · have hb := fun p hp => hsame p (back p hp).1 (back p hp).2
    rcases kind q with ⟨k, lo, n, hp⟩ | ⟨k, r, c, lo, n, hp⟩ | hp
    · rw [(fA hp).1] at hq; cases hq
    · obtain ⟨e, n0, rows, row, e', n', rv, t1, t2, t3, t4⟩ := fB hp
      have hqq := hq
      rw [t4] at hq
      cases hq
      obtain ⟨cs, k1, k2, k3, k4, k5⟩ := h.arr q _ _ rows t1
      refine ⟨cs, (hb (.root q) (.inr ⟨_, _, _, hqq⟩)).trans k1, k2, by simpa [pullRows] using k3, k4, fun r2 row2 hr2 => ?_⟩
      obtain ⟨row0, s1, s2, s3⟩ := pull_in t2 (List.getElem?_eq_some_iff.1 t3).1 hr2
      obtain ⟨f1, f2⟩ := k5 r2 row0 s1
      refine ⟨by rw [← s2]; exact f1, fun c2 x hx => ?_⟩
      rcases s3 c2 x hx with rfl | ⟨s4, _⟩
      · obtain ⟨y, hy⟩ : ∃ y, row0[c2]? = some y := ⟨_, List.getElem?_eq_getElem (by rw [s2]; exact (List.getElem?_eq_some_iff.1 hx).1)⟩
        obtain ⟨u, u1, _⟩ := f2 c2 y hy
        exact ⟨u, u1, trivial⟩
      · obtain ⟨u, u1, u2⟩ := f2 c2 x s4
        refine ⟨u, u1, OwC.mono u2 ⟨rfl, rfl⟩ hS fun e5 n5 l5 hx5 => ?_⟩
        subst hx5
        exact hb (.chld q r2 c2) ⟨_, _, _, _, _, _, _, hqq, hr2, hx⟩
    · have hqq := hq
      rw [fC hp] at hq
      refine OwG.mono (h.arr q e2 n2 rows2 hq) (hb (.root q) (.inr ⟨_, _, _, hqq⟩)) fun r2 c2 row x u hr hc ho => OwC.mono ho ⟨rfl, rfl⟩ hS fun e5 n5 l5 hx5 => ?_
      subst hx5
      exact hb (.chld q r2 c2) ⟨_, _, _, _, _, _, _, hqq, hr, hc⟩
  · have hb := fun p hp => hsame p (back p hp).1 (back p hp).2
    have hqq := hq
    rcases kind q with ⟨k, lo, n, hp⟩ | ⟨k, r, c, lo, n, hp⟩ | hp
    · rw [(fA hp).1] at hq; cases hq
    · obtain ⟨_, _, _, _, _, _, _, _, _, _, t4⟩ := fB hp
      rw [t4] at hq; cases hq
    · rw [fC hp] at hq
      obtain ⟨cs, e, k1, k2⟩ := h.box q c' hq
      exact ⟨cs, e, (hb (.root q) (.inl ⟨_, hqq⟩)).trans k1, k2.mono fun x u _ hx => ⟨R0.write hS keep hx.2.2 hx.1, hx.2.1, wf0.ext keep.ne hx.2.2⟩⟩

/-- two memories in one world -/
theorem Inv.union2 {N2 : Nat → Prop} {G' : Gh} {m' : Mem} (h : Inv S N G m w) (hsep : ∀ p, live m p → ¬ N2 (G.at p)) (hn : ∀ b, N2 b → N b) (h' : Inv S N2 G' m' w) (hd : ∀ i, m' i ≠ none → m i = none) :
    Ext G m w (unionG G G' m') (unionM m m') w ∧ Ext G' m' w (unionG G G' m') (unionM m m') w ∧ Inv S N (unionG G G' m') (unionM m m') w := by
  have n1 : ∀ i, m i ≠ none → m' i = none := fun i hi => by
    cases hq : m' i with
    | none => rfl
    | some x => exact absurd (hd i (by rw [hq]; simp)) hi
  have e1 : Ext G m w (unionG G G' m') (unionM m m') w := ⟨fun i hi => by simp [unionM, n1 i hi], fun i hi => by simp [unionG, n1 i hi], fun _ _ => rfl, Nat.le_refl _⟩
  have e2 : Ext G' m' w (unionG G G' m') (unionM m m') w := by
    refine ⟨fun i hi => ?_, fun i hi => ?_, fun _ _ => rfl, Nat.le_refl _⟩
    · cases hq : m' i with
      | none => exact absurd hq hi
      | some x => simp [unionM, hq]
    · cases hq : m' i with
      | none => exact absurd hq hi
      | some x => simp [unionG, hq]
  have split : ∀ i x, unionM m m' i = some x → (m' i = some x) ∨ (m' i = none ∧ m i = some x) := by
    intro i x hx
    unfold unionM at hx
    cases hq : m' i with
    | none => rw [hq] at hx; exact .inr ⟨rfl, hx⟩
    | some y => rw [hq] at hx; exact .inl hx
  have lv : ∀ p, live (unionM m m') p → (live m' p ∧ (unionG G G' m').at p = G'.at p) ∨ (live m p ∧ (unionG G G' m').at p = G.at p) := by
    intro p hp
    cases p with
    | root i =>
      rcases hp with ⟨c, hc⟩ | ⟨e, n, rows, hc⟩ <;> rcases split i _ hc with h1 | ⟨h1, h2⟩
      · exact .inl ⟨.inl ⟨c, h1⟩, by simp [Gh.at, unionG, h1]⟩
      · exact .inr ⟨.inl ⟨c, h2⟩, by simp [Gh.at, unionG, h1]⟩
      · exact .inl ⟨.inr ⟨e, n, rows, h1⟩, by simp [Gh.at, unionG, h1]⟩
      · exact .inr ⟨.inr ⟨e, n, rows, h2⟩, by simp [Gh.at, unionG, h1]⟩
    | chld i r c =>
      obtain ⟨e, n, rows, row, e', n', rows', hc, q1, q2⟩ := hp
      rcases split i _ hc with h1 | ⟨h1, h2⟩
      · exact .inl ⟨⟨e, n, rows, row, e', n', rows', h1, q1, q2⟩, by simp [Gh.at, unionG, h1]⟩
      · exact .inr ⟨⟨e, n, rows, row, e', n', rows', h2, q1, q2⟩, by simp [Gh.at, unionG, h1]⟩
  refine ⟨e1, e2, fun i e n rows hi => ?_, fun i cells hi => ?_, fun p q hp hq he => ?_, fun p hp => ?_, h'.old⟩
  · rcases split i _ hi with h1 | ⟨h1, h2⟩
    · have := h'.arr i e n rows h1
      obtain ⟨g1, g2, g3, g4⟩ := e2.blk i (by rw [h1]; simp)
      rw [g1, g2]
      exact OwG.mono this rfl fun r c row x u _ _ ho => OwC.mono ho ⟨by rw [g3], by rw [g4]⟩ (fun _ _ => rfl) (fun _ _ _ _ => rfl)
    · have := h.arr i e n rows h2
      obtain ⟨g1, g2, g3, g4⟩ := e1.blk i (by rw [h2]; simp)
      rw [g1, g2]
      exact OwG.mono this rfl fun r c row x u _ _ ho => OwC.mono ho ⟨by rw [g3], by rw [g4]⟩ (fun _ _ => rfl) (fun _ _ _ _ => rfl)
  · rcases split i _ hi with h1 | ⟨h1, h2⟩
    · obtain ⟨cs, e, k1, k2⟩ := h'.box i cells h1
      obtain ⟨g1, _⟩ := e2.blk i (by rw [h1]; simp)
      exact ⟨cs, e, by rw [g1]; exact k1, k2.mono fun x u _ hx => ⟨R0.ext h'.old e2 hx.2.2 hx.1, hx.2.1, wf0.ext e2.ne hx.2.2⟩⟩
    · obtain ⟨cs, e, k1, k2⟩ := h.box i cells h2
      obtain ⟨g1, _⟩ := e1.blk i (by rw [h2]; simp)
      exact ⟨cs, e, by rw [g1]; exact k1, k2.mono fun x u _ hx => ⟨R0.ext h.old e1 hx.2.2 hx.1, hx.2.1, wf0.ext e1.ne hx.2.2⟩⟩
  · rcases lv p hp with ⟨p1, p2⟩ | ⟨p1, p2⟩ <;> rcases lv q hq with ⟨q1, q2⟩ | ⟨q1, q2⟩ <;> rw [p2, q2] at he
    · exact h'.inj p q p1 q1 he
    · exact absurd (by rw [← he]; exact (h'.sep p p1).2) (hsep q q1)
    · exact absurd (by rw [he]; exact (h'.sep q q1).2) (hsep p p1)
    · exact h.inj p q p1 q1 he
  · rcases lv p hp with ⟨p1, p2⟩ | ⟨p1, p2⟩ <;> rw [p2]
    · exact ⟨(h'.sep p p1).1, hn _ (h'.sep p p1).2⟩
    · exact h.sep p p1

variable {nt : Nat}
theorem cm_does (h : SA nt ov S N G st a w) {call : CallF} (hcall : CallW ov.tb P call) {f' : Operand} {xs : List Opd} {xs' : Array Operand} {ts : Array TypeId} {o : Oper} {g d : Nat} (hf : fO (.k (.cl g [])) f' = true) (hx : fOs xs xs'.toList = true)
    (ho : o.op = .call ⟨.value f', xs', ts⟩) (hd : d < nt) (hv : evCM call d g xs st = some st') :
    Op1 P o a w (fun v w' => (∃ G', SA nt ov S N G' st' (a.put (some d) v) w') ∧ FrN N w w') := by
  unfold evCM at hv
  split at hv
  case h_2 => cases hv
  rename_i ys hcl
  split at hv
  case h_2 => cases hv
  rename_i r hc
  split at hv
  case isFalse => cases hv
  rename_i hg
  split at hv
  case h_2 => cases hv
  rename_i m1 hb
  cases hv
  obtain ⟨hen, hsr, hcon⟩ := hcall.m g ys r hg hc
  have e1 := (h.toSR.opd hf).1
  simp only [opd] at e1
  obtain ⟨cs0, e1, q1, _⟩ := e1
  obtain ⟨l1, l2⟩ := fOs_get hx
  have hX : R G S st.m w (.tu (xs.map (opd st.s))) (.tuple (xs'.map a.eval)) ∧ wf st.m (.tu (xs.map (opd st.s))) := by
    have hsm : small (.tu (xs.map (opd st.s))) = true := by
      unfold closeV at hcl
      split at hcl
      · rename_i hcond; exact hcond.1
      · cases hcl
    have hsm' : ∀ x ∈ xs.map (opd st.s), small1 x = true := fun x hx => List.all_eq_true.1 (by simpa [small] using hsm) x hx
    have one : ∀ x ∈ xs.map (opd st.s), ∀ u, R G S st.m w x u ∧ wf st.m x → R1 G S st.m w x u ∧ wf1 st.m x := by
      intro x hx u hu
      have := hsm' x hx
      cases x <;> first | exact hu | (cases this; done)
    refine ⟨⟨_, rfl, ?_, fun k x hk => ?_⟩, fun x hx => ?_⟩
    · simp; simpa using l1.symm
    · have hm := List.mem_of_getElem? hk
      simp only [List.getElem?_map, Option.map_eq_some_iff] at hk
      obtain ⟨z, hz, rfl⟩ := hk
      obtain ⟨z', y1, y2⟩ := l2 k z hz
      refine ⟨a.eval z', ?_, (one _ hm _ (h.toSR.opd y2)).1⟩
      rw [Array.getElem?_toList] at y1
      simp [y1]
    · obtain ⟨k, hk⟩ := List.getElem?_of_mem hx
      simp only [List.getElem?_map, Option.map_eq_some_iff] at hk
      obtain ⟨z, hz, rfl⟩ := hk
      obtain ⟨z', y1, y2⟩ := l2 k z hz
      exact (one _ hx _ (h.toSR.opd y2)).2
  obtain ⟨hX1, hX2⟩ := hX
  have hcl' := hcl
  unfold closeV at hcl'
  split at hcl'
  case isFalse => cases hcl'
  rename_i hcond
  obtain ⟨hsm, hall, hdup⟩ := hcond
  obtain ⟨G0, m0, t1, t2, t3, t4, t5, t6, t7⟩ := trans_names2 h.inv hX1 hX2 hcl mk0_inj
  generalize hps : parts (.tu (xs.map (opd st.s))) = ps at *
  have hlk : ∀ k i ch lo n, (k, LV.rf i ch lo n) ∈ ps → lo = 0 ∧ look st.m i ch ≠ none := by
    intro k i ch lo n hp
    have := List.all_eq_true.1 hall _ hp
    simp only [close0] at this
    split at this
    · rename_i hl
      split at this
      · rename_i hq; exact ⟨hq.1, by rw [hl]; simp⟩
      · cases this
    · cases this
  have hinv0 : Inv S (fun b => w.heap.size ≤ b ∨ ∃ p0, live st.m p0 ∧ lentP ps p0 ∧ G.at p0 = b) G0 m0 w :=
    ⟨t2.arr, t2.box, t2.inj, fun p hp => ⟨(t2.sep p hp).1, by obtain ⟨p0, z1, z2, z3⟩ := t7 p hp; exact .inr ⟨p0, z1, z3, z2.symm⟩⟩, t2.old⟩
  refine .inr ⟨g, xs'.map a.eval, ?_, ?_⟩
  · have : cs0 = #[] := by simpa using q1
    simp [execOp, ho, resolve, Deferred.ofValue, e1, invoke, run_callFunc hen, this]
  have hSN : ∀ b, S b → ¬ (w.heap.size ≤ b ∨ ∃ p0, live st.m p0 ∧ lentP ps p0 ∧ G.at p0 = b) := by
    intro b hb q
    rcases q with q | ⟨p0, z1, z2, z3⟩
    · have := h.inv.old b hb; omega
    · exact (h.inv.sep p0 z1).1 (by rw [z3]; exact hb)
  refine Calls.mono (hcon S _ w _ G0 m0 t1 hinv0 t3 t4 (fun b hb => .inl hb) hSN (h.tb.sub fun b hb => by rcases hb with hb | ⟨p0, z1, _, rfl⟩; exact h.new b hb; exact (h.inv.sep p0 z1).2)) fun e w' => ?_
  rintro ⟨vv, rfl, hfr, hres⟩
  refine ⟨vv, rfl, ?_⟩
  obtain ⟨G', m', a1, a2, a3, a4⟩ := hres (.rs d) (fun a b e => by cases e; rfl)
  have hNN : ∀ b, (w.heap.size ≤ b ∨ ∃ p0, live st.m p0 ∧ lentP ps p0 ∧ G.at p0 = b) → N b := by
    rintro b (hb | ⟨p0, z1, _, rfl⟩)
    · exact h.new b hb
    · exact (h.inv.sep p0 z1).2
  have hfr' : FrN N w w' := ⟨hfr.os, hfr.tape, hfr.output, hfr.size, fun b hb hn => hfr.block b hb (fun q => hn (hNN b q))⟩
  have nosep : ∀ p, live st.m p → ¬ lentP ps p → ¬ (w.heap.size ≤ G.at p ∨ ∃ p0, live st.m p0 ∧ lentP ps p0 ∧ G.at p0 = G.at p) := by
    intro p hp hn q
    rcases q with q | ⟨p0, z1, z2, z3⟩
    · have := h.inv.lt hp; omega
    · have := h.inv.inj p0 p z1 hp z3
      subst this
      exact hn z2
  have hS : ∀ b, S b → w'.heap[b]? = w.heap[b]? := fun b hb => hfr.block b (h.inv.old b hb) (hSN b hb)
  obtain ⟨k1, k2, k3⟩ := take_Inv (w' := w') h.inv hdup hlk (fun p hp hn => hfr.block _ (h.inv.lt hp) (nosep p hp hn)) hS hfr.size
  obtain ⟨u1, u2⟩ := adds_union (m0 := noMem) a1 hb (fun i hi => absurd rfl hi)
  obtain ⟨x1, x2, x3⟩ := k2.union2 (fun p hp => nosep p (k3 p hp).1 (k3 p hp).2) hNN a2 (fun i hi => u1 i hi rfl)
  have hmm : m1 = unionM (takeP st.m ps) m' := u2
  have all : ∀ y u, R G S st.m w y u → wf st.m y → R (unionG G G' m') S m1 w' y u ∧ wf m1 y := fun y u hy hw => by
    rw [hmm]
    have w1 := wf.ext k1.ne hw
    exact ⟨R.ext k2.old x1 w1 (R.write hS k1 hw hy), wf.ext x1.ne w1⟩
  have base : SA nt ov S N (unionG G G' m') ⟨st.s, m1⟩ a w' :=
    ⟨⟨by rw [hmm]; exact x3, fun t => all _ _ (h.slot t).1 (h.slot t).2, h.df, fun b hb => h.new b (Nat.le_trans hfr.size hb), h.tb.fr hfr'⟩, h.size, h.few⟩
  refine ⟨⟨unionG G G' m', ?_⟩, hfr'⟩
  exact base.put hd (by rw [hmm]; exact x3) (fun x u hx hw => ⟨hx, hw⟩) (by rw [hmm]; exact R.ext a2.old x2 a4 a3) (by rw [hmm]; exact wf.ext x2.ne a4) (FrN.refl _ _)
end

/-! ### regions with such calls -/
/-- a call of a function that writes into what it is lent -/
def isCw (W : List Nat) (x : OpI) : Bool :=
  match x.op, x.g, x.w with
  | .ca (.k (.cl g [])) _, none, false => has W g || has W (mvN + g) || has W (puN + g)
  | _, _, _ => false
def toW (W : List Nat) (x : OpI) : OpI :=
  match x.op, x.g, x.w with
  | .ca (.k (.cl g [])) xs, none, false => if has W g = true then ⟨x.d, .cw g [] xs, none, false⟩ else if has W (mvN + g) = true then ⟨x.d, .cw g [true] xs, none, false⟩ else if has W (puN + g) = true then ⟨x.d, .cw g [false] xs, none, false⟩ else x
  | _, _, _ => x
/-- operations that look at nothing that a call moves: at boxes and at what is read alone -/
def needS : IOp → Bool
  | .fa .. | .ld .. | .ia .. => true | _ => false
def calmN : IOp → Bool
  | .mv _ | .ar .. | .cv .. | .ng _ | .nt _ | .xt .. => true | _ => false
def isBR : LV → Bool
  | .bp _ _ => true | .rp _ => true | _ => false
def isRO : LV → Bool
  | .ro _ _ => true | _ => false
def calmV (s : Nat → LV) : IOp → Bool
  | .fa _ x => isBR (opd s x) | .ld _ _ x => isBR (opd s x) | .ia _ x _ => isRO (opd s x) | _ => false
def strictB (x : OpI) : Bool := x.w && (needS x.op && x.g.isNone)
def unS (x : OpI) : OpI := ⟨x.d, x.op, none, false⟩
def toS (x : OpI) : OpI := ⟨x.d, x.op, none, true⟩
def evOw (call : CallF) (x : OpI) (st : St) : Option St :=
  if strictB x = true then (if calmV st.s x.op = true then evO call (unS x) st else none) else
  match x.op with
  | .cw g [] xs => evCW call x.d g xs st
  | .cw g (true :: _) xs => evCM call x.d g xs st
  | .cw g (false :: _) xs => evCP call x.d g xs st
  | _ => evO call x st
def evLw (call : CallF) : List OpI → St → Option St
  | [], st => some st
  | x :: l, st => match evOw call x st with | some st' => evLw call l st' | none => none

section
variable {P : Program} {ov : Ov} {S N : Nat → Prop} {G : Gh} {m : Mem} {st st' : St} {a : Act} {w : World} {nt : Nat} {ops : Array Oper} {ios : List OpI} {call : CallF} {Q : Exit → Act → World → Prop} {W : List Nat}
theorem cOp_ca {op : Op} {f : Opd} {xs : List Opd} (hc : cOp P op = some (.ca f xs)) : ∃ f' xs' ts, op = .call ⟨.value f', xs', ts⟩ ∧ cO f' = some f ∧ cOs xs'.toList = some xs := by
  unfold cOp at hc
  split at hc
  case h_23 c =>
    obtain ⟨callee, args, ts⟩ := c
    unfold cCall at hc
    simp only at hc
    split at hc
    case h_5 =>
      split at hc
      case h_2 => cases hc
      rename_i h1 h2
      cases hc
      exact ⟨_, _, _, rfl, h1, h2⟩
    all_goals ((repeat' split at hc); all_goals (cases hc; done))
  all_goals first
    | (cases hc; done)
    | (rw [Option.map_eq_some_iff] at hc; obtain ⟨y, hy, hc⟩ := hc; cases hc; done)
    | skip
  all_goals first
    | (unfold cBin at hc; (repeat' split at hc); all_goals (cases hc; done))
    | ((repeat' split at hc); all_goals (cases hc; done))

theorem cop_nocw {op : Op} {g : Nat} {md : List Bool} {xs : List Opd} (hc : cOp P op = some (.cw g md xs)) : False := by
  unfold cOp at hc
  split at hc
  case h_23 c =>
    obtain ⟨callee, args, ts⟩ := c
    unfold cCall at hc
    simp only at hc
    repeat' split at hc
    all_goals (cases hc; done)
  all_goals first
    | (cases hc; done)
    | (rw [Option.map_eq_some_iff] at hc; obtain ⟨y, hy, hc⟩ := hc; cases hc; done)
    | skip
  all_goals first
    | (unfold cBin at hc; (repeat' split at hc); all_goals (cases hc; done))
    | ((repeat' split at hc); all_goals (cases hc; done))

theorem cio_nost {o : Oper} {io : OpI} (hc : cIO P nt ops o = some io) : strictB io = false := by
  unfold strictB
  cases hw : io.w with
  | false => rfl
  | true =>
    have := cIO_so hc hw
    cases hop : io.op <;> rw [hop] at this <;> first | rfl | (cases this; done)
theorem evOw_st {x : OpI} (hx : strictB x = true) {call : CallF} {st : St} : evOw call x st = if calmV st.s x.op = true then evO call (unS x) st else none := by
  unfold evOw; rw [if_pos hx]
theorem evOw_ns {x : OpI} (hx : strictB x = false) {call : CallF} {st : St} : evOw call x st = (match x.op with | .cw g [] xs => evCW call x.d g xs st | .cw g (true :: _) xs => evCM call x.d g xs st | .cw g (false :: _) xs => evCP call x.d g xs st | _ => evO call x st) := by
  unfold evOw; rw [if_neg (by rw [hx]; decide)]
theorem evOw_wpOp (h : SA nt ov S N G st a w) (hcall : CallOk ov.tb P call) (hcw : CallW ov.tb P call) {i : Nat} {o : Oper} (hi : ops[i]? = some o) {io : OpI} (hc : cIO P nt ops o = some io) (hv : evOw call (toW W io) st = some st')
    {K : Act → World → Prop} {Q : Exit → Act → World → Prop} (hK : ∀ G' a' w', SA nt ov S N G' st' a' w' → FrN N w w' → K a' w') : wpOp P ops Q i K a w := by
  have nocw : ∀ g md xs, io.op = .cw g md xs → False := by
    intro g md xs hop
    have hc' := hc
    unfold cIO at hc'
    split at hc'
    case h_2 => cases hc'
    rename_i iop gg h3 h4
    split at hc' <;> split at hc' <;> cases hc'
    · simp only at hop; rw [hop] at h3; exact cop_nocw h3
    · simp only at hop; rw [hop] at h3; exact cop_nocw h3
  have nst := cio_nost hc
  have plain : ∀ {st'' : St}, evOw call io st = some st'' → st'' = st' → evO call io st = some st' := by
    intro st'' h1 h2
    subst h2
    unfold evOw at h1
    rw [if_neg (by rw [nst]; decide)] at h1
    split at h1
    · rename_i hop
      exact (nocw _ _ _ hop).elim
    · rename_i hop
      exact (nocw _ _ _ hop).elim
    · rename_i hop
      exact (nocw _ _ _ hop).elim
    · exact h1
  unfold toW at hv
  split at hv
  case h_2 => exact evO_wpOp h hcall hi hc (plain hv rfl) hK
  rename_i g xs hop hg hw
  have hv : (has W g = true ∧ evCW call io.d g xs st = some st' ∨ evCM call io.d g xs st = some st' ∨ evCP call io.d g xs st = some st') ∨ evOw call io st = some st' := by
    split at hv
    · rename_i hw1; exact .inl (.inl ⟨hw1, hv⟩)
    · split at hv
      · exact .inl (.inr (.inl hv))
      · split at hv
        · exact .inl (.inr (.inr hv))
        · exact .inr hv
  rcases hv with hv | hv
  case inr => exact evO_wpOp h hcall hi hc (plain hv rfl) hK
  have hc' := hc
  unfold cIO at hc'
  split at hc'
  case h_2 => cases hc'
  rename_i iop gg h3 h4
  split at hc'
  case h_2 =>
    split at hc'
    · cases hc'; cases hw
    · cases hc'
  rename_i d hd
  split at hc'
  case isFalse => cases hc'
  rename_i hcond
  cases hc'
  simp only at hop hg
  subst hop
  subst hg
  obtain ⟨f', xs', ts, ho, k1, k2⟩ := cOp_ca h3
  have hgn : o.guard = none := by
    unfold cGuard at h4
    split at h4
    · rename_i hgn; exact hgn
    · split at h4
      · split at h4 <;> cases h4
      · cases h4
  unfold wpOp
  simp only [hi]
  rw [if_pos (by simp [Region.wanted, hgn])]
  left
  rcases hv with ⟨_, hv⟩ | hv | hv
  · refine (cw_does (P := P) h hcw (cO_fO k1) (cOs_fOs k2) ho hcond.1 hv).wp fun v w' ⟨⟨G', hs⟩, hf⟩ => ?_
    rw [hd]
    exact hK G' _ w' hs hf
  · refine (cm_does (P := P) h hcw (cO_fO k1) (cOs_fOs k2) ho hcond.1 hv).wp fun v w' ⟨⟨G', hs⟩, hf⟩ => ?_
    rw [hd]
    exact hK G' _ w' hs hf
  · refine (cp_does (P := P) h hcw (cO_fO k1) (cOs_fOs k2) ho hcond.1 hv).wp fun v w' ⟨⟨G', hs⟩, hf⟩ => ?_
    rw [hd]
    exact hK G' _ w' hs hf

theorem regw_wp (h : SA nt ov S N G st a w) (hcall : CallOk ov.tb P call) (hcw : CallW ov.tb P call) (hl : cList (cIO P nt ops) ops.toList = some ios) (hv : evLw call (ios.map (toW W)) st = some st') {id : Nat}
    (hQ : ∀ G' a' w', SA nt ov S N G' st' a' w' → FrN N w w' → Q .normal a' w') : (Code.region id ops false).wp P Q a w := by
  refine wp_region ?_
  obtain ⟨h1, h2⟩ := cList_get hl
  have key : ∀ (n p : Nat) {st : St} {G : Gh} {a : Act} {w : World}, p + n = ios.length → SA nt ov S N G st a w → evLw call ((ios.drop p).map (toW W)) st = some st' →
      (∀ G' a' w', SA nt ov S N G' st' a' w' → FrN N w w' → Q .normal a' w') → wpOps P ops Q (List.range' p n) a w := by
    intro n
    induction n with
    | zero =>
      intro p st G a w hp h hv hQ
      rw [List.drop_eq_nil_of_le (by omega)] at hv
      cases hv
      exact hQ G a w h (FrN.refl _ _)
    | succ n ih =>
      intro p st G a w hp h hv hQ
      have hlt : p < ios.length := by omega
      rw [List.drop_eq_getElem_cons hlt, List.map_cons] at hv
      simp only [evLw] at hv
      split at hv
      case h_2 => cases hv
      rename_i s1 e1
      obtain ⟨o, q1, q2⟩ := h2 p _ (List.getElem?_eq_getElem hlt)
      rw [List.range'_succ, wpOps_cons]
      exact evOw_wpOp h hcall hcw (by simpa using q1) q2 e1 fun G' a' w' hs hf => ih (p + 1) (by omega) hs hv fun G2 a2 w2 hs2 hf2 => hQ G2 a2 w2 hs2 (hf.trans hf2)
  have := key ios.length 0 (by omega) h (by simpa using hv) hQ
  rw [List.range_eq_range']
  have hz : ios.length = ops.size := by simpa using h1
  rw [← hz]; exact this
/-! ### such regions in any order -/
theorem cio_nocw {o : Oper} {io : OpI} (hc : cIO P nt ops o = some io) : ∀ g md xs, io.op ≠ .cw g md xs := by
  intro g md xs hop
  have hc' := hc
  unfold cIO at hc'
  split at hc'
  case h_2 => cases hc'
  rename_i iop gg h3 h4
  split at hc' <;> split at hc' <;> cases hc'
  · simp only at hop; rw [hop] at h3; exact cop_nocw h3
  · simp only at hop; rw [hop] at h3; exact cop_nocw h3
theorem evOw_nc {x : OpI} (hx : isCw W x = false) (hs : strictB x = false) (hn : ∀ g md xs, x.op ≠ .cw g md xs) : evOw call (toW W x) st = evO call x st := by
  have p : evOw call x st = evO call x st := by
    rw [evOw_ns hs]
    split
    · rename_i hop; exact absurd hop (hn _ _ _)
    · rename_i hop; exact absurd hop (hn _ _ _)
    · rename_i hop; exact absurd hop (hn _ _ _)
    · rfl
  unfold toW
  split
  · rename_i g xs h1 h2 h3
    unfold isCw at hx
    rw [h1, h2, h3] at hx
    simp only [Bool.or_eq_false_iff] at hx
    rw [hx.1.1, hx.1.2, hx.2]
    simpa using p
  · exact p
/-! ### calm operations beside a call that is given slices -/
theorem opd_at {s s' : Nat → LV} {x : Opd} (h : ∀ n, x = .t n → s' n = s n) : opd s' x = opd s x := by
  cases x with
  | t n => exact h n rfl
  | k v => rfl
def boxed (m m' : Mem) : Prop := ∀ i cells, m i = some (.box cells) → m' i = some (.box cells)
/-- what a calm operation answers stays, where the boxes stay -/
theorem calm_R {call : CallF} {s s' : Nat → LV} {m m' : Mem} {d : Nat} {op : IOp} (hc : (needS op = true ∧ calmV s op = true) ∨ calmN op = true) (hs : ∀ x ∈ opdsI op, opd s' x = opd s x) (hm : boxed m m') {v : LV} {l : List (Id × Thing)} (h : evR call d ⟨s, m⟩ op = some (v, l)) :
    l = [] ∧ evR call d ⟨s', m'⟩ op = some (v, []) := by
  have noA : ∀ {o : Option LV}, noAdd o = some (v, l) → l = [] ∧ noAdd o = some (v, []) := by
    intro o h
    cases o with
    | none => cases h
    | some u => cases h; exact ⟨rfl, rfl⟩
  cases op with
  | mv x =>
    have e := hs x (by simp [opdsI])
    simp only [evR, Option.some.injEq, Prod.mk.injEq] at h ⊢
    exact ⟨h.2.symm, by rw [e]; exact h.1, trivial⟩
  | ar o b x y =>
    have e1 := hs x (by simp [opdsI])
    have e2 := hs y (by simp [opdsI])
    simp only [evR, e1, e2] at h ⊢
    split at h
    · rename_i hb; rw [if_pos hb]; exact noA h
    · cases h
  | cv k x =>
    have e1 := hs x (by simp [opdsI])
    simp only [evR, e1] at h ⊢
    split at h
    · cases h; exact ⟨rfl, rfl⟩
    · cases h
  | ng x =>
    have e1 := hs x (by simp [opdsI])
    simp only [evR, e1] at h ⊢
    split at h
    · cases h; exact ⟨rfl, rfl⟩
    · cases h
  | nt x =>
    have e1 := hs x (by simp [opdsI])
    simp only [evR, e1] at h ⊢
    split at h
    · cases h; exact ⟨rfl, rfl⟩
    · cases h
  | xt x k =>
    have e1 := hs x (by simp [opdsI])
    simp only [evR, e1] at h ⊢
    split at h
    · first
        | exact noA h
        | (split at h <;> first | (cases h; exact ⟨rfl, rfl⟩) | cases h)
    · cases h
  | fa k x =>
    have e1 := hs x (by simp [opdsI])
    have hb : isBR (opd s x) = true := by
      rcases hc with hc | hc
      · exact hc.2
      · cases hc
    simp only [evR, e1] at h ⊢
    cases hx : opd s x <;> rw [hx] at h hb <;> try (cases hb; done)
    · rename_i i o
      simp only at h ⊢
      split at h
      · rename_i cells hi
        cases h
        rw [hm i _ hi]
        exact ⟨rfl, rfl⟩
      · cases h
    · simp only at h ⊢
      split at h
      · rename_i q; cases h; rw [if_pos q]; exact ⟨rfl, rfl⟩
      · cases h
  | ld n agg x =>
    have e1 := hs x (by simp [opdsI])
    have hb : isBR (opd s x) = true := by
      rcases hc with hc | hc
      · exact hc.2
      · cases hc
    simp only [evR, e1] at h ⊢
    cases hx : opd s x <;> rw [hx] at h hb <;> try (cases hb; done)
    · rename_i i o
      simp only [loadAt] at h ⊢
      cases hi : m i with
      | none => rw [hi] at h; cases h
      | some t =>
        rw [hi] at h
        cases t with
        | box cells =>
          rw [hm i _ hi]
          exact noA h
        | arr _ _ _ => cases h
        | dead => cases h
    · exact noA h
  | ia n0 x i =>
    have e1 := hs x (by simp [opdsI])
    have e2 := hs i (by simp [opdsI])
    have hb : isRO (opd s x) = true := by
      rcases hc with hc | hc
      · exact hc.2
      · cases hc
    simp only [evR, e1, e2] at h ⊢
    cases hx : opd s x <;> rw [hx] at h hb <;> try (cases hb; done)
    cases hi : opd s i <;> rw [hi] at h <;> try (cases h; done)
    rename_i u
    cases u <;> try (cases h; done)
    simp only at h ⊢
    split at h
    · rename_i q
      rw [if_pos q]
      split at h
      · cases h; exact ⟨rfl, rfl⟩
      · cases h
    · cases h
  | _ => rcases hc with hc | hc <;> first | (cases hc; done) | (cases hc.1; done)
theorem calm_noW {op : IOp} (hc : needS op = true ∨ calmN op = true) : isW op = false := by
  cases op <;> first | rfl | (rcases hc with hc | hc <;> cases hc)
/-- a calm operation, run: only its own slot is other behind it -/
theorem calm_O {call : CallF} {x : OpI} {st s1 : St} (hg : x.g = none) (hw : x.w = false) (hc : (needS x.op = true ∧ calmV st.s x.op = true) ∨ calmN x.op = true) (h1 : evO call x st = some s1) :
    ∃ v, s1 = ⟨updS st.s x.d v, st.m⟩ ∧ ∀ s' m', (∀ z ∈ opdsI x.op, opd s' z = opd st.s z) → boxed st.m m' → evO call x ⟨s', m'⟩ = some ⟨updS s' x.d v, m'⟩ := by
  have hnw := calm_noW (op := x.op) (hc.imp And.left id)
  unfold evO at h1
  rw [hg] at h1
  simp only [evD, hw, hnw] at h1
  cases hr : evR call x.d st x.op with
  | none => rw [hr] at h1; cases h1
  | some p =>
    obtain ⟨v, l⟩ := p
    rw [hr] at h1
    obtain ⟨s, m⟩ := st
    have hl := (calm_R hc (fun _ _ => rfl) (fun _ _ q => q) hr).1
    subst hl
    simp only [adds, Option.some.injEq] at h1
    refine ⟨v, h1.symm, fun s' m' e1 e2 => ?_⟩
    have := (calm_R hc e1 e2 hr).2
    unfold evO
    rw [hg]
    simp only [evD, hw, hnw, this, adds]
theorem calmV_same {s s' : Nat → LV} {op : IOp} (h : ∀ x ∈ opdsI op, opd s' x = opd s x) : calmV s' op = calmV s op := by
  cases op <;> first | rfl | (simp only [calmV]; rw [h _ (by simp [opdsI])])
theorem rd_keep {call : CallF} {x : OpI} {st s1 : St} (hx : rdOk x = true) (h : evO call x st = some s1) : ∀ b, b ≠ x.d → s1.s b = st.s b := by
  intro b hb
  simp only [rdOk, Bool.and_eq_true, Bool.not_eq_true'] at hx
  have upd : ∀ v, updS st.s x.d v b = st.s b := fun v => by simp only [updS]; rw [if_neg hb]
  have key : ∀ s2, evD call x st = some s2 → s2.s b = st.s b := by
    intro s2 h2
    simp only [evD, hx.1.1, hx.1.2] at h2
    split at h2
    · split at h2
      · cases h2; exact upd _
      · cases h2
    · cases h2
  unfold evO at h
  split at h
  · exact key _ h
  · split at h
    · split at h
      · exact key _ h
      · cases h; simp only [evSkip, hx.1.1]; exact upd _
    · cases h; simp only [evSkip, hx.1.1]; exact upd _
    · cases h
theorem takeP_boxed : ∀ {l : List (Nat × LV)} {m : Mem}, (∀ p ∈ l, ∀ i, rootOf p = some i → ∀ cells, m i ≠ some (.box cells)) → boxed m (takeP m l) := by
  intro l
  induction l with
  | nil => intro m _ i cells h; exact h
  | cons p l ih =>
    intro m hp i cells h
    obtain ⟨k, y⟩ := p
    have step : ∀ (m2 : Mem) (j : Id), rootOf (k, y) = some j → (∀ q, q ≠ j → m2 q = m q) → (∀ c, m2 j ≠ some (.box c)) → takeP m2 l i = some (.box cells) := by
      intro m2 j hj h2 h3
      have hij : i ≠ j := fun e => hp (k, y) (by simp) j hj cells (by rw [← e]; exact h)
      refine ih (fun p hp' q hq c => ?_) i cells (by rw [h2 i hij]; exact h)
      by_cases e : q = j
      · rw [e]; exact h3 c
      · rw [h2 q e]; exact hp p (by simp [hp']) q hq c
    cases y with
    | rf j ch lo n =>
      cases ch with
      | none => exact step _ j rfl (fun q hq => by simp only [updM]; rw [if_neg hq]) (fun c => by simp [updM_eq])
      | some rc =>
        obtain ⟨r, c⟩ := rc
        refine step _ j rfl (fun q hq => pullT_ne hq _) (fun c2 => ?_)
        have hne := hp (k, .rf j (some (r, c)) lo n) (by simp) j rfl
        cases hj : m j with
        | none => simp only [pullT, hj]; exact fun e => by cases e
        | some th =>
          cases th with
          | box cs => exact absurd hj (hne cs)
          | arr e n' rows =>
            simp only [pullT]
            cases rows[r]? with
            | none => simp only [hj]; exact fun e => by cases e
            | some row => simp [updM_eq]
          | dead => simp only [pullT, hj]; exact fun e => by cases e
    | _ => exact ih (fun p hp' => hp p (by simp [hp'])) i cells h
theorem close_noBox {m : Mem} {r y : LV} (h : closeV m r = some y) : ∀ p ∈ parts r, ∀ i, rootOf p = some i → ∀ cells, m i ≠ some (.box cells) := by
  intro p hp i hi cells hm
  unfold closeV at h
  split at h
  case isFalse => cases h
  rename_i hc
  have hq := List.all_eq_true.1 hc.2.1 p hp
  obtain ⟨k, v⟩ := p
  cases v <;> simp only [rootOf] at hi <;> try (cases hi; done)
  rename_i j ch lo n
  cases hi
  simp only [close0, look, hm] at hq
  cases ch <;> cases hq
/-- a call that is given slices, ahead of a calm operation -/
theorem calm_cm {call : CallF} {x : OpI} {st s1 s2 : St} {d g : Nat} {xs : List Opd} (hg : x.g = none) (hw : x.w = false) (hc : (needS x.op = true ∧ calmV st.s x.op = true) ∨ calmN x.op = true) (h1 : evO call x st = some s1)
    (h2 : evCM call d g xs s1 = some s2) (hd : x.d ≠ d) (hxs : ∀ z ∈ xs, z ≠ .t x.d) (hop : ∀ z ∈ opdsI x.op, z ≠ .t d) :
    ∃ t, evCM call d g xs st = some t ∧ evO call x t = some s2 ∧ calmV t.s x.op = calmV st.s x.op := by
  obtain ⟨v, rfl, hv⟩ := calm_O hg hw hc h1
  have e1 : xs.map (opd (updS st.s x.d v)) = xs.map (opd st.s) := List.map_congr_left fun z hz => opd_at fun n e => by
    simp only [updS]; rw [if_neg fun q => hxs z hz (by rw [e, q])]
  simp only [evCM, e1] at h2 ⊢
  split at h2
  case h_2 => cases h2
  rename_i ys hcl
  split at h2
  case h_2 => cases h2
  rename_i r hr
  split at h2
  case isFalse => cases h2
  rename_i hgn
  split at h2
  case h_2 => cases h2
  rename_i m1 ha
  cases h2
  have ho : ∀ z ∈ opdsI x.op, opd (updS st.s d (openV (.rs d) r).1) z = opd st.s z := fun z hz => opd_at fun n e => by
    simp only [updS]; rw [if_neg fun q => hop z hz (by rw [e, q])]
  refine ⟨⟨updS st.s d (openV (.rs d) r).1, m1⟩, by simp only [hr, if_pos hgn, ha], ?_, calmV_same ho⟩
  have hbx : boxed st.m m1 := by
    intro i cells hi
    have h3 := takeP_boxed (close_noBox hcl) i cells hi
    rw [(adds_keep ha).1 i (by rw [h3]; exact fun e => by cases e)]
    exact h3
  rw [hv _ _ ho hbx, updS_comm (Ne.symm hd)]
/-- what stands for an operation in a region: a strict one beside a call -/
def stB (W : List Nat) (ops : Array Oper) (ios : List OpI) (j : Nat) : Bool :=
  match ios[j]? with
  | some x => needS x.op && (List.range ios.length).any fun i => decide (j < i) && ((match ios[i]? with | some y => isCw W y | none => false) && !(((ancs ops.toList []).getD i []).contains j))
  | none => false
def toX (W : List Nat) (ops : Array Oper) (ios : List OpI) (j : Nat) (x : OpI) : OpI := if stB W ops ios j = true then toS x else toW W x
def toXs (W : List Nat) (ops : Array Oper) (ios : List OpI) : List OpI := ios.mapIdx (toX W ops ios)
/-- is it a call that is given slices? -/
def isCm (W : List Nat) (x : OpI) : Bool :=
  match x.op, x.g, x.w with
  | .ca (.k (.cl g [])) _, none, false => !has W g && has W (mvN + g)
  | _, _, _ => false
def pairX (W : List Nat) (sj si : Bool) (x y : OpI) : Bool :=
  (!isCw W x && (!isCw W y && ((!sj && (!si && swOk x y)) || swapOk x y))) ||
  (!isCw W x && (isCm W y && (x.g.isNone && (!x.w && ((sj || calmN x.op) && (decide (x.d ≠ y.d) && (!(looks y).contains x.d && !(looks x).contains y.d)))))))
/-- a call that is given slices is ordered with all the others but calm ones -/
def ordW (W : List Nat) (ops : Array Oper) (ios : List OpI) : Bool :=
  (List.range ops.size).all fun i =>
    match ops[i]?, ios[i]? with
    | some o, some y => (dirs o).all (fun k => decide (k < i)) && (!(stB W ops ios i) || (y.g.isNone && !y.w)) && (List.range i).all fun j => ((ancs ops.toList []).getD i []).contains j || (match ios[j]? with | some x => pairX W (stB W ops ios j) (stB W ops ios i) x y | none => false)
    | _, _ => false
def PairSw (P : Program) (nt : Nat) (ov : Ov) (S N : Nat → Prop) (call : CallF) (tx ty : OpI) : Prop :=
  ∀ {st : St} {G : Gh} {a : Act} {w : World} {s1 s2 : St}, SA nt ov S N G st a w → evOw call tx st = some s1 → evOw call ty s1 = some s2 → ∃ t, evOw call ty st = some t ∧ evOw call tx t = some s2
theorem bubbleX (hcall : CallOk ov.tb P call) {ty : OpI} {zs : List OpI} {s2 : St} : ∀ (xs : List OpI) {st : St} {G : Gh} {a : Act} {w : World}, SA nt ov S N G st a w →
    (∀ tx ∈ xs, (∃ x o, cIO P nt ops o = some x ∧ ∀ st s1, evOw call tx st = some s1 → evO call x st = some s1) ∧ PairSw P nt ov S N call tx ty) → evLw call (xs ++ ty :: zs) st = some s2 → evLw call (ty :: (xs ++ zs)) st = some s2 := by
  intro xs
  induction xs with
  | nil => intro st G a w _ _ hv; exact hv
  | cons tx xs ih =>
    intro st G a w h hcx hv
    obtain ⟨⟨x, o, ho, hx⟩, hp⟩ := hcx tx (by simp)
    simp only [List.cons_append, evLw] at hv
    split at hv
    case h_2 => cases hv
    rename_i s1 h1
    obtain ⟨G', a', w', hs⟩ := evO_ok h hcall ho (hx _ _ h1)
    have := ih hs (fun z hz => hcx z (by simp [hz])) hv
    simp only [evLw] at this
    split at this
    case h_2 => cases this
    rename_i s1y h2
    obtain ⟨t, t1, t2⟩ := hp h h1 h2
    simp only [List.cons_append, evLw, t1, t2]
    exact this
theorem toW_nst {x : OpI} (h : strictB x = false) : strictB (toW W x) = false := by
  unfold toW
  split
  · repeat' split
    · rfl
    · rfl
    · rfl
    · exact h
  · exact h
theorem evOw_toS {x : OpI} (hn : needS x.op = true) : evOw call (toS x) st = if calmV st.s x.op = true then evO call (unS x) st else none := evOw_st (x := toS x) (by simp [strictB, toS, hn])
theorem unS_same {x : OpI} (hg : x.g = none) (hw : x.w = false) : unS x = x := by
  obtain ⟨d, op, g, w⟩ := x
  simp only at hg hw
  subst hg; subst hw; rfl
theorem isCm_form {y : OpI} (h : isCm W y = true) : ∃ g xs, y.op = .ca (.k (.cl g [])) xs ∧ toW W y = ⟨y.d, .cw g [true] xs, none, false⟩ := by
  obtain ⟨d, op, gd, w⟩ := y
  simp only [isCm] at h
  split at h
  · rename_i g xs
    simp only [Bool.and_eq_true, Bool.not_eq_true'] at h
    refine ⟨g, xs, rfl, ?_⟩
    simp only [toW, h.1, h.2]
    rfl
  · cases h
theorem pair_sw (hcall : CallOk ov.tb P call) {ops : Array Oper} {x y : OpI} {ox oy : Oper} (hx : cIO P nt ops ox = some x) (hy : cIO P nt ops oy = some y) {sj si : Bool} (hsj : sj = true → needS x.op = true ∧ x.g = none ∧ x.w = false) (hsi : si = true → needS y.op = true ∧ y.g = none ∧ y.w = false)
    (hp : pairX W sj si x y = true) : PairSw P nt ov S N call (if sj = true then toS x else toW W x) (if si = true then toS y else toW W y) := by
  intro st G a w s1 s2 h h1 h2
  have nx := cio_nost hx
  have ny := cio_nost hy
  have lk : ∀ {z : OpI} {b : Nat}, (looks z).contains b = false → ∀ u ∈ opdsI z.op, u ≠ .t b := by
    intro z b hz u hu e
    subst e
    have : b ∈ looks z := by
      unfold looks
      rw [List.mem_append]
      exact .inl (List.mem_filterMap.2 ⟨.t b, hu, rfl⟩)
    simp [this] at hz
  unfold pairX at hp
  rw [Bool.or_eq_true] at hp
  rcases hp with hp | hp
  · simp only [Bool.and_eq_true, Bool.not_eq_true'] at hp
    obtain ⟨c1, c2, hp⟩ := hp
    have wx : ∀ s, evOw call (toW W x) s = evO call x s := fun s => evOw_nc c1 nx (cio_nocw hx)
    have wy : ∀ s, evOw call (toW W y) s = evO call y s := fun s => evOw_nc c2 ny (cio_nocw hy)
    have hsw : swOk x y = true := by
      rw [Bool.or_eq_true] at hp
      rcases hp with hp | hp
      · simp only [Bool.and_eq_true] at hp; exact hp.2.2
      · unfold swOk; rw [hp]; rfl
    have hso : (sj = true ∨ si = true) → swapOk x y = true := by
      intro hq
      rw [Bool.or_eq_true] at hp
      rcases hp with hp | hp
      · simp only [Bool.and_eq_true, Bool.not_eq_true'] at hp
        rcases hq with hq | hq <;> simp_all
      · exact hp
    have g1 : evO call x st = some s1 ∧ (sj = true → calmV st.s x.op = true) := by
      cases sj with
      | false => rw [if_neg (by decide), wx] at h1; exact ⟨h1, fun q => by cases q⟩
      | true =>
        obtain ⟨q1, q2, q3⟩ := hsj rfl
        rw [if_pos rfl, evOw_toS q1, unS_same q2 q3] at h1
        split at h1
        · rename_i hc; exact ⟨h1, fun _ => hc⟩
        · cases h1
    have g2 : evO call y s1 = some s2 ∧ (si = true → calmV s1.s y.op = true) := by
      cases si with
      | false => rw [if_neg (by decide), wy] at h2; exact ⟨h2, fun q => by cases q⟩
      | true =>
        obtain ⟨q1, q2, q3⟩ := hsi rfl
        rw [if_pos rfl, evOw_toS q1, unS_same q2 q3] at h2
        split at h2
        · rename_i hc; exact ⟨h2, fun _ => hc⟩
        · cases h2
    obtain ⟨t, t1, t2⟩ := swapG h.toSR hsw g1.1 g2.1
    refine ⟨t, ?_, ?_⟩
    · cases si with
      | false => rw [if_neg (by decide), wy]; exact t1
      | true =>
        obtain ⟨q1, q2, q3⟩ := hsi rfl
        have hq := hso (.inr rfl)
        simp only [swapOk, Bool.and_eq_true, Bool.not_eq_true', decide_eq_true_eq] at hq
        rw [if_pos rfl, evOw_toS q1, unS_same q2 q3, if_pos]
        · exact t1
        · rw [← g2.2 rfl]
          exact (calmV_same fun z hz => opd_at fun n e => rd_keep hq.1.1.1.1 g1.1 n fun q => lk hq.1.1.2 z hz (by rw [e, q])).symm
    · cases sj with
      | false => rw [if_neg (by decide), wx]; exact t2
      | true =>
        obtain ⟨q1, q2, q3⟩ := hsj rfl
        have hq := hso (.inl rfl)
        simp only [swapOk, Bool.and_eq_true, Bool.not_eq_true', decide_eq_true_eq] at hq
        rw [if_pos rfl, evOw_toS q1, unS_same q2 q3, if_pos]
        · exact t2
        · rw [← g1.2 rfl]
          exact calmV_same fun z hz => opd_at fun n e => rd_keep hq.1.1.1.2 t1 n fun q => lk hq.1.2 z hz (by rw [e, q])
  · simp only [Bool.and_eq_true, Bool.not_eq_true', decide_eq_true_eq, Bool.or_eq_true] at hp
    obtain ⟨c1, c2, hg, hw, hc, hd, l1, l2⟩ := hp
    have hg : x.g = none := by simpa using hg
    obtain ⟨g, xs, hop, hform⟩ := isCm_form c2
    have hsi0 : si = false := by
      cases si with
      | false => rfl
      | true => have := (hsi rfl).1; rw [hop] at this; cases this
    subst hsi0
    rw [if_neg (by decide), hform] at h2 ⊢
    have ncm : ∀ s, evOw call ⟨y.d, .cw g [true] xs, none, false⟩ s = evCM call y.d g xs s := fun s => evOw_ns rfl
    rw [ncm] at h2 ⊢
    have hxs : ∀ z ∈ xs, z ≠ .t x.d := fun z hz => lk l1 z (by rw [hop]; simp [opdsI, hz])
    have hxo : ∀ z ∈ opdsI x.op, z ≠ .t y.d := lk l2
    have wx : ∀ s, evOw call (toW W x) s = evO call x s := fun s => evOw_nc c1 nx (cio_nocw hx)
    have fin : ∀ (hcc : (needS x.op = true ∧ calmV st.s x.op = true) ∨ calmN x.op = true), evO call x st = some s1 → ∃ t, evCM call y.d g xs st = some t ∧ evO call x t = some s2 ∧ calmV t.s x.op = calmV st.s x.op := fun hcc q => calm_cm hg hw hcc q h2 hd hxs hxo
    cases sj with
    | true =>
      obtain ⟨q1, q2, q3⟩ := hsj rfl
      rw [if_pos rfl, evOw_toS q1, unS_same q2 q3] at h1
      split at h1
      case isFalse => cases h1
      rename_i hcv
      obtain ⟨t, t1, t2, t3⟩ := fin (.inl ⟨q1, hcv⟩) h1
      refine ⟨t, t1, ?_⟩
      rw [if_pos rfl, evOw_toS q1, unS_same q2 q3, t3, if_pos hcv]
      exact t2
    | false =>
      have hcn : calmN x.op = true := by simpa using hc
      rw [if_neg (by decide), wx] at h1
      obtain ⟨t, t1, t2, _⟩ := fin (.inr hcn) h1
      exact ⟨t, t1, by rw [if_neg (by decide), wx]; exact t2⟩
theorem anyW_wp (hcall : CallOk ov.tb P call) (hcw : CallW ov.tb P call) (hc : ios.length = ops.size ∧ ∀ (i : Nat) (x : OpI), ios[i]? = some x → ∃ o, ops[i]? = some o ∧ cIO P nt ops o = some x) (hord : ordW W ops ios = true) : ∀ (fuel : Nat) (rest : List Nat) (listed : Array Bool) {st : St} {G : Gh} {a : Act} {w : World}, rest.length = fuel → rest.Pairwise (· < ·) →
    (∀ i ∈ rest, i < ops.size) → (∀ i, i < ops.size → (i ∈ rest ↔ listed.getD i true = false)) → (∀ i, i ∉ rest → ∀ o, ops[i]? = some o → ∀ k ∈ dirs o, k ∉ rest) → listed.size = ops.size → SA nt ov S N G st a w → evLw call (sel (toXs W ops ios) rest) st = some st' →
    (∀ G' a' w', SA nt ov S N G' st' a' w' → FrN N w w' → Q .normal a' w') → wpAny P .any ops Q fuel listed a w := by
  have dmem : ∀ (o : Oper) (e : Edge), e ∈ o.after → Region.binds .any e = true → e.on ∈ dirs o := by
    intro o e he hb
    refine List.mem_filterMap.2 ⟨e, by simpa using he, by simp [hb]⟩
  have dinv : ∀ (o : Oper) (k : Nat), k ∈ dirs o → ∃ e ∈ o.after, Region.binds .any e = true ∧ e.on = k := by
    intro o k hk
    obtain ⟨e, he, hq⟩ := List.mem_filterMap.1 hk
    split at hq
    · rename_i hb; cases hq; exact ⟨e, by simpa using he, hb, rfl⟩
    · cases hq
  have ord : ∀ i o, ops[i]? = some o → ∃ y, ios[i]? = some y ∧ (∀ k ∈ dirs o, k < i) ∧ (∀ j, j < i → (j ∈ (ancs ops.toList []).getD i []) ∨ ∃ x, ios[j]? = some x ∧ pairX W (stB W ops ios j) (stB W ops ios i) x y = true) ∧ (stB W ops ios i = true → y.g = none ∧ y.w = false) := by
    intro i o hi
    have hlt : i < ops.size := (Array.getElem?_eq_some_iff.1 hi).1
    have h1 := List.all_eq_true.1 hord i (by simpa using hlt)
    have hy : ios[i]? = some (ios[i]'(by rw [hc.1]; exact hlt)) := List.getElem?_eq_getElem _
    rw [hi, hy] at h1
    simp only [Bool.and_eq_true, List.all_eq_true, List.mem_range, Bool.or_eq_true, decide_eq_true_eq] at h1
    refine ⟨_, hy, h1.1.1, fun j hj => ?_, fun hs => ?_⟩
    · rcases h1.2 j hj with h2 | h2
      · exact .inl (by simpa using h2)
      · split at h2
        · rename_i x hx
          exact .inr ⟨x, hx, h2⟩
        · cases h2
    · have h3 := h1.1.2
      rw [hs] at h3
      simpa using h3
  have stn : ∀ i y, ios[i]? = some y → stB W ops ios i = true → needS y.op = true := by
    intro i y hy hs
    simp only [stB, hy, Bool.and_eq_true] at hs
    exact hs.1
  have selx : ∀ (i : Nat) (y : OpI), ios[i]? = some y → (toXs W ops ios)[i]? = some (toX W ops ios i y) := fun i y hy => by
    unfold toXs; rw [List.getElem?_mapIdx, hy]; rfl
  have spec := ancs_spec ops.toList [] [] rfl (fun i o hi => by simp at hi)
  simp only [List.nil_append] at spec
  -- what comes before what is listed is listed
  have down : ∀ (rest : List Nat), (∀ i, i ∉ rest → ∀ o, ops[i]? = some o → ∀ k ∈ dirs o, k ∉ rest) → ∀ (i : Nat), i ∉ rest → ∀ j ∈ (ancs ops.toList []).getD i [], i < ops.size → j ∉ rest := by
    intro rest hd i
    induction i using Nat.strongRecOn with
    | _ i ih =>
      intro hi j hj hlt
      have ho : ops[i]? = some ops[i] := Array.getElem?_eq_getElem hlt
      obtain ⟨_, _, hlow, _⟩ := ord i _ ho
      rcases spec i ops[i] (by simp) j hj with h1 | ⟨k, k1, k2⟩
      · exact hd i hi _ ho j h1
      · exact ih k (hlow k k1) (hd i hi _ ho k k1) j k2 (by have := hlow k k1; omega)
  intro fuel
  induction fuel with
  | zero =>
    intro rest listed st G a w hlen _ _ hmem _ hls h hv hQ
    have : rest = [] := List.eq_nil_of_length_eq_zero hlen
    subst this
    cases hv
    refine ⟨?_, hQ G a w h (FrN.refl _ _)⟩
    refine List.eq_nil_iff_forall_not_mem.2 fun j hj => ?_
    obtain ⟨h0, o, ho, _⟩ := mem_ready.1 hj
    have := (hmem j (Array.getElem?_eq_some_iff.1 ho).1).2 h0
    simp at this
  | succ fuel ih =>
    intro rest listed st G a w hlen hsort hin hmem hdown hls h hv hQ
    refine ⟨fun hnil => ?_, fun i hi => ?_⟩
    · exfalso
      cases rest with
      | nil => simp at hlen
      | cons i rest =>
        have hi : i < ops.size := hin i (by simp)
        have hio : ops[i]? = some ops[i] := Array.getElem?_eq_getElem hi
        have : i ∈ Region.ready .any ops listed := by
          refine mem_ready.2 ⟨(hmem i hi).1 (by simp), _, hio, fun e he hb => ?_⟩
          obtain ⟨y, _, h2, _⟩ := ord i _ hio
          have hlt := h2 e.on (dmem _ e he hb)
          have hes : e.on < ops.size := by omega
          have hnm : e.on ∉ i :: rest := by
            intro hm
            rcases List.mem_cons.1 hm with h3 | h3
            · omega
            · have := List.rel_of_pairwise_cons hsort h3; omega
          have h4 : ¬ listed.getD e.on true = false := fun q => hnm ((hmem e.on hes).2 q)
          have hlt2 : e.on < listed.size := by omega
          simp only [Array.getD_eq_getD_getElem?, Array.getElem?_eq_getElem hlt2, Option.getD_some] at h4 ⊢
          simpa using h4
        rw [hnil] at this
        cases this
    · obtain ⟨h0, o, ho, hall⟩ := mem_ready.1 hi
      have hlt : i < ops.size := (Array.getElem?_eq_some_iff.1 ho).1
      have him : i ∈ rest := (hmem i hlt).2 h0
      obtain ⟨pre, post, rfl⟩ := List.append_of_mem him
      obtain ⟨y, hy, _, hy2, hyS⟩ := ord i o ho
      obtain ⟨o', ho', hcy⟩ := hc.2 i y hy
      rw [ho] at ho'
      cases ho'
      have hsel : sel (toXs W ops ios) (pre ++ i :: post) = sel (toXs W ops ios) pre ++ toX W ops ios i y :: sel (toXs W ops ios) post := by simp [sel, selx i y hy]
      rw [hsel] at hv
      have hanc : ∀ j ∈ (ancs ops.toList []).getD i [], j ∉ pre ++ i :: post := by
        intro j hanc hjm
        have hdir : ∀ k ∈ dirs o, k ∉ pre ++ i :: post := by
          intro k hk hkm
          obtain ⟨e, he, hb, rfl⟩ := dinv o k hk
          have h1 := hall e he hb
          have hlk := hin e.on hkm
          have h2 := (hmem e.on hlk).1 hkm
          have hlt2 : e.on < listed.size := by omega
          simp only [Array.getD_eq_getD_getElem?, Array.getElem?_eq_getElem hlt2, Option.getD_some] at h1 h2
          rw [h1] at h2; cases h2
        rcases spec i o (by simpa using ho) j hanc with h1 | ⟨k, k1, k2⟩
        · exact hdir j h1 hjm
        · have hk := hdir k k1
          obtain ⟨_, _, hlow, _⟩ := ord i o ho
          exact down _ hdown k hk j k2 (by have := hlow k k1; omega) hjm
      have hsi : stB W ops ios i = true → needS y.op = true ∧ y.g = none ∧ y.w = false := fun q => ⟨stn i y hy q, hyS q⟩
      have hpre : ∀ tx ∈ sel (toXs W ops ios) pre, (∃ x o, cIO P nt ops o = some x ∧ ∀ st s1, evOw call tx st = some s1 → evO call x st = some s1) ∧ PairSw P nt ov S N call tx (toX W ops ios i y) := by
        intro tx htx
        simp only [sel, List.mem_filterMap] at htx
        obtain ⟨j, hj, hjx⟩ := htx
        have hjl : j < ops.size := hin j (by simp [hj])
        have hoj : ops[j]? = some ops[j] := Array.getElem?_eq_getElem hjl
        obtain ⟨x, hxj, _, _, hxS⟩ := ord j _ hoj
        rw [selx j x hxj] at hjx
        cases hjx
        obtain ⟨oj, hoj', hcj⟩ := hc.2 j x hxj
        have hji : j < i := (List.pairwise_append.1 hsort).2.2 j hj i (by simp)
        rcases hy2 j hji with h1 | ⟨x', hx', q1⟩
        · exact absurd (by simp [hj]) (hanc j h1)
        · rw [hxj] at hx'
          cases hx'
          have hsj : stB W ops ios j = true → needS x.op = true ∧ x.g = none ∧ x.w = false := fun q => ⟨stn j x hxj q, hxS q⟩
          have ncx : isCw W x = false := by
            unfold pairX at q1
            rw [Bool.or_eq_true] at q1
            rcases q1 with q1 | q1 <;> (simp only [Bool.and_eq_true, Bool.not_eq_true'] at q1; exact q1.1)
          refine ⟨⟨x, oj, hcj, fun st s1 hq => ?_⟩, pair_sw hcall hcj hcy hsj hsi q1⟩
          unfold toX at hq
          split at hq
          · rename_i hst
            obtain ⟨r1, r2, r3⟩ := hsj hst
            rw [evOw_toS r1, unS_same r2 r3] at hq
            split at hq
            · exact hq
            · cases hq
          · rw [evOw_nc ncx (cio_nost hcj) (cio_nocw hcj)] at hq; exact hq
      have hb : evLw call (toX W ops ios i y :: (sel (toXs W ops ios) pre ++ sel (toXs W ops ios) post)) st = some st' := bubbleX (ops := ops) hcall (sel (toXs W ops ios) pre) h hpre hv
      simp only [evLw] at hb
      split at hb
      case h_2 => cases hb
      rename_i s1 h1
      have hgo : ∀ {K : Act → World → Prop}, (∀ G' a' w', SA nt ov S N G' s1 a' w' → FrN N w w' → K a' w') → wpOp P ops Q i K a w := by
        intro K hK
        unfold toX at h1
        split at h1
        · rename_i hst
          obtain ⟨r1, r2, r3⟩ := hsi hst
          rw [evOw_toS r1, unS_same r2 r3] at h1
          split at h1
          · exact evO_wpOp h hcall ho hcy h1 hK
          · cases h1
        · exact evOw_wpOp h hcall hcw ho hcy h1 hK
      refine hgo fun G' a' w' hs hf => ?_
      have hnd : (pre ++ i :: post).Nodup := hsort.imp (fun h => Nat.ne_of_lt h)
      refine ih (pre ++ post) _ (by simp at hlen ⊢; omega) ?_ (fun j hj => hin j ?_) (fun j hj => ?_) (fun j hj oj hoj k hk => ?_) (by simp [hls]) hs (by simpa [sel] using hb) fun G2 a2 w2 hs2 hf2 => hQ G2 a2 w2 hs2 (hf.trans hf2)
      · rw [List.pairwise_append] at hsort ⊢
        refine ⟨hsort.1, (List.pairwise_cons.1 hsort.2.1).2, fun x hx z hz => hsort.2.2 x hx z (by simp [hz])⟩
      · simp only [List.mem_append, List.mem_cons] at hj ⊢
        rcases hj with hj | hj
        · exact .inl hj
        · exact .inr (.inr hj)
      · have hm := hmem j hj
        by_cases hji : j = i
        · subst hji
          have : j < listed.size := by omega
          constructor
          · intro hjm
            rw [List.nodup_append] at hnd
            simp only [List.mem_append] at hjm
            rcases hjm with hjm | hjm
            · exact absurd rfl (hnd.2.2 j hjm j (by simp))
            · exact absurd hjm (List.nodup_cons.1 hnd.2.1).1
          · intro hq
            simp [this] at hq
        · rw [getD_set_ne true (Ne.symm hji), ← hm]
          simp [hji]
      · -- down-closed behind i
        intro hkm
        have hkm' : k ∈ pre ++ i :: post := by
          simp only [List.mem_append, List.mem_cons] at hkm ⊢
          rcases hkm with h | h
          · exact .inl h
          · exact .inr (.inr h)
        by_cases hji : j = i
        · subst hji
          rw [ho] at hoj
          cases hoj
          obtain ⟨e, he, hb, rfl⟩ := dinv o k hk
          have h1 := hall e he hb
          have hlk := hin e.on hkm'
          have h2 := (hmem e.on hlk).1 hkm'
          have hlt2 : e.on < listed.size := by omega
          simp only [Array.getD_eq_getD_getElem?, Array.getElem?_eq_getElem hlt2, Option.getD_some] at h1 h2
          rw [h1] at h2; cases h2
        · exact hdown j (by simpa [hji] using hj) oj hoj k hk hkm'
theorem regw_wp_any (h : SA nt ov S N G st a w) (hm : P.follows .mixedOrders = true) (hcall : CallOk ov.tb P call) (hcw : CallW ov.tb P call) (hl : cList (cIO P nt ops) ops.toList = some ios) (hord : ordW W ops ios = true) (hv : evLw call (toXs W ops ios) st = some st') {id : Nat}
    (hQ : ∀ G' a' w', SA nt ov S N G' st' a' w' → FrN N w w' → Q .normal a' w') : (Code.region id ops true).wp P Q a w := by
  refine wp_region_any hm ?_
  have h' : SA nt ov S N G st a { w with drawn := w.drawn + 1 } :=
    ⟨⟨h.inv.ext (fun _ _ => rfl) (Nat.le_refl _), fun t => ⟨R.ext h.inv.old ⟨fun _ _ => rfl, fun _ _ => ⟨rfl, rfl, rfl, rfl⟩, fun _ _ => rfl, Nat.le_refl _⟩ (h.slot t).2 (h.slot t).1, (h.slot t).2⟩, h.df, h.new, h.tb⟩, h.size, h.few⟩
  obtain ⟨e1, e2⟩ := cList_get hl
  have hc : ios.length = ops.size ∧ ∀ (i : Nat) (x : OpI), ios[i]? = some x → ∃ o, ops[i]? = some o ∧ cIO P nt ops o = some x := ⟨by simpa using e1, fun i x hx => by
    obtain ⟨o, q1, q2⟩ := e2 i x hx
    exact ⟨o, by simpa using q1, q2⟩⟩
  refine anyW_wp hcall hcw hc hord ops.size (List.range ops.size) _ (by simp) List.pairwise_lt_range (fun i hi => by simpa using hi) (fun i hi => by simp [hi]) (fun i hi o ho => absurd (by simpa using (Array.getElem?_eq_some_iff.1 ho).1) hi) (by simp) h' (by rw [← hc.1, show ios.length = (toXs W ops ios).length by simp [toXs], sel_range]; exact hv) fun G' a' w' hs hf => hQ G' a' w' hs ⟨hf.os, hf.tape, hf.output, hf.size, hf.block⟩
end
end Go.Proofs.YthnkioafikmmaaaDoor.Ev
