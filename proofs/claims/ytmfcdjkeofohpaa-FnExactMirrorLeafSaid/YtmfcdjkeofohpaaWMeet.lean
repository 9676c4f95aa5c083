/- Boxes that meet, and the defect at a place; no conditions. -/
import Derived.Test.YtmfcdjkeofohpaaWValid
namespace Go.Proofs.Ytmfcdjkeofohpaa.walkS
open Go Go.Proofs.Ytmfcdjkeofohpaa.Ev
set_option linter.unusedSimpArgs false
def meetB (a b : Bx) : Bool := decide (a.1 < W (b.1 + b.2.2.1)) && (decide (b.1 < W (a.1 + a.2.2.1)) && (decide (a.2.1 < W (b.2.1 + b.2.2.2)) && decide (b.2.1 < W (a.2.1 + a.2.2.2))))
theorem r89 (d : Nat) (a b : Bx) : ev (d + 1) 89 [.rp (bV a), .rp (bV b)] = some (B (meetB a b), []) := by
  rw [s89 d _ rfl]
  unfold meetB
  simp only [W]
  by_cases h1 : a.1 < IntKind.i64.wrap (b.1 + b.2.2.1)
  case neg => simp [h1]
  by_cases h2 : b.1 < IntKind.i64.wrap (a.1 + a.2.2.1)
  case neg => simp [h1, h2]
  by_cases h3 : a.2.1 < IntKind.i64.wrap (b.2.1 + b.2.2.2)
  case neg => simp [h1, h2, h3]
  by_cases h4 : b.2.1 < IntKind.i64.wrap (a.2.1 + a.2.2.2) <;> simp [h1, h2, h3, h4]
def comB (a b : Bx) : Bx := (mxI a.1 b.1, mxI a.2.1 b.2.1, W (mnI (W (a.1 + a.2.2.1)) (W (b.1 + b.2.2.1)) - mxI a.1 b.1), W (mnI (W (a.2.1 + a.2.2.2)) (W (b.2.1 + b.2.2.2)) - mxI a.2.1 b.2.1))
def comOk (a b : Bx) : Bool := decide (0 < (comB a b).2.2.1) && decide (0 < (comB a b).2.2.2)
theorem r110 (d : Nat) (a b : Bx) : ev (d + 1) 110 [.ag (bV a), .ag (bV b)] = some (.tu [.ag (bV (comB a b)), B (comOk a b)], []) := by
  rw [s110 d _ rfl]
  unfold comOk
  by_cases h1 : 0 < (comB a b).2.2.1 <;> by_cases h2 : 0 < (comB a b).2.2.2 <;> simp only [comB, mxI, mnI, W] at h1 h2 <;> simp [comB, mxI, mnI, h1, h2]
theorem r90 (d : Nat) (a b : Bx) : ev (d + 2) 90 [.ag (bV a), .ag (bV b)] = some (B (comOk a b), []) := by
  rw [s90 (d + 1) _ rfl]
  simp [r110]
theorem boxIn_in {w l : Int} {b : Bx} (hw : 0 ≤ w ∧ w ≤ 20000) (hl : 0 ≤ l ∧ l ≤ 20000) (h : boxIn w l b = true) : 0 ≤ b.1 ∧ b.1 ≤ w ∧ 0 ≤ b.2.1 ∧ b.2.1 ≤ l ∧ 1 ≤ b.2.2.1 ∧ b.2.2.1 ≤ w - b.1 ∧ 1 ≤ b.2.2.2 ∧ b.2.2.2 ≤ l - b.2.1 := by
  simp only [boxIn, inR, Bool.and_eq_true, decide_eq_true_eq] at h
  obtain ⟨⟨h1, h2⟩, ⟨h3, h4⟩, ⟨h5, h6⟩, h7, h8⟩ := h
  rw [W, IntWalk.i64_in _ (by omega)] at h6
  rw [W, IntWalk.i64_in _ (by omega)] at h8
  exact ⟨h1, h2, h3, h4, h5, h6, h7, h8⟩
/-- a box of bounded corners -/
def smallB (b : Bx) : Prop := (-1000000 ≤ b.1 ∧ b.1 ≤ 1000000) ∧ (-1000000 ≤ b.2.1 ∧ b.2.1 ≤ 1000000) ∧ (1 ≤ b.2.2.1 ∧ b.2.2.1 ≤ 1000000) ∧ (1 ≤ b.2.2.2 ∧ b.2.2.2 ≤ 1000000)
theorem meet_same {a b : Bx} (ha : smallB a) (hb : smallB b) : comOk a b = meetB b a := by
  obtain ⟨a1, a2, a3, a4⟩ := ha
  obtain ⟨b1, b2, b3, b4⟩ := hb
  have w1 : W (a.1 + a.2.2.1) = a.1 + a.2.2.1 := IntWalk.i64_in _ (by omega)
  have w2 : W (b.1 + b.2.2.1) = b.1 + b.2.2.1 := IntWalk.i64_in _ (by omega)
  have w3 : W (a.2.1 + a.2.2.2) = a.2.1 + a.2.2.2 := IntWalk.i64_in _ (by omega)
  have w4 : W (b.2.1 + b.2.2.2) = b.2.1 + b.2.2.2 := IntWalk.i64_in _ (by omega)
  have m1 : mxI a.1 b.1 ≤ 1000000 ∧ -1000000 ≤ mxI a.1 b.1 := by unfold mxI; split <;> omega
  have m2 : mxI a.2.1 b.2.1 ≤ 1000000 ∧ -1000000 ≤ mxI a.2.1 b.2.1 := by unfold mxI; split <;> omega
  have n1 : mnI (a.1 + a.2.2.1) (b.1 + b.2.2.1) ≤ 3000000 ∧ -3000000 ≤ mnI (a.1 + a.2.2.1) (b.1 + b.2.2.1) := by unfold mnI; split <;> omega
  have n2 : mnI (a.2.1 + a.2.2.2) (b.2.1 + b.2.2.2) ≤ 3000000 ∧ -3000000 ≤ mnI (a.2.1 + a.2.2.2) (b.2.1 + b.2.2.2) := by unfold mnI; split <;> omega
  have e : ∀ {p q : Prop} [Decidable p] [Decidable q], (p ↔ q) → decide p = decide q := fun h => decide_eq_decide.2 h
  simp only [comOk, comB, meetB, w1, w2, w3, w4]
  have v1 : W (mnI (a.1 + a.2.2.1) (b.1 + b.2.2.1) - mxI a.1 b.1) = mnI (a.1 + a.2.2.1) (b.1 + b.2.2.1) - mxI a.1 b.1 := IntWalk.i64_in _ (by omega)
  have v2 : W (mnI (a.2.1 + a.2.2.2) (b.2.1 + b.2.2.2) - mxI a.2.1 b.2.1) = mnI (a.2.1 + a.2.2.2) (b.2.1 + b.2.2.2) - mxI a.2.1 b.2.1 := IntWalk.i64_in _ (by omega)
  rw [v1, v2]
  have q1 : (0 < mnI (a.1 + a.2.2.1) (b.1 + b.2.2.1) - mxI a.1 b.1) ↔ (b.1 < a.1 + a.2.2.1 ∧ a.1 < b.1 + b.2.2.1) := by unfold mnI mxI; split <;> split <;> omega
  have q2 : (0 < mnI (a.2.1 + a.2.2.2) (b.2.1 + b.2.2.2) - mxI a.2.1 b.2.1) ↔ (b.2.1 < a.2.1 + a.2.2.2 ∧ a.2.1 < b.2.1 + b.2.2.2) := by unfold mnI mxI; split <;> split <;> omega
  rw [e q1, e q2, Bool.decide_and, Bool.decide_and]
  cases decide (b.1 < a.1 + a.2.2.1) <;> cases decide (a.1 < b.1 + b.2.2.1) <;> cases decide (b.2.1 < a.2.1 + a.2.2.2) <;> cases decide (a.2.1 < b.2.1 + b.2.2.2) <;> rfl
theorem firstI_same {p q : Bx → Bool} : ∀ {l : List Bx} {i : Nat}, (∀ b ∈ l, p b = q b) → firstI p i l = firstI q i l := by
  intro l
  induction l with
  | nil => intro i _; rfl
  | cons x l ih =>
    intro i h
    simp only [firstI, h x (by simp)]
    rw [ih fun b hb => h b (by simp [hb])]
theorem any_same {p q : Bx → Bool} {l : List Bx} (h : ∀ b ∈ l, p b = q b) : l.any p = l.any q := by
  induction l with
  | nil => rfl
  | cons x l ih => rw [List.any_cons, List.any_cons, h x (by simp), ih fun b hb => h b (by simp [hb])]
def oneB (x y : Int) : Bx := (x, y, 1, 1)
def atP (x y : Int) (b : Bx) : Bool := meetB (oneB x y) b
def inL (L : Lf) (x y : Int) : Bool := inR x 0 (W (L.wd - 1)) && inR y 0 (W (L.ln - 1))
def defectAt (L : Lf) (x y : Int) : LV :=
  ifb (okL L) (ifb (inL L x y) (ifb (L.df.any (atP x y)) (.tu [I (firstI (atP x y) 0 L.df), I 0]) (.tu [I 0, I 3])) (.tu [I 0, I 2])) (.tu [I 0, I 1])
theorem l29 (d : Nat) (L : Lf) (x y : Int) (hb : L.df.length ≤ big) : ∀ (n i : Nat), n + i = L.df.length →
    clC [] [6, 7] (blk 0 (lp (evC (ev (d + 1)) b29_1) (clean [3, 8, 9]) ⟨lookS [(3, .bp (.sl 3) 0), (8, .bp (.sl 8) 0), (9, I i)], lookM [(.sl 3, some (.box (lV L))), (.sl 8, some (.box [I x, I y, I 1, I 1]))]⟩)) =
      ifb ((L.df.drop i).any (atP x y)) (some (.rt, ⟨lookS [(6, I (firstI (atP x y) i (L.df.drop i))), (7, I 0)], lookM []⟩)) (some (.nm, ⟨lookS [], lookM []⟩)) := by
  intro n
  induction n with
  | zero =>
    intro i hi
    have h0 : ¬ (i : Int) < (L.df.length : Int) := by omega
    have h1 : L.df.drop i = [] := List.drop_eq_nil_of_le (by omega)
    rw [lp_step, h1]
    simp [h0]
  | succ n ih =>
    intro i hi
    have hlt : i < L.df.length := by omega
    have h0 : (i : Int) < (L.df.length : Int) := by omega
    obtain ⟨b, hx⟩ := get_lt hlt
    have hw := wrap_nat (i := i) (by simp [big] at hb; omega)
    have ih' := ih (i + 1) (by omega)
    have h89 := r89 d (oneB x y) b
    simp only [oneB] at h89
    simp at ih'
    rw [lp_step, drop_get hx, List.any_cons]
    simp only [firstI]
    cases hc : atP x y b
    · simp only [atP, oneB] at hc; simp [h0, hx, hw, h89, hc, ih']
    · simp only [atP, oneB] at hc; simp [h0, hx, h89, hc]
theorem r29 (d : Nat) (L : Lf) (x y : Int) (hb : L.df.length ≤ big) (h1 : L.id.size ≤ big) (h2 : L.fl.size ≤ big) : ev (d + 5) 29 [.ag (lV L), I x, I y] = some (defectAt L x y, []) := by
  rw [s29 (d + 4) _ rfl]
  have e1 := r82 d L hb h1 h2
  have key := l29 (d + 3) L x y hb L.df.length 0 (by omega)
  rw [List.drop_zero] at key
  simp at key
  unfold defectAt
  cases a1 : okL L
  case false => simp [e1, a1]
  unfold inL
  cases a2 : inR x 0 (W (L.wd - 1))
  case false => simp only [W] at a2; simp [e1, a1, r88, a2]
  cases a3 : inR y 0 (W (L.ln - 1))
  case false => simp only [W] at a2 a3; simp [e1, a1, r88, a2, a3]
  simp only [W] at a2 a3
  cases a4 : L.df.any (atP x y) <;> rw [a4] at key <;> simp at key <;> simp [e1, a1, r88, a2, a3, key]
theorem l30 (d : Nat) (l : List Bx) (x y : Int) (hb : l.length ≤ big) : ∀ (n i : Nat), n + i = l.length →
    clC [] [6, 7] (blk 1 (lp (evC (ev (d + 2)) b30_1) (clean [1, 2, 30, 31, 32]) ⟨lookS [(1, I x), (2, I y), (30, .ro 4 (l.map bC)), (31, I l.length), (32, I i)], lookM []⟩)) =
      ifb ((l.drop i).any (fun b => comOk b (oneB x y))) (some (.rt, ⟨lookS [(6, I (firstI (fun b => comOk b (oneB x y)) i (l.drop i))), (7, I 0)], lookM []⟩)) (some (.nm, ⟨lookS [], lookM []⟩)) := by
  intro n
  induction n with
  | zero =>
    intro i hi
    have h0 : ¬ (i : Int) < (l.length : Int) := by omega
    have h1 : l.drop i = [] := List.drop_eq_nil_of_le (by omega)
    rw [lp_step, h1]
    simp [h0]
  | succ n ih =>
    intro i hi
    have hlt : i < l.length := by omega
    have h0 : (i : Int) < (l.length : Int) := by omega
    obtain ⟨b, hx⟩ := get_lt hlt
    have hw := wrap_nat (i := i) (by simp [big] at hb; omega)
    have ih' := ih (i + 1) (by omega)
    have h89 := r90 d b (oneB x y)
    simp only [oneB] at h89
    simp at ih'
    rw [lp_step, drop_get hx, List.any_cons]
    simp only [firstI]
    cases hc : comOk b (oneB x y)
    · simp only [oneB] at hc; simp [h0, hx, hw, h89, hc, ih']
    · simp only [oneB] at hc; simp [h0, hx, h89, hc]
theorem r30 (d : Nat) (L : Lf) (x y : Int) (hb : L.df.length ≤ big) (h1 : L.id.size ≤ big) (h2 : L.fl.size ≤ big) : ev (d + 7) 30 [.ag (lV L), I x, I y] = some (defectAt L x y, []) := by
  rw [s30 (d + 6) _ rfl]
  have e1 := r28 d L hb h1 h2
  have key := l30 (d + 4) L.df x y hb L.df.length 0 (by omega)
  rw [List.drop_zero] at key
  unfold defectAt
  cases a1 : okL L
  case false => simp [e1, a1]
  unfold inL
  cases a2 : inR x 0 (W (L.wd - 1))
  case false => simp only [W] at a2; simp [e1, a1, r84, a2]
  cases a3 : inR y 0 (W (L.ln - 1))
  case false => simp only [W] at a2 a3; simp [e1, a1, r84, a2, a3]
  have same : ∀ b ∈ L.df, comOk b (oneB x y) = atP x y b := by
    intro b hbm
    simp only [okL, Bool.and_eq_true] at a1
    obtain ⟨_, _, _, _, g5, g6, _, g8⟩ := a1
    have hb := List.all_eq_true.1 g8 b hbm
    simp only [inR, Bool.and_eq_true, decide_eq_true_eq] at g5 g6
    have q := boxIn_in (by omega) (by omega) hb
    have w1 : W (L.wd - 1) = L.wd - 1 := IntWalk.i64_in _ (by omega)
    have w2 : W (L.ln - 1) = L.ln - 1 := IntWalk.i64_in _ (by omega)
    rw [w1] at a2
    rw [w2] at a3
    simp only [inR, Bool.and_eq_true, decide_eq_true_eq] at a2 a3
    refine meet_same ⟨by omega, by omega, by omega, by omega⟩ ⟨?_, ?_, ?_, ?_⟩ <;> simp only [oneB] <;> omega
  rw [any_same same, firstI_same same] at key
  simp at key
  simp only [W] at a2 a3
  cases a4 : L.df.any (atP x y) <;> rw [a4] at key <;> simp at key <;> simp [e1, a1, r84, a2, a3, key]
end Go.Proofs.Ytmfcdjkeofohpaa.walkS
