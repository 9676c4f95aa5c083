/- Boxes that meet, and the defect at a place; no conditions. -/
import Derived.Test.YthnkioafikmmaaaDoorWValid
namespace Go.Proofs.YthnkioafikmmaaaDoor.walkS
open Go Go.Proofs.YthnkioafikmmaaaDoor.Ev
set_option linter.unusedSimpArgs false
def meetB (a b : Bx) : Bool := decide (a.1 < W (b.1 + b.2.2.1)) && (decide (b.1 < W (a.1 + a.2.2.1)) && (decide (a.2.1 < W (b.2.1 + b.2.2.2)) && decide (b.2.1 < W (a.2.1 + a.2.2.2))))
def comB (a b : Bx) : Bx := (mxI a.1 b.1, mxI a.2.1 b.2.1, W (mnI (W (a.1 + a.2.2.1)) (W (b.1 + b.2.2.1)) - mxI a.1 b.1), W (mnI (W (a.2.1 + a.2.2.2)) (W (b.2.1 + b.2.2.2)) - mxI a.2.1 b.2.1))
def comOk (a b : Bx) : Bool := decide (0 < (comB a b).2.2.1) && decide (0 < (comB a b).2.2.2)
theorem boxIn_in {w l : Int} {b : Bx} (hw : 0 ≤ w ∧ w ≤ 20000) (hl : 0 ≤ l ∧ l ≤ 20000) (h : boxIn w l b = true) : 0 ≤ b.1 ∧ b.1 ≤ w ∧ 0 ≤ b.2.1 ∧ b.2.1 ≤ l ∧ 1 ≤ b.2.2.1 ∧ b.2.2.1 ≤ w - b.1 ∧ 1 ≤ b.2.2.2 ∧ b.2.2.2 ≤ l - b.2.1 := by
  simp only [boxIn, inR, Bool.and_eq_true, decide_eq_true_eq] at h
  obtain ⟨⟨h1, h2⟩, ⟨h3, h4⟩, ⟨h5, h6⟩, h7, h8⟩ := h
  rw [W, IntWalk.i64_in _ (by omega)] at h6
  rw [W, IntWalk.i64_in _ (by omega)] at h8
  exact ⟨h1, h2, h3, h4, h5, h6, h7, h8⟩
/-- a box of bounded corners -/
def smallB (b : Bx) : Prop := (-1000000 ≤ b.1 ∧ b.1 ≤ 1000000) ∧ (-1000000 ≤ b.2.1 ∧ b.2.1 ≤ 1000000) ∧ (1 ≤ b.2.2.1 ∧ b.2.2.1 ≤ 1000000) ∧ (1 ≤ b.2.2.2 ∧ b.2.2.2 ≤ 1000000)
theorem meet_same {a b : Bx} (ha : smallB a) (hb : smallB b) : comOk a b = meetB b a := by
  obtain ⟨a1, a2, a3, a4⟩ := ha
  obtain ⟨b1, b2, b3, b4⟩ := hb
  have w1 : W (a.1 + a.2.2.1) = a.1 + a.2.2.1 := IntWalk.i64_in _ (by omega)
  have w2 : W (b.1 + b.2.2.1) = b.1 + b.2.2.1 := IntWalk.i64_in _ (by omega)
  have w3 : W (a.2.1 + a.2.2.2) = a.2.1 + a.2.2.2 := IntWalk.i64_in _ (by omega)
  have w4 : W (b.2.1 + b.2.2.2) = b.2.1 + b.2.2.2 := IntWalk.i64_in _ (by omega)
  have m1 : mxI a.1 b.1 ≤ 1000000 ∧ -1000000 ≤ mxI a.1 b.1 := by unfold mxI; split <;> omega
  have m2 : mxI a.2.1 b.2.1 ≤ 1000000 ∧ -1000000 ≤ mxI a.2.1 b.2.1 := by unfold mxI; split <;> omega
  have n1 : mnI (a.1 + a.2.2.1) (b.1 + b.2.2.1) ≤ 3000000 ∧ -3000000 ≤ mnI (a.1 + a.2.2.1) (b.1 + b.2.2.1) := by unfold mnI; split <;> omega
  have n2 : mnI (a.2.1 + a.2.2.2) (b.2.1 + b.2.2.2) ≤ 3000000 ∧ -3000000 ≤ mnI (a.2.1 + a.2.2.2) (b.2.1 + b.2.2.2) := by unfold mnI; split <;> omega
  have e : ∀ {p q : Prop} [Decidable p] [Decidable q], (p ↔ q) → decide p = decide q := fun h => decide_eq_decide.2 h
  simp only [comOk, comB, meetB, w1, w2, w3, w4]
  have v1 : W (mnI (a.1 + a.2.2.1) (b.1 + b.2.2.1) - mxI a.1 b.1) = mnI (a.1 + a.2.2.1) (b.1 + b.2.2.1) - mxI a.1 b.1 := IntWalk.i64_in _ (by omega)
  have v2 : W (mnI (a.2.1 + a.2.2.2) (b.2.1 + b.2.2.2) - mxI a.2.1 b.2.1) = mnI (a.2.1 + a.2.2.2) (b.2.1 + b.2.2.2) - mxI a.2.1 b.2.1 := IntWalk.i64_in _ (by omega)
  rw [v1, v2]
  have q1 : (0 < mnI (a.1 + a.2.2.1) (b.1 + b.2.2.1) - mxI a.1 b.1) ↔ (b.1 < a.1 + a.2.2.1 ∧ a.1 < b.1 + b.2.2.1) := by unfold mnI mxI; split <;> split <;> omega
  have q2 : (0 < mnI (a.2.1 + a.2.2.2) (b.2.1 + b.2.2.2) - mxI a.2.1 b.2.1) ↔ (b.2.1 < a.2.1 + a.2.2.2 ∧ a.2.1 < b.2.1 + b.2.2.2) := by unfold mnI mxI; split <;> split <;> omega
  rw [e q1, e q2, Bool.decide_and, Bool.decide_and]
  cases decide (b.1 < a.1 + a.2.2.1) <;> cases decide (a.1 < b.1 + b.2.2.1) <;> cases decide (b.2.1 < a.2.1 + a.2.2.2) <;> cases decide (a.2.1 < b.2.1 + b.2.2.2) <;> rfl
theorem firstI_same {p q : Bx → Bool} : ∀ {l : List Bx} {i : Nat}, (∀ b ∈ l, p b = q b) → firstI p i l = firstI q i l := by
  intro l
  induction l with
  | nil => intro i _; rfl
  | cons x l ih =>
    intro i h
    simp only [firstI, h x (by simp)]
    rw [ih fun b hb => h b (by simp [hb])]
theorem any_same {p q : Bx → Bool} {l : List Bx} (h : ∀ b ∈ l, p b = q b) : l.any p = l.any q := by
  induction l with
  | nil => rfl
  | cons x l ih => rw [List.any_cons, List.any_cons, h x (by simp), ih fun b hb => h b (by simp [hb])]
def oneB (x y : Int) : Bx := (x, y, 1, 1)
def atP (x y : Int) (b : Bx) : Bool := meetB (oneB x y) b
def inL (L : Lf) (x y : Int) : Bool := inR x 0 (W (L.wd - 1)) && inR y 0 (W (L.ln - 1))
def defectAt (L : Lf) (x y : Int) : LV :=
  ifb (okL L) (ifb (inL L x y) (ifb (L.df.any (atP x y)) (.tu [I (firstI (atP x y) 0 L.df), I 0]) (.tu [I 0, I 3])) (.tu [I 0, I 2])) (.tu [I 0, I 1])
end Go.Proofs.YthnkioafikmmaaaDoor.walkS
