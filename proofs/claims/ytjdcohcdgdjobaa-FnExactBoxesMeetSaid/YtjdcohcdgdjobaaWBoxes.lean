/- Boxes; the row BoxesMeet; no conditions. -/
import Derived.Test.YtjdcohcdgdjobaaWRows
namespace Go.Proofs.Ytjdcohcdgdjobaa.walkS
open Go Go.Proofs.Ytjdcohcdgdjobaa.Ev
set_option linter.unusedSimpArgs false
abbrev Bx := Int × Int × Int × Int
abbrev bC (b : Bx) : List Cell := [.sc (.int .i64 b.1), .sc (.int .i64 b.2.1), .sc (.int .i64 b.2.2.1), .sc (.int .i64 b.2.2.2)]
abbrev bV (b : Bx) : List LV := [I b.1, I b.2.1, I b.2.2.1, I b.2.2.2]
theorem r23 (d : Nat) (a b c e : Int) : ev (d + 1) 23 [.ag [I a, I b, I c, I e]] = some (.ag [I a, I b, I c, I e], []) := by
  rw [s23 d _ rfl]
  simp
def boxIn (w l : Int) (b : Bx) : Bool := inR b.1 0 w && (inR b.2.1 0 l && (inR b.2.2.1 1 (W (w - b.1)) && inR b.2.2.2 1 (W (l - b.2.1))))
theorem r58 (d : Nat) (b : Bx) (w l : Int) : ev (d + 2) 58 [.ag (bV b), I w, I l] = some (B (boxIn w l b), []) := by
  rw [s58 (d + 1) _ rfl]
  unfold boxIn
  cases h1 : inR b.1 0 w
  case false => simp [r51, h1]
  cases h2 : inR b.2.1 0 l
  case false => simp [r51, h1, h2]
  simp only [W]
  cases h3 : inR b.2.2.1 1 (IntKind.i64.wrap (w - b.1))
  case false => simp [r51, h1, h2, h3]
  cases h4 : inR b.2.2.2 1 (IntKind.i64.wrap (l - b.2.1)) <;> simp [r51, h1, h2, h3, h4]
theorem r56 (d : Nat) (b : Bx) (w l : Int) : ev (d + 2) 56 [.rp (bV b), I w, I l] = some (B (boxIn w l b), []) := by
  rw [s56 (d + 1) _ rfl]
  unfold boxIn
  cases h1 : inR b.1 0 w
  case false => simp [r64, h1]
  cases h2 : inR b.2.1 0 l
  case false => simp [r64, h1, h2]
  simp only [W]
  cases h3 : inR b.2.2.1 1 (IntKind.i64.wrap (w - b.1))
  case false => simp [r64, h1, h2, h3]
  cases h4 : inR b.2.2.2 1 (IntKind.i64.wrap (l - b.2.1)) <;> simp [r64, h1, h2, h3, h4]
def meetB (a b : Bx) : Bool := decide (a.1 < W (b.1 + b.2.2.1)) && (decide (b.1 < W (a.1 + a.2.2.1)) && (decide (a.2.1 < W (b.2.1 + b.2.2.2)) && decide (b.2.1 < W (a.2.1 + a.2.2.2))))
theorem r57 (d : Nat) (a b : Bx) : ev (d + 1) 57 [.rp (bV a), .rp (bV b)] = some (B (meetB a b), []) := by
  rw [s57 d _ rfl]
  unfold meetB
  simp only [W]
  by_cases h1 : a.1 < IntKind.i64.wrap (b.1 + b.2.2.1)
  case neg => simp [h1]
  by_cases h2 : b.1 < IntKind.i64.wrap (a.1 + a.2.2.1)
  case neg => simp [h1, h2]
  by_cases h3 : a.2.1 < IntKind.i64.wrap (b.2.1 + b.2.2.2)
  case neg => simp [h1, h2, h3]
  by_cases h4 : b.2.1 < IntKind.i64.wrap (a.2.1 + a.2.2.2) <;> simp [h1, h2, h3, h4]
def comB (a b : Bx) : Bx := (mxI a.1 b.1, mxI a.2.1 b.2.1, W (mnI (W (a.1 + a.2.2.1)) (W (b.1 + b.2.2.1)) - mxI a.1 b.1), W (mnI (W (a.2.1 + a.2.2.2)) (W (b.2.1 + b.2.2.2)) - mxI a.2.1 b.2.1))
def comOk (a b : Bx) : Bool := decide (0 < (comB a b).2.2.1) && decide (0 < (comB a b).2.2.2)
theorem r75 (d : Nat) (a b : Bx) : ev (d + 1) 75 [.ag (bV a), .ag (bV b)] = some (.tu [.ag (bV (comB a b)), B (comOk a b)], []) := by
  rw [s75 d _ rfl]
  unfold comOk
  by_cases h1 : 0 < (comB a b).2.2.1 <;> by_cases h2 : 0 < (comB a b).2.2.2 <;> simp only [comB, mxI, mnI, W] at h1 h2 <;> simp [comB, mxI, mnI, h1, h2]
theorem r59 (d : Nat) (a b : Bx) : ev (d + 2) 59 [.ag (bV a), .ag (bV b)] = some (B (comOk a b), []) := by
  rw [s59 (d + 1) _ rfl]
  simp [r75]
theorem boxIn_in {w l : Int} {b : Bx} (hw : 0 ≤ w ∧ w ≤ 20000) (hl : 0 ≤ l ∧ l ≤ 20000) (h : boxIn w l b = true) : 0 ≤ b.1 ∧ b.1 ≤ w ∧ 0 ≤ b.2.1 ∧ b.2.1 ≤ l ∧ 1 ≤ b.2.2.1 ∧ b.2.2.1 ≤ w - b.1 ∧ 1 ≤ b.2.2.2 ∧ b.2.2.2 ≤ l - b.2.1 := by
  simp only [boxIn, inR, Bool.and_eq_true, decide_eq_true_eq] at h
  obtain ⟨⟨h1, h2⟩, ⟨h3, h4⟩, ⟨h5, h6⟩, h7, h8⟩ := h
  rw [W, IntWalk.i64_in _ (by omega)] at h6
  rw [W, IntWalk.i64_in _ (by omega)] at h8
  exact ⟨h1, h2, h3, h4, h5, h6, h7, h8⟩
def smallB (b : Bx) : Prop := (-1000000 ≤ b.1 ∧ b.1 ≤ 1000000) ∧ (-1000000 ≤ b.2.1 ∧ b.2.1 ≤ 1000000) ∧ (1 ≤ b.2.2.1 ∧ b.2.2.1 ≤ 1000000) ∧ (1 ≤ b.2.2.2 ∧ b.2.2.2 ≤ 1000000)
theorem meet_same {a b : Bx} (ha : smallB a) (hb : smallB b) : comOk a b = meetB b a := by
  obtain ⟨a1, a2, a3, a4⟩ := ha
  obtain ⟨b1, b2, b3, b4⟩ := hb
  have w1 : W (a.1 + a.2.2.1) = a.1 + a.2.2.1 := IntWalk.i64_in _ (by omega)
  have w2 : W (b.1 + b.2.2.1) = b.1 + b.2.2.1 := IntWalk.i64_in _ (by omega)
  have w3 : W (a.2.1 + a.2.2.2) = a.2.1 + a.2.2.2 := IntWalk.i64_in _ (by omega)
  have w4 : W (b.2.1 + b.2.2.2) = b.2.1 + b.2.2.2 := IntWalk.i64_in _ (by omega)
  have m1 : mxI a.1 b.1 ≤ 1000000 ∧ -1000000 ≤ mxI a.1 b.1 := by unfold mxI; split <;> omega
  have m2 : mxI a.2.1 b.2.1 ≤ 1000000 ∧ -1000000 ≤ mxI a.2.1 b.2.1 := by unfold mxI; split <;> omega
  have n1 : mnI (a.1 + a.2.2.1) (b.1 + b.2.2.1) ≤ 3000000 ∧ -3000000 ≤ mnI (a.1 + a.2.2.1) (b.1 + b.2.2.1) := by unfold mnI; split <;> omega
  have n2 : mnI (a.2.1 + a.2.2.2) (b.2.1 + b.2.2.2) ≤ 3000000 ∧ -3000000 ≤ mnI (a.2.1 + a.2.2.2) (b.2.1 + b.2.2.2) := by unfold mnI; split <;> omega
  have e : ∀ {p q : Prop} [Decidable p] [Decidable q], (p ↔ q) → decide p = decide q := fun h => decide_eq_decide.2 h
  simp only [comOk, comB, meetB, w1, w2, w3, w4]
  have v1 : W (mnI (a.1 + a.2.2.1) (b.1 + b.2.2.1) - mxI a.1 b.1) = mnI (a.1 + a.2.2.1) (b.1 + b.2.2.1) - mxI a.1 b.1 := IntWalk.i64_in _ (by omega)
  have v2 : W (mnI (a.2.1 + a.2.2.2) (b.2.1 + b.2.2.2) - mxI a.2.1 b.2.1) = mnI (a.2.1 + a.2.2.2) (b.2.1 + b.2.2.2) - mxI a.2.1 b.2.1 := IntWalk.i64_in _ (by omega)
  rw [v1, v2]
  have q1 : (0 < mnI (a.1 + a.2.2.1) (b.1 + b.2.2.1) - mxI a.1 b.1) ↔ (b.1 < a.1 + a.2.2.1 ∧ a.1 < b.1 + b.2.2.1) := by unfold mnI mxI; split <;> split <;> omega
  have q2 : (0 < mnI (a.2.1 + a.2.2.2) (b.2.1 + b.2.2.2) - mxI a.2.1 b.2.1) ↔ (b.2.1 < a.2.1 + a.2.2.2 ∧ a.2.1 < b.2.1 + b.2.2.2) := by unfold mnI mxI; split <;> split <;> omega
  rw [e q1, e q2, Bool.decide_and, Bool.decide_and]
  cases decide (b.1 < a.1 + a.2.2.1) <;> cases decide (a.1 < b.1 + b.2.2.1) <;> cases decide (b.2.1 < a.2.1 + a.2.2.2) <;> cases decide (a.2.1 < b.2.1 + b.2.2.2) <;> rfl
def meets (a b : Bx) : Bool := boxIn 20000 20000 a && (boxIn 20000 20000 b && meetB a b)
theorem r22 (d : Nat) (a b : Bx) : ev (d + 3) 22 [.ag (bV a), .ag (bV b)] = some (B (meets a b), []) := by
  rw [s22 (d + 2) _ rfl]
  have e1 := r56 d a 20000 20000
  have e2 := r56 d b 20000 20000
  have e3 := r57 (d + 1) a b
  unfold meets
  generalize boxIn 20000 20000 a = p at e1 ⊢
  generalize boxIn 20000 20000 b = q at e2 ⊢
  generalize meetB a b = r at e3 ⊢
  cases p <;> cases q <;> cases r <;> simp [e1, e2, e3]
theorem meetB_comm (a b : Bx) : meetB a b = meetB b a := by
  unfold meetB
  cases decide (a.1 < W (b.1 + b.2.2.1)) <;> cases decide (b.1 < W (a.1 + a.2.2.1)) <;> cases decide (a.2.1 < W (b.2.1 + b.2.2.2)) <;> cases decide (b.2.1 < W (a.2.1 + a.2.2.2)) <;> rfl
theorem r24 (d : Nat) (a b : Bx) : ev (d + 3) 24 [.ag (bV a), .ag (bV b)] = some (B (meets a b), []) := by
  rw [s24 (d + 2) _ rfl]
  have e1 := r58 d a 20000 20000
  have e2 := r58 d b 20000 20000
  have e3 := r59 d a b
  unfold meets
  cases hp : boxIn 20000 20000 a
  · rw [hp] at e1; simp [e1]
  cases hq : boxIn 20000 20000 b
  · rw [hp] at e1; rw [hq] at e2; simp [e1, e2]
  have pa := boxIn_in (by omega) (by omega) hp
  have pb := boxIn_in (by omega) (by omega) hq
  have hs : comOk a b = meetB a b := by
    rw [meetB_comm]
    exact meet_same ⟨by omega, by omega, by omega, by omega⟩ ⟨by omega, by omega, by omega, by omega⟩
  rw [hs] at e3
  rw [hp] at e1
  rw [hq] at e2
  generalize meetB a b = r at e3 ⊢
  cases r <;> simp [e1, e2, e3]
theorem r6 (d : Nat) (a b : Bx) : ev (d + 4) 6 [.ag (bV a), .ag (bV b)] = some (B true, []) := by
  rw [s6 (d + 3) _ rfl]
  have t1 := r23 (d + 2) a.1 a.2.1 a.2.2.1 a.2.2.2
  have t2 := r23 (d + 2) b.1 b.2.1 b.2.2.1 b.2.2.2
  have e1 := r22 d a b
  have e2 := r24 d a b
  generalize meets a b = r at e1 e2
  cases r <;> simp [t1, t2, e1, e2]
end Go.Proofs.Ytjdcohcdgdjobaa.walkS
