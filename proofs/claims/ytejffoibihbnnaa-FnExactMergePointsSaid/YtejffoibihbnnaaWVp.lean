/- Pictures that are valid; the rows ValidPicture and PictureShade; no conditions. -/
import Derived.Test.YtejffoibihbnnaaWVd
namespace Go.Proofs.Ytejffoibihbnnaa.walkS
open Go Go.Proofs.Ytejffoibihbnnaa.Ev
set_option linter.unusedSimpArgs false
set_option linter.unusedVariables false
def okVn (v : Vn) : Bool := okS v.1 v.2.1 v.2.2
def fIdx (p : Vn → Bool) : Nat → List Vn → Int
  | _, [] => -1
  | i, x :: l => ifb (p x) (i : Int) (fIdx p (i + 1) l)
theorem fIdx_neg (p : Vn → Bool) : ∀ (l : List Vn) (i : Nat), l.any p = false → fIdx p i l = -1 := by
  intro l
  induction l with
  | nil => intro i _; rfl
  | cons x l ih =>
    intro i h
    rw [List.any_cons, Bool.or_eq_false_iff] at h
    simp only [fIdx, h.1, ifb_f]
    exact ih _ h.2
theorem fIdx_pos (p : Vn → Bool) : ∀ (l : List Vn) (i : Nat), l.any p = true → 0 ≤ fIdx p i l := by
  intro l
  induction l with
  | nil => intro i h; cases h
  | cons x l ih =>
    intro i h
    rw [List.any_cons] at h
    cases hp : p x
    · simp only [fIdx, hp, ifb_f]
      rw [hp, Bool.false_or] at h
      exact ih (i + 1) h
    · simp only [fIdx, hp, ifb_t]; omega
def okPi (Q : Pi) : Bool := drOk Q.d && (decide (Q.vs.length = Q.d.fcs.length) && Q.vs.all okVn)
theorem BdP.n {p : Pin} (h : BdP p) : BdN (pOf p).d := ⟨h.d, fun f hf => by
  obtain ⟨q, hq, rfl⟩ := List.mem_map.1 hf
  exact h.name q hq⟩
end Go.Proofs.Ytejffoibihbnnaa.walkS
