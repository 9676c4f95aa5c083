/- Largest clear boxes: the restated search; no conditions. -/
import Derived.Test.YtejffoibihbnnaaWLcz
namespace Go.Proofs.Ytejffoibihbnnaa.walkS
open Go Go.Proofs.Ytejffoibihbnnaa.Ev
set_option linter.unusedSimpArgs false
set_option linter.unusedVariables false
theorem fs2_sm {g : Bx → Bool} {x : Int} (hx : 0 ≤ x ∧ x ≤ 20000) {js : List Int} (hj : smX js) : ∀ {ys : List Int} {b : Bx}, smX ys → smB b → smB (fs2 g x js ys b) := by
  intro ys
  induction ys with
  | nil => intro b _ h; exact h
  | cons y t ih =>
    intro b hy h
    have ht : smX t := fun z q => hy z (by simp [q])
    exact ih ht (fs3_sm hx (hy y (by simp)) ht hj h)
end Go.Proofs.Ytejffoibihbnnaa.walkS
