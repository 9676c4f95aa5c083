/- What these functions compute; no conditions. -/
import Derived.Test.YtojjkjbffihppaaIrS
import Derived.Test.YtojjkjbffihppaaEv3
namespace Go.Proofs.Ytojjkjbffihppaa.walkS
open Go Go.Proofs.Ytojjkjbffihppaa.Ev
set_option linter.unusedSimpArgs false
def inR (x a b : Int) : Bool := decide (a ≤ x) && decide (x ≤ b)
theorem r105 (d : Nat) (x a b : Int) : ev (d + 1) 105 [I x, I a, I b] = some (B (inR x a b), []) := by
  rw [s105 d _ rfl]
  by_cases h1 : a ≤ x <;> by_cases h2 : x ≤ b <;> simp [h1, h2, inR]
theorem r97 (d : Nat) (x a b : Int) : ev (d + 1) 97 [I x, I a, I b] = some (B (inR x a b), []) := by
  rw [s97 d _ rfl]
  by_cases h1 : a ≤ x <;> by_cases h2 : x ≤ b <;> simp [h1, h2, inR]
abbrev W (n : Int) : Int := IntKind.i64.wrap n
def mxI (a b : Int) : Int := if a < b then b else a
def mnI (a b : Int) : Int := if b < a then b else a
end Go.Proofs.Ytojjkjbffihppaa.walkS
