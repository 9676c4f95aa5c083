/- What these functions compute; no conditions. -/
import Derived.Test.YtojjkjbffihppaaIrS
import Derived.Test.YtojjkjbffihppaaEv3
namespace Go.Proofs.Ytojjkjbffihppaa.walkS
open Go Go.Proofs.Ytojjkjbffihppaa.Ev
set_option linter.unusedSimpArgs false
def inR (x a b : Int) : Bool := decide (a ≤ x) && decide (x ≤ b)
theorem r105 (d : Nat) (x a b : Int) : ev (d + 1) 105 [I x, I a, I b] = some (B (inR x a b), []) := by
  rw [s105 d _ rfl]
  by_cases h1 : a ≤ x <;> by_cases h2 : x ≤ b <;> simp [h1, h2, inR]
theorem r97 (d : Nat) (x a b : Int) : ev (d + 1) 97 [I x, I a, I b] = some (B (inR x a b), []) := by
  rw [s97 d _ rfl]
  by_cases h1 : a ≤ x <;> by_cases h2 : x ≤ b <;> simp [h1, h2, inR]
abbrev W (n : Int) : Int := IntKind.i64.wrap n
def mxI (a b : Int) : Int := if a < b then b else a
def mnI (a b : Int) : Int := if b < a then b else a
theorem r99 (d : Nat) (a b : Int) : ev (d + 1) 99 [I a, I b] = some (I (mxI a b), []) := by
  rw [s99 d _ rfl]
  unfold mxI
  by_cases h : b < a
  · have : ¬ a < b := by omega
    simp [h, this]
  · by_cases h2 : a < b
    · simp [h, h2]
    · have : a = b := by omega
      subst this; simp 
theorem r160 (d : Nat) (a b : Int) : ev (d + 1) 160 [I a, I b] = some (I (mnI a b), []) := by
  rw [s160 d _ rfl]
  unfold mnI
  by_cases h : a < b
  · have : ¬ b < a := by omega
    simp [h, this]
  · by_cases h2 : b < a
    · simp [h, h2]
    · have : a = b := by omega
      subst this; simp 
end Go.Proofs.Ytojjkjbffihppaa.walkS
