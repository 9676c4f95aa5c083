/- What these functions compute; no conditions. -/
import Derived.Test.YthnkioafikmmaaaDoorIrS
import Derived.Test.YthnkioafikmmaaaDoorEv3
namespace Go.Proofs.YthnkioafikmmaaaDoor.walkS
open Go Go.Proofs.YthnkioafikmmaaaDoor.Ev
set_option linter.unusedSimpArgs false
def inR (x a b : Int) : Bool := decide (a ≤ x) && decide (x ≤ b)
theorem r63 (d : Nat) (x a b : Int) : ev (d + 1) 63 [I x, I a, I b] = some (B (inR x a b), []) := by
  rw [s63 d _ rfl]
  by_cases h1 : a ≤ x <;> by_cases h2 : x ≤ b <;> simp [h1, h2, inR]
theorem r58 (d : Nat) (x a b : Int) : ev (d + 1) 58 [I x, I a, I b] = some (B (inR x a b), []) := by
  rw [s58 d _ rfl]
  by_cases h1 : a ≤ x <;> by_cases h2 : x ≤ b <;> simp [h1, h2, inR]
abbrev W (n : Int) : Int := IntKind.i64.wrap n
def mxI (a b : Int) : Int := if a < b then b else a
def mnI (a b : Int) : Int := if b < a then b else a
theorem ltW {g : Nat} (h : g < 1000000) : (g < wrN) = True := eq_true h
attribute [simp] ltW
end Go.Proofs.YthnkioafikmmaaaDoor.walkS
