/- What these functions compute; no conditions. -/
import Derived.Test.YthnkioafikmmaaaIrS
import Derived.Test.YthnkioafikmmaaaEv3
namespace Go.Proofs.Ythnkioafikmmaaa.walkS
open Go Go.Proofs.Ythnkioafikmmaaa.Ev
set_option linter.unusedSimpArgs false
def inR (x a b : Int) : Bool := decide (a ≤ x) && decide (x ≤ b)
theorem r124 (d : Nat) (x a b : Int) : ev (d + 1) 124 [I x, I a, I b] = some (B (inR x a b), []) := by
  rw [s124 d _ rfl]
  by_cases h1 : a ≤ x <;> by_cases h2 : x ≤ b <;> simp [h1, h2, inR]
theorem r121 (d : Nat) (x a b : Int) : ev (d + 1) 121 [I x, I a, I b] = some (B (inR x a b), []) := by
  rw [s121 d _ rfl]
  by_cases h1 : a ≤ x <;> by_cases h2 : x ≤ b <;> simp [h1, h2, inR]
abbrev W (n : Int) : Int := IntKind.i64.wrap n
def mxI (a b : Int) : Int := if a < b then b else a
def mnI (a b : Int) : Int := if b < a then b else a
theorem r169 (d : Nat) (a b : Int) : ev (d + 1) 169 [I a, I b] = some (I (mxI a b), []) := by
  rw [s169 d _ rfl]
  unfold mxI
  by_cases h : b < a
  · have : ¬ a < b := by omega
    simp [h, this]
  · by_cases h2 : a < b
    · simp [h, h2]
    · have : a = b := by omega
      subst this; simp 
theorem r171 (d : Nat) (a b : Int) : ev (d + 1) 171 [I a, I b] = some (I (mnI a b), []) := by
  rw [s171 d _ rfl]
  unfold mnI
  by_cases h : a < b
  · have : ¬ b < a := by omega
    simp [h, this]
  · by_cases h2 : b < a
    · simp [h, h2]
    · have : a = b := by omega
      subst this; simp 
theorem ltW {g : Nat} (h : g < 1000000) : (g < wrN) = True := eq_true h
attribute [simp] ltW
end Go.Proofs.Ythnkioafikmmaaa.walkS
