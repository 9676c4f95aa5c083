/- What these functions compute; no conditions. -/
import Derived.Test.YthnkioafikmmaaaGreatIrS
import Derived.Test.YthnkioafikmmaaaGreatEv3
namespace Go.Proofs.YthnkioafikmmaaaGreat.walkS
open Go Go.Proofs.YthnkioafikmmaaaGreat.Ev
set_option linter.unusedSimpArgs false
def inR (x a b : Int) : Bool := decide (a ≤ x) && decide (x ≤ b)
theorem r40 (d : Nat) (x a b : Int) : ev (d + 1) 40 [I x, I a, I b] = some (B (inR x a b), []) := by
  rw [s40 d _ rfl]
  by_cases h1 : a ≤ x <;> by_cases h2 : x ≤ b <;> simp [h1, h2, inR]
theorem r71 (d : Nat) (x a b : Int) : ev (d + 1) 71 [I x, I a, I b] = some (B (inR x a b), []) := by
  rw [s71 d _ rfl]
  by_cases h1 : a ≤ x <;> by_cases h2 : x ≤ b <;> simp [h1, h2, inR]
abbrev W (n : Int) : Int := IntKind.i64.wrap n
def mxI (a b : Int) : Int := if a < b then b else a
def mnI (a b : Int) : Int := if b < a then b else a
theorem r178 (d : Nat) (a b : Int) : ev (d + 1) 178 [I a, I b] = some (I (mxI a b), []) := by
  rw [s178 d _ rfl]
  unfold mxI
  by_cases h : b < a
  · have : ¬ a < b := by omega
    simp [h, this]
  · by_cases h2 : a < b
    · simp [h, h2]
    · have : a = b := by omega
      subst this; simp 
theorem r38 (d : Nat) (a b : Int) : ev (d + 1) 38 [I a, I b] = some (I (mnI a b), []) := by
  rw [s38 d _ rfl]
  unfold mnI
  by_cases h : a < b
  · have : ¬ b < a := by omega
    simp [h, this]
  · by_cases h2 : b < a
    · simp [h, h2]
    · have : a = b := by omega
      subst this; simp 
theorem ltW {g : Nat} (h : g < 1000000) : (g < wrN) = True := eq_true h
attribute [simp] ltW
end Go.Proofs.YthnkioafikmmaaaGreat.walkS
