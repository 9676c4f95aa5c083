/- The leaves of a species; the row LeavesOf; no conditions. -/
import Derived.Test.YtojjkjbffihppaaWMark2
import Derived.Test.YtojjkjbffihppaaWMatch
namespace Go.Proofs.Ytojjkjbffihppaa.walkS
open Go Go.Proofs.Ytojjkjbffihppaa.Ev
set_option linter.unusedSimpArgs false
set_option linter.unusedVariables false
/-- the places of the leaves that have a property -/
def wh (p : Lf → Bool) : List Lf → Nat → List Int
  | [], _ => []
  | L :: l, i => ifb (p L) ((i : Int) :: wh p l (i + 1)) (wh p l (i + 1))
theorem wh_len (p : Lf → Bool) : ∀ (l : List Lf) (i : Nat), (wh p l i).length ≤ l.length := by
  intro l
  induction l with
  | nil => intro i; exact Nat.le_refl _
  | cons L l ih =>
    intro i
    have := ih (i + 1)
    cases h : p L <;> simp [wh, h] <;> omega
theorem wh_at {p : Lf → Bool} {l : List Lf} {i : Nat} {L : Lf} {acc r : List Int} (hx : l[i]? = some L) (h : acc ++ wh p (l.drop i) i = r) : ifb (p L) (acc ++ [(i : Int)]) acc ++ wh p (l.drop (i + 1)) (i + 1) = r := by
  rw [drop_get hx] at h
  rw [← h]
  cases hp : p L <;> simp [wh, hp]
theorem wh_nil {p : Lf → Bool} {l : List Lf} {i : Nat} {acc r : List Int} (hi : l.length ≤ i) (h : acc ++ wh p (l.drop i) i = r) : acc = r := by
  rw [List.drop_eq_nil_of_le hi] at h
  simpa [wh] using h
def isSp (s : ByteArray) (L : Lf) : Bool := decide (L.sp = s)
end Go.Proofs.Ytojjkjbffihppaa.walkS
