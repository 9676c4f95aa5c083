/- Lists of veneers, and their mean shade; no conditions. -/
import Derived.Test.YthnkioafikmmaaaDoorWLeafA
namespace Go.Proofs.YthnkioafikmmaaaDoor.walkS
open Go Go.Proofs.YthnkioafikmmaaaDoor.Ev
set_option linter.unusedSimpArgs false
abbrev Vn := ByteArray × Int × Int
abbrev vC (v : Vn) : List Cell := [.sc (.string v.1), .sc (.int .i64 v.2.1), .sc (.int .i64 v.2.2)]
abbrev zV : List Cell := [.sc (.string ⟨#[]⟩), .sc (.int .i64 0), .sc (.int .i64 0)]
theorem vC_shut (b : Vn) : (vC b).map shutC = vC b := rfl
theorem shut_vC (l : List Vn) : shut (l.map vC) = l.map vC := shut_map vC_shut l
attribute [simp high] shut_vC
def sumV : Int → List Vn → Int
  | a, [] => a
  | a, v :: l => sumV (W (a + v.2.1)) l
def allV (l : List Vn) : Bool := l.all fun v => okS v.1 v.2.1 v.2.2
theorem allV_cons (v : Vn) (l : List Vn) : allV (v :: l) = (okS v.1 v.2.1 v.2.2 && allV l) := rfl
theorem allV_nil : allV [] = true := rfl
theorem mean_pure (a b : Int) (hb : 1 ≤ b) : (2 * a + b) / (2 * b) = if a % b ≥ b - a % b then a / b + 1 else a / b := by
  have h1 := Int.mul_ediv_add_emod a b
  have h2 := Int.emod_nonneg a (show b ≠ 0 by omega)
  have h3 := Int.emod_lt_of_pos a (show 0 < b by omega)
  generalize a / b = q at *
  generalize a % b = r at *
  subst h1
  have e : 2 * (b * q + r) + b = (2 * r + b) + 2 * b * q := by
    rw [Int.mul_add, ← Int.mul_assoc]; omega
  rw [e, Int.add_mul_ediv_left _ _ (by omega)]
  split
  · have : (2 * r + b) / (2 * b) = 1 := by
      apply Int.le_antisymm
      · exact Int.lt_add_one_iff.1 (Int.ediv_lt_of_lt_mul (by omega) (by omega))
      · exact Int.le_ediv_of_mul_le (by omega) (by omega)
    omega
  · have : (2 * r + b) / (2 * b) = 0 := Int.ediv_eq_zero_of_lt (by omega) (by omega)
    omega
def mean (l : List Vn) : LV :=
  if allV l = false then .tu [I 0, I 1] else if 64 < l.length then .tu [I 0, I 5] else if l.length = 0 then .tu [I 0, I 6] else .tu [I ((2 * sumV 0 l + l.length) / (2 * l.length)), I 0]
theorem okS_sh {s : ByteArray} {a g : Int} (h : okS s a g = true) : 0 ≤ a ∧ a ≤ 100 := by
  simp only [okS, Bool.and_eq_true, inR, decide_eq_true_eq] at h; exact h.2.1
theorem sumV_in : ∀ (l : List Vn) (a : Int), allV l = true → 0 ≤ a → a + 100 * l.length ≤ 1099511627776 → a ≤ sumV a l ∧ sumV a l ≤ a + 100 * l.length := by
  intro l
  induction l with
  | nil => intro a _ _ _; simp [sumV]
  | cons v l ih =>
    intro a h h0 h1
    simp only [allV, List.all_cons, Bool.and_eq_true] at h
    simp only [List.length_cons] at h1 ⊢
    have hs := okS_sh h.1
    have hw : W (a + v.2.1) = a + v.2.1 := IntWalk.i64_in _ (by omega)
    simp only [sumV, hw]
    have := ih (a + v.2.1) h.2 (by omega) (by omega)
    omega
end Go.Proofs.YthnkioafikmmaaaDoor.walkS
