/- Largest clear boxes: the restated search; no conditions. -/
import Derived.Test.YtejffoibihbnnaaWLcx
namespace Go.Proofs.Ytejffoibihbnnaa.walkS
open Go Go.Proofs.Ytejffoibihbnnaa.Ev
set_option linter.unusedSimpArgs false
set_option linter.unusedVariables false
theorem ar_bd {w l : Int} (h1 : -20000 ≤ w ∧ w ≤ 20000) (h2 : -20000 ≤ l ∧ l ≤ 20000) : -400000000 ≤ w * l ∧ w * l ≤ 400000000 := by
  have h : (w * l).natAbs ≤ 20000 * 20000 := by
    rw [Int.natAbs_mul]
    exact Nat.mul_le_mul (by omega) (by omega)
  omega
def smB (b : Bx) : Prop := (-20000 ≤ b.2.2.1 ∧ b.2.2.1 ≤ 20000) ∧ (-20000 ≤ b.2.2.2 ∧ b.2.2.2 ≤ 20000)
def smX (l : List Int) : Prop := ∀ z ∈ l, 0 ≤ z ∧ z ≤ 20000
theorem wrap_sm {x : Int} (h : -4000000000000 ≤ x ∧ x ≤ 4000000000000) : IntKind.i64.wrap x = x := IntWalk.i64_in _ (by omega)
theorem all_same {p q : Bx → Bool} : ∀ {l : List Bx}, (∀ b ∈ l, p b = q b) → l.all p = l.all q := by
  intro l
  induction l with
  | nil => intro _; rfl
  | cons c t ih => intro h; rw [List.all_cons, List.all_cons, h c (by simp), ih fun b hb => h b (by simp [hb])]
theorem clW_clr {df : List Bx} (hw1 : ∀ c ∈ df, IntKind.i64.wrap (c.1 + c.2.2.1) = c.1 + c.2.2.1) (hw2 : ∀ c ∈ df, IntKind.i64.wrap (c.2.1 + c.2.2.2) = c.2.1 + c.2.2.2) {q : Bx} (h1 : IntKind.i64.wrap (q.1 + q.2.2.1) = q.1 + q.2.2.1) (h2 : IntKind.i64.wrap (q.2.1 + q.2.2.2) = q.2.1 + q.2.2.2) : clW df q = clr df q := by
  unfold clW clr
  refine all_same fun c hc => ?_
  congr 1
  unfold meetB mtP W
  rw [h1, h2, hw1 c hc, hw2 c hc]
  simp only [Bool.decide_and]
def fs4 (g : Bx → Bool) (x y j : Int) (zs : List Int) (b : Bx) : Bx := zs.foldl (fun b m => stS g b (x, y, j - x, m - y)) b
theorem stS_sm {g : Bx → Bool} {b q : Bx} (hb : smB b) (hq : smB q) : smB (stS g b q) := by
  unfold stS
  cases decide (ar b < ar q) <;> cases g q <;> simp only [ifb_t, ifb_f] <;> assumption
end Go.Proofs.Ytejffoibihbnnaa.walkS
