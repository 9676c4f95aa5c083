/- Largest clear boxes: the restated search, the outer loops; no conditions. -/
import Derived.Test.YtejffoibihbnnaaWLcy
namespace Go.Proofs.Ytejffoibihbnnaa.walkS
open Go Go.Proofs.Ytejffoibihbnnaa.Ev
set_option linter.unusedSimpArgs false
set_option linter.unusedVariables false
def fs3 (g : Bx → Bool) (x y : Int) (js zs : List Int) (b : Bx) : Bx := js.foldl (fun b j => fs4 g x y j zs b) b
def fs2 (g : Bx → Bool) (x : Int) (js : List Int) (ys : List Int) (b : Bx) : Bx := (tl ys).foldl (fun b p => fs3 g x p.1 js p.2 b) b
def fs1 (g : Bx → Bool) (xs ys : List Int) (b : Bx) : Bx := (tl xs).foldl (fun b p => fs2 g p.1 p.2 ys b) b
theorem fs1_LS (g : Bx → Bool) (xs ys : List Int) (b : Bx) : fs1 g xs ys b = (LS xs ys).foldl (stS g) b := by
  unfold LS fs1
  rw [List.foldl_flatMap]
  congr 1
  funext b p
  unfold fs2
  rw [List.foldl_flatMap]
  congr 1
  funext b r
  unfold fs3
  rw [List.foldl_flatMap]
  congr 1
  funext b j
  unfold fs4
  rw [List.foldl_map]
theorem fs4_sm {g : Bx → Bool} {x y j : Int} (hx : 0 ≤ x ∧ x ≤ 20000) (hy : 0 ≤ y ∧ y ≤ 20000) (hj : 0 ≤ j ∧ j ≤ 20000) : ∀ {zs : List Int} {b : Bx}, smX zs → smB b → smB (fs4 g x y j zs b) := by
  intro zs
  induction zs with
  | nil => intro b _ h; exact h
  | cons m t ih =>
    intro b hz h
    have hm := hz m (by simp)
    exact ih (fun z q => hz z (by simp [q])) (stS_sm h ⟨by simp only; omega, by simp only; omega⟩)
theorem fs3_sm {g : Bx → Bool} {x y : Int} (hx : 0 ≤ x ∧ x ≤ 20000) (hy : 0 ≤ y ∧ y ≤ 20000) {zs : List Int} (hz : smX zs) : ∀ {js : List Int} {b : Bx}, smX js → smB b → smB (fs3 g x y js zs b) := by
  intro js
  induction js with
  | nil => intro b _ h; exact h
  | cons m t ih =>
    intro b hj h
    exact ih (fun z q => hj z (by simp [q])) (fs4_sm hx hy (hj m (by simp)) hz h)
theorem smX_drop {l : List Int} (h : smX l) (i : Nat) : smX (l.drop i) := fun z hz => h z (List.mem_of_mem_drop hz)
end Go.Proofs.Ytejffoibihbnnaa.walkS
