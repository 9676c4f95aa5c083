/- Largest clear boxes: the restated search, the outer loops; no conditions. -/
import Derived.Test.YtejffoibihbnnaaWLcy
namespace Go.Proofs.Ytejffoibihbnnaa.walkS
open Go Go.Proofs.Ytejffoibihbnnaa.Ev
set_option linter.unusedSimpArgs false
set_option linter.unusedVariables false
def fs3 (g : Bx → Bool) (x y : Int) (js zs : List Int) (b : Bx) : Bx := js.foldl (fun b j => fs4 g x y j zs b) b
def fs2 (g : Bx → Bool) (x : Int) (js : List Int) (ys : List Int) (b : Bx) : Bx := (tl ys).foldl (fun b p => fs3 g x p.1 js p.2 b) b
def fs1 (g : Bx → Bool) (xs ys : List Int) (b : Bx) : Bx := (tl xs).foldl (fun b p => fs2 g p.1 p.2 ys b) b
theorem fs1_LS (g : Bx → Bool) (xs ys : List Int) (b : Bx) : fs1 g xs ys b = (LS xs ys).foldl (stS g) b := by
  unfold LS fs1
  rw [List.foldl_flatMap]
  congr 1
  funext b p
  unfold fs2
  rw [List.foldl_flatMap]
  congr 1
  funext b r
  unfold fs3
  rw [List.foldl_flatMap]
  congr 1
  funext b j
  unfold fs4
  rw [List.foldl_map]
theorem fs4_sm {g : Bx → Bool} {x y j : Int} (hx : 0 ≤ x ∧ x ≤ 20000) (hy : 0 ≤ y ∧ y ≤ 20000) (hj : 0 ≤ j ∧ j ≤ 20000) : ∀ {zs : List Int} {b : Bx}, smX zs → smB b → smB (fs4 g x y j zs b) := by
  intro zs
  induction zs with
  | nil => intro b _ h; exact h
  | cons m t ih =>
    intro b hz h
    have hm := hz m (by simp)
    exact ih (fun z q => hz z (by simp [q])) (stS_sm h ⟨by simp only; omega, by simp only; omega⟩)
theorem fs3_sm {g : Bx → Bool} {x y : Int} (hx : 0 ≤ x ∧ x ≤ 20000) (hy : 0 ≤ y ∧ y ≤ 20000) {zs : List Int} (hz : smX zs) : ∀ {js : List Int} {b : Bx}, smX js → smB b → smB (fs3 g x y js zs b) := by
  intro js
  induction js with
  | nil => intro b _ h; exact h
  | cons m t ih =>
    intro b hj h
    exact ih (fun z q => hj z (by simp [q])) (fs4_sm hx hy (hj m (by simp)) hz h)
theorem smX_drop {l : List Int} (h : smX l) (i : Nat) : smX (l.drop i) := fun z hz => h z (List.mem_of_mem_drop hz)
set_option maxHeartbeats 1000000 in
theorem l75_3 (d : Nat) (L : Lf) (hb : L.df.length ≤ 1000000) (hw1 : ∀ c ∈ L.df, IntKind.i64.wrap (c.1 + c.2.2.1) = c.1 + c.2.2.1) (hw2 : ∀ c ∈ L.df, IntKind.i64.wrap (c.2.1 + c.2.2.2) = c.2.1 + c.2.2.2) (xs ys : List Int) (hx : smX xs) (hy : smX ys) (hxb : xs.length ≤ 3000000) (hyb : ys.length ≤ 3000000) (i k : Nat) (x y : Int) (ei : xs[i]? = some x) (ek : ys[k]? = some y) : ∀ (n j : Nat) (b r : Bx), xs.length ≤ n + j → smB b → fs3 (clr L.df) x y (xs.drop j) (ys.drop (k + 1)) b = r →
    clC [0, 2, 3, 4, 5, 6, 7] [2] (blk 4 (lp (evC (ev (d + 2)) b75_3) (clean [0, 2, 3, 4, 5, 6, 7, 8]) ⟨lookS [(0, .rp (lV L)), (2, .bp (.sl 2) 0), (3, .rf (.sl 3) none 0 xs.length), (4, .rf (.sl 4) none 0 ys.length), (5, .bp (.sl 5) 0), (6, I i), (7, I k), (8, I j)], lookM [((.sl 2), some (.box (bV z0))), ((.sl 3), some (.arr 2 1 (xs.map iC))), ((.sl 4), some (.arr 2 1 (ys.map iC))), ((.sl 5), some (.box (bV b)))]⟩)) =
      some (.nm, ⟨lookS [(0, .rp (lV L)), (2, .bp (.sl 2) 0), (3, .rf (.sl 3) none 0 xs.length), (4, .rf (.sl 4) none 0 ys.length), (5, .bp (.sl 5) 0), (6, I i), (7, I k)], lookM [((.sl 2), some (.box (bV z0))), ((.sl 3), some (.arr 2 1 (xs.map iC))), ((.sl 4), some (.arr 2 1 (ys.map iC))), ((.sl 5), some (.box (bV r)))]⟩) := by
  have k1 := (List.getElem?_eq_some_iff.1 ek).1
  have wk := wrap_nat (i := k) (by omega)
  intro n
  induction n with
  | zero =>
    intro j b r hj sb hr
    have h0 : ¬ (j : Int) < (xs.length : Int) := by omega
    rw [List.drop_eq_nil_of_le (by omega)] at hr
    have e : b = r := hr
    subst e
    rw [lp_step]
    simp [h0]
  | succ n ih =>
    intro j b r hj sb hr
    by_cases hlt : j < xs.length
    case neg =>
      have h0 : ¬ (j : Int) < (xs.length : Int) := by omega
      rw [List.drop_eq_nil_of_le (by omega)] at hr
      have e : b = r := hr
      subst e
      rw [lp_step]
      simp [h0]
    have h0 : (j : Int) < (xs.length : Int) := by omega
    obtain ⟨z, hz⟩ := get_lt hlt
    have hw := wrap_nat (i := j) (by omega)
    rw [drop_get hz] at hr
    have key := l75_4 d L hb hw1 hw2 xs ys hx hy hyb i k j x y z ei ek hz ys.length (k + 1) b _ (by omega) (by omega) sb rfl
    have sb' := fs4_sm (g := clr L.df) (hx x (List.mem_of_getElem? ei)) (hy y (List.mem_of_getElem? ek)) (hx z (List.mem_of_getElem? hz)) (smX_drop hy (k + 1)) sb
    have ih' := ih (j + 1) (fs4 (clr L.df) x y z (ys.drop (k + 1)) b) r (by omega) sb' hr
    generalize fs4 (clr L.df) x y z (ys.drop (k + 1)) b = b' at key ih'
    simp only [Int.natCast_add, Int.cast_ofNat_Int] at ih' key wk
    rw [lp_step]
    simp [h0, hw, wk, key, ih']
end Go.Proofs.Ytejffoibihbnnaa.walkS
