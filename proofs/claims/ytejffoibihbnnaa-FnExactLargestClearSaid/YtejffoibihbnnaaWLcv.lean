/- Largest clear boxes: the restated search; no conditions. -/
import Derived.Test.YtejffoibihbnnaaWLcz
namespace Go.Proofs.Ytejffoibihbnnaa.walkS
open Go Go.Proofs.Ytejffoibihbnnaa.Ev
set_option linter.unusedSimpArgs false
set_option linter.unusedVariables false
theorem fs2_sm {g : Bx → Bool} {x : Int} (hx : 0 ≤ x ∧ x ≤ 20000) {js : List Int} (hj : smX js) : ∀ {ys : List Int} {b : Bx}, smX ys → smB b → smB (fs2 g x js ys b) := by
  intro ys
  induction ys with
  | nil => intro b _ h; exact h
  | cons y t ih =>
    intro b hy h
    have ht : smX t := fun z q => hy z (by simp [q])
    exact ih ht (fs3_sm hx (hy y (by simp)) ht hj h)
set_option maxHeartbeats 1000000 in
theorem l75_2 (d : Nat) (L : Lf) (hb : L.df.length ≤ 1000000) (hw1 : ∀ c ∈ L.df, IntKind.i64.wrap (c.1 + c.2.2.1) = c.1 + c.2.2.1) (hw2 : ∀ c ∈ L.df, IntKind.i64.wrap (c.2.1 + c.2.2.2) = c.2.1 + c.2.2.2) (xs ys : List Int) (hx : smX xs) (hy : smX ys) (hxb : xs.length ≤ 3000000) (hyb : ys.length ≤ 3000000) (i : Nat) (x : Int) (ei : xs[i]? = some x) : ∀ (n k : Nat) (b r : Bx), ys.length ≤ n + k → smB b → fs2 (clr L.df) x (xs.drop (i + 1)) (ys.drop k) b = r →
    clC [0, 2, 3, 4, 5, 6] [2] (blk 2 (lp (evC (ev (d + 2)) b75_2) (clean [0, 2, 3, 4, 5, 6, 7]) ⟨lookS [(0, .rp (lV L)), (2, .bp (.sl 2) 0), (3, .rf (.sl 3) none 0 xs.length), (4, .rf (.sl 4) none 0 ys.length), (5, .bp (.sl 5) 0), (6, I i), (7, I k)], lookM [((.sl 2), some (.box (bV z0))), ((.sl 3), some (.arr 2 1 (xs.map iC))), ((.sl 4), some (.arr 2 1 (ys.map iC))), ((.sl 5), some (.box (bV b)))]⟩)) =
      some (.nm, ⟨lookS [(0, .rp (lV L)), (2, .bp (.sl 2) 0), (3, .rf (.sl 3) none 0 xs.length), (4, .rf (.sl 4) none 0 ys.length), (5, .bp (.sl 5) 0), (6, I i)], lookM [((.sl 2), some (.box (bV z0))), ((.sl 3), some (.arr 2 1 (xs.map iC))), ((.sl 4), some (.arr 2 1 (ys.map iC))), ((.sl 5), some (.box (bV r)))]⟩) := by
  have i1 := (List.getElem?_eq_some_iff.1 ei).1
  have wk := wrap_nat (i := i) (by omega)
  intro n
  induction n with
  | zero =>
    intro k b r hj sb hr
    have h0 : ¬ (k : Int) < (ys.length : Int) := by omega
    rw [show ys.drop k = [] from List.drop_eq_nil_of_le (by omega)] at hr
    have e : b = r := hr
    subst e
    rw [lp_step]
    simp [h0]
  | succ n ih =>
    intro k b r hj sb hr
    by_cases hlt : k < ys.length
    case neg =>
      have h0 : ¬ (k : Int) < (ys.length : Int) := by omega
      rw [show ys.drop k = [] from List.drop_eq_nil_of_le (by omega)] at hr
      have e : b = r := hr
      subst e
      rw [lp_step]
      simp [h0]
    have h0 : (k : Int) < (ys.length : Int) := by omega
    obtain ⟨z, hz⟩ := get_lt hlt
    have hw := wrap_nat (i := k) (by omega)
    rw [drop_get hz] at hr
    have key := l75_3 d L hb hw1 hw2 xs ys hx hy hxb hyb i k x z ei hz xs.length (i + 1) b _ (by omega) sb rfl
    have sb' := fs3_sm (g := clr L.df) (hx x (List.mem_of_getElem? ei)) (hy z (List.mem_of_getElem? hz)) (smX_drop hy (k + 1)) (smX_drop hx (i + 1)) sb
    have ih' := ih (k + 1) (fs3 (clr L.df) x z (xs.drop (i + 1)) (ys.drop (k + 1)) b) r (by omega) sb' hr
    generalize fs3 (clr L.df) x z (xs.drop (i + 1)) (ys.drop (k + 1)) b = b' at key ih'
    simp only [Int.natCast_add, Int.cast_ofNat_Int] at ih' key wk
    rw [lp_step]
    simp [h0, hw, wk, key, ih']
set_option maxHeartbeats 1000000 in
theorem l75_1 (d : Nat) (L : Lf) (hb : L.df.length ≤ 1000000) (hw1 : ∀ c ∈ L.df, IntKind.i64.wrap (c.1 + c.2.2.1) = c.1 + c.2.2.1) (hw2 : ∀ c ∈ L.df, IntKind.i64.wrap (c.2.1 + c.2.2.2) = c.2.1 + c.2.2.2) (xs ys : List Int) (hx : smX xs) (hy : smX ys) (hxb : xs.length ≤ 3000000) (hyb : ys.length ≤ 3000000) : ∀ (n i : Nat) (b r : Bx), xs.length ≤ n + i → smB b → fs1 (clr L.df) (xs.drop i) ys b = r →
    clC [2, 5] [2] (blk 0 (lp (evC (ev (d + 2)) b75_1) (clean [0, 2, 3, 4, 5, 6]) ⟨lookS [(0, .rp (lV L)), (2, .bp (.sl 2) 0), (3, .rf (.sl 3) none 0 xs.length), (4, .rf (.sl 4) none 0 ys.length), (5, .bp (.sl 5) 0), (6, I i)], lookM [((.sl 2), some (.box (bV z0))), ((.sl 3), some (.arr 2 1 (xs.map iC))), ((.sl 4), some (.arr 2 1 (ys.map iC))), ((.sl 5), some (.box (bV b)))]⟩)) =
      some (.nm, ⟨lookS [(2, .bp (.sl 2) 0), (5, .bp (.sl 5) 0)], lookM [((.sl 2), some (.box (bV z0))), ((.sl 5), some (.box (bV r)))]⟩) := by
  intro n
  induction n with
  | zero =>
    intro i b r hj sb hr
    have h0 : ¬ (i : Int) < (xs.length : Int) := by omega
    rw [show xs.drop i = [] from List.drop_eq_nil_of_le (by omega)] at hr
    have e : b = r := hr
    subst e
    rw [lp_step]
    simp [h0]
  | succ n ih =>
    intro i b r hj sb hr
    by_cases hlt : i < xs.length
    case neg =>
      have h0 : ¬ (i : Int) < (xs.length : Int) := by omega
      rw [show xs.drop i = [] from List.drop_eq_nil_of_le (by omega)] at hr
      have e : b = r := hr
      subst e
      rw [lp_step]
      simp [h0]
    have h0 : (i : Int) < (xs.length : Int) := by omega
    obtain ⟨z, hz⟩ := get_lt hlt
    have hw := wrap_nat (i := i) (by omega)
    rw [drop_get hz] at hr
    have key := l75_2 d L hb hw1 hw2 xs ys hx hy hxb hyb i z hz ys.length 0 b _ (by omega) sb rfl
    rw [List.drop_zero] at key
    have sb' := fs2_sm (g := clr L.df) (hx z (List.mem_of_getElem? hz)) (smX_drop hx (i + 1)) hy sb
    have ih' := ih (i + 1) (fs2 (clr L.df) z (xs.drop (i + 1)) ys b) r (by omega) sb' hr
    generalize fs2 (clr L.df) z (xs.drop (i + 1)) ys b = b' at key ih'
    simp only [Int.natCast_add, Int.cast_ofNat_Int] at ih' key
    rw [lp_step]
    simp [h0, hw, key, ih']
end Go.Proofs.Ytejffoibihbnnaa.walkS
