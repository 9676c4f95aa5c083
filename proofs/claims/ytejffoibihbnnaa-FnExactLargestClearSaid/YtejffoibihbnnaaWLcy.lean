/- Largest clear boxes: the restated search; no conditions. -/
import Derived.Test.YtejffoibihbnnaaWLcx
namespace Go.Proofs.Ytejffoibihbnnaa.walkS
open Go Go.Proofs.Ytejffoibihbnnaa.Ev
set_option linter.unusedSimpArgs false
set_option linter.unusedVariables false
theorem ar_bd {w l : Int} (h1 : -20000 ≤ w ∧ w ≤ 20000) (h2 : -20000 ≤ l ∧ l ≤ 20000) : -400000000 ≤ w * l ∧ w * l ≤ 400000000 := by
  have h : (w * l).natAbs ≤ 20000 * 20000 := by
    rw [Int.natAbs_mul]
    exact Nat.mul_le_mul (by omega) (by omega)
  omega
def smB (b : Bx) : Prop := (-20000 ≤ b.2.2.1 ∧ b.2.2.1 ≤ 20000) ∧ (-20000 ≤ b.2.2.2 ∧ b.2.2.2 ≤ 20000)
def smX (l : List Int) : Prop := ∀ z ∈ l, 0 ≤ z ∧ z ≤ 20000
theorem wrap_sm {x : Int} (h : -4000000000000 ≤ x ∧ x ≤ 4000000000000) : IntKind.i64.wrap x = x := IntWalk.i64_in _ (by omega)
theorem all_same {p q : Bx → Bool} : ∀ {l : List Bx}, (∀ b ∈ l, p b = q b) → l.all p = l.all q := by
  intro l
  induction l with
  | nil => intro _; rfl
  | cons c t ih => intro h; rw [List.all_cons, List.all_cons, h c (by simp), ih fun b hb => h b (by simp [hb])]
theorem clW_clr {df : List Bx} (hw1 : ∀ c ∈ df, IntKind.i64.wrap (c.1 + c.2.2.1) = c.1 + c.2.2.1) (hw2 : ∀ c ∈ df, IntKind.i64.wrap (c.2.1 + c.2.2.2) = c.2.1 + c.2.2.2) {q : Bx} (h1 : IntKind.i64.wrap (q.1 + q.2.2.1) = q.1 + q.2.2.1) (h2 : IntKind.i64.wrap (q.2.1 + q.2.2.2) = q.2.1 + q.2.2.2) : clW df q = clr df q := by
  unfold clW clr
  refine all_same fun c hc => ?_
  congr 1
  unfold meetB mtP W
  rw [h1, h2, hw1 c hc, hw2 c hc]
  simp only [Bool.decide_and]
def fs4 (g : Bx → Bool) (x y j : Int) (zs : List Int) (b : Bx) : Bx := zs.foldl (fun b m => stS g b (x, y, j - x, m - y)) b
theorem stS_sm {g : Bx → Bool} {b q : Bx} (hb : smB b) (hq : smB q) : smB (stS g b q) := by
  unfold stS
  cases decide (ar b < ar q) <;> cases g q <;> simp only [ifb_t, ifb_f] <;> assumption
set_option maxHeartbeats 1000000 in
theorem l75_4 (d : Nat) (L : Lf) (hb : L.df.length ≤ 1000000) (hw1 : ∀ c ∈ L.df, IntKind.i64.wrap (c.1 + c.2.2.1) = c.1 + c.2.2.1) (hw2 : ∀ c ∈ L.df, IntKind.i64.wrap (c.2.1 + c.2.2.2) = c.2.1 + c.2.2.2) (xs ys : List Int) (hx : smX xs) (hy : smX ys) (hyb : ys.length ≤ 3000000) (i k j : Nat) (x y z : Int) (ei : xs[i]? = some x) (ek : ys[k]? = some y) (ej : xs[j]? = some z) : ∀ (n m : Nat) (b r : Bx), ys.length ≤ n + m → m ≤ ys.length → smB b → fs4 (clr L.df) x y z (ys.drop m) b = r →
    clC [0, 2, 3, 4, 5, 6, 7, 8] [2] (blk 6 (lp (evC (ev (d + 2)) b75_4) (clean [0, 2, 3, 4, 5, 6, 7, 8, 9]) ⟨lookS [(0, .rp (lV L)), (2, .bp (.sl 2) 0), (3, .rf (.sl 3) none 0 xs.length), (4, .rf (.sl 4) none 0 ys.length), (5, .bp (.sl 5) 0), (6, I i), (7, I k), (8, I j), (9, I m)], lookM [((.sl 2), some (.box (bV z0))), ((.sl 3), some (.arr 2 1 (xs.map iC))), ((.sl 4), some (.arr 2 1 (ys.map iC))), ((.sl 5), some (.box (bV b)))]⟩)) =
      some (.nm, ⟨lookS [(0, .rp (lV L)), (2, .bp (.sl 2) 0), (3, .rf (.sl 3) none 0 xs.length), (4, .rf (.sl 4) none 0 ys.length), (5, .bp (.sl 5) 0), (6, I i), (7, I k), (8, I j)], lookM [((.sl 2), some (.box (bV z0))), ((.sl 3), some (.arr 2 1 (xs.map iC))), ((.sl 4), some (.arr 2 1 (ys.map iC))), ((.sl 5), some (.box (bV r)))]⟩) := by
  have i1 := (List.getElem?_eq_some_iff.1 ei).1
  have k1 := (List.getElem?_eq_some_iff.1 ek).1
  have j1 := (List.getElem?_eq_some_iff.1 ej).1
  have i2 : (i : Int) < (xs.length : Int) := by omega
  have k2 : (k : Int) < (ys.length : Int) := by omega
  have j2 : (j : Int) < (xs.length : Int) := by omega
  have bx := hx x (List.mem_of_getElem? ei)
  have by' := hy y (List.mem_of_getElem? ek)
  have bz := hx z (List.mem_of_getElem? ej)
  intro n
  induction n with
  | zero =>
    intro m b r hm hm2 sb hr
    have h0 : ¬ (m : Int) < (ys.length : Int) := by omega
    rw [List.drop_eq_nil_of_le (by omega)] at hr
    have e : b = r := hr
    subst e
    rw [lp_step]
    simp [h0]
  | succ n ih =>
    intro m b r hm hm2 sb hr
    by_cases hlt : m < ys.length
    case neg =>
      have h0 : ¬ (m : Int) < (ys.length : Int) := by omega
      rw [List.drop_eq_nil_of_le (by omega)] at hr
      have e : b = r := hr
      subst e
      rw [lp_step]
      simp [h0]
    have h0 : (m : Int) < (ys.length : Int) := by omega
    obtain ⟨u, hu⟩ := get_lt hlt
    have bu := hy u (List.mem_of_getElem? hu)
    have hw := wrap_nat (i := m) (by omega)
    have w1 : IntKind.i64.wrap (z - x) = z - x := wrap_sm (by omega)
    have w2 : IntKind.i64.wrap (u - y) = u - y := wrap_sm (by omega)
    have a1 := ar_bd (w := z - x) (l := u - y) (by omega) (by omega)
    have a2 := ar_bd sb.1 sb.2
    have w3 : IntKind.i64.wrap ((z - x) * (u - y)) = (z - x) * (u - y) := wrap_sm (by omega)
    have w4 : IntKind.i64.wrap (b.2.2.1 * b.2.2.2) = b.2.2.1 * b.2.2.2 := wrap_sm (by omega)
    have c := r173 d L (x, y, z - x, u - y) (by simp only [big]; omega)
    have ec := clW_clr hw1 hw2 (q := (x, y, z - x, u - y)) (wrap_sm (by simp only; omega)) (wrap_sm (by simp only; omega))
    rw [ec] at c
    have sq : smB (x, y, z - x, u - y) := ⟨by simp only; omega, by simp only; omega⟩
    rw [drop_get hu] at hr
    have ih' := ih (m + 1) (stS (clr L.df) b (x, y, z - x, u - y)) r (by omega) (by omega) (stS_sm sb sq) hr
    simp only [Int.natCast_add, Int.cast_ofNat_Int] at ih'
    rw [lp_step]
    unfold stS ar at ih'
    by_cases g1 : b.2.2.1 * b.2.2.2 < (z - x) * (u - y)
    · rw [show decide (b.2.2.1 * b.2.2.2 < (x, y, z - x, u - y).2.2.1 * (x, y, z - x, u - y).2.2.2) = true from decide_eq_true g1] at ih'
      cases g2 : clr L.df (x, y, z - x, u - y) <;> rw [g2] at ih' c <;> simp only [ifb_t, ifb_f] at ih' <;> simp [h0, hu, ei, ek, ej, i2, k2, j2, hw, w1, w2, w3, w4, g1, c, ih']
    · rw [show decide (b.2.2.1 * b.2.2.2 < (x, y, z - x, u - y).2.2.1 * (x, y, z - x, u - y).2.2.2) = false from decide_eq_false g1] at ih'
      simp only [ifb_f] at ih'
      simp [h0, hu, ei, ek, ej, i2, k2, j2, hw, w1, w2, w3, w4, g1, c, ih']
end Go.Proofs.Ytejffoibihbnnaa.walkS
