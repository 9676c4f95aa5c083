/- A straight corner left out of a polygon: the plain geometry (rings by grind); no conditions. -/
import Derived.Test.YthnkioafikmmaaaWPoly
namespace Go.Proofs.Ythnkioafikmmaaa.walkS
open Go Go.Proofs.Ythnkioafikmmaaa.Ev
set_option linter.unusedSimpArgs false
set_option linter.unusedVariables false
namespace Geo
def crs (a b p : Int × Int) : Int := (b.1 - a.1) * (p.2 - a.2) - (b.2 - a.2) * (p.1 - a.1)
def sgn (n : Int) : Int := if 0 < n then 1 else if n < 0 then -1 else 0
def within' (x a b : Int) : Prop := a ≤ x ∧ x ≤ b
/-- b lies on the way from a to c, apart from both -/
structure Btw (a b c : Int × Int) : Prop where
  line : crs a c b = 0
  x : (a.1 ≤ b.1 ∧ b.1 ≤ c.1) ∨ (c.1 ≤ b.1 ∧ b.1 ≤ a.1)
  y : (a.2 ≤ b.2 ∧ b.2 ≤ c.2) ∨ (c.2 ≤ b.2 ∧ b.2 ≤ a.2)
  na : b ≠ a
  nc : b ≠ c
theorem btw_frac {a b c : Int × Int} (h : Btw a b c) : ∃ m M : Int, 0 < m ∧ m < M ∧ M * (b.1 - a.1) = m * (c.1 - a.1) ∧ M * (b.2 - a.2) = m * (c.2 - a.2) := by
  obtain ⟨ax, ay⟩ := a
  obtain ⟨bx, by'⟩ := b
  obtain ⟨cx, cy⟩ := c
  obtain ⟨h1, h2, h3, h4, h5⟩ := h
  simp only [crs, ne_eq, Prod.mk.injEq, not_and] at *
  by_cases hx : cx = ax
  · subst hx
    have hb : bx = cx := by omega
    subst hb
    have e4 : by' ≠ ay := fun e => h4 rfl e
    have e5 : by' ≠ cy := fun e => h5 rfl e
    rcases h3 with h3 | h3
    · exact ⟨by' - ay, cy - ay, by omega, by omega, by grind, by grind⟩
    · exact ⟨ay - by', ay - cy, by omega, by omega, by grind, by grind⟩
  · have hne : bx ≠ ax := by
      intro e
      subst e
      have h6 : (cx - bx) * (by' - ay) = 0 := by grind
      rcases Int.mul_eq_zero.1 h6 with q | q
      · omega
      · exact h4 rfl (by omega)
    have hnc : bx ≠ cx := by
      intro e
      subst e
      have h6 : (bx - ax) * (by' - cy) = 0 := by grind
      rcases Int.mul_eq_zero.1 h6 with q | q
      · omega
      · exact h5 rfl (by omega)
    rcases h2 with h2 | h2
    · exact ⟨bx - ax, cx - ax, by omega, by omega, by grind, by grind⟩
    · exact ⟨ax - bx, ax - cx, by omega, by omega, by grind, by grind⟩
theorem pos_of {M x m y : Int} (hM : 0 < M) (hm : 0 < m) (h : M * x = m * y) : (0 < x ↔ 0 < y) ∧ (x < 0 ↔ y < 0) ∧ (x = 0 ↔ y = 0) := by
  have key : ∀ {M x m y : Int}, 0 < M → 0 < m → M * x = m * y → 0 < x → 0 < y := by
    intro M x m y hM hm h hx
    have h1 : 0 < m * y := by rw [← h]; exact Int.mul_pos hM hx
    exact Int.pos_of_mul_pos_right h1 hm
  have key2 : ∀ {M x m y : Int}, 0 < M → 0 < m → M * x = m * y → x < 0 → y < 0 := by
    intro M x m y hM hm h hx
    have := key hM hm (x := -x) (y := -y) (by grind) (by omega)
    omega
  refine ⟨⟨key hM hm h, key hm hM h.symm⟩, ⟨key2 hM hm h, key2 hm hM h.symm⟩, fun e => ?_, fun e => ?_⟩
  · subst e
    have h1 : m * y = 0 := by grind
    rcases Int.mul_eq_zero.1 h1 with q | q <;> omega
  · subst e
    have h1 : M * x = 0 := by grind
    rcases Int.mul_eq_zero.1 h1 with q | q <;> omega
theorem btw_ab {a b c p : Int × Int} {m M : Int} (h1 : M * (b.1 - a.1) = m * (c.1 - a.1)) (h2 : M * (b.2 - a.2) = m * (c.2 - a.2)) : M * crs a b p = m * crs a c p := by
  unfold crs
  grind
theorem btw_bc {a b c p : Int × Int} {m M : Int} (h1 : M * (b.1 - a.1) = m * (c.1 - a.1)) (h2 : M * (b.2 - a.2) = m * (c.2 - a.2)) (hM : 0 < M) (h3 : crs a c b = 0) : crs b c p = crs a c p - crs a b p := by
  unfold crs at *
  grind
theorem btw_pq {a b c p q : Int × Int} {m M : Int} (h1 : M * (b.1 - a.1) = m * (c.1 - a.1)) (h2 : M * (b.2 - a.2) = m * (c.2 - a.2)) : M * crs p q b = (M - m) * crs p q a + m * crs p q c := by
  unfold crs
  grind
def btwI (x a b : Int) : Prop := (a ≤ x ∧ x ≤ b) ∨ (b ≤ x ∧ x ≤ a)
def On (a b p : Int × Int) : Prop := crs a b p = 0 ∧ btwI p.1 a.1 b.1 ∧ btwI p.2 a.2 b.2
def opp (x y : Int) : Prop := (0 < x ∧ y < 0) ∨ (x < 0 ∧ 0 < y)
def Tch (a b c d : Int × Int) : Prop := (opp (crs a b c) (crs a b d) ∧ opp (crs c d a) (crs c d b)) ∨ On a b c ∨ On a b d ∨ On c d a ∨ On c d b
/-- between 0 and w, if K times it is P times w -/
theorem btw_mul {K P r w : Int} (hK : 0 < K) (h1 : 0 ≤ P) (h2 : P ≤ K) (h : K * r = P * w) : (0 ≤ r ∧ r ≤ w) ∨ (w ≤ r ∧ r ≤ 0) := by
  by_cases hw : 0 ≤ w
  · left
    have a1 : 0 ≤ K * r := by rw [h]; exact Int.mul_nonneg h1 hw
    have a2 : 0 ≤ K * (w - r) := by
      have : K * (w - r) = (K - P) * w := by grind
      rw [this]
      exact Int.mul_nonneg (by omega) hw
    have b1 : 0 ≤ r := Int.nonneg_of_mul_nonneg_right a1 hK
    have b2 : 0 ≤ w - r := Int.nonneg_of_mul_nonneg_right a2 hK
    omega
  · right
    have a1 : 0 ≤ K * (-r) := by
      have : K * (-r) = P * (-w) := by grind
      rw [this]
      exact Int.mul_nonneg h1 (by omega)
    have a2 : 0 ≤ K * (r - w) := by
      have : K * (r - w) = (K - P) * (-w) := by grind
      rw [this]
      exact Int.mul_nonneg (by omega) (by omega)
    have b1 : 0 ≤ -r := Int.nonneg_of_mul_nonneg_right a1 hK
    have b2 : 0 ≤ r - w := Int.nonneg_of_mul_nonneg_right a2 hK
    omega
theorem on_of_x {a b p : Int × Int} (h : crs a b p = 0) (hn : a.1 ≠ b.1) (hx : btwI p.1 a.1 b.1) : On a b p := by
  refine ⟨h, hx, ?_⟩
  unfold crs at h
  unfold btwI at *
  rcases hx with hx | hx
  · have := btw_mul (K := b.1 - a.1) (P := p.1 - a.1) (r := p.2 - a.2) (w := b.2 - a.2) (by omega) (by omega) (by omega) (by grind)
    omega
  · have := btw_mul (K := a.1 - b.1) (P := a.1 - p.1) (r := p.2 - a.2) (w := b.2 - a.2) (by omega) (by omega) (by omega) (by grind)
    omega
theorem on_of_y {a b p : Int × Int} (h : crs a b p = 0) (hn : a.2 ≠ b.2) (hy : btwI p.2 a.2 b.2) : On a b p := by
  refine ⟨h, ?_, hy⟩
  unfold crs at h
  unfold btwI at *
  rcases hy with hy | hy
  · have := btw_mul (K := b.2 - a.2) (P := p.2 - a.2) (r := p.1 - a.1) (w := b.1 - a.1) (by omega) (by omega) (by omega) (by grind)
    omega
  · have := btw_mul (K := a.2 - b.2) (P := a.2 - p.2) (r := p.1 - a.1) (w := b.1 - a.1) (by omega) (by omega) (by omega) (by grind)
    omega
theorem on_split {a b c p : Int × Int} (h : Btw a b c) (hp : On a c p) : On a b p ∨ On b c p := by
  obtain ⟨m, M, m0, mM, f1, f2⟩ := btw_frac h
  have e1 := btw_ab (p := p) f1 f2
  have e2 := btw_bc (p := p) f1 f2 (by omega) h.line
  obtain ⟨hp1, hx, hy⟩ := hp
  have z1 : crs a b p = 0 := ((pos_of (by omega) m0 e1).2.2).2 hp1
  have z2 : crs b c p = 0 := by rw [e2, hp1, z1]; rfl
  obtain ⟨_, bx, by', na, nc⟩ := h
  unfold btwI at hx hy
  by_cases hac : a.1 = c.1
  · have ab2 : a.2 ≠ b.2 := fun e => na (Prod.ext (by omega) e.symm)
    have bc2 : b.2 ≠ c.2 := fun e => nc (Prod.ext (by omega) e)
    by_cases q : btwI p.2 a.2 b.2
    · exact .inl (on_of_y z1 ab2 q)
    · exact .inr (on_of_y z2 bc2 (by unfold btwI at *; omega))
  · have ab1 : a.1 ≠ b.1 := by
      intro e
      have : m * (c.1 - a.1) = 0 := by rw [← f1, e]; grind
      rcases Int.mul_eq_zero.1 this with q | q <;> omega
    have bc1 : b.1 ≠ c.1 := by
      intro e
      have : (M - m) * (c.1 - a.1) = 0 := by rw [e] at f1; grind
      rcases Int.mul_eq_zero.1 this with q | q <;> omega
    by_cases q : btwI p.1 a.1 b.1
    · exact .inl (on_of_x z1 ab1 q)
    · exact .inr (on_of_x z2 bc1 (by unfold btwI at *; omega))
theorem on_cross {a c p q b : Int × Int} (hb : crs a c b = 0) (hq : crs p q b = 0) (ho : opp (crs a c p) (crs a c q)) : On p q b := by
  have k1 : (crs a c p - crs a c q) * (b.1 - p.1) = crs a c p * (q.1 - p.1) := by unfold crs at *; grind
  have k2 : (crs a c p - crs a c q) * (b.2 - p.2) = crs a c p * (q.2 - p.2) := by unfold crs at *; grind
  refine ⟨hq, ?_, ?_⟩
  · unfold btwI
    rcases ho with ⟨h1, h2⟩ | ⟨h1, h2⟩
    · have := btw_mul (by omega) (by omega) (by omega) k1
      omega
    · have k3 : (crs a c q - crs a c p) * (b.1 - p.1) = (-(crs a c p)) * (q.1 - p.1) := by grind
      have := btw_mul (by omega) (by omega) (by omega) k3
      omega
  · unfold btwI
    rcases ho with ⟨h1, h2⟩ | ⟨h1, h2⟩
    · have := btw_mul (by omega) (by omega) (by omega) k2
      omega
    · have k3 : (crs a c q - crs a c p) * (b.2 - p.2) = (-(crs a c p)) * (q.2 - p.2) := by grind
      have := btw_mul (by omega) (by omega) (by omega) k3
      omega
/-- what meets a way meets one of its two parts -/
theorem tch_split {a b c p q : Int × Int} (h : Btw a b c) (ht : Tch a c p q) : Tch a b p q ∨ Tch b c p q := by
  rcases ht with ⟨h1, h2⟩ | h1 | h1 | h1 | h1
  · obtain ⟨m, M, m0, mM, f1, f2⟩ := btw_frac h
    have e1 := btw_ab (p := p) f1 f2
    have e2 := btw_ab (p := q) f1 f2
    have g1 := btw_bc (p := p) f1 f2 (by omega) h.line
    have g2 := btw_bc (p := q) f1 f2 (by omega) h.line
    have s1 := pos_of (by omega) m0 e1
    have s2 := pos_of (by omega) m0 e2
    have t1 := pos_of (M := M) (m := M - m) (x := crs b c p) (y := crs a c p) (by omega) (by omega) (by grind)
    have t2 := pos_of (M := M) (m := M - m) (x := crs b c q) (y := crs a c q) (by omega) (by omega) (by grind)
    have k := btw_pq (p := p) (q := q) f1 f2
    by_cases hz : crs p q b = 0
    · exact .inl (.inr (.inr (.inr (.inr (on_cross h.line hz h1)))))
    · unfold opp at h1 h2
      by_cases hs : opp (crs p q a) (crs p q b)
      · refine .inl (.inl ⟨?_, hs⟩)
        unfold opp
        omega
      · refine .inr (.inl ⟨?_, ?_⟩)
        · unfold opp
          omega
        · unfold opp at *
          omega
  · rcases on_split h h1 with q | q
    · exact .inl (.inr (.inl q))
    · exact .inr (.inr (.inl q))
  · rcases on_split h h1 with q | q
    · exact .inl (.inr (.inr (.inl q)))
    · exact .inr (.inr (.inr (.inl q)))
  · exact .inl (.inr (.inr (.inr (.inl h1))))
  · exact .inr (.inr (.inr (.inr (.inr h1))))
theorem area_drop {a b c : Int × Int} (h : crs a c b = 0) : (a.1 * b.2 - a.2 * b.1) + (b.1 * c.2 - b.2 * c.1) = a.1 * c.2 - a.2 * c.1 := by
  unfold crs at h
  grind
theorem tch_symm {a b c d : Int × Int} (h : Tch a b c d) : Tch c d a b := by
  rcases h with ⟨h1, h2⟩ | h | h | h | h
  · exact .inl ⟨h2, h1⟩
  · exact .inr (.inr (.inr (.inl h)))
  · exact .inr (.inr (.inr (.inr h)))
  · exact .inr (.inl h)
  · exact .inr (.inr (.inl h))
def Bad (P Q R : Int × Int) : Prop := P = Q ∨ On P Q R ∨ On Q R P
/-- corners, round and round, n of them: no two edges meet but neighbours, and these as they must -/
structure Simple (n : Nat) (P : Nat → Int × Int) : Prop where
  per : ∀ i, P (i + n) = P i
  bad : ∀ i, ¬ Bad (P i) (P (i + 1)) (P (i + 2))
  tch : ∀ i j, i + 2 ≤ j → j + 2 ≤ i + n → ¬ Tch (P i) (P (i + 1)) (P j) (P (j + 1))
theorem per_mul {n : Nat} {P : Nat → Int × Int} (h : ∀ i, P (i + n) = P i) (i q : Nat) : P (i + n * q) = P i := by
  induction q with
  | zero => rfl
  | succ q ih => rw [Nat.mul_succ, ← Nat.add_assoc, h, ih]
theorem per_mod {n : Nat} {P : Nat → Int × Int} (h : ∀ i, P (i + n) = P i) (i : Nat) : P (i % n) = P i := by
  have := per_mul h (i % n) (i / n)
  rw [Nat.mod_add_div] at this
  exact this.symm
theorem Simple.shift {n : Nat} {P : Nat → Int × Int} (h : Simple n P) (r : Nat) : Simple n (fun i => P (i + r)) := by
  refine ⟨fun i => ?_, fun i => ?_, fun i j h1 h2 => ?_⟩
  · show P (i + n + r) = P (i + r)
    rw [show i + n + r = i + r + n by omega]; exact h.per _
  · have := h.bad (i + r)
    show ¬ Bad (P (i + r)) (P (i + 1 + r)) (P (i + 2 + r))
    rw [show i + 1 + r = i + r + 1 by omega, show i + 2 + r = i + r + 2 by omega]; exact this
  · have := h.tch (i + r) (j + r) (by omega) (by omega)
    show ¬ Tch (P (i + r)) (P (i + 1 + r)) (P (j + r)) (P (j + 1 + r))
    rw [show i + 1 + r = i + r + 1 by omega, show j + 1 + r = j + r + 1 by omega]; exact this
/-- it is enough to look at one round -/
theorem Simple.of {n : Nat} {P : Nat → Int × Int} (hn : 0 < n) (per : ∀ i, P (i + n) = P i) (bad : ∀ i, i < n → ¬ Bad (P i) (P (i + 1)) (P (i + 2))) (tch : ∀ i j, i + 2 ≤ j → j < n → j + 2 ≤ i + n → ¬ Tch (P i) (P (i + 1)) (P j) (P (j + 1))) : Simple n P := by
  refine ⟨per, fun i => ?_, fun i j h1 h2 => ?_⟩
  · have hb := bad (i % n) (Nat.mod_lt _ hn)
    have e : ∀ k, P (i % n + k) = P (i + k) := fun k => by
      have := per_mul per (i % n + k) (i / n)
      rw [show i % n + k + n * (i / n) = i % n + n * (i / n) + k by omega, Nat.mod_add_div] at this
      exact this.symm
    have e0 := e 0
    rw [Nat.add_zero, Nat.add_zero] at e0
    rw [e0, e 1, e 2] at hb
    exact hb
  · have e : ∀ k, P (i % n + k) = P (i + k) := fun k => by
      have := per_mul per (i % n + k) (i / n)
      rw [show i % n + k + n * (i / n) = i % n + n * (i / n) + k by omega, Nat.mod_add_div] at this
      exact this.symm
    have e0 := e 0
    rw [Nat.add_zero, Nat.add_zero] at e0
    have ej := e (j - i)
    rw [show i + (j - i) = j by omega] at ej
    have ej1 := e (j - i + 1)
    rw [show i + (j - i + 1) = j + 1 by omega] at ej1
    have hi := Nat.mod_lt i hn
    by_cases hj : i % n + (j - i) < n
    · have := tch (i % n) (i % n + (j - i)) (by omega) hj (by omega)
      rw [e0, e 1, ej, Nat.add_assoc, ej1] at this
      exact this
    · have p0 := per (i % n + (j - i) - n)
      rw [show i % n + (j - i) - n + n = i % n + (j - i) by omega, ej] at p0
      have p1 := per (i % n + (j - i) - n + 1)
      rw [show i % n + (j - i) - n + 1 + n = i % n + (j - i + 1) by omega, ej1] at p1
      have := tch (i % n + (j - i) - n) (i % n) (by omega) hi (by omega)
      rw [e0, e 1, ← p0, ← p1] at this
      exact fun q => this (tch_symm q)
/-- the last corner left out -/
def dropP (n : Nat) (P : Nat → Int × Int) (i : Nat) : Int × Int := P (i % (n - 1))
/-- a corner that lies between its neighbours may go -/
theorem Simple.drop {n : Nat} {P : Nat → Int × Int} (h : Simple n P) (hn : 3 ≤ n) (hb : Btw (P (n - 2)) (P (n - 1)) (P 0)) : 4 ≤ n ∧ Simple (n - 1) (dropP n P) := by
  have pn : P n = P 0 := by have := h.per 0; rwa [Nat.zero_add] at this
  have pn1 : P (n + 1) = P 1 := by have := h.per 1; rwa [Nat.add_comm] at this
  have h4 : 4 ≤ n := by
    apply Classical.byContradiction
    intro q
    have e : n = 3 := by omega
    subst e
    have p3 : P 3 = P 0 := pn
    have p4 : P 4 = P 1 := pn1
    refine h.bad 2 (.inr (.inr ?_))
    obtain ⟨q1, q2, q3, _, _⟩ := hb
    have q1 : crs (P 1) (P 0) (P 2) = 0 := q1
    have q2 : (((P 1).1 ≤ (P 2).1 ∧ (P 2).1 ≤ (P 0).1) ∨ ((P 0).1 ≤ (P 2).1 ∧ (P 2).1 ≤ (P 1).1)) := q2
    have q3 : (((P 1).2 ≤ (P 2).2 ∧ (P 2).2 ≤ (P 0).2) ∨ ((P 0).2 ≤ (P 2).2 ∧ (P 2).2 ≤ (P 1).2)) := q3
    show On (P 3) (P 4) (P 2)
    rw [p3, p4]
    refine ⟨?_, ?_, ?_⟩
    · unfold crs at *
      grind
    · unfold btwI
      omega
    · unfold btwI
      omega
  refine ⟨h4, ?_⟩
  have d0 : ∀ k, k < n - 1 → dropP n P k = P k := fun k hk => by unfold dropP; rw [Nat.mod_eq_of_lt hk]
  have d1 : dropP n P (n - 1) = P 0 := by unfold dropP; rw [Nat.mod_self]
  have d2 : dropP n P n = P 1 := by
    unfold dropP
    have e : n % (n - 1) = 1 := by
      have : n % (n - 1) = (1 + (n - 1)) % (n - 1) := by rw [show 1 + (n - 1) = n by omega]
      rw [this, Nat.add_mod_right, Nat.mod_eq_of_lt (by omega)]
    rw [e]
  have na : P (n - 2) ≠ P 0 := by
    intro e
    obtain ⟨_, q2, q3, q4, _⟩ := hb
    rw [← e] at q2 q3
    exact q4 (Prod.ext (by omega) (by omega))
  have b3 := h.bad (n - 3)
  rw [show n - 3 + 1 = n - 2 by omega, show n - 3 + 2 = n - 1 by omega] at b3
  have b1 := h.bad (n - 1)
  rw [show n - 1 + 1 = n by omega, show n - 1 + 2 = n + 1 by omega, pn, pn1] at b1
  have t3 := h.tch (n - 3) (n - 1) (by omega) (by omega)
  rw [show n - 3 + 1 = n - 2 by omega, show n - 1 + 1 = n by omega, pn] at t3
  have t2 := h.tch (n - 2) n (by omega) (by omega)
  rw [show n - 2 + 1 = n - 1 by omega, pn, pn1] at t2
  refine Simple.of (by omega) (fun i => by unfold dropP; rw [Nat.add_mod_right]) (fun i hi => ?_) (fun i j hij hj hw => ?_)
  · by_cases c1 : i + 2 < n - 1
    · rw [d0 i (by omega), d0 (i + 1) (by omega), d0 (i + 2) c1]
      exact h.bad i
    by_cases c2 : i = n - 3
    · subst c2
      rw [d0 (n - 3) (by omega), show n - 3 + 1 = n - 2 by omega, d0 (n - 2) (by omega), show n - 3 + 2 = n - 1 by omega, d1]
      rintro (q | q | q)
      · exact b3 (.inl q)
      · exact t3 (.inr (.inr (.inl q)))
      · rcases on_split hb q with q | q
        · exact b3 (.inr (.inr q))
        · exact t3 (.inr (.inr (.inr (.inl q))))
    · have c3 : i = n - 2 := by omega
      subst c3
      rw [d0 (n - 2) (by omega), show n - 2 + 1 = n - 1 by omega, d1, show n - 2 + 2 = n by omega, d2]
      rintro (q | q | q)
      · exact na q
      · rcases on_split hb q with q | q
        · exact t2 (.inr (.inr (.inl q)))
        · exact b1 (.inr (.inl q))
      · exact t2 (.inr (.inr (.inr (.inl q))))
  · rw [d0 i (by omega), d0 (i + 1) (by omega)]
    by_cases c1 : j < n - 2
    · rw [d0 j (by omega), d0 (j + 1) (by omega)]
      exact h.tch i j hij (by omega)
    · have c2 : j = n - 2 := by omega
      subst c2
      rw [d0 (n - 2) (by omega), show n - 2 + 1 = n - 1 by omega, d1]
      intro q
      have u1 := h.tch i (n - 2) hij (by omega)
      rw [show n - 2 + 1 = n - 1 by omega] at u1
      have u2 := h.tch i (n - 1) (by omega) (by omega)
      rw [show n - 1 + 1 = n by omega, pn] at u2
      rcases tch_split hb (tch_symm q) with q | q
      · exact u1 (tch_symm q)
      · exact u2 (tch_symm q)
/-- twice the area, edge by edge -/
def areaP (P : Nat → Int × Int) : Nat → Int
  | 0 => 0
  | m + 1 => areaP P m + ((P m).1 * (P (m + 1)).2 - (P m).2 * (P (m + 1)).1)
theorem areaP_ext {P Q : Nat → Int × Int} : ∀ m, (∀ k, k ≤ m → P k = Q k) → areaP P m = areaP Q m := by
  intro m
  induction m with
  | zero => intro _; rfl
  | succ m ih =>
    intro h
    simp only [areaP]
    rw [ih fun k hk => h k (by omega), h m (by omega), h (m + 1) (by omega)]
/-- the area stays -/
theorem area_same {n : Nat} {P : Nat → Int × Int} (hn : 3 ≤ n) (pn : P n = P 0) (hb : Btw (P (n - 2)) (P (n - 1)) (P 0)) : areaP (dropP n P) (n - 1) = areaP P n := by
  obtain ⟨m, rfl⟩ : ∃ m, n = m + 2 := ⟨n - 2, by omega⟩
  have e1 : areaP P (m + 2) = areaP P m + ((P m).1 * (P (m + 1)).2 - (P m).2 * (P (m + 1)).1) + ((P (m + 1)).1 * (P (m + 2)).2 - (P (m + 1)).2 * (P (m + 2)).1) := rfl
  have d0 : ∀ k, k < m + 1 → dropP (m + 2) P k = P k := fun k hk => by unfold dropP; rw [Nat.mod_eq_of_lt (by omega)]
  have d1 : dropP (m + 2) P (m + 1) = P 0 := by unfold dropP; rw [show m + 2 - 1 = m + 1 by omega, Nat.mod_self]
  have e2 : areaP (dropP (m + 2) P) (m + 1) = areaP (dropP (m + 2) P) m + ((dropP (m + 2) P m).1 * (dropP (m + 2) P (m + 1)).2 - (dropP (m + 2) P m).2 * (dropP (m + 2) P (m + 1)).1) := rfl
  show areaP (dropP (m + 2) P) (m + 1) = _
  rw [e2, areaP_ext m fun k hk => d0 k (by omega), d0 m (by omega), d1, e1, pn]
  have := area_drop hb.line
  have e3 : m + 2 - 2 = m := by omega
  have e4 : m + 2 - 1 = m + 1 := by omega
  rw [e3, e4] at this
  omega
theorem btw_of {a b c : Int × Int} (h : crs a b c = 0) (h1 : a ≠ b) (h2 : b ≠ c) (h3 : ¬ On a b c) (h4 : ¬ On b c a) : Btw a b c := by
  have e1 : crs b c a = 0 := by unfold crs at *; grind
  have e2 : crs a c b = 0 := by unfold crs at *; grind
  by_cases hx : a.1 = b.1
  · have hy : a.2 ≠ b.2 := fun q => h1 (Prod.ext hx q)
    have hc : c.1 = a.1 := by
      have h' := h
      unfold crs at h'
      rw [show b.1 - a.1 = 0 by omega, Int.zero_mul] at h'
      have : (b.2 - a.2) * (c.1 - a.1) = 0 := by omega
      rcases Int.mul_eq_zero.1 this with q | q <;> omega
    have hbc : b.2 ≠ c.2 := fun q => h2 (Prod.ext (by omega) q)
    have n1 : ¬ btwI c.2 a.2 b.2 := fun q => h3 (on_of_y h hy q)
    have n2 : ¬ btwI a.2 b.2 c.2 := fun q => h4 (on_of_y e1 hbc q)
    unfold btwI at n1 n2
    exact ⟨e2, by omega, by omega, fun q => h1 q.symm, h2⟩
  · have n1 : ¬ btwI c.1 a.1 b.1 := fun q => h3 (on_of_x h hx q)
    by_cases hbc : b.1 = c.1
    · exact absurd (show btwI c.1 a.1 b.1 by unfold btwI; omega) n1
    have n2 : ¬ btwI a.1 b.1 c.1 := fun q => h4 (on_of_x e1 hbc q)
    unfold btwI at n1 n2
    have hac : a.1 ≠ c.1 := by omega
    have := on_of_x e2 hac (by unfold btwI; omega)
    obtain ⟨_, o1, o2⟩ := this
    unfold btwI at o1 o2
    exact ⟨e2, by omega, by omega, fun q => h1 q.symm, h2⟩
end Geo
end Go.Proofs.Ythnkioafikmmaaa.walkS
