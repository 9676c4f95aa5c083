/- Roots, distances and slivers; the row SliversOf; no conditions. -/
import Derived.Test.YtejffoibihbnnaaWSh
import Derived.Test.YtejffoibihbnnaaWMd
namespace Go.Proofs.Ytejffoibihbnnaa.walkS
open Go Go.Proofs.Ytejffoibihbnnaa.Ev
set_option linter.unusedSimpArgs false
set_option linter.unusedVariables false
/-! ### roots -/
def IsRt (N r : Nat) : Prop := r * r ≤ N ∧ N < (r + 1) * (r + 1)
theorem rt_one {N r s : Nat} (h1 : IsRt N r) (h2 : IsRt N s) : r = s := by
  rcases Nat.lt_trichotomy r s with h | h | h
  · have := Nat.mul_le_mul (show r + 1 ≤ s by omega) (show r + 1 ≤ s by omega)
    have := h1.2; have := h2.1; omega
  · exact h
  · have := Nat.mul_le_mul (show s + 1 ≤ r by omega) (show s + 1 ≤ r by omega)
    have := h2.2; have := h1.1; omega
open Classical in
noncomputable def rt (N : Nat) : Nat := if h : ∃ r, IsRt N r then Classical.choose h else 0
theorem rt_eq {N r : Nat} (h : IsRt N r) : rt N = r := by
  have hx : ∃ r, IsRt N r := ⟨r, h⟩
  unfold rt
  rw [dif_pos hx]
  exact rt_one (Classical.choose_spec hx) h
theorem l211 (N : Nat) (hN : N ≤ 4611686018427387904) : ∀ (m lo hi : Nat), hi - lo ≤ m → lo ≤ hi → hi ≤ 3037000499 → lo * lo ≤ N → N < (hi + 1) * (hi + 1) → ∃ r, IsRt N r ∧ ∀ d,
    clC [3] [2] (blk 0 (lp (evC (ev d) b211_1) (clean [0, 3, 4]) ⟨lookS [(0, I N), (3, I lo), (4, I hi)], lookM []⟩)) = some (.nm, ⟨lookS [(3, I r)], lookM []⟩) := by
  intro m
  induction m with
  | zero =>
    intro lo hi h1 h2 h3 h4 h5
    have e : lo = hi := by omega
    subst e
    refine ⟨lo, ⟨h4, h5⟩, fun d => ?_⟩
    rw [lp_step]
    simp
  | succ m ih =>
    intro lo hi h1 h2 h3 h4 h5
    by_cases hl : lo = hi
    · subst hl
      refine ⟨lo, ⟨h4, h5⟩, fun d => ?_⟩
      rw [lp_step]
      simp
    obtain ⟨mid, hm⟩ : ∃ mid, mid = (lo + hi + 1) / 2 := ⟨_, rfl⟩
    have m1 : lo < mid := by omega
    have m2 : mid ≤ hi := by omega
    have k0 : lo < hi := by omega
    have k0' : (lo : Int) < (hi : Int) := by omega
    have hm0 : ¬ mid = 0 := by omega
    have hm0' : ¬ (mid : Int) = 0 := by omega
    have mm : mid * mid ≤ 3037000499 * 3037000499 := Nat.mul_le_mul (by omega) (by omega)
    have mc : ((mid * mid : Nat) : Int) = (mid : Int) * (mid : Int) := Int.natCast_mul mid mid
    have w1 : IntKind.i64.wrap ((lo : Int) + hi) = (lo : Int) + hi := IntWalk.i64_in _ (by omega)
    have w2 : IntKind.i64.wrap ((lo : Int) + hi + 1) = (lo : Int) + hi + 1 := IntWalk.i64_in _ (by omega)
    have td : ((lo : Int) + hi + 1).tdiv 2 = (mid : Int) := by rw [Int.tdiv_eq_ediv_of_nonneg (by omega)]; omega
    have w3 : IntKind.i64.wrap (mid : Int) = (mid : Int) := IntWalk.i64_in _ (by omega)
    have w4 : IntKind.i64.wrap ((mid : Int) * (mid : Int)) = (mid : Int) * (mid : Int) := IntWalk.i64_in _ (by omega)
    have w5 : IntKind.i64.wrap ((mid : Int) - 1) = ((mid - 1 : Nat) : Int) := by rw [IntWalk.i64_in _ (by omega)]; omega
    by_cases ht : mid * mid ≤ N
    · have ht' : (mid : Int) * (mid : Int) ≤ (N : Int) := by omega
      obtain ⟨r, hr, hd⟩ := ih mid hi (by omega) m2 h3 ht h5
      refine ⟨r, hr, fun d => ?_⟩
      have hd' := hd d
      rw [lp_step]
      simp [k0, k0', hm0, hm0', w1, w2, td, w3, w4, ht, ht', hd']
    · have ht' : ¬ (mid : Int) * (mid : Int) ≤ (N : Int) := by omega
      obtain ⟨r, hr, hd⟩ := ih lo (mid - 1) (by omega) (by omega) (by omega) h4 (by rw [show mid - 1 + 1 = mid by omega]; omega)
      refine ⟨r, hr, fun d => ?_⟩
      have hd' := hd d
      rw [lp_step]
      simp [k0, k0', hm0, hm0', w1, w2, td, w3, w4, w5, ht, ht', hd']
theorem l214 (N : Nat) (hN : N ≤ 4611686018427387904) : ∀ (m lo hi : Nat), hi - lo ≤ m → lo ≤ hi → hi ≤ 3037000499 → lo * lo ≤ N → N < (hi + 1) * (hi + 1) → ∃ r, IsRt N r ∧ ∀ d,
    clC [3] [2] (blk 0 (lp (evC (ev d) b214_1) (clean [0, 3, 4]) ⟨lookS [(0, I N), (3, I lo), (4, I hi)], lookM []⟩)) = some (.nm, ⟨lookS [(3, I r)], lookM []⟩) := by
  intro m
  induction m with
  | zero =>
    intro lo hi h1 h2 h3 h4 h5
    have e : lo = hi := by omega
    subst e
    refine ⟨lo, ⟨h4, h5⟩, fun d => ?_⟩
    rw [lp_step]
    simp
  | succ m ih =>
    intro lo hi h1 h2 h3 h4 h5
    by_cases hl : lo = hi
    · subst hl
      refine ⟨lo, ⟨h4, h5⟩, fun d => ?_⟩
      rw [lp_step]
      simp
    obtain ⟨mid, hm⟩ : ∃ mid, mid = (lo + hi + 1) / 2 := ⟨_, rfl⟩
    have m1 : lo < mid := by omega
    have m2 : mid ≤ hi := by omega
    have k0 : lo < hi := by omega
    have k0' : (lo : Int) < (hi : Int) := by omega
    have hm0 : ¬ mid = 0 := by omega
    have hm0' : ¬ (mid : Int) = 0 := by omega
    have mm : mid * mid ≤ 3037000499 * 3037000499 := Nat.mul_le_mul (by omega) (by omega)
    have mc : ((mid * mid : Nat) : Int) = (mid : Int) * (mid : Int) := Int.natCast_mul mid mid
    have w1 : IntKind.i64.wrap ((lo : Int) + hi) = (lo : Int) + hi := IntWalk.i64_in _ (by omega)
    have w2 : IntKind.i64.wrap ((lo : Int) + hi + 1) = (lo : Int) + hi + 1 := IntWalk.i64_in _ (by omega)
    have td : ((lo : Int) + hi + 1).tdiv 2 = (mid : Int) := by rw [Int.tdiv_eq_ediv_of_nonneg (by omega)]; omega
    have w3 : IntKind.i64.wrap (mid : Int) = (mid : Int) := IntWalk.i64_in _ (by omega)
    have w4 : IntKind.i64.wrap ((mid : Int) * (mid : Int)) = (mid : Int) * (mid : Int) := IntWalk.i64_in _ (by omega)
    have w5 : IntKind.i64.wrap ((mid : Int) - 1) = ((mid - 1 : Nat) : Int) := by rw [IntWalk.i64_in _ (by omega)]; omega
    have td2 : (N : Int).tdiv (mid : Int) = ((N / mid : Nat) : Int) := by rw [Int.tdiv_eq_ediv_of_nonneg (by omega)]; rfl
    have hq : mid ≤ N / mid ↔ mid * mid ≤ N := Nat.le_div_iff_mul_le (by omega)
    have hql : N / mid ≤ N := Nat.div_le_self _ _
    obtain ⟨q, hqq⟩ : ∃ q, q = N / mid := ⟨_, rfl⟩
    rw [← hqq] at td2 hq hql
    have w6 : IntKind.i64.wrap (q : Int) = (q : Int) := IntWalk.i64_in _ (by omega)
    by_cases ht : mid * mid ≤ N
    · have ht' : (mid : Int) * (mid : Int) ≤ (N : Int) := by omega
      have hqI : (mid : Int) ≤ (q : Int) := by have := hq.2 ht; omega
      obtain ⟨r, hr, hd⟩ := ih mid hi (by omega) m2 h3 ht h5
      refine ⟨r, hr, fun d => ?_⟩
      have hd' := hd d
      rw [lp_step]
      simp [k0, k0', hm0, hm0', w1, w2, td, w3, w4, td2, w6, hqI, ht, ht', hd']
    · have ht' : ¬ (mid : Int) * (mid : Int) ≤ (N : Int) := by omega
      have hqI : ¬ (mid : Int) ≤ (q : Int) := fun h => ht (hq.1 (by omega))
      obtain ⟨r, hr, hd⟩ := ih lo (mid - 1) (by omega) (by omega) (by omega) h4 (by rw [show mid - 1 + 1 = mid by omega]; omega)
      refine ⟨r, hr, fun d => ?_⟩
      have hd' := hd d
      rw [lp_step]
      simp [k0, k0', hm0, hm0', w1, w2, td, w3, w4, w5, td2, w6, hqI, ht, ht', hd']
theorem r211 (d N : Nat) (hN : N ≤ 4611686018427387904) : ev (d + 1) 211 [I N] = some (I (rt N), []) := by
  rw [s211 d _ rfl]
  obtain ⟨r, hr, hd⟩ := l211 N hN 3037000499 0 3037000499 (by omega) (by omega) (by omega) (by omega) (by omega)
  rw [rt_eq hr]
  have key := hd d
  simp at key
  simp [key]
theorem r214 (d N : Nat) (hN : N ≤ 4611686018427387904) : ev (d + 1) 214 [I N] = some (I (rt N), []) := by
  rw [s214 d _ rfl]
  by_cases h0 : N = 0
  · subst h0
    rw [rt_eq (r := 0) ⟨by omega, by omega⟩]
    simp
  obtain ⟨r, hr, hd⟩ := l214 N hN 3037000499 1 3037000499 (by omega) (by omega) (by omega) (by omega) (by omega)
  rw [rt_eq hr]
  have key := hd d
  have h1 : ¬ (N : Int) < 1 := by omega
  simp at key
  simp [h0, h1, key]
/-! ### distances -/
def sqI (p q : Pt) : Int := W (W (W (p.1 - q.1) * W (p.1 - q.1)) + W (W (p.2 - q.2) * W (p.2 - q.2)))
theorem r122 (d : Nat) (p q : Pt) : ev (d + 1) 122 [.ag (pV p), .ag (pV q)] = some (I (sqI p q), []) := by
  rw [s122 d _ rfl]
  simp [sqI, W]
theorem r215 (d : Nat) (p q : Pt) : ev (d + 1) 215 [.ag (pV p), .ag (pV q)] = some (I (sqI p q), []) := by
  rw [s215 d _ rfl]
  simp [sqI, W]
theorem sq_in {x : Int} (h : -20000 ≤ x ∧ x ≤ 20000) : 0 ≤ x * x ∧ x * x ≤ 400000000 := by
  by_cases hx : 0 ≤ x
  · exact mul_in ⟨hx, h.2⟩ ⟨hx, h.2⟩
  · have := mul_in (a := -x) (b := -x) (by omega) (by omega)
    rw [Int.neg_mul_neg] at this
    exact this
theorem okP_in {p : Pt} (h : okP p = true) : (0 ≤ p.1 ∧ p.1 ≤ 20000) ∧ (0 ≤ p.2 ∧ p.2 ≤ 20000) := by
  simp only [okP, inR, Bool.and_eq_true, decide_eq_true_eq] at h
  omega
theorem sqI_val {p q : Pt} (hp : okP p = true) (hq : okP q = true) : sqI p q = (p.1 - q.1) * (p.1 - q.1) + (p.2 - q.2) * (p.2 - q.2) ∧ 0 ≤ sqI p q ∧ sqI p q ≤ 800000000 := by
  obtain ⟨p1, p2⟩ := okP_in hp
  obtain ⟨q1, q2⟩ := okP_in hq
  have w1 : W (p.1 - q.1) = p.1 - q.1 := IntWalk.i64_in _ (by omega)
  have w2 : W (p.2 - q.2) = p.2 - q.2 := IntWalk.i64_in _ (by omega)
  have s1 := sq_in (x := p.1 - q.1) (by omega)
  have s2 := sq_in (x := p.2 - q.2) (by omega)
  unfold sqI
  rw [w1, w2]
  generalize (p.1 - q.1) * (p.1 - q.1) = u at s1 ⊢
  generalize (p.2 - q.2) * (p.2 - q.2) = v at s2 ⊢
  have w3 : W u = u := IntWalk.i64_in _ (by omega)
  have w4 : W v = v := IntWalk.i64_in _ (by omega)
  have w5 : W (u + v) = u + v := IntWalk.i64_in _ (by omega)
  rw [w3, w4, w5]
  omega
noncomputable def dsI (p q : Pt) : Int := (rt (sqI p q).toNat : Int)
theorem sqI_comm {p q : Pt} (hp : okP p = true) (hq : okP q = true) : sqI p q = sqI q p := by
  rw [(sqI_val hp hq).1, (sqI_val hq hp).1]
  have e1 : (p.1 - q.1) * (p.1 - q.1) = (q.1 - p.1) * (q.1 - p.1) := by rw [← Int.neg_mul_neg, Int.neg_sub]
  have e2 : (p.2 - q.2) * (p.2 - q.2) = (q.2 - p.2) * (q.2 - p.2) := by rw [← Int.neg_mul_neg, Int.neg_sub]
  rw [e1, e2]
theorem ds_self {p : Pt} (hp : okP p = true) : dsI p p = 0 := by
  unfold dsI
  rw [(sqI_val hp hp).1, Int.sub_self, Int.sub_self]
  rw [show ((0 : Int) * 0 + 0 * 0).toNat = 0 by decide, rt_eq (r := 0) ⟨by omega, by omega⟩]
  rfl
theorem r129 (d : Nat) (p q : Pt) (hp : okP p = true) (hq : okP q = true) : ev (d + 2) 129 [.ag (pV p), .ag (pV q)] = some (I (dsI p q), []) := by
  rw [s129 (d + 1) _ rfl]
  have c1 := r122 d p q
  obtain ⟨_, h1, h2⟩ := sqI_val hp hq
  have c2 := r211 d (sqI p q).toNat (by omega)
  rw [Int.toNat_of_nonneg h1] at c2
  simp [c1, c2, dsI]
theorem r134 (d : Nat) (p q : Pt) (hp : okP p = true) (hq : okP q = true) : ev (d + 4) 134 [.ag (pV p), .ag (pV q)] = some (I (dsI p q), []) := by
  rw [s134 (d + 3) _ rfl]
  have c0 := r213 d [p, q] (by simp [big])
  rw [show [p, q].all okP = true by simp [hp, hq]] at c0
  have c1 := r215 (d + 2) p q
  obtain ⟨_, h1, h2⟩ := sqI_val hp hq
  have c2 := r214 (d + 2) (sqI p q).toNat (by omega)
  rw [Int.toNat_of_nonneg h1] at c2
  simp at c0
  simp [c0, c1, c2, dsI, shut, shutC]
end Go.Proofs.Ytejffoibihbnnaa.walkS
