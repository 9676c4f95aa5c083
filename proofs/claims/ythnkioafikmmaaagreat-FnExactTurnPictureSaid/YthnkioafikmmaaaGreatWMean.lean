/- Lists of veneers, and their mean shade; no conditions. -/
import Derived.Test.YthnkioafikmmaaaGreatWLeafA
namespace Go.Proofs.YthnkioafikmmaaaGreat.walkS
open Go Go.Proofs.YthnkioafikmmaaaGreat.Ev
set_option linter.unusedSimpArgs false
abbrev Vn := ByteArray × Int × Int
abbrev vC (v : Vn) : List Cell := [.sc (.string v.1), .sc (.int .i64 v.2.1), .sc (.int .i64 v.2.2)]
abbrev zV : List Cell := [.sc (.string ⟨#[]⟩), .sc (.int .i64 0), .sc (.int .i64 0)]
theorem vC_shut (b : Vn) : (vC b).map shutC = vC b := rfl
theorem shut_vC (l : List Vn) : shut (l.map vC) = l.map vC := shut_map vC_shut l
attribute [simp high] shut_vC
theorem l28 (d : Nat) (l : List Vn) (hb : l.length ≤ big) : ∀ (n i : Nat), n + i = l.length →
    clC [3] [2] (blk 0 (lp (evC (ev (d + 1)) b28_1) (clean [0, 3, 4]) ⟨lookS [(0, .ro 3 (l.map vC)), (3, .rf (.sl 3) none 0 l.length), (4, I i)], lookM [(.sl 3, some (.arr 61 3 (fill vC zV l i)))]⟩)) =
      some (.nm, ⟨lookS [(3, .rf (.sl 3) none 0 l.length)], lookM [(.sl 3, some (.arr 61 3 (l.map vC)))]⟩) := by
  intro n
  induction n with
  | zero =>
    intro i hi
    have h0 : ¬ (i : Int) < (l.length : Int) := by omega
    have he : fill vC zV l i = l.map vC := by rw [show i = l.length by omega]; exact fill_end
    rw [lp_step, he]
    simp [h0]
  | succ n ih =>
    intro i hi
    have hlt : i < l.length := by omega
    have h0 : (i : Int) < (l.length : Int) := by omega
    obtain ⟨x, hx⟩ := get_lt hlt
    have hs := fill_set (f := vC) (z := zV) hx
    have hg := fill_get (f := vC) (z := zV) hlt
    have hw := wrap_nat (i := i) (by simp [big] at hb; omega)
    have ih' := ih (i + 1) (by omega)
    rw [← hs] at ih'
    simp at ih'
    rw [lp_step]
    simp [h0, hx, hg, hw, r65, ih']
theorem r28 (d : Nat) (l : List Vn) (hb : l.length ≤ big) {x : LV} (hx : SV 3 (l.map vC) x) : ev (d + 2) 28 [x] = some (.ow 61 3 (l.map vC), []) := by
  rw [s28 (d + 1) _ rfl]
  rcases hx with rfl | ⟨rfl, h⟩
  · have key := l28 d l hb l.length 0 (by omega)
    have hz := fill_zero (f := vC) (z := zV) (l := l)
    simp at key
    simp [hb, hz, key]
  · have hl : l = [] := by simpa using h
    subst hl
    simp [big]
    rw [lp_step]
    simp
theorem l32 (d : Nat) (l : List Vn) (hb : l.length ≤ big) : ∀ (n i : Nat), n + i = l.length →
    clC [] [4] (blk 0 (lp (evC (ev (d + 1)) b32_1) (clean [0, 1, 5]) ⟨lookS [(0, .ro 3 (l.map vC)), (1, .ro 3 (l.map vC)), (5, I i)], lookM []⟩)) = some (.nm, ⟨lookS [], lookM []⟩) := by
  intro n
  induction n with
  | zero =>
    intro i hi
    have h0 : ¬ (i : Int) < (l.length : Int) := by omega
    rw [lp_step]
    simp [h0]
  | succ n ih =>
    intro i hi
    have hlt : i < l.length := by omega
    have h0 : (i : Int) < (l.length : Int) := by omega
    obtain ⟨x, hx⟩ := get_lt hlt
    have hw := wrap_nat (i := i) (by simp [big] at hb; omega)
    have ih' := ih (i + 1) (by omega)
    simp at ih'
    rw [lp_step]
    simp [h0, hx, hw, r70, ih']
theorem r32 (d : Nat) (l : List Vn) (hb : l.length ≤ big) : ev (d + 2) 32 [.ro 3 (l.map vC), .ro 3 (l.map vC)] = some (B true, []) := by
  rw [s32 (d + 1) _ rfl]
  have key := l32 d l hb l.length 0 (by omega)
  simp at key
  simp [key]
theorem l25 (d : Nat) (l : List Vn) (hb : l.length ≤ maxLen) : ∀ (n i : Nat) (m : Int), n + i = l.length →
    (∃ k, clC [1] [4] (blk 0 (lp (evC (ev (d + 1)) b25_1) (clean [0, 1, 5]) ⟨lookS [(0, .ro 3 (l.map vC)), (1, I m), (5, I i)], lookM []⟩)) = some (.nm, ⟨lookS [(1, I k)], lookM []⟩)) ∨
    clC [1] [4] (blk 0 (lp (evC (ev (d + 1)) b25_1) (clean [0, 1, 5]) ⟨lookS [(0, .ro 3 (l.map vC)), (1, I m), (5, I i)], lookM []⟩)) = some (.rt, ⟨lookS [(4, I (-1))], lookM []⟩) := by
  intro n
  induction n with
  | zero =>
    intro i m hi
    have h0 : ¬ (i : Int) < (l.length : Int) := by omega
    rw [lp_step]
    exact .inl ⟨m, by simp [h0]⟩
  | succ n ih =>
    intro i m hi
    have hlt : i < l.length := by omega
    have h0 : (i : Int) < (l.length : Int) := by omega
    obtain ⟨x, hx⟩ := get_lt hlt
    have hm : maxLen = 9223372036854775807 := by decide
    have hw : IntKind.i64.wrap ((i : Int) + 1) = ((i + 1 : Nat) : Int) := by rw [IntWalk.i64_in _ (by omega)]; rfl
    have ih' := ih (i + 1) (sz1 m x.1.size) (by omega)
    simp at ih'
    rw [lp_step]
    by_cases hc : sz1 m x.1.size < 0
    · right; simp [h0, hx, z62, hc]
    · simp [h0, hx, hw, z62, hc, ih']
theorem r25 (d : Nat) (l : List Vn) (hb : l.length ≤ maxLen) {x : LV} (hx : SV 3 (l.map vC) x) : ∃ k, ev (d + 2) 25 [x, I 1048576] = some (I k, []) ∧ (0 ≤ k → l.length ≤ 1048576) := by
  rw [s25 (d + 1) _ rfl]
  have hm : maxLen = 9223372036854775807 := by decide
  have hw : IntKind.i64.wrap (1048576 - (l.length : Int)) = 1048576 - l.length := IntWalk.i64_in _ (by omega)
  by_cases h : 1048576 - (l.length : Int) < 0
  · refine ⟨-1, ?_, by omega⟩
    rcases hx with rfl | ⟨rfl, hl⟩
    · simp [hw, h]
    · have hl : l = [] := by simpa using hl
      subst hl; simp at h
  · rcases hx with rfl | ⟨rfl, hl⟩
    · rcases l25 d l hb l.length 0 (1048576 - l.length) (by omega) with ⟨k, hk⟩ | hk
      · simp at hk; exact ⟨k, by simp [hw, h, hk], by omega⟩
      · simp at hk; exact ⟨-1, by simp [hw, h, hk], by omega⟩
    · have hl : l = [] := by simpa using hl
      subst hl
      refine ⟨1048576, ?_, by simp⟩
      have e : IntKind.i64.wrap 1048576 = 1048576 := by decide
      simp [e]
      rw [lp_step]
      simp
def sumV : Int → List Vn → Int
  | a, [] => a
  | a, v :: l => sumV (W (a + v.2.1)) l
def allV (l : List Vn) : Bool := l.all fun v => okS v.1 v.2.1 v.2.2
theorem allV_cons (v : Vn) (l : List Vn) : allV (v :: l) = (okS v.1 v.2.1 v.2.2 && allV l) := rfl
theorem allV_nil : allV [] = true := rfl
theorem mean_pure (a b : Int) (hb : 1 ≤ b) : (2 * a + b) / (2 * b) = if a % b ≥ b - a % b then a / b + 1 else a / b := by
  have h1 := Int.mul_ediv_add_emod a b
  have h2 := Int.emod_nonneg a (show b ≠ 0 by omega)
  have h3 := Int.emod_lt_of_pos a (show 0 < b by omega)
  generalize a / b = q at *
  generalize a % b = r at *
  subst h1
  have e : 2 * (b * q + r) + b = (2 * r + b) + 2 * b * q := by
    rw [Int.mul_add, ← Int.mul_assoc]; omega
  rw [e, Int.add_mul_ediv_left _ _ (by omega)]
  split
  · have : (2 * r + b) / (2 * b) = 1 := by
      apply Int.le_antisymm
      · exact Int.lt_add_one_iff.1 (Int.ediv_lt_of_lt_mul (by omega) (by omega))
      · exact Int.le_ediv_of_mul_le (by omega) (by omega)
    omega
  · have : (2 * r + b) / (2 * b) = 0 := Int.ediv_eq_zero_of_lt (by omega) (by omega)
    omega
def mean (l : List Vn) : LV :=
  if allV l = false then .tu [I 0, I 1] else if 64 < l.length then .tu [I 0, I 5] else if l.length = 0 then .tu [I 0, I 6] else .tu [I ((2 * sumV 0 l + l.length) / (2 * l.length)), I 0]
theorem okS_sh {s : ByteArray} {a g : Int} (h : okS s a g = true) : 0 ≤ a ∧ a ≤ 100 := by
  simp only [okS, Bool.and_eq_true, inR, decide_eq_true_eq] at h; exact h.2.1
theorem sumV_in : ∀ (l : List Vn) (a : Int), allV l = true → 0 ≤ a → a + 100 * l.length ≤ 1099511627776 → a ≤ sumV a l ∧ sumV a l ≤ a + 100 * l.length := by
  intro l
  induction l with
  | nil => intro a _ _ _; simp [sumV]
  | cons v l ih =>
    intro a h h0 h1
    simp only [allV, List.all_cons, Bool.and_eq_true] at h
    simp only [List.length_cons] at h1 ⊢
    have hs := okS_sh h.1
    have hw : W (a + v.2.1) = a + v.2.1 := IntWalk.i64_in _ (by omega)
    simp only [sumV, hw]
    have := ih (a + v.2.1) h.2 (by omega) (by omega)
    omega
end Go.Proofs.YthnkioafikmmaaaGreat.walkS
