/- Is a number in a list; no conditions. -/
import Derived.Test.YtojjkjbffihppaaWSeq
namespace Go.Proofs.Ytojjkjbffihppaa.walkS
open Go Go.Proofs.Ytojjkjbffihppaa.Ev
set_option linter.unusedSimpArgs false
set_option linter.unusedVariables false
def fst (p : Int) : List Int → Nat → Int
  | [], _ => -1
  | y :: l, i => if y = p then (i : Int) else fst p l (i + 1)
theorem fst_mem (p : Int) : ∀ (l : List Int) (i : Nat), 0 ≤ fst p l i ↔ p ∈ l := by
  intro l
  induction l with
  | nil => intro i; simp [fst]
  | cons y l ih =>
    intro i
    simp only [fst, List.mem_cons]
    by_cases h : y = p
    · simp [h]
    · rw [if_neg h, ih]
      constructor
      · exact .inr
      · rintro (h' | h')
        · exact absurd h'.symm h
        · exact h'
theorem fst_neg (p : Int) (l : List Int) (i : Nat) : fst p l i < 0 ↔ p ∉ l := by rw [← fst_mem p l i]; omega
def isIn (R : List Int) (p : Int) : Bool := decide (p ∈ R)
theorem isIn_t {R : List Int} {p : Int} (h : p ∈ R) : isIn R p = true := decide_eq_true h
theorem isIn_f {R : List Int} {p : Int} (h : p ∉ R) : isIn R p = false := decide_eq_false h
theorem hl158 (d : Nat) (R : List Int) (hb : R.length ≤ big) (p : Int) : ∀ (n i : Nat), n + i = R.length →
    clC [] [4] (blk 0 (lp (evC (ev d) b158_1) (clean [0, 1, 5]) ⟨lookS [(0, .ro 1 (R.map iC)), (1, I p), (5, I i)], lookM []⟩)) =
      (if fst p (R.drop i) i < 0 then some (.nm, ⟨lookS [], lookM []⟩) else some (.rt, ⟨lookS [(4, B true)], lookM []⟩)) := by
  intro n
  induction n with
  | zero =>
    intro i hi
    have h0 : ¬ (i : Int) < (R.length : Int) := by omega
    rw [List.drop_eq_nil_of_le (by omega), lp_step]
    simp [h0, fst]
  | succ n ih =>
    intro i hi
    have hlt : i < R.length := by omega
    have h0 : (i : Int) < (R.length : Int) := by omega
    obtain ⟨y, hy⟩ := get_lt hlt
    have hw := wrap_nat (i := i) (by simp [big] at hb; omega)
    have ih' := ih (i + 1) (by omega)
    rw [lp_step, drop_get hy]
    simp only [fst]
    by_cases hyp : y = p
    · subst hyp
      have hn : ¬ (i : Int) < 0 := by omega
      simp [h0, hy, hn]
    · have hyp2 : ¬ p = y := fun e => hyp e.symm
      simp only [Int.natCast_add, Int.cast_ofNat_Int] at ih'
      simp [h0, hy, hyp, hyp2, hw, ih']
theorem hr158 (d : Nat) (R : List Int) (hb : R.length ≤ big) (p : Int) : ev (d + 1) 158 [.ro 1 (R.map iC), I p] = some (B (isIn R p), []) := by
  rw [s158 d _ rfl]
  have key := hl158 d R hb p R.length 0 (by omega)
  rw [List.drop_zero] at key
  by_cases h : p ∈ R
  · rw [if_neg (by have := (fst_mem p R 0).2 h; omega)] at key
    rw [isIn_t h]
    simp at key
    simp [key]
  · rw [if_pos ((fst_neg p R 0).2 h)] at key
    rw [isIn_f h]
    simp at key
    simp [key]
theorem hl139 (d : Nat) (R : List Int) (hb : R.length ≤ big) (p : Int) : ∀ (n i : Nat), n + i = R.length →
    clC [] [4] (blk 0 (lp (evC (ev d) b139_1) (clean [0, 1, 7, 8]) ⟨lookS [(0, .ro 1 (R.map iC)), (1, I p), (7, I R.length), (8, I i)], lookM []⟩)) =
      (if fst p (R.drop i) i < 0 then some (.nm, ⟨lookS [], lookM []⟩) else some (.rt, ⟨lookS [(4, I (fst p (R.drop i) i))], lookM []⟩)) := by
  intro n
  induction n with
  | zero =>
    intro i hi
    have h0 : ¬ (i : Int) < (R.length : Int) := by omega
    rw [List.drop_eq_nil_of_le (by omega), lp_step]
    simp [h0, fst]
  | succ n ih =>
    intro i hi
    have hlt : i < R.length := by omega
    have h0 : (i : Int) < (R.length : Int) := by omega
    obtain ⟨y, hy⟩ := get_lt hlt
    have hw := wrap_nat (i := i) (by simp [big] at hb; omega)
    have ih' := ih (i + 1) (by omega)
    rw [lp_step, drop_get hy]
    simp only [fst]
    by_cases hyp : y = p
    · subst hyp
      have hn : ¬ (i : Int) < 0 := by omega
      simp [h0, hy, hn]
    · have hyp2 : ¬ p = y := fun e => hyp e.symm
      simp only [Int.natCast_add, Int.cast_ofNat_Int] at ih'
      simp [h0, hy, hyp, hyp2, hw, ih']
theorem hr139 (d : Nat) (R : List Int) (hb : R.length ≤ big) (p : Int) : ev (d + 1) 139 [.ro 1 (R.map iC), I p] = some (I (fst p R 0), []) := by
  rw [s139 d _ rfl]
  have key := hl139 d R hb p R.length 0 (by omega)
  rw [List.drop_zero] at key
  by_cases h : fst p R 0 < 0
  · have e : fst p R 0 = -1 := by
      have := (fst_neg p R 0).1 h
      clear h key
      generalize 0 = i
      induction R generalizing i with
      | nil => rfl
      | cons y R ih =>
        simp only [List.mem_cons, not_or] at this
        simp only [fst]
        rw [if_neg (fun q => this.1 q.symm)]
        exact ih (by simp at hb ⊢; omega) this.2 _
    rw [if_pos h] at key
    simp at key
    simp [key, e]
  · rw [if_neg h] at key
    simp at key
    simp [key]
theorem hr138 (d : Nat) (R : List Int) (hb : R.length ≤ big) (p : Int) : ev (d + 2) 138 [.ro 1 (R.map iC), I p] = some (B (isIn R p), []) := by
  rw [s138 (d + 1) _ rfl]
  have h := hr139 d R hb p
  have e : isIn R p = decide (0 ≤ fst p R 0) := by unfold isIn; exact decide_eq_decide.2 (fst_mem p R 0).symm
  rw [e]
  simp [h]
end Go.Proofs.Ytojjkjbffihppaa.walkS
