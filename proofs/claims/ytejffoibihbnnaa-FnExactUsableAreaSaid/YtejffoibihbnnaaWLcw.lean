/- Largest clear boxes: lines put in order; no conditions. -/
import Derived.Test.YtejffoibihbnnaaWLcr
import Derived.Test.YtejffoibihbnnaaWInt
namespace Go.Proofs.Ytejffoibihbnnaa.walkS
open Go Go.Proofs.Ytejffoibihbnnaa.Ev
set_option linter.unusedSimpArgs false
set_option linter.unusedVariables false
def putL (x : Int) : List Int → List Int
  | [] => [x]
  | v :: t => ifb (decide (v < x)) (v :: putL x t) (ifb (decide (v = x)) (v :: t) (x :: v :: t))
theorem putL_mem {x z : Int} : ∀ {l : List Int}, z ∈ putL x l ↔ z = x ∨ z ∈ l := by
  intro l
  induction l with
  | nil => simp [putL]
  | cons v t ih =>
    simp only [putL]
    by_cases h1 : v < x
    · rw [decide_eq_true h1]
      simp only [ifb_t, List.mem_cons, ih]
      constructor
      · rintro (h | h | h) <;> simp [h]
      · rintro (h | h | h) <;> simp [h]
    · rw [decide_eq_false h1]
      by_cases h2 : v = x
      · rw [decide_eq_true h2, h2]
        simp
      · rw [decide_eq_false h2]
        simp
theorem putL_pw {x : Int} : ∀ {l : List Int}, l.Pairwise (· < ·) → (putL x l).Pairwise (· < ·) := by
  intro l
  induction l with
  | nil => intro _; simp [putL]
  | cons v t ih =>
    intro h
    obtain ⟨a, b⟩ := List.pairwise_cons.1 h
    simp only [putL]
    by_cases h1 : v < x
    · rw [decide_eq_true h1]
      refine List.pairwise_cons.2 ⟨fun z hz => ?_, ih b⟩
      rcases putL_mem.1 hz with rfl | hz
      · exact h1
      · exact a z hz
    · rw [decide_eq_false h1]
      by_cases h2 : v = x
      · rw [decide_eq_true h2]; exact h
      · rw [decide_eq_false h2]
        refine List.pairwise_cons.2 ⟨fun z hz => ?_, h⟩
        rcases List.mem_cons.1 hz with rfl | hz
        · show x < z; omega
        · have := a z hz
          show x < z; omega
theorem putL_len (x : Int) : ∀ l : List Int, (putL x l).length ≤ l.length + 1 := by
  intro l
  induction l with
  | nil => simp [putL]
  | cons v t ih =>
    simp only [putL]
    cases decide (v < x) <;> cases decide (v = x) <;> simp <;> omega
theorem putL_none {x : Int} : ∀ {l : List Int}, (l.any fun v => decide (x ≤ v)) = false → putL x l = l ++ [x] := by
  intro l
  induction l with
  | nil => intro _; rfl
  | cons v t ih =>
    intro h
    rw [List.any_cons, Bool.or_eq_false_iff, decide_eq_false_iff_not] at h
    simp only [putL]
    rw [decide_eq_true (show v < x by omega), ih h.2]
    rfl
theorem l115T (d : Nat) (l : List Int) (hb : l.length + 1 ≤ big) (x : Int) : ∀ (n i : Nat) (acc : List Int), n + i = l.length → acc.length ≤ i + 1 →
    clC [1, 5, 6] [4] (blk 0 (lp (evC (ev d) b115_1) (clean [0, 1, 5, 6, 7]) ⟨lookS [(0, .ro 1 (l.map iC)), (1, I x), (5, .rf (.sl 5) none 0 acc.length), (6, B true), (7, I i)], lookM [((.sl 5), some (.arr 2 1 (acc.map iC)))]⟩)) =
      some (.nm, ⟨lookS [(1, I x), (5, .rf (.sl 5) none 0 (acc ++ l.drop i).length), (6, B true)], lookM [((.sl 5), some (.arr 2 1 ((acc ++ l.drop i).map iC)))]⟩) := by
  intro n
  induction n with
  | zero =>
    intro i acc hi ha
    have h0 : ¬ (i : Int) < (l.length : Int) := by omega
    rw [List.drop_eq_nil_of_le (by omega), List.append_nil]
    rw [lp_step]
    simp [h0]
  | succ n ih =>
    intro i acc hi ha
    have hlt : i < l.length := by omega
    have h0 : (i : Int) < (l.length : Int) := by omega
    obtain ⟨v, hv⟩ := get_lt hlt
    have hw := wrap_nat (i := i) (by simp only [big] at hb; omega)
    have hb2 : acc.length + 1 ≤ big := by omega
    have ih' := ih (i + 1) (acc ++ [v]) (by omega) (by simp; omega)
    rw [List.append_assoc, List.singleton_append, ← drop_get hv] at ih'
    generalize acc ++ l.drop i = R at ih' ⊢
    simp only [Int.natCast_add, Int.cast_ofNat_Int] at ih'
    simp at ih'
    rw [lp_step]
    simp [h0, hv, hw, hb2, ih']
theorem l115F (d : Nat) (l : List Int) (hb : l.length + 1 ≤ big) (x : Int) : ∀ (n i : Nat) (acc r : List Int) (e : Bool), n + i = l.length → acc.length ≤ i → ((l.drop i).any fun v => decide (x ≤ v)) = e → acc ++ ifb e (putL x (l.drop i)) (l.drop i) = r →
    clC [1, 5, 6] [4] (blk 0 (lp (evC (ev d) b115_1) (clean [0, 1, 5, 6, 7]) ⟨lookS [(0, .ro 1 (l.map iC)), (1, I x), (5, .rf (.sl 5) none 0 acc.length), (6, B false), (7, I i)], lookM [((.sl 5), some (.arr 2 1 (acc.map iC)))]⟩)) =
      some (.nm, ⟨lookS [(1, I x), (5, .rf (.sl 5) none 0 r.length), (6, B e)], lookM [((.sl 5), some (.arr 2 1 (r.map iC)))]⟩) := by
  intro n
  induction n with
  | zero =>
    intro i acc r e hi ha he hr
    have h0 : ¬ (i : Int) < (l.length : Int) := by omega
    rw [List.drop_eq_nil_of_le (by omega)] at he hr
    subst he
    simp only [List.any_nil, ifb_f, List.append_nil] at hr
    subst hr
    rw [lp_step]
    simp [h0]
  | succ n ih =>
    intro i acc r e hi ha he hr
    have hlt : i < l.length := by omega
    have h0 : (i : Int) < (l.length : Int) := by omega
    obtain ⟨v, hv⟩ := get_lt hlt
    have hw := wrap_nat (i := i) (by simp only [big] at hb; omega)
    have hb2 : acc.length + 1 ≤ big := by omega
    have hb3 : acc.length + 1 + 1 ≤ big := by omega
    rw [drop_get hv, List.any_cons] at he
    rw [drop_get hv] at hr
    rw [lp_step]
    by_cases h1 : x ≤ v
    · rw [decide_eq_true h1, Bool.true_or] at he
      subst he
      simp only [ifb_t, putL] at hr
      rw [decide_eq_false (show ¬ v < x by omega)] at hr
      by_cases h2 : v = x
      · rw [decide_eq_true h2] at hr
        simp only [ifb_t, ifb_f] at hr
        have hx : ¬ x < v := by omega
        have key := l115T d l hb x n (i + 1) (acc ++ [v]) (by omega) (by simp; omega)
        rw [List.append_assoc, List.singleton_append, hr] at key
        simp only [Int.natCast_add, Int.cast_ofNat_Int] at key
        simp at key
        simp [h0, hv, hw, h1, hx, hb2, key]
      · rw [decide_eq_false h2] at hr
        simp only [ifb_f] at hr
        have hx : x < v := by omega
        have key := l115T d l hb x n (i + 1) (acc ++ [x] ++ [v]) (by omega) (by simp; omega)
        have e : acc ++ [x] ++ [v] ++ l.drop (i + 1) = r := by rw [← hr]; simp
        rw [e] at key
        simp only [Int.natCast_add, Int.cast_ofNat_Int] at key
        simp at key
        simp [h0, hv, hw, h1, hx, hb2, hb3, key]
    · rw [decide_eq_false h1, Bool.false_or] at he
      have hr2 : acc ++ [v] ++ ifb e (putL x (l.drop (i + 1))) (l.drop (i + 1)) = r := by
        rw [← hr, List.append_assoc]
        cases e
        · rfl
        · simp only [ifb_t, putL]
          rw [decide_eq_true (show v < x by omega)]
          rfl
      have ih' := ih (i + 1) (acc ++ [v]) r e (by omega) (by simp; omega) he hr2
      simp only [Int.natCast_add, Int.cast_ofNat_Int] at ih'
      simp at ih'
      simp [h0, hv, hw, h1, hb2, ih']
theorem r115 (d : Nat) (l : List Int) (hb : l.length + 1 ≤ big) (x : Int) : ev (d + 1) 115 [.ro 1 (l.map iC), I x] = some (.ow 2 1 ((putL x l).map iC), []) := by
  rw [s115 d _ rfl]
  cases he : l.any fun v => decide (x ≤ v)
  · have key := l115F d l hb x l.length 0 [] l false (by omega) (by simp) (by rw [List.drop_zero]; exact he) (by rw [List.drop_zero]; rfl)
    have hp := putL_none he
    simp at key
    simp [key, hb, hp]
  · have key := l115F d l hb x l.length 0 [] (putL x l) true (by omega) (by simp) (by rw [List.drop_zero]; exact he) (by rw [List.drop_zero]; rfl)
    simp at key
    simp [key]
end Go.Proofs.Ytejffoibihbnnaa.walkS
