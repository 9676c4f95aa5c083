/- A number put into a list at its place; no conditions. -/
import Derived.Test.YtojjkjbffihppaaWLof2
namespace Go.Proofs.Ytojjkjbffihppaa.walkS
open Go Go.Proofs.Ytojjkjbffihppaa.Ev
set_option linter.unusedSimpArgs false
set_option linter.unusedVariables false
/-- where x goes among the first n of A: behind the last one that is not greater -/
def plc (key : Int → Int) (A : List Int) (x : Int) : Nat → Nat
  | 0 => 0
  | j + 1 => match A[j]? with
    | some y => if key x < key y then plc key A x j else j + 1
    | none => j + 1
def put (A : List Int) (x : Int) (j : Nat) : List Int := A.take j ++ x :: A.drop j
def ins (key : Int → Int) (A : List Int) (x : Int) : List Int := put A x (plc key A x A.length)
def srt (key : Int → Int) (A : List Int) : List Int → List Int
  | [] => A
  | x :: l => srt key (ins key A x) l
theorem plc_succ {key : Int → Int} {A : List Int} {x y : Int} {j : Nat} (h : A[j]? = some y) : plc key A x (j + 1) = if key x < key y then plc key A x j else j + 1 := by
  simp only [plc, h]
theorem plc_le (key : Int → Int) (A : List Int) (x : Int) : ∀ n, plc key A x n ≤ n := by
  intro n
  induction n with
  | zero => exact Nat.le_refl _
  | succ n ih =>
    unfold plc
    cases A[n]? with
    | none => exact Nat.le_refl _
    | some y =>
      simp only []
      split <;> omega
theorem put_len (A : List Int) (x : Int) (j : Nat) : (put A x j).length = A.length + 1 := by
  unfold put
  rw [List.length_append, List.length_cons, List.length_take, List.length_drop]
  omega
theorem ins_len (key : Int → Int) (A : List Int) (x : Int) : (ins key A x).length = A.length + 1 := put_len _ _ _
theorem srt_len (key : Int → Int) : ∀ (l A : List Int), (srt key A l).length = A.length + l.length := by
  intro l
  induction l with
  | nil => intro A; rfl
  | cons x l ih => intro A; simp only [srt, ih, ins_len, List.length_cons]; omega
theorem mem_put {A : List Int} {x y : Int} {j : Nat} : y ∈ put A x j ↔ y = x ∨ y ∈ A := by
  unfold put
  conv => rhs; rw [← List.take_append_drop j A]
  simp only [List.mem_append, List.mem_cons]
  constructor
  · rintro (h | h | h)
    · exact .inr (.inl h)
    · exact .inl h
    · exact .inr (.inr h)
  · rintro (h | h | h)
    · exact .inr (.inl h)
    · exact .inl h
    · exact .inr (.inr h)
theorem mem_ins {key : Int → Int} {A : List Int} {x y : Int} : y ∈ ins key A x ↔ y = x ∨ y ∈ A := mem_put
theorem mem_srt {key : Int → Int} {y : Int} : ∀ {l A : List Int}, y ∈ srt key A l ↔ y ∈ A ∨ y ∈ l := by
  intro l
  induction l with
  | nil => intro A; simp [srt]
  | cons x l ih =>
    intro A
    simp only [srt, ih, mem_ins, List.mem_cons]
    constructor
    · rintro ((h | h) | h)
      · exact .inr (.inl h)
      · exact .inl h
      · exact .inr (.inr h)
    · rintro (h | h | h)
      · exact .inl (.inr h)
      · exact .inl (.inl h)
      · exact .inr h
theorem put_end (A : List Int) (x : Int) (R : List Int) : put A x A.length ++ R = A ++ x :: R := by simp [put]
section
variable {A R : List Int} {x y : Int} {j : Nat}
theorem put_get1 (h : j ≤ A.length) : (put A x j ++ R)[j]? = some x := by
  unfold put
  rw [List.append_assoc, List.getElem?_append_right (by rw [List.length_take]; omega), List.length_take, Nat.min_eq_left h, Nat.sub_self]
  rfl
theorem put_get0 (h : A[j]? = some y) : (put A x (j + 1) ++ R)[j]? = some y := by
  have hj : j < A.length := (List.getElem?_eq_some_iff.1 h).1
  unfold put
  rw [List.append_assoc, List.getElem?_append_left (by rw [List.length_take]; omega), List.getElem?_take_of_lt (by omega), h]
theorem put_swap (h : A[j]? = some y) : ((put A x (j + 1) ++ R).set (j + 1) y).set j x = put A x j ++ R := by
  have hj : j < A.length := (List.getElem?_eq_some_iff.1 h).1
  have e1 : A.take (j + 1) = A.take j ++ [y] := by rw [List.take_add_one, h]; rfl
  have e2 : A.drop j = y :: A.drop (j + 1) := drop_get h
  have l1 : (A.take j).length = j := by rw [List.length_take]; omega
  unfold put
  rw [e1, e2]
  rw [List.append_assoc, List.append_assoc, List.append_assoc]
  rw [List.set_append_right _ _ (by omega), l1, List.set_append_right _ _ (by omega), l1, Nat.sub_self, show j + 1 - j = 1 by omega]
  simp
end
theorem plc_all (key : Int → Int) (A : List Int) (x : Int) : ∀ n, (∀ k y, plc key A x n ≤ k → k < n → A[k]? = some y → key x < key y) := by
  intro n
  induction n with
  | zero => intro k y h1 h2; omega
  | succ n ih =>
    intro k y h1 h2 hy
    unfold plc at h1
    cases hA : A[n]? with
    | none => rw [hA] at h1; simp only [] at h1; omega
    | some z =>
      rw [hA] at h1
      simp only [] at h1
      split at h1
      · rename_i hlt
        by_cases hk : k = n
        · subst hk; rw [hA] at hy; cases hy; exact hlt
        · exact ih k y h1 (by omega) hy
      · omega
/-- one after the other, by the key -/
def Up (key : Int → Int) (A : List Int) : Prop := A.Pairwise fun x y => key x ≤ key y
theorem plc_low (key : Int → Int) (A : List Int) (x : Int) (hu : Up key A) : ∀ n, n ≤ A.length → ∀ k y, k < plc key A x n → A[k]? = some y → key y ≤ key x := by
  intro n
  induction n with
  | zero => intro _ k y h; simp [plc] at h
  | succ n ih =>
    intro hn k y h hy
    unfold plc at h
    obtain ⟨z, hA⟩ := get_lt (l := A) (i := n) (by omega)
    rw [hA] at h
    simp only [] at h
    split at h
    · exact ih (by omega) k y h hy
    · rename_i hge
      have hz : key z ≤ key x := by omega
      by_cases hk : k = n
      · subst hk; rw [hA] at hy; cases hy; exact hz
      · have hkn : k < n := by omega
        obtain ⟨k1, k2⟩ := List.getElem?_eq_some_iff.1 hy
        obtain ⟨n1, n2⟩ := List.getElem?_eq_some_iff.1 hA
        have := List.pairwise_iff_getElem.1 hu k n k1 n1 hkn
        rw [k2, n2] at this
        omega
theorem up_ins {key : Int → Int} {A : List Int} {x : Int} (hu : Up key A) : Up key (ins key A x) := by
  have hle := plc_le key A x A.length
  have h1 := plc_all key A x A.length
  have h2 := plc_low key A x hu A.length (Nat.le_refl _)
  unfold ins put
  generalize plc key A x A.length = j at hle h1 h2
  unfold Up at hu ⊢
  have hm1 : ∀ y ∈ A.take j, key y ≤ key x := by
    intro y hy
    obtain ⟨k, hk⟩ := List.mem_iff_getElem?.1 hy
    have hkj : k < j := by
      have := (List.getElem?_eq_some_iff.1 hk).1
      rw [List.length_take] at this; omega
    rw [List.getElem?_take_of_lt hkj] at hk
    exact h2 k y hkj hk
  have hm2 : ∀ y ∈ A.drop j, key x ≤ key y := by
    intro y hy
    obtain ⟨k, hk⟩ := List.mem_iff_getElem?.1 hy
    rw [List.getElem?_drop] at hk
    have := (List.getElem?_eq_some_iff.1 hk).1
    have := h1 (j + k) y (by omega) (by omega) hk
    omega
  rw [← List.take_append_drop j A, List.pairwise_append] at hu
  rw [List.pairwise_append]
  refine ⟨hu.1, List.pairwise_cons.2 ⟨hm2, hu.2.1⟩, fun a ha b hb => ?_⟩
  rcases List.mem_cons.1 hb with rfl | hb
  · exact hm1 a ha
  · exact hu.2.2 a ha b hb
theorem up_srt {key : Int → Int} : ∀ {l A : List Int}, Up key A → Up key (srt key A l) := by
  intro l
  induction l with
  | nil => intro A h; exact h
  | cons x l ih => intro A h; exact ih (up_ins h)
end Go.Proofs.Ytojjkjbffihppaa.walkS
