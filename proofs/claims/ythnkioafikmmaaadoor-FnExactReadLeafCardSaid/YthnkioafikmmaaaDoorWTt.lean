/- Texts put together: the plain law; no conditions. -/
import Derived.Test.YthnkioafikmmaaaDoorWTr
namespace Go.Proofs.YthnkioafikmmaaaDoor.walkS
open Go Go.Proofs.YthnkioafikmmaaaDoor.Ev Go.Lib
set_option linter.unusedSimpArgs false
set_option linter.unusedVariables false
abbrev decB (n : Int) : ByteArray := ⟨(Lib.itoa n).toArray⟩
theorem ba_ext {x y : ByteArray} (h : x.data.toList = y.data.toList) : x = y := by
  rw [← Lib.mk_data x, ← Lib.mk_data y, h]
theorem ba_app (x y : ByteArray) : (x ++ y).data.toList = x.data.toList ++ y.data.toList := by
  rw [ByteArray.data_append, Array.toList_append]
theorem toL_eq (x : ByteArray) : toL x = x.data.toList := rfl
theorem ofL_app (a b : List UInt8) : ofL (a ++ b) = ofL a ++ ofL b := by
  apply ba_ext
  rw [ba_app]
  show a ++ b = a ++ b
  rfl
theorem join_snoc (sep y : List UInt8) : ∀ xs : List (List UInt8), xs ≠ [] → Lib.join (xs ++ [y]) sep = Lib.join xs sep ++ sep ++ y := by
  intro xs
  induction xs with
  | nil => intro h; exact absurd rfl h
  | cons x xs ih =>
    intro _
    by_cases h : xs = []
    · subst h; simp [Lib.join, List.intercalate, List.intersperse]
    · rw [List.cons_append, join_cons _ (by simp), join_cons _ h, ih h]
      simp
theorem joinB_nil (sep : ByteArray) : joinB [] sep = ⟨#[]⟩ := rfl
theorem joinB_one (x sep : ByteArray) : joinB [x] sep = x := by
  unfold joinB
  simp [Lib.join, ofL, toL]
theorem joinB_snoc {xs : List ByteArray} (h : xs ≠ []) (y sep : ByteArray) : joinB (xs ++ [y]) sep = joinB xs sep ++ sep ++ y := by
  unfold joinB
  rw [List.map_append, List.map_singleton, join_snoc _ _ _ (by simpa using h), ofL_app, ofL_app]
  rfl
theorem joinB_app {xs : List ByteArray} (h : xs ≠ []) (sep : ByteArray) (y : ByteArray) (ys : List ByteArray) : joinB (xs ++ y :: ys) sep = joinB ((xs ++ [y]) ++ ys) sep := by simp
theorem joinB_split (s : ByteArray) (c : UInt8) : joinB (splitL s ⟨#[c]⟩) ⟨#[c]⟩ = s := by
  rw [splitL_eq]
  unfold joinB
  rw [show ((spL c s.data.toList).map ofL).map toL = spL c s.data.toList from by rw [List.map_map]; exact (List.map_congr_left fun x _ => by simp [toL, ofL]).trans (List.map_id _)]
  show ofL (Lib.join (spL c s.data.toList) [c]) = s
  rw [joinL]
  exact Lib.mk_data s
theorem joinB_size {B : Nat} {sep : ByteArray} : ∀ xs : List ByteArray, (∀ x ∈ xs, x.size ≤ B) → (joinB xs sep).size ≤ xs.length * (B + sep.size) := by
  refine rev_ind (fun _ => by rw [joinB_nil]; exact Nat.zero_le _) ?_
  intro xs y ih h
  by_cases e : xs = []
  · subst e
    rw [List.nil_append, joinB_one]
    have := h y (by simp)
    simp only [List.length_singleton, Nat.one_mul]
    omega
  · rw [joinB_snoc e, ByteArray.size_append, ByteArray.size_append, List.length_append, List.length_singleton, Nat.add_mul, Nat.one_mul]
    have h1 := ih fun x hx => h x (by simp [hx])
    have h2 := h y (by simp)
    omega
theorem dgs_len : ∀ k m : Nat, (dgs k m).length ≤ k := by
  intro k
  induction k with
  | zero => intro m; exact Nat.le_refl _
  | succ k ih =>
    intro m
    simp only [dgs]
    split
    · simp
    · rw [List.length_cons]; exact Nat.succ_le_succ (ih _)
theorem dgs_ten : ∀ k m : Nat, m < 10 ^ k → 0 < m → (dgs k m).reverse = decDigits m := by
  intro k
  induction k with
  | zero => intro m h1 h2; simp at h1; omega
  | succ k ih =>
    intro m h1 h2
    simp only [dgs]
    rw [if_neg (by omega), List.reverse_cons]
    by_cases h : m < 10
    · rw [decDigits_one h, show m / 10 = 0 by omega, dgs_zero, show m % 10 = m by omega]
      rfl
    · rw [Nat.pow_succ] at h1
      rw [ih (m / 10) (by omega) (by omega), decDigits_step h]
theorem ten19 : (10 : Nat) ^ 19 = 10000000000000000000 := by decide
theorem decB_size {n : Int} (h0 : -9223372036854775808 ≤ n) (h1 : n ≤ 9223372036854775807) : (decB n).size ≤ 20 := by
  have hd : ∀ m : Nat, m ≤ 9223372036854775808 → (decDigits m).length ≤ 19 := by
    intro m hm
    by_cases hz : m = 0
    · subst hz; rw [decDigits_one (by decide)]; decide
    · rw [← dgs_ten 19 m (by rw [ten19]; omega) (by omega), List.length_reverse]
      exact dgs_len _ _
  show (Lib.itoa n).toArray.size ≤ 20
  rw [List.size_toArray]
  unfold Lib.itoa
  split
  · rw [List.length_cons]
    have := hd n.natAbs (by omega)
    omega
  · have := hd n.toNat (by omega)
    omega
abbrev comma : ByteArray := ⟨#[44]⟩
/-- a list of numbers as text -/
def lsB (l : List Int) : ByteArray := if l = [] then ⟨#[45]⟩ else joinB (l.map decB) comma
end Go.Proofs.YthnkioafikmmaaaDoor.walkS
