/- A list of leaves is marked; the row LeavesOf; no conditions. -/
import Derived.Test.YtojjkjbffihppaaWLof
namespace Go.Proofs.Ytojjkjbffihppaa.walkS
open Go Go.Proofs.Ytojjkjbffihppaa.Ev
set_option linter.unusedSimpArgs false
set_option linter.unusedVariables false
theorem l21 (l : List Lf) (hl : l.length ≤ 1048576) (hw : ∀ L ∈ l, L.df.length ≤ big) : ∀ (n i k : Nat) (rows : List (List Cell)), n + i = l.length → rows.length = l.length →
    (∀ j L, i ≤ j → l[j]? = some L → rows[j]? = some (lC L)) → 1 ≤ k → k ≤ 4000000008 * i + 1 → ∃ (k' : Nat) (rows' : List (List Cell)), rows'.length = l.length ∧ ∀ d,
    clC [1, 100000] [4, 100000] (blk 0 (lp (evC (ev (d + 2)) b21_1) (clean [0, 1, 5, 100000]) ⟨lookS [(0, .rf (.sl 0) none 0 l.length), (1, I k), (5, I i), (100000, .rf (.sl 0) none 0 l.length)], lookM [(.sl 0, some (.arr 96 9 rows))]⟩)) =
      some (.nm, ⟨lookS [(1, I k'), (100000, .rf (.sl 100000) none 0 l.length)], lookM [(.sl 100000, some (.arr 96 9 rows'))]⟩) := by
  intro n
  induction n with
  | zero =>
    intro i k rows hi hr hj h1 hk
    have h0 : ¬ (i : Int) < (l.length : Int) := by omega
    refine ⟨k, rows, hr, fun d => ?_⟩
    rw [lp_step]
    simp [h0]
  | succ n ih =>
    intro i k rows hi hr hj h1 hk
    have hlt : i < l.length := by omega
    have h0 : (i : Int) < (l.length : Int) := by omega
    obtain ⟨L, hx⟩ := get_lt hlt
    have hg := hj i L (Nat.le_refl _) hx
    have hd := hw L (List.mem_of_getElem? hx)
    simp only [big] at hd
    have hs : ∀ a, (rows.set i a)[i]? = some a := fun a => List.getElem?_set_self (by rw [hr]; exact hlt)
    have hwi := wrap_nat (i := i) (by omega)
    have k1 : IntKind.i64.wrap ((k : Int) + 1) = (k : Int) + 1 := wrap_in (by omega)
    have k2 : IntKind.i64.wrap ((k : Int) + 1 + 1) = (k : Int) + 1 + 1 := wrap_in (by omega)
    have k3 : IntKind.i64.wrap ((k : Int) + 1 + 1 + 1) = (k : Int) + 1 + 1 + 1 := wrap_in (by omega)
    have k4 : IntKind.i64.wrap ((k : Int) + 1 + 1 + 1 + 1) = (k : Int) + 1 + 1 + 1 + 1 := wrap_in (by omega)
    have k5 : IntKind.i64.wrap ((k : Int) + 1 + 1 + 1 + 1 + 1) = (k : Int) + 1 + 1 + 1 + 1 + 1 := wrap_in (by omega)
    have k6 : IntKind.i64.wrap ((k : Int) + 1 + 1 + 1 + 1 + 1 + 1) = (k : Int) + 1 + 1 + 1 + 1 + 1 + 1 := wrap_in (by omega)
    have k7 : IntKind.i64.wrap ((k : Int) + 1 + 1 + 1 + 1 + 1 + 1 + 1) = (k : Int) + 1 + 1 + 1 + 1 + 1 + 1 + 1 := wrap_in (by omega)
    have k8 : IntKind.i64.wrap ((k : Int) + 1 + 1 + 1 + 1 + 1 + 1 + 1 + 1) = (k : Int) + 1 + 1 + 1 + 1 + 1 + 1 + 1 + 1 := wrap_in (by omega)
    have e8 : ((k + 8 : Nat) : Int) = (k : Int) + 1 + 1 + 1 + 1 + 1 + 1 + 1 + 1 := by omega
    have e9 : ((k + 8 + 4 * L.df.length : Nat) : Int) = (k : Int) + 1 + 1 + 1 + 1 + 1 + 1 + 1 + 1 + 4 * (L.df.length : Int) := by omega
    obtain ⟨k', rows', hr', hih⟩ := ih (i + 1) (k + 8 + 4 * L.df.length) (rows.set i [.sc (.string (mtx (k + 0))), .sc (.string (mtx (k + 1))), .sc (.int .i64 ((k : Int) + 1 + 1)), .sc (.string (mtx (k + 3))), .sc (.int .i64 ((k : Int) + 1 + 1 + 1 + 1)), .sc (.int .i64 ((k : Int) + 1 + 1 + 1 + 1 + 1)), .sc (.int .i64 ((k : Int) + 1 + 1 + 1 + 1 + 1 + 1)), .sc (.int .i64 ((k : Int) + 1 + 1 + 1 + 1 + 1 + 1 + 1)), .sl true 176 4 (markV mV 4 (k + 8) L.df.length)]) (by omega) (by rw [List.length_set, hr])
      (fun j M hj' hM => by rw [List.getElem?_set_ne (by omega)]; exact hj j M (by omega) hM) (by omega) (by omega)
    refine ⟨k', rows', hr', fun d => ?_⟩
    have m0 : ev (d + 2) 77 [I ((k : Int))] = some (T (mtx (k + 0)), []) := by
      have := r77 (d + 1) (k + 0) (by omega) (by omega)
      rwa [show ((k + 0 : Nat) : Int) = (k : Int) by omega] at this
    have m1 : ev (d + 2) 77 [I ((k : Int) + 1)] = some (T (mtx (k + 1)), []) := by
      have := r77 (d + 1) (k + 1) (by omega) (by omega)
      rwa [show ((k + 1 : Nat) : Int) = (k : Int) + 1 by omega] at this
    have m3 : ev (d + 2) 77 [I ((k : Int) + 1 + 1 + 1)] = some (T (mtx (k + 3)), []) := by
      have := r77 (d + 1) (k + 3) (by omega) (by omega)
      rwa [show ((k + 3 : Nat) : Int) = (k : Int) + 1 + 1 + 1 by omega] at this
    have v := v78' (d + 1) L.df (k + 8) (by omega)
    rw [e8] at v
    have hih' := hih d
    rw [e9] at hih'
    simp at hih' m0
    rw [lp_step]
    simp [h0, hg, hs, hwi, m0, m1, m3, k1, k2, k3, k4, k5, k6, k7, k8, v, bkC, hih']
theorem start_lvs (e k : Nat) (rows : List (List Cell)) (v : Value) : startW [.ow e k rows, .sc v] = some ([.rf (mk0 0) none 0 rows.length, .sc v], ⟨startS [.rf (mk0 0) none 0 rows.length, .sc v], updM noMem (mk0 0) (some (.arr e k rows))⟩) := start_ow e k 0 rows v
theorem v21' (l : List Lf) (hl : l.length ≤ 1048576) (hw : ∀ L ∈ l, L.df.length ≤ big) : ∃ (k' : Nat) (rows' : List (List Cell)), rows'.length = l.length ∧ ∀ d, ev (d + 3) (wrN + 21) [.ow 96 9 (l.map lC), I 1] =
    some (I k', [.ow 96 9 rows', I 1]) := by
  obtain ⟨k', rows', hr, h⟩ := l21 l hl hw l.length 0 1 (l.map lC) (by omega) (by simp) (fun j L _ hx => by simp [hx]) (by omega) (by omega)
  refine ⟨k', rows', hr, fun d => ?_⟩
  rw [v21 (d + 2) (start_lvs _ _ _ _) rfl]
  have key := h d
  simp at key
  simp [key, hr]
/-! ### the row -/
theorem mI_shut (k n : Nat) : shut (markL mI 1 k n) = markL mI 1 k n := markL_shut (fun _ => rfl) 1 n k
theorem markL_take (f : Nat → List Cell) (c k n : Nat) : (markL f c k n).take n = markL f c k n := List.take_of_length_le (by simp)
attribute [simp] mI_shut markL_take
def leavesOf (l : List Lf) (s : ByteArray) : LV × Int := ifb (okLs l) (ifb (decide ((data s).2.2.2 = 0)) (.ow 2 1 ((wh (isSp s) l 0).map iC), 0) (.nl, 3)) (.nl, 1)
theorem data_place (s : ByteArray) : (data s).2.2.2 = 0 ↔ ¬ place s 0 names < 0 := by
  rcases place_cases s names 0 with h | ⟨k, h1, _, h3⟩
  · simp [data, h]
  · have h4 : ¬ place s 0 names < 0 := by omega
    have h5 : k < table.length := by have : names.length = 10 := rfl; have : table.length = 10 := rfl; omega
    have h6 : (place s 0 names).toNat = k := by omega
    simp only [data, h4, if_false, h6, List.getElem?_eq_getElem h5, not_false_eq_true]
end Go.Proofs.Ytojjkjbffihppaa.walkS
