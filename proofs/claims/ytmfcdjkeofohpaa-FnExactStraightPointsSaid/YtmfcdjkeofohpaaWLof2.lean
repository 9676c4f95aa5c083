/- A list of leaves is marked; the row LeavesOf; no conditions. -/
import Derived.Test.YtmfcdjkeofohpaaWLof
namespace Go.Proofs.Ytmfcdjkeofohpaa.walkS
open Go Go.Proofs.Ytmfcdjkeofohpaa.Ev
set_option linter.unusedSimpArgs false
set_option linter.unusedVariables false
theorem start_lvs (e k : Nat) (rows : List (List Cell)) (v : Value) : startW [.ow e k rows, .sc v] = some ([.rf (mk0 0) none 0 rows.length, .sc v], ⟨startS [.rf (mk0 0) none 0 rows.length, .sc v], updM noMem (mk0 0) (some (.arr e k rows))⟩) := start_ow e k 0 rows v
/-! ### the row -/
theorem mI_shut (k n : Nat) : shut (markL mI 1 k n) = markL mI 1 k n := markL_shut (fun _ => rfl) 1 n k
theorem markL_take (f : Nat → List Cell) (c k n : Nat) : (markL f c k n).take n = markL f c k n := List.take_of_length_le (by simp)
attribute [simp] mI_shut markL_take
def leavesOf (l : List Lf) (s : ByteArray) : LV × Int := ifb (okLs l) (ifb (decide ((data s).2.2.2 = 0)) (.ow 2 1 ((wh (isSp s) l 0).map iC), 0) (.nl, 3)) (.nl, 1)
theorem data_place (s : ByteArray) : (data s).2.2.2 = 0 ↔ ¬ place s 0 names < 0 := by
  rcases place_cases s names 0 with h | ⟨k, h1, _, h3⟩
  · simp [data, h]
  · have h4 : ¬ place s 0 names < 0 := by omega
    have h5 : k < table.length := by have : names.length = 10 := rfl; have : table.length = 10 := rfl; omega
    have h6 : (place s 0 names).toNat = k := by omega
    simp only [data, h4, if_false, h6, List.getElem?_eq_getElem h5, not_false_eq_true]
theorem r55n (d : Nat) : ev (d + 1) 55 [.nl, .nl] = some (B true, []) := by
  rw [s55 d _ rfl]
  simp
  rw [lp_step]
  simp
end Go.Proofs.Ytmfcdjkeofohpaa.walkS
