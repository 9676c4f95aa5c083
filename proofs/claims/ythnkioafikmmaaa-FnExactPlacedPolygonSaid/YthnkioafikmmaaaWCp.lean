/- Drawings copied; no conditions. -/
import Derived.Test.YthnkioafikmmaaaWMd
namespace Go.Proofs.Ythnkioafikmmaaa.walkS
open Go Go.Proofs.Ythnkioafikmmaaa.Ev
set_option linter.unusedSimpArgs false
set_option linter.unusedVariables false
attribute [simp] subI
abbrev z4 : List LV := [I 0, I 0, .nl, .nl]
def fO : List Fc → LV
  | [] => .nl
  | f :: F => .ow 118 2 ((f :: F).map fC)
theorem fO_ne {F : List Fc} (h : F ≠ []) : fO F = .ow 118 2 (F.map fC) := by
  cases F with
  | nil => exact absurd rfl h
  | cons f F => rfl
/-! ### a drawing that is checked, and given back -/
def ckd (D : Dr) : LV × Int := ifb (drOk D) (.ag (dA D (.ow 112 2 (D.pts.map pC)) (fO D.fcs)), 0) (.ag z4, 6)
theorem start_dm (D : Dr) (e e' : Nat) (rows : List (List Cell)) : startW [.ag (dA D (.ow e 2 (D.pts.map pC)) (.ow e' 2 rows))] = some ([.ag (dA D (.rf (mk0 2) none 0 D.pts.length) (.rf (mk0 3) none 0 rows.length))], ⟨startS [.ag (dA D (.rf (mk0 2) none 0 D.pts.length) (.rf (mk0 3) none 0 rows.length))], updM (updM noMem (mk0 2) (some (.arr e 2 (D.pts.map pC)))) (mk0 3) (some (.arr e' 2 rows))⟩) := by
  rw [startW_eq («as» := [.ag (dA D (.rf (mk0 2) none 0 D.pts.length) (.rf (mk0 3) none 0 rows.length))]) (l := [(mk0 2, .arr e 2 (D.pts.map pC)), (mk0 3, .arr e' 2 rows)]) (by simp [openV, trav, travT, trav1, travL, opn, partsT, parts, parts1, partsL, thing, List.filterMap])]
  rfl
theorem start_dmn (D : Dr) (e : Nat) : startW [.ag (dA D (.ow e 2 (D.pts.map pC)) .nl)] = some ([.ag (dA D (.rf (mk0 2) none 0 D.pts.length) .nl)], ⟨startS [.ag (dA D (.rf (mk0 2) none 0 D.pts.length) .nl)], updM noMem (mk0 2) (some (.arr e 2 (D.pts.map pC)))⟩) := by
  rw [startW_eq («as» := [.ag (dA D (.rf (mk0 2) none 0 D.pts.length) .nl)]) (l := [(mk0 2, .arr e 2 (D.pts.map pC))]) (by simp [openV, trav, travT, trav1, travL, opn, partsT, parts, parts1, partsL, thing, List.filterMap])]
  rfl
end Go.Proofs.Ythnkioafikmmaaa.walkS
