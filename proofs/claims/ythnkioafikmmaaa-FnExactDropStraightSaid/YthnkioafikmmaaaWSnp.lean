/- Drawings snapped to their border; no conditions. -/
import Derived.Test.YthnkioafikmmaaaWCp
import Derived.Test.YthnkioafikmmaaaWVdn
namespace Go.Proofs.Ythnkioafikmmaaa.walkS
open Go Go.Proofs.Ythnkioafikmmaaa.Ev
set_option linter.unusedSimpArgs false
set_option linter.unusedVariables false
def sn (x side u : Int) : Int := if x ≤ u then 0 else if W (side - x) ≤ u then side else x
def snP (D : Dr) (u : Int) (p : Pt) : Pt := (sn p.1 D.w u, sn p.2 D.h u)
def tolc (D : Dr) (u : Int) : Int := ifb (drOk D) (ifb (inR u 0 200) 0 2) 1
set_option maxRecDepth 100000 in
theorem m74' (d : Nat) (D : Dr) (hb : BdN D) (hF : D.fcs ≠ []) : ev (d + 7) (mvN + 74) [.ag (dA D (.ow 112 2 (D.pts.map pC)) (.ow 118 2 (D.fcs.map fC)))] = some (.tu [(ckd D).1, I (ckd D).2], [.un]) := by
  rw [m74 (d + 6) (start_dm D _ _ _) rfl]
  have c := r71 d D hb
  unfold ckd
  rw [fO_ne hF]
  cases h : drOk D <;> rw [h] at c <;> simp [c]
set_option maxRecDepth 100000 in
theorem m74'n (d : Nat) (D : Dr) (hb : BdN D) (hF : D.fcs = []) : ev (d + 7) (mvN + 74) [.ag (dA D (.ow 112 2 (D.pts.map pC)) .nl)] = some (.tu [(ckd D).1, I (ckd D).2], [.un]) := by
  rw [m74 (d + 6) (start_dmn D _) rfl]
  have c := rn71 d D hb.pts hF
  unfold ckd
  rw [hF]
  cases h : drOk D <;> rw [h] at c <;> simp [c, fO]
end Go.Proofs.Ythnkioafikmmaaa.walkS
