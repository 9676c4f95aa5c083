/- Drawings snapped to their border; no conditions. -/
import Derived.Test.YtejffoibihbnnaaWCp
import Derived.Test.YtejffoibihbnnaaWVdn
namespace Go.Proofs.Ytejffoibihbnnaa.walkS
open Go Go.Proofs.Ytejffoibihbnnaa.Ev
set_option linter.unusedSimpArgs false
set_option linter.unusedVariables false
def sn (x side u : Int) : Int := if x ≤ u then 0 else if W (side - x) ≤ u then side else x
def snP (D : Dr) (u : Int) (p : Pt) : Pt := (sn p.1 D.w u, sn p.2 D.h u)
def tolc (D : Dr) (u : Int) : Int := ifb (drOk D) (ifb (inR u 0 200) 0 2) 1
theorem r131 (d : Nat) (D : Dr) (hb : BdN D) (u : Int) : ev (d + 7) 131 [.ag (dV D), I u] = some (I (tolc D u), []) := by
  rw [s131 (d + 6) _ rfl]
  have c1 := r90 d D hb
  have c2 := r165 (d + 5) u 0 200
  unfold tolc
  cases h1 : drOk D
  · rw [h1] at c1
    simp [c1]
  rw [h1] at c1
  cases h2 : inR u 0 200 <;> rw [h2] at c2 <;> simp [c1, c2]
theorem r128 (d : Nat) (D : Dr) (rest : List LV) (hb : BdN D) (u : Int) : ev (d + 7) 128 [.rp (dR D rest), I u] = some (I (tolc D u), []) := by
  rw [s128 (d + 6) _ rfl]
  have c1 := r86 d D rest hb
  have c2 := r162 (d + 5) u 0 200
  unfold tolc
  cases h1 : drOk D
  · rw [h1] at c1
    simp [c1]
  rw [h1] at c1
  cases h2 : inR u 0 200 <;> rw [h2] at c2 <;> simp [c1, c2]
set_option maxRecDepth 100000 in
theorem m93' (d : Nat) (D : Dr) (hb : BdN D) (hF : D.fcs ≠ []) : ev (d + 7) (mvN + 93) [.ag (dA D (.ow 159 2 (D.pts.map pC)) (.ow 127 2 (D.fcs.map fC)))] = some (.tu [(ckd D).1, I (ckd D).2], [.un]) := by
  rw [m93 (d + 6) (start_dm D _ _ _) rfl]
  have c := r90 d D hb
  unfold ckd
  rw [fO_ne hF]
  cases h : drOk D <;> rw [h] at c <;> simp [c]
set_option maxRecDepth 100000 in
theorem m93'n (d : Nat) (D : Dr) (hb : BdN D) (hF : D.fcs = []) : ev (d + 7) (mvN + 93) [.ag (dA D (.ow 159 2 (D.pts.map pC)) .nl)] = some (.tu [(ckd D).1, I (ckd D).2], [.un]) := by
  rw [m93 (d + 6) (start_dmn D _) rfl]
  have c := rn90 d D hb.pts hF
  unfold ckd
  rw [hF]
  cases h : drOk D <;> rw [h] at c <;> simp [c, fO]
set_option maxRecDepth 100000 in
theorem m124' (d : Nat) (D : Dr) (hb : BdN D) (hF : D.fcs ≠ []) : ev (d + 7) (mvN + 124) [.ag (dA D (.ow 159 2 (D.pts.map pC)) (.ow 127 2 (D.fcs.map fC)))] = some (.tu [(ckd D).1, I (ckd D).2], [.un]) := by
  rw [m124 (d + 6) (start_dm D _ _ _) rfl]
  have c := r86 d D [] hb
  unfold ckd
  rw [fO_ne hF]
  cases h : drOk D <;> rw [h] at c <;> simp [c]
set_option maxRecDepth 100000 in
theorem m124'n (d : Nat) (D : Dr) (hb : BdN D) (hF : D.fcs = []) : ev (d + 7) (mvN + 124) [.ag (dA D (.ow 159 2 (D.pts.map pC)) .nl)] = some (.tu [(ckd D).1, I (ckd D).2], [.un]) := by
  rw [m124 (d + 6) (start_dmn D _) rfl]
  have c := rn86 d D [] hb.pts hF
  unfold ckd
  rw [hF]
  cases h : drOk D <;> rw [h] at c <;> simp [c, fO]
end Go.Proofs.Ytejffoibihbnnaa.walkS
