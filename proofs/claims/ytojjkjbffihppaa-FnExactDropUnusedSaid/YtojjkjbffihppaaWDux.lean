/- A drawing whose points and faces are nil; no conditions. -/
import Derived.Test.YtojjkjbffihppaaWDur
import Derived.Test.YtojjkjbffihppaaWHd
namespace Go.Proofs.Ytojjkjbffihppaa.walkS
open Go Go.Proofs.Ytojjkjbffihppaa.Ev
set_option linter.unusedSimpArgs false
set_option linter.unusedVariables false
abbrev dW (w h : Int) : List LV := [I w, I h, .nl, .nl]
theorem rw165 (d : Nat) (w h : Int) : ev (d + 2) 165 [.rp (dW w h)] = some (B true, []) := by
  rw [s165 (d + 1) _ rfl]
  simp
  rw [lp_step]
  simp
theorem rw96 (d : Nat) (w h : Int) (hw : inR w 10 20000 = true) (hh : inR h 10 20000 = true) : ev (d + 6) 96 [.rp (dW w h)] = some (B true, []) := by
  rw [s96 (d + 5) _ rfl]
  have c1 := r97 (d + 4) w 10 20000
  have c2 := r97 (d + 4) h 10 20000
  have c3 := rw165 (d + 3) w h
  rw [hw] at c1
  rw [hh] at c2
  simp [c1, c2, c3]
  rw [lp_step]
  simp
theorem rw104 (d : Nat) (w h : Int) (hw : inR w 10 20000 = true) (hh : inR h 10 20000 = true) : ev (d + 6) 104 [.ag (dW w h)] = some (B true, []) := by
  rw [s104 (d + 5) _ rfl]
  have c1 := r105 (d + 4) w 10 20000
  have c2 := r105 (d + 4) h 10 20000
  rw [hw] at c1
  rw [hh] at c2
  simp [c1, c2]
  rw [lp_step]
  simp
  rw [lp_step]
  simp
theorem start_dmw (w h : Int) : startW [.ag (dW w h)] = some ([.ag (dW w h)], ⟨startS [.ag (dW w h)], noMem⟩) := by
  rw [startW_eq («as» := [.ag (dW w h)]) (l := []) (by simp [openV, trav, travT, trav1, travL, opn, partsT, parts, parts1, partsL, thing, List.filterMap])]
  rfl
theorem start_dmw1 (w h : Int) (v : Value) : startW [.ag (dW w h), .sc v] = some ([.ag (dW w h), .sc v], ⟨startS [.ag (dW w h), .sc v], noMem⟩) := by
  rw [startW_eq («as» := [.ag (dW w h), .sc v]) (l := []) (by simp [openV, trav, travT, trav1, travL, opn, partsT, parts, parts1, partsL, thing, List.filterMap])]
  rfl
set_option maxRecDepth 100000 in
theorem m134w (d : Nat) (w h : Int) (hw : inR w 10 20000 = true) (hh : inR h 10 20000 = true) : ev (d + 7) (mvN + 134) [.ag (dW w h)] = some (.tu [.ag (dW w h), I 0], [.un]) := by
  rw [m134 (d + 6) (start_dmw w h) rfl]
  have c := rw104 d w h hw hh
  simp [c]
theorem r41w (d : Nat) (w h : Int) : ev (d + 4) 41 [.ag (dW w h), .ag (dW w h)] = some (B true, []) := by
  rw [s41 (d + 3) _ rfl]
  have h1 := r109n (d + 2)
  have h2 := r110n (d + 2)
  simp [h1, h2]
set_option maxRecDepth 100000 in
theorem v42xw (d : Nat) (w h : Int) : ev (d + 4) (wrN + 42) [.ag (dW w h), I 1] = some (I 1, [.ag (dW w h), I 1]) := by
  rw [v42 (d + 3) (start_dmw1 w h _) rfl]
  have c1 := v111'n (d + 2) 1
  have c2 := v112xn d 1
  simp at c1 c2
  simp [c1, c2]
theorem r58w (d : Nat) (w h : Int) : ev (d + 4) 58 [.ag (dW w h), I 1] = some (I 1, []) := by
  rw [s58 (d + 3) _ rfl]
  have c1 := r135n (d + 2) 1
  have c2 := r136n d 1
  simp at c1 c2
  simp [c1, c2]
end Go.Proofs.Ytojjkjbffihppaa.walkS
