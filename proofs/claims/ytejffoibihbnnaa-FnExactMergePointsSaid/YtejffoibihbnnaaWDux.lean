/- A drawing whose points and faces are nil; no conditions. -/
import Derived.Test.YtejffoibihbnnaaWDur
import Derived.Test.YtejffoibihbnnaaWHd
namespace Go.Proofs.Ytejffoibihbnnaa.walkS
open Go Go.Proofs.Ytejffoibihbnnaa.Ev
set_option linter.unusedSimpArgs false
set_option linter.unusedVariables false
abbrev dW (w h : Int) : List LV := [I w, I h, .nl, .nl]
theorem rw182 (d : Nat) (w h : Int) : ev (d + 2) 182 [.rp (dW w h)] = some (B true, []) := by
  rw [s182 (d + 1) _ rfl]
  simp
  rw [lp_step]
  simp
theorem rw86 (d : Nat) (w h : Int) (hw : inR w 10 20000 = true) (hh : inR h 10 20000 = true) : ev (d + 6) 86 [.rp (dW w h)] = some (B true, []) := by
  rw [s86 (d + 5) _ rfl]
  have c1 := r162 (d + 4) w 10 20000
  have c2 := r162 (d + 4) h 10 20000
  have c3 := rw182 (d + 3) w h
  rw [hw] at c1
  rw [hh] at c2
  simp [c1, c2, c3]
  rw [lp_step]
  simp
theorem rw90 (d : Nat) (w h : Int) (hw : inR w 10 20000 = true) (hh : inR h 10 20000 = true) : ev (d + 6) 90 [.ag (dW w h)] = some (B true, []) := by
  rw [s90 (d + 5) _ rfl]
  have c1 := r165 (d + 4) w 10 20000
  have c2 := r165 (d + 4) h 10 20000
  rw [hw] at c1
  rw [hh] at c2
  simp [c1, c2]
  rw [lp_step]
  simp
  rw [lp_step]
  simp
theorem start_dmw (w h : Int) : startW [.ag (dW w h)] = some ([.ag (dW w h)], ⟨startS [.ag (dW w h)], noMem⟩) := by
  rw [startW_eq («as» := [.ag (dW w h)]) (l := []) (by simp [openV, trav, travT, trav1, travL, opn, partsT, parts, parts1, partsL, thing, List.filterMap])]
  rfl
theorem start_dmw1 (w h : Int) (v : Value) : startW [.ag (dW w h), .sc v] = some ([.ag (dW w h), .sc v], ⟨startS [.ag (dW w h), .sc v], noMem⟩) := by
  rw [startW_eq («as» := [.ag (dW w h), .sc v]) (l := []) (by simp [openV, trav, travT, trav1, travL, opn, partsT, parts, parts1, partsL, thing, List.filterMap])]
  rfl
set_option maxRecDepth 100000 in
theorem m93w (d : Nat) (w h : Int) (hw : inR w 10 20000 = true) (hh : inR h 10 20000 = true) : ev (d + 7) (mvN + 93) [.ag (dW w h)] = some (.tu [.ag (dW w h), I 0], [.un]) := by
  rw [m93 (d + 6) (start_dmw w h) rfl]
  have c := rw90 d w h hw hh
  simp [c]
set_option maxRecDepth 100000 in
theorem m124w (d : Nat) (w h : Int) (hw : inR w 10 20000 = true) (hh : inR h 10 20000 = true) : ev (d + 7) (mvN + 124) [.ag (dW w h)] = some (.tu [.ag (dW w h), I 0], [.un]) := by
  rw [m124 (d + 6) (start_dmw w h) rfl]
  have c := rw86 d w h hw hh
  simp [c]
theorem r25w (d : Nat) (w h : Int) : ev (d + 4) 25 [.ag (dW w h), .ag (dW w h)] = some (B true, []) := by
  rw [s25 (d + 3) _ rfl]
  have h1 := r63n (d + 2)
  have h2 := r96n (d + 2)
  simp [h1, h2]
set_option maxRecDepth 100000 in
theorem v26xw (d : Nat) (w h : Int) : ev (d + 4) (wrN + 26) [.ag (dW w h), I 1] = some (I 1, [.ag (dW w h), I 1]) := by
  rw [v26 (d + 3) (start_dmw1 w h _) rfl]
  have c1 := v97'n (d + 2) 1
  have c2 := v98xn d 1
  simp at c1 c2
  simp [c1, c2]
theorem r27w (d : Nat) (w h : Int) : ev (d + 4) 27 [.ag (dW w h), I 1] = some (I 1, []) := by
  rw [s27 (d + 3) _ rfl]
  have c1 := r99n (d + 2) 1
  have c2 := r100n d 1
  simp at c1 c2
  simp [c1, c2]
end Go.Proofs.Ytejffoibihbnnaa.walkS
