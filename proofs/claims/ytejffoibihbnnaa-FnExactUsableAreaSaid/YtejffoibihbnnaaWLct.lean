/- Largest clear boxes: the answer restated, boxes compared; no conditions. -/
import Derived.Test.YtejffoibihbnnaaWLcu
namespace Go.Proofs.Ytejffoibihbnnaa.walkS
open Go Go.Proofs.Ytejffoibihbnnaa.Ev
set_option linter.unusedSimpArgs false
set_option linter.unusedVariables false
theorem okL_LcB {L : Lf} (h : okL L = true) : LcB L := by
  simp only [okL, Bool.and_eq_true, decide_eq_true_eq, List.all_eq_true] at h
  obtain ⟨_, _, _, _, h5, h6, h7, h8⟩ := h
  simp only [inR, Bool.and_eq_true, decide_eq_true_eq] at h5 h6
  refine ⟨by omega, by omega, by omega, fun c hc => ?_⟩
  have := boxIn_in (by omega) (by omega) (h8 c hc)
  omega
def lcOf (L : Lf) : Bx × Int := ifb (okL L) (ifb (decide ((lcB L).2.2.1 = 0)) (z0, 3) (lcB L, 0)) (z0, 1)
def cm1 (x y : Int) : Int := if x < y then -1 else if y < x then 1 else 0
def cmL : List Int → List Int → Int
  | [], [] => 0
  | [], _ :: _ => -1
  | _ :: _, [] => 1
  | x :: A, y :: C => ifb (decide (cm1 x y = 0)) (cmL A C) (cm1 x y)
def bL (b : Bx) : List Int := [b.1, b.2.1, b.2.2.1, b.2.2.2]
theorem cmL_lex {a b : Bx} : cmL (bL a) (bL b) < 0 ↔ lexB a b := by
  obtain ⟨a1, a2, a3, a4⟩ := a
  obtain ⟨b1, b2, b3, b4⟩ := b
  simp only [bL, cmL, cm1, lexB]
  by_cases h1 : a1 < b1 <;> by_cases h1' : b1 < a1 <;> by_cases h2 : a2 < b2 <;> by_cases h2' : b2 < a2 <;> by_cases h3 : a3 < b3 <;> by_cases h3' : b3 < a3 <;> by_cases h4 : a4 < b4 <;> by_cases h4' : b4 < a4 <;> simp [h1, h1', h2, h2', h3, h3', h4, h4', ifb] <;> omega
end Go.Proofs.Ytejffoibihbnnaa.walkS
