/- Largest clear boxes, restated; no conditions. -/
import Derived.Test.YtejffoibihbnnaaWLcv
namespace Go.Proofs.Ytejffoibihbnnaa.walkS
open Go Go.Proofs.Ytejffoibihbnnaa.Ev
set_option linter.unusedSimpArgs false
set_option linter.unusedVariables false
structure LcB (L : Lf) : Prop where
  n : L.df.length ≤ 1000000
  w : 1 ≤ L.wd ∧ L.wd ≤ 20000
  l : 1 ≤ L.ln ∧ L.ln ≤ 20000
  d : ∀ c ∈ L.df, 0 ≤ c.1 ∧ 1 ≤ c.2.2.1 ∧ c.1 + c.2.2.1 ≤ L.wd ∧ 0 ≤ c.2.1 ∧ 1 ≤ c.2.2.2 ∧ c.2.1 + c.2.2.2 ≤ L.ln
def lcX (L : Lf) : List Int := xsF (fun c : Bx => c.1) (fun c : Bx => c.1 + c.2.2.1) L.df [0, L.wd]
def lcY (L : Lf) : List Int := xsF (fun c : Bx => c.2.1) (fun c : Bx => c.2.1 + c.2.2.2) L.df [0, L.ln]
theorem lcX_mem {L : Lf} (z : Int) : z ∈ lcX L ↔ z = 0 ∨ z = L.wd ∨ ∃ c ∈ L.df, z = c.1 ∨ z = c.1 + c.2.2.1 := by
  unfold lcX
  rw [xsF_mem]
  simp [or_assoc]
theorem lcY_mem {L : Lf} (z : Int) : z ∈ lcY L ↔ z = 0 ∨ z = L.ln ∨ ∃ c ∈ L.df, z = c.2.1 ∨ z = c.2.1 + c.2.2.2 := by
  unfold lcY
  rw [xsF_mem]
  simp [or_assoc]
theorem lcX_sm {L : Lf} (h : LcB L) : smX (lcX L) := fun z hz => by
  have hw := h.w
  rcases (lcX_mem z).1 hz with e | e | ⟨c, hc, e⟩
  · omega
  · omega
  · have := h.d c hc; omega
theorem lcY_sm {L : Lf} (h : LcB L) : smX (lcY L) := fun z hz => by
  have hw := h.l
  rcases (lcY_mem z).1 hz with e | e | ⟨c, hc, e⟩
  · omega
  · omega
  · have := h.d c hc; omega
theorem lcX_pw {L : Lf} (h : LcB L) : (lcX L).Pairwise (· < ·) := xsF_pw (by have := h.w; simp; omega)
theorem lcY_pw {L : Lf} (h : LcB L) : (lcY L).Pairwise (· < ·) := xsF_pw (by have := h.l; simp; omega)
def lcB (L : Lf) : Bx := (LS (lcX L) (lcY L)).foldl (stS (clr L.df)) z0
theorem lcB_I {L : Lf} (h : LcB L) : lcB L = (LI (lfs L.df) (rgs L.df L.wd) (los L.df) (his L.df L.ln)).foldl (stI (gI L.df)) z0 :=
  lc_law h.d (lcX_pw h) (lcY_pw h) (by have := h.w; omega) (by have := h.l; omega) lcX_mem lcY_mem
end Go.Proofs.Ytejffoibihbnnaa.walkS
