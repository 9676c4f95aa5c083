/- Largest clear boxes, restated; no conditions. -/
import Derived.Test.YtejffoibihbnnaaWLcv
namespace Go.Proofs.Ytejffoibihbnnaa.walkS
open Go Go.Proofs.Ytejffoibihbnnaa.Ev
set_option linter.unusedSimpArgs false
set_option linter.unusedVariables false
structure LcB (L : Lf) : Prop where
  n : L.df.length ≤ 1000000
  w : 1 ≤ L.wd ∧ L.wd ≤ 20000
  l : 1 ≤ L.ln ∧ L.ln ≤ 20000
  d : ∀ c ∈ L.df, 0 ≤ c.1 ∧ 1 ≤ c.2.2.1 ∧ c.1 + c.2.2.1 ≤ L.wd ∧ 0 ≤ c.2.1 ∧ 1 ≤ c.2.2.2 ∧ c.2.1 + c.2.2.2 ≤ L.ln
def lcX (L : Lf) : List Int := xsF (fun c : Bx => c.1) (fun c : Bx => c.1 + c.2.2.1) L.df [0, L.wd]
def lcY (L : Lf) : List Int := xsF (fun c : Bx => c.2.1) (fun c : Bx => c.2.1 + c.2.2.2) L.df [0, L.ln]
theorem lcX_mem {L : Lf} (z : Int) : z ∈ lcX L ↔ z = 0 ∨ z = L.wd ∨ ∃ c ∈ L.df, z = c.1 ∨ z = c.1 + c.2.2.1 := by
  unfold lcX
  rw [xsF_mem]
  simp [or_assoc]
theorem lcY_mem {L : Lf} (z : Int) : z ∈ lcY L ↔ z = 0 ∨ z = L.ln ∨ ∃ c ∈ L.df, z = c.2.1 ∨ z = c.2.1 + c.2.2.2 := by
  unfold lcY
  rw [xsF_mem]
  simp [or_assoc]
theorem lcX_sm {L : Lf} (h : LcB L) : smX (lcX L) := fun z hz => by
  have hw := h.w
  rcases (lcX_mem z).1 hz with e | e | ⟨c, hc, e⟩
  · omega
  · omega
  · have := h.d c hc; omega
theorem lcY_sm {L : Lf} (h : LcB L) : smX (lcY L) := fun z hz => by
  have hw := h.l
  rcases (lcY_mem z).1 hz with e | e | ⟨c, hc, e⟩
  · omega
  · omega
  · have := h.d c hc; omega
theorem lcX_pw {L : Lf} (h : LcB L) : (lcX L).Pairwise (· < ·) := xsF_pw (by have := h.w; simp; omega)
theorem lcY_pw {L : Lf} (h : LcB L) : (lcY L).Pairwise (· < ·) := xsF_pw (by have := h.l; simp; omega)
def lcB (L : Lf) : Bx := (LS (lcX L) (lcY L)).foldl (stS (clr L.df)) z0
theorem lcB_I {L : Lf} (h : LcB L) : lcB L = (LI (lfs L.df) (rgs L.df L.wd) (los L.df) (his L.df L.ln)).foldl (stI (gI L.df)) z0 :=
  lc_law h.d (lcX_pw h) (lcY_pw h) (by have := h.w; omega) (by have := h.l; omega) lcX_mem lcY_mem
set_option maxHeartbeats 1000000 in
theorem r75 (d : Nat) (L : Lf) (h : LcB L) : ev (d + 3) 75 [.rp (lV L)] = some (.ag (bV (lcB L)), []) := by
  rw [s75 (d + 2) _ rfl]
  have hw := h.w
  have hl := h.l
  have hn := h.n
  have w1 : ∀ c ∈ L.df, IntKind.i64.wrap (c.1 + c.2.2.1) = c.1 + c.2.2.1 := fun c hc => wrap_sm (by have := h.d c hc; omega)
  have w2 : ∀ c ∈ L.df, IntKind.i64.wrap (c.2.1 + c.2.2.2) = c.2.1 + c.2.2.2 := fun c hc => wrap_sm (by have := h.d c hc; omega)
  have c1 := r171 d L h.n w1
  have c2 := r172 d L h.n w2
  have lx := xsF_len (fun c : Bx => c.1) (fun c : Bx => c.1 + c.2.2.1) L.df [0, L.wd]
  have ly := xsF_len (fun c : Bx => c.2.1) (fun c : Bx => c.2.1 + c.2.2.2) L.df [0, L.ln]
  simp only [List.length_cons, List.length_nil] at lx ly
  have key := l75_1 d L h.n w1 w2 (lcX L) (lcY L) (lcX_sm h) (lcY_sm h) (by unfold lcX; omega) (by unfold lcY; omega) (lcX L).length 0 z0 (lcB L) (by omega) ⟨by decide, by decide⟩ (by rw [List.drop_zero, fs1_LS]; rfl)
  change ev _ _ _ = some (.ow _ 1 ((lcX L).map iC), []) at c1
  change ev _ _ _ = some (.ow _ 1 ((lcY L).map iC), []) at c2
  generalize lcX L = xs at c1 key
  generalize lcY L = ys at c2 key
  generalize lcB L = b at key ⊢
  simp [z0] at key
  simp [c1, c2, key]
end Go.Proofs.Ytejffoibihbnnaa.walkS
