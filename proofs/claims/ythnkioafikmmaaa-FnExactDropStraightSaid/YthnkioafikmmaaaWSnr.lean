/- The row SnapDrawing; no conditions. -/
import Derived.Test.YthnkioafikmmaaaWSnp
import Derived.Test.YthnkioafikmmaaaWHd
namespace Go.Proofs.Ythnkioafikmmaaa.walkS
open Go Go.Proofs.Ythnkioafikmmaaa.Ev
set_option linter.unusedSimpArgs false
set_option linter.unusedVariables false
theorem dr_sm {D : Dr} (h : drOk D = true) : D.pts.length ≤ 48 ∧ D.fcs.length ≤ 24 := by
  simp only [drOk, Bool.and_eq_true, decide_eq_true_eq] at h
  exact ⟨h.2.2.1, h.2.2.2.2.1⟩
def snD (D : Dr) (u : Int) : Dr := ⟨D.w, D.h, D.pts.map (snP D u), D.fcs⟩
theorem snD_b {D : Dr} (hb : BdN D) (u : Int) : BdN (snD D u) := ⟨⟨by unfold snD; rw [List.length_map]; exact hb.pts, hb.fcs, hb.ring⟩, hb.name⟩
def snOf (D : Dr) (u : Int) : Option Dr × Int := ifb (decide (tolc D u = 0)) (ifb (drOk (snD D u)) (some (snD D u), 0) (none, 6)) (none, tolc D u)
def oD : Option Dr → LV
  | none => .ag z4
  | some D => .ag (dA D (.ow 112 2 (D.pts.map pC)) (fO D.fcs))
theorem totF_ok {D : Dr} (h : drOk D = true) : totF D.fcs ≤ 100000 := by
  obtain ⟨_, h24⟩ := dr_sm h
  have hr := drOk_ring h
  have : ∀ l : List Fc, (∀ f ∈ l, f.2.length ≤ 24) → totF l ≤ 25 * l.length := by
    intro l
    induction l with
    | nil => intro _; exact Nat.le_refl _
    | cons f l ih =>
      intro h
      have h1 := h f (by simp)
      have h2 := ih fun g hg => h g (by simp [hg])
      simp only [totF, List.length_cons]
      omega
  have := this D.fcs fun f hf => (hr f hf).top
  omega
theorem snOf_b {D : Dr} (hb : BdN D) (u : Int) {T : Dr} (h : (snOf D u).1 = some T) : BdN T ∧ totF T.fcs ≤ 100000 := by
  unfold snOf at h
  by_cases h0 : tolc D u = 0
  · rw [decide_eq_true h0] at h
    cases ho : drOk (snD D u)
    · rw [ho] at h; cases h
    · rw [ho] at h
      simp only [ifb_t, Option.some.injEq] at h
      subst h
      exact ⟨snD_b hb u, totF_ok ho⟩
  · rw [decide_eq_false h0] at h; cases h
end Go.Proofs.Ythnkioafikmmaaa.walkS
