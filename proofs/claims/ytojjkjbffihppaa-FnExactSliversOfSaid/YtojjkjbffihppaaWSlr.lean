/- The row SliversOf; no conditions. -/
import Derived.Test.YtojjkjbffihppaaWSlo
namespace Go.Proofs.Ytojjkjbffihppaa.walkS
open Go Go.Proofs.Ytojjkjbffihppaa.Ev
set_option linter.unusedSimpArgs false
set_option linter.unusedVariables false
theorem r27n2 (d : Nat) : ev (d + 1) 27 [.nl, .nl] = some (B true, []) := by
  rw [s27 d _ rfl]
  simp
  rw [lp_step]
  simp
theorem dr_n2 {w h : Int} {pts : List Pt} {fcs : List (Fc × Bool)} (hp : pts.length ≤ big) (hf : fcs.length ≤ big) (hr : ∀ q ∈ fcs, q.1.2.length ≤ big ∧ q.1.1.size ≤ big) : BdN ⟨w, h, pts, fcs.map (·.1)⟩ :=
  ⟨⟨hp, by simpa using hf, fun f hf => by
    obtain ⟨q, hq, rfl⟩ := List.mem_map.1 hf
    exact (hr q hq).1⟩, fun f hf => by
    obtain ⟨q, hq, rfl⟩ := List.mem_map.1 hf
    exact (hr q hq).2⟩
set_option maxHeartbeats 2000000 in
theorem r6 (d : Nat) (w h : Int) (pts : List Pt) (fcs : List (Fc × Bool)) (hp : pts.length ≤ maxLen) (hf : fcs.length ≤ maxLen) (hw : ∀ q ∈ fcs, WfF q) {x y : LV} (hx : SV 2 (pts.map pC) x) (hy : SV 2 (fcs.map fI) y) (tol : Int) :
    ev (d + 8) 6 [.ag [I w, I h, x, y], I tol] = some (B true, []) := by
  rw [s6 (d + 7) _ rfl]
  obtain ⟨k1, h1, s1⟩ := r37 (d + 3) w h pts fcs hp hf hw 1048576 (by omega) hx hy
  by_cases g1 : k1 < 0
  · rcases hx with rfl | ⟨rfl, _⟩ <;> rcases hy with rfl | ⟨rfl, _⟩ <;> simp [h1, g1]
  obtain ⟨_, b1, b2, b3⟩ := s1 (by omega)
  have bD : BdN ⟨w, h, pts, fcs.map (·.1)⟩ := dr_n2 b1 b2 b3
  have t1 := r39 (d + 3) w h pts fcs b1 b2 (fun q hq => ⟨(b3 q hq).1, (hw q hq).nil⟩) hx hy
  have f1 := r38 d _ bD tol
  have f2 := r40 d _ bD tol
  have e1 := r41 (d + 3) _ bD.toBdD
  obtain ⟨km, ps, rows, hps, hrows, hm⟩ := v42' _ bD.toBdD
  have hm := hm (d + 3)
  have n1 : fcs.length = (fcs.map (·.1)).length := by simp
  have hkm : ¬ (km : Int) < 0 := by omega
  have hwl := whN_len (slv tol ⟨w, h, pts, fcs.map (·.1)⟩) (fcs.map (·.1)).length 0
  generalize hD : (⟨w, h, pts, fcs.map (·.1)⟩ : Dr) = D at f1 f2 e1 hm hps hrows hwl
  unfold slvOf at f1 f2
  have hDp : D.pts = pts := by rw [← hD]
  have hDw : D.w = w := by rw [← hD]
  have hDh : D.h = h := by rw [← hD]
  have hDf : D.fcs = fcs.map (·.1) := by rw [← hD]
  rw [hDf] at f1 f2
  simp only [dV, dA, hDw, hDh, hDp, hDf] at f1 f2 e1 hm hps hrows
  have hlb : (fcs.map (·.1)).length ≤ big := by simpa using b2
  generalize fcs.map (·.1) = lf at t1 f1 f2 e1 hm hrows n1 hwl hlb
  have nilcase : ∀ c : Int, ev (d + 7) 38 [.ag [I w, I h, .ro 2 (pts.map pC), .ro 2 (lf.map fS)], I tol] = some (.tu [.nl, I c], []) → ev (d + 7) 40 [.ag [I w, I h, .ro 2 (pts.map pC), .ro 2 (lf.map fS)], I tol] = some (.tu [.nl, I c], []) →
      Ev.finish i6.res (evC (ev (d + 7)) i6.body (Ev.start [.ag [I w, I h, x, y], I tol])) = some (B true, []) := by
    intro c f1 f2
    have q2 := r27n2 (d + 6)
    have q3 := v30'n (d + 6) 1
    have q4 := r31 (d + 6) 0 1 (by omega) (x := .nl) (.inr ⟨rfl, rfl⟩)
    simp at q3 q4
    rcases hx with rfl | ⟨rfl, _⟩ <;> rcases hy with rfl | ⟨rfl, _⟩ <;> simp [h1, g1, t1, f1, f2, e1, q2, q3, q4, hm, hkm, hps, hrows, n1]
  cases ho : drOk D
  · rw [ho] at f1 f2
    exact nilcase 1 f1 f2
  cases hi : inR tol 1 2000
  · rw [ho, hi] at f1 f2
    exact nilcase 2 f1 f2
  · rw [ho, hi] at f1 f2
    generalize whN (slv tol D) lf.length 0 = ws at f1 f2 hwl
    have hw2 : ws.length ≤ big := by omega
    simp only [big] at hw2
    have q2 := r27 (d + 6) ws (by simp only [big]; omega)
    have q3 := v30' (d + 6) ws 1 (by omega)
    have q4 := r31 (d + 6) ws.length 1 (by omega) (x := .ro 1 (markL mI 1 1 ws.length)) (.inl rfl)
    have q5 : ¬ (1 : Int) + (ws.length : Int) < 0 := by omega
    simp at q3 q4 f1 f2
    rcases hx with rfl | ⟨rfl, _⟩ <;> rcases hy with rfl | ⟨rfl, _⟩ <;> simp [h1, g1, t1, f1, f2, e1, q2, q3, q4, q5, hm, hkm, hps, hrows, n1]
end Go.Proofs.Ytojjkjbffihppaa.walkS
