/- The row DropStraight; no conditions. -/
import Derived.Test.YthnkioafikmmaaaWDsw
import Derived.Test.YthnkioafikmmaaaWHd
namespace Go.Proofs.Ythnkioafikmmaaa.walkS
open Go Go.Proofs.Ythnkioafikmmaaa.Ev
set_option linter.unusedSimpArgs false
set_option linter.unusedVariables false
theorem dsOf_b {D : Dr} (hb : BdN D) {T : Dr} (h : (dsOf D).1 = some T) : BdN T ∧ totF T.fcs ≤ 100000 := by
  unfold dsOf at h
  cases ho : drOk D
  · rw [ho] at h; cases h
  · rw [ho] at h
    simp only [ifb_t, Option.some.injEq] at h
    subst h
    obtain ⟨h1, h2⟩ := (dsD_R D).ok ho hb
    exact ⟨h2, totF_ok h1⟩
set_option maxHeartbeats 4000000 in
theorem r4 (d : Nat) (w h : Int) (pts : List Pt) (fcs : List (Fc × Bool)) (hp : pts.length ≤ maxLen) (hf : fcs.length ≤ maxLen) (hw : ∀ q ∈ fcs, WfF q) {x y : LV} (hx : SV 2 (pts.map pC) x) (hy : SV 2 (fcs.map fI) y) :
    ev (d + 9) 4 [.ag [I w, I h, x, y]] = some (B true, []) := by
  rw [s4 (d + 8) _ rfl]
  obtain ⟨k1, h1, s1⟩ := r20 (d + 4) w h pts fcs hp hf hw 1048576 (by omega) hx hy
  by_cases g1 : k1 < 0
  · rcases hx with rfl | ⟨rfl, _⟩ <;> rcases hy with rfl | ⟨rfl, _⟩ <;> simp [h1, g1]
  obtain ⟨_, b1, b2, b3⟩ := s1 (by omega)
  have bD : BdN ⟨w, h, pts, fcs.map (·.1)⟩ := ⟨⟨b1, by simpa using b2, fun f hf => by
    obtain ⟨q, hq, rfl⟩ := List.mem_map.1 hf
    exact (b3 q hq).1⟩, fun f hf => by
    obtain ⟨q, hq, rfl⟩ := List.mem_map.1 hf
    exact (b3 q hq).2⟩
  have t1 := r22 (d + 4) w h pts fcs b1 b2 (fun q hq => ⟨(b3 q hq).1, (hw q hq).nil⟩) hx hy
  have f1 := r21 (d + 0) _ bD
  have f2 := r23 (d + 0) _ bD
  have e1 := r24 (d + 4) _ bD.toBdD
  obtain ⟨km, ps, rows, hps, hrows, hm⟩ := v25' _ bD.toBdD
  have hm := hm (d + 4)
  have n1 : fcs.length = (fcs.map (·.1)).length := by simp
  have hkm : ¬ (km : Int) < 0 := by omega
  generalize hD : (⟨w, h, pts, fcs.map (·.1)⟩ : Dr) = D at f1 f2 e1 hm hps hrows bD
  have hbd := fun T => dsOf_b bD (T := T)
  have hDp : D.pts = pts := by rw [← hD]
  have hDw : D.w = w := by rw [← hD]
  have hDh : D.h = h := by rw [← hD]
  have hDf : D.fcs = fcs.map (·.1) := by rw [← hD]
  simp only [dV, dA, hDw, hDh, hDp, hDf] at f1 f2 e1 hm hps hrows
  generalize fcs.map (·.1) = lf at t1 f1 f2 e1 hm hrows n1
  generalize dsOf D = oc at f1 f2 hbd
  obtain ⟨o, c⟩ := oc
  cases o with
  | none =>
    have q2 := r24z (d + 4)
    have q3 := v25xz (d + 4)
    have q4 := r26z (d + 4)
    simp [oD] at f1 f2
    rcases hx with rfl | ⟨rfl, _⟩ <;> rcases hy with rfl | ⟨rfl, _⟩ <;> simp [h1, g1, t1, f1, f2, e1, q2, q3, q4, hm, hkm, hps, hrows, n1]
  | some T =>
    obtain ⟨bT, tT⟩ := hbd T rfl
    have q5 : ¬ (mkD T : Int) < 0 := by omega
    simp only [oD] at f1 f2
    have bTp := bT.pts
    have bTf := bT.fcs
    by_cases hT : T.fcs = []
    · have q2 := r24n (d + 4) T bT.pts
      have q3 := v25xn (d + 4) T bT.toBdD hT
      have q4 := r26n (d + 4) T bT.toBdD hT
      rw [hT] at f1 f2
      simp only [fO] at f1 f2
      rcases hx with rfl | ⟨rfl, _⟩ <;> rcases hy with rfl | ⟨rfl, _⟩ <;> simp [h1, g1, t1, f1, f2, e1, q2, q3, q4, q5, hm, hkm, hps, hrows, n1]
    · have q2 := r24 (d + 4) T bT.toBdD
      have q3 := v25x (d + 4) T bT.toBdD (by omega)
      have q4 := r26 (d + 4) T bT.toBdD (by omega)
      rw [fO_ne hT] at f1 f2
      rcases hx with rfl | ⟨rfl, _⟩ <;> rcases hy with rfl | ⟨rfl, _⟩ <;> simp [h1, g1, t1, f1, f2, e1, q2, q3, q4, q5, hm, hkm, hps, hrows, n1]
end Go.Proofs.Ythnkioafikmmaaa.walkS
