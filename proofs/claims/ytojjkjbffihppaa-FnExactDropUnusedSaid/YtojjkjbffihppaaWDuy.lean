/- The row DropUnused; no conditions. -/
import Derived.Test.YtojjkjbffihppaaWDuw
namespace Go.Proofs.Ytojjkjbffihppaa.walkS
open Go Go.Proofs.Ytojjkjbffihppaa.Ev
set_option linter.unusedSimpArgs false
set_option linter.unusedVariables false
theorem dr_smU {D : Dr} (h : drOk D = true) : D.pts.length ≤ 48 ∧ D.fcs.length ≤ 24 := by
  simp only [drOk, Bool.and_eq_true, decide_eq_true_eq] at h
  exact ⟨h.2.2.1, h.2.2.2.2.1⟩
theorem totF_ok {D : Dr} (h : drOk D = true) : totF D.fcs ≤ 100000 := by
  obtain ⟨_, h24⟩ := dr_smU h
  have hr := drOk_ring h
  have : ∀ l : List Fc, (∀ f ∈ l, f.2.length ≤ 24) → totF l ≤ 25 * l.length := by
    intro l
    induction l with
    | nil => intro _; exact Nat.le_refl _
    | cons f l ih =>
      intro h
      have h1 := h f (by simp)
      have h2 := ih fun g hg => h g (by simp [hg])
      simp only [totF, List.length_cons]
      omega
  have := this D.fcs fun f hf => (hr f hf).top
  omega
theorem duOf_b {D : Dr} (hb : BdN D) {T : Dr} (h : (duOf D).1 = some T) : BdN T ∧ totF T.fcs ≤ 100000 ∧ (T.fcs = [] → T.pts = []) ∧ (T.fcs ≠ [] → T.pts ≠ []) := by
  unfold duOf at h
  cases ho : drOk D
  · rw [ho] at h; cases h
  · rw [ho] at h
    simp only [ifb_t, Option.some.injEq] at h
    subst h
    refine ⟨keep_b hb, totF_ok (drOk_keep hb.pts ho), fun e => ?_, fun e => ?_⟩
    · have hF : D.fcs = [] := by simpa [keepD] using e
      rw [keep_nil hF]
    · have hF : D.fcs ≠ [] := fun q => e (by simp [keepD, q])
      exact keep_ne ho hb.pts hF
set_option maxHeartbeats 4000000 in
theorem r12 (d : Nat) (w h : Int) (pts : List Pt) (fcs : List (Fc × Bool)) (hp : pts.length ≤ maxLen) (hf : fcs.length ≤ maxLen) (hw : ∀ q ∈ fcs, WfF q) {x y : LV} (hx : SV 2 (pts.map pC) x) (hy : SV 2 (fcs.map fI) y) :
    ev (d + 9) 12 [.ag [I w, I h, x, y]] = some (B true, []) := by
  rw [s12 (d + 8) _ rfl]
  obtain ⟨k1, h1, s1⟩ := r37 (d + 4) w h pts fcs hp hf hw 1048576 (by omega) hx hy
  by_cases g1 : k1 < 0
  · rcases hx with rfl | ⟨rfl, _⟩ <;> rcases hy with rfl | ⟨rfl, _⟩ <;> simp [h1, g1]
  obtain ⟨_, b1, b2, b3⟩ := s1 (by omega)
  have bD : BdN ⟨w, h, pts, fcs.map (·.1)⟩ := ⟨⟨b1, by simpa using b2, fun f hf => by
    obtain ⟨q, hq, rfl⟩ := List.mem_map.1 hf
    exact (b3 q hq).1⟩, fun f hf => by
    obtain ⟨q, hq, rfl⟩ := List.mem_map.1 hf
    exact (b3 q hq).2⟩
  have t1 := r39 (d + 4) w h pts fcs b1 b2 (fun q hq => ⟨(b3 q hq).1, (hw q hq).nil⟩) hx hy
  have f1 := r59 (d + 0) _ bD
  have f2 := r60 (d + 0) _ bD
  have e1 := r41 (d + 4) _ bD.toBdD
  obtain ⟨km, ps, rows, hps, hrows, hm⟩ := v42' _ bD.toBdD
  have hm := hm (d + 4)
  have n1 : fcs.length = (fcs.map (·.1)).length := by simp
  have hkm : ¬ (km : Int) < 0 := by omega
  generalize hD : (⟨w, h, pts, fcs.map (·.1)⟩ : Dr) = D at f1 f2 e1 hm hps hrows bD
  have hbd := fun T => duOf_b bD (T := T)
  have hDp : D.pts = pts := by rw [← hD]
  have hDw : D.w = w := by rw [← hD]
  have hDh : D.h = h := by rw [← hD]
  have hDf : D.fcs = fcs.map (·.1) := by rw [← hD]
  simp only [dV, dA, hDw, hDh, hDp, hDf] at f1 f2 e1 hm hps hrows
  generalize fcs.map (·.1) = lf at t1 f1 f2 e1 hm hrows n1
  generalize duOf D = oc at f1 f2 hbd
  obtain ⟨o, c⟩ := oc
  cases o with
  | none =>
    have q2 := r41z (d + 4)
    have q3 := v42xz (d + 4)
    have q4 := r58z (d + 4)
    simp [oU] at f1 f2
    rcases hx with rfl | ⟨rfl, _⟩ <;> rcases hy with rfl | ⟨rfl, _⟩ <;> simp [h1, g1, t1, f1, f2, e1, q2, q3, q4, hm, hkm, hps, hrows, n1]
  | some T =>
    obtain ⟨bT, tT, nT, mT⟩ := hbd T rfl
    have q5 : ¬ (mkD T : Int) < 0 := by omega
    simp only [oU] at f1 f2
    have bTp := bT.pts
    have bTf := bT.fcs
    by_cases hT : T.fcs = []
    · have q2 := r41w (d + 4) T.w T.h
      have q3 := v42xw (d + 4) T.w T.h
      have q4 := r58w (d + 4) T.w T.h
      rw [hT, nT hT] at f1 f2
      simp only [fO, pO] at f1 f2
      rcases hx with rfl | ⟨rfl, _⟩ <;> rcases hy with rfl | ⟨rfl, _⟩ <;> simp [h1, g1, t1, f1, f2, e1, q2, q3, q4, hm, hkm, hps, hrows, n1]
    · have q2 := r41 (d + 4) T bT.toBdD
      have q3 := v42x (d + 4) T bT.toBdD (by omega)
      have q4 := r58 (d + 4) T bT.toBdD (by omega)
      rw [fO_ne hT, pO_ne (mT hT)] at f1 f2
      rcases hx with rfl | ⟨rfl, _⟩ <;> rcases hy with rfl | ⟨rfl, _⟩ <;> simp [h1, g1, t1, f1, f2, e1, q2, q3, q4, q5, hm, hkm, hps, hrows, n1]
end Go.Proofs.Ytojjkjbffihppaa.walkS
