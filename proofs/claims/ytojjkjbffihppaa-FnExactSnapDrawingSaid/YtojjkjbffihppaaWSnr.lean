/- The row SnapDrawing; no conditions. -/
import Derived.Test.YtojjkjbffihppaaWSnp
import Derived.Test.YtojjkjbffihppaaWHd
namespace Go.Proofs.Ytojjkjbffihppaa.walkS
open Go Go.Proofs.Ytojjkjbffihppaa.Ev
set_option linter.unusedSimpArgs false
set_option linter.unusedVariables false
theorem dr_sm {D : Dr} (h : drOk D = true) : D.pts.length ≤ 48 ∧ D.fcs.length ≤ 24 := by
  simp only [drOk, Bool.and_eq_true, decide_eq_true_eq] at h
  exact ⟨h.2.2.1, h.2.2.2.2.1⟩
def snD (D : Dr) (u : Int) : Dr := ⟨D.w, D.h, D.pts.map (snP D u), D.fcs⟩
theorem snD_b {D : Dr} (hb : BdN D) (u : Int) : BdN (snD D u) := ⟨⟨by unfold snD; rw [List.length_map]; exact hb.pts, hb.fcs, hb.ring⟩, hb.name⟩
def snOf (D : Dr) (u : Int) : Option Dr × Int := ifb (decide (tolc D u = 0)) (ifb (drOk (snD D u)) (some (snD D u), 0) (none, 6)) (none, tolc D u)
def oD : Option Dr → LV
  | none => .ag z4
  | some D => .ag (dA D (.ow 127 2 (D.pts.map pC)) (fO D.fcs))
set_option maxHeartbeats 1000000 in
theorem r57 (d : Nat) (D : Dr) (hb : BdN D) (u : Int) : ev (d + 8) 57 [.ag (dV D), I u] = some (.tu [oD (snOf D u).1, I (snOf D u).2], []) := by
  rw [s57 (d + 7) _ rfl]
  have c1 := r131 d D hb u
  unfold snOf
  by_cases h0 : tolc D u = 0
  case neg =>
    rw [decide_eq_false h0]
    simp [c1, h0, oD]
  rw [decide_eq_true h0]
  rw [h0] at c1
  have c2 := r132 (d + 5) D hb.toBdD
  have bS := snD_b hb u
  simp only [ifb_t]
  by_cases hF : D.fcs = []
  · have c3 := m134'n d (snD D u) bS hF
    have key := l57n (d + 6) D u hb.pts D.pts.length 0 [] D.pts (by omega) rfl rfl rfl
    have fe : fO D.fcs = .nl := by rw [hF]; rfl
    rw [fe] at c2
    unfold ckd at c3
    cases ho : drOk (snD D u) <;> rw [ho] at c3 <;> simp only [snD, fe] at c3 ⊢ <;> simp at c2 c3 key <;> simp [c1, c2, key, c3, oD, fe, ho, snD]
  · have c3 := m134' d (snD D u) bS hF
    have key := l57 (d + 6) D u hb.pts D.fcs.length (D.fcs.map fC) D.pts.length 0 [] D.pts (by omega) rfl rfl rfl
    rw [fO_ne hF] at c2
    unfold ckd at c3
    have fe := fO_ne hF
    cases ho : drOk (snD D u) <;> rw [ho] at c3 <;> simp only [snD, fe] at c3 ⊢ <;> simp at c2 c3 key <;> simp [c1, c2, key, c3, oD, fe, ho, snD]
set_option maxHeartbeats 1000000 in
theorem r56 (d : Nat) (D : Dr) (hb : BdN D) (u : Int) : ev (d + 8) 56 [.ag (dV D), I u] = some (.tu [oD (snOf D u).1, I (snOf D u).2], []) := by
  rw [s56 (d + 7) _ rfl]
  have c1 := r127 d D [] hb u
  unfold snOf
  by_cases h0 : tolc D u = 0
  case neg =>
    rw [decide_eq_false h0]
    simp [c1, h0, oD]
  rw [decide_eq_true h0]
  rw [h0] at c1
  have c2 := r128 (d + 5) D [] hb.toBdD
  have bS := snD_b hb u
  simp only [ifb_t]
  by_cases hF : D.fcs = []
  · have c3 := m130'n d (snD D u) bS hF
    have key := l56n (d + 6) D u hb.pts D.pts.length 0 [] D.pts (by omega) rfl rfl rfl
    have fe : fO D.fcs = .nl := by rw [hF]; rfl
    rw [fe] at c2
    unfold ckd at c3
    cases ho : drOk (snD D u) <;> rw [ho] at c3 <;> simp only [snD, fe] at c3 ⊢ <;> simp at c2 c3 key <;> simp [c1, c2, key, c3, oD, fe, ho, snD]
  · have c3 := m130' d (snD D u) bS hF
    have key := l56 (d + 6) D u hb.pts D.fcs.length (D.fcs.map fC) D.pts.length 0 [] D.pts (by omega) rfl rfl rfl
    rw [fO_ne hF] at c2
    unfold ckd at c3
    have fe := fO_ne hF
    cases ho : drOk (snD D u) <;> rw [ho] at c3 <;> simp only [snD, fe] at c3 ⊢ <;> simp at c2 c3 key <;> simp [c1, c2, key, c3, oD, fe, ho, snD]
theorem totF_ok {D : Dr} (h : drOk D = true) : totF D.fcs ≤ 100000 := by
  obtain ⟨_, h24⟩ := dr_sm h
  have hr := drOk_ring h
  have : ∀ l : List Fc, (∀ f ∈ l, f.2.length ≤ 24) → totF l ≤ 25 * l.length := by
    intro l
    induction l with
    | nil => intro _; exact Nat.le_refl _
    | cons f l ih =>
      intro h
      have h1 := h f (by simp)
      have h2 := ih fun g hg => h g (by simp [hg])
      simp only [totF, List.length_cons]
      omega
  have := this D.fcs fun f hf => (hr f hf).top
  omega
theorem snOf_b {D : Dr} (hb : BdN D) (u : Int) {T : Dr} (h : (snOf D u).1 = some T) : BdN T ∧ totF T.fcs ≤ 100000 := by
  unfold snOf at h
  by_cases h0 : tolc D u = 0
  · rw [decide_eq_true h0] at h
    cases ho : drOk (snD D u)
    · rw [ho] at h; cases h
    · rw [ho] at h
      simp only [ifb_t, Option.some.injEq] at h
      subst h
      exact ⟨snD_b hb u, totF_ok ho⟩
  · rw [decide_eq_false h0] at h; cases h
set_option maxHeartbeats 4000000 in
theorem r11 (d : Nat) (w h : Int) (pts : List Pt) (fcs : List (Fc × Bool)) (hp : pts.length ≤ maxLen) (hf : fcs.length ≤ maxLen) (hw : ∀ q ∈ fcs, WfF q) {x y : LV} (hx : SV 2 (pts.map pC) x) (hy : SV 2 (fcs.map fI) y) (u : Int) :
    ev (d + 9) 11 [.ag [I w, I h, x, y], I u] = some (B true, []) := by
  rw [s11 (d + 8) _ rfl]
  obtain ⟨k1, h1, s1⟩ := r37 (d + 4) w h pts fcs hp hf hw 1048576 (by omega) hx hy
  by_cases g1 : k1 < 0
  · rcases hx with rfl | ⟨rfl, _⟩ <;> rcases hy with rfl | ⟨rfl, _⟩ <;> simp [h1, g1]
  obtain ⟨_, b1, b2, b3⟩ := s1 (by omega)
  have bD : BdN ⟨w, h, pts, fcs.map (·.1)⟩ := ⟨⟨b1, by simpa using b2, fun f hf => by
    obtain ⟨q, hq, rfl⟩ := List.mem_map.1 hf
    exact (b3 q hq).1⟩, fun f hf => by
    obtain ⟨q, hq, rfl⟩ := List.mem_map.1 hf
    exact (b3 q hq).2⟩
  have t1 := r39 (d + 4) w h pts fcs b1 b2 (fun q hq => ⟨(b3 q hq).1, (hw q hq).nil⟩) hx hy
  have f1 := r56 (d + 0) _ bD u
  have f2 := r57 (d + 0) _ bD u
  have e1 := r41 (d + 4) _ bD.toBdD
  obtain ⟨km, ps, rows, hps, hrows, hm⟩ := v42' _ bD.toBdD
  have hm := hm (d + 4)
  have n1 : fcs.length = (fcs.map (·.1)).length := by simp
  have hkm : ¬ (km : Int) < 0 := by omega
  generalize hD : (⟨w, h, pts, fcs.map (·.1)⟩ : Dr) = D at f1 f2 e1 hm hps hrows bD
  have hbd := fun T => snOf_b bD u (T := T)
  have hDp : D.pts = pts := by rw [← hD]
  have hDw : D.w = w := by rw [← hD]
  have hDh : D.h = h := by rw [← hD]
  have hDf : D.fcs = fcs.map (·.1) := by rw [← hD]
  simp only [dV, dA, hDw, hDh, hDp, hDf] at f1 f2 e1 hm hps hrows
  generalize fcs.map (·.1) = lf at t1 f1 f2 e1 hm hrows n1
  generalize snOf D u = oc at f1 f2 hbd
  obtain ⟨o, c⟩ := oc
  cases o with
  | none =>
    have q2 := r41z (d + 4)
    have q3 := v42xz (d + 4)
    have q4 := r58z (d + 4)
    simp [oD] at f1 f2
    rcases hx with rfl | ⟨rfl, _⟩ <;> rcases hy with rfl | ⟨rfl, _⟩ <;> simp [h1, g1, t1, f1, f2, e1, q2, q3, q4, hm, hkm, hps, hrows, n1]
  | some T =>
    obtain ⟨bT, tT⟩ := hbd T rfl
    have q5 : ¬ (mkD T : Int) < 0 := by omega
    simp only [oD] at f1 f2
    have bTp := bT.pts
    have bTf := bT.fcs
    by_cases hT : T.fcs = []
    · have q2 := r41n (d + 4) T bT.pts
      have q3 := v42xn (d + 4) T bT.toBdD hT
      have q4 := r58n (d + 4) T bT.toBdD hT
      rw [hT] at f1 f2
      simp only [fO] at f1 f2
      rcases hx with rfl | ⟨rfl, _⟩ <;> rcases hy with rfl | ⟨rfl, _⟩ <;> simp [h1, g1, t1, f1, f2, e1, q2, q3, q4, q5, hm, hkm, hps, hrows, n1]
    · have q2 := r41 (d + 4) T bT.toBdD
      have q3 := v42x (d + 4) T bT.toBdD (by omega)
      have q4 := r58 (d + 4) T bT.toBdD (by omega)
      rw [fO_ne hT] at f1 f2
      rcases hx with rfl | ⟨rfl, _⟩ <;> rcases hy with rfl | ⟨rfl, _⟩ <;> simp [h1, g1, t1, f1, f2, e1, q2, q3, q4, q5, hm, hkm, hps, hrows, n1]
end Go.Proofs.Ytojjkjbffihppaa.walkS
