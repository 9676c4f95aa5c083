/- The row StraightPoints; no conditions. -/
import Derived.Test.YtmfcdjkeofohpaaWMd
import Derived.Test.YtmfcdjkeofohpaaWLof2
namespace Go.Proofs.Ytmfcdjkeofohpaa.walkS
open Go Go.Proofs.Ytmfcdjkeofohpaa.Ev
set_option linter.unusedSimpArgs false
set_option linter.unusedVariables false
theorem dr_n {w h : Int} {pts : List Pt} {fcs : List (Fc × Bool)} (hp : pts.length ≤ big) (hf : fcs.length ≤ big) (hr : ∀ q ∈ fcs, q.1.2.length ≤ big ∧ q.1.1.size ≤ big) : BdN ⟨w, h, pts, fcs.map (·.1)⟩ :=
  ⟨⟨hp, by simpa using hf, fun f hf => by
    obtain ⟨q, hq, rfl⟩ := List.mem_map.1 hf
    exact (hr q hq).1⟩, fun f hf => by
    obtain ⟨q, hq, rfl⟩ := List.mem_map.1 hf
    exact (hr q hq).2⟩
set_option maxHeartbeats 2000000 in
theorem r16 (d : Nat) (w h : Int) (pts : List Pt) (fcs : List (Fc × Bool)) (hp : pts.length ≤ maxLen) (hf : fcs.length ≤ maxLen) (hw : ∀ q ∈ fcs, WfF q) {x y : LV} (hx : SV 2 (pts.map pC) x) (hy : SV 2 (fcs.map fI) y) :
    ev (d + 8) 16 [.ag [I w, I h, x, y]] = some (B true, []) := by
  rw [s16 (d + 7) _ rfl]
  obtain ⟨k1, h1, s1⟩ := r66 (d + 3) w h pts fcs hp hf hw 1048576 (by omega) hx hy
  by_cases g1 : k1 < 0
  · rcases hx with rfl | ⟨rfl, _⟩ <;> rcases hy with rfl | ⟨rfl, _⟩ <;> simp [h1, g1]
  obtain ⟨_, b1, b2, b3⟩ := s1 (by omega)
  have bD : BdN ⟨w, h, pts, fcs.map (·.1)⟩ := dr_n b1 b2 b3
  have t1 := r68 (d + 3) w h pts fcs b1 b2 (fun q hq => ⟨(b3 q hq).1, (hw q hq).nil⟩) hx hy
  have f1 := r67 d _ bD
  have f2 := r69 d _ bD
  have e1 := r70 (d + 3) _ bD.toBdD
  obtain ⟨km, ps, rows, hps, hrows, hm⟩ := v71' _ bD.toBdD
  have hm := hm (d + 3)
  have n1 : fcs.length = (fcs.map (·.1)).length := by simp
  have hkm : ¬ (km : Int) < 0 := by omega
  have hwl := whN_len (spSt ⟨w, h, pts, fcs.map (·.1)⟩) pts.length 0
  generalize hD : (⟨w, h, pts, fcs.map (·.1)⟩ : Dr) = D at f1 f2 e1 hm hps hrows hwl
  unfold strOf at f1 f2
  have hDp : D.pts = pts := by rw [← hD]
  have hDw : D.w = w := by rw [← hD]
  have hDh : D.h = h := by rw [← hD]
  have hDf : D.fcs = fcs.map (·.1) := by rw [← hD]
  rw [hDp] at f1 f2
  simp only [dV, dA, hDw, hDh, hDp, hDf] at f1 f2 e1 hm hps hrows
  generalize fcs.map (·.1) = lf at t1 f1 f2 e1 hm hrows n1
  cases ho : drOk D
  · rw [ho] at f1 f2
    have q2 := r55n (d + 6)
    have q3 := v62'n (d + 6) 1
    have q4 := r63 (d + 6) 0 1 (by omega) (x := .nl) (.inr ⟨rfl, rfl⟩)
    simp at q3 q4 f1 f2
    rcases hx with rfl | ⟨rfl, _⟩ <;> rcases hy with rfl | ⟨rfl, _⟩ <;> simp [h1, g1, t1, f1, f2, e1, q2, q3, q4, hm, hkm, hps, hrows, n1]
  · rw [ho] at f1 f2
    generalize whN (spSt D) pts.length 0 = ws at f1 f2 hwl
    have hw2 : ws.length ≤ big := by omega
    simp only [big] at hw2
    have q2 := r55 (d + 6) ws (by simp only [big]; omega)
    have q3 := v62' (d + 6) ws 1 (by omega)
    have q4 := r63 (d + 6) ws.length 1 (by omega) (x := .ro 1 (markL mI 1 1 ws.length)) (.inl rfl)
    have q5 : ¬ (1 : Int) + (ws.length : Int) < 0 := by omega
    simp at q3 q4 f1 f2
    rcases hx with rfl | ⟨rfl, _⟩ <;> rcases hy with rfl | ⟨rfl, _⟩ <;> simp [h1, g1, t1, f1, f2, e1, q2, q3, q4, q5, hm, hkm, hps, hrows, n1]
end Go.Proofs.Ytmfcdjkeofohpaa.walkS
