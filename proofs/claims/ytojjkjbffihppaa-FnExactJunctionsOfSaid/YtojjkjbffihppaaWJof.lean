/- The row JunctionsOf; no conditions. -/
import Derived.Test.YtojjkjbffihppaaWJun
import Derived.Test.YtojjkjbffihppaaWMd
import Derived.Test.YtojjkjbffihppaaWLL
namespace Go.Proofs.Ytojjkjbffihppaa.walkS
open Go Go.Proofs.Ytojjkjbffihppaa.Ev
set_option linter.unusedSimpArgs false
set_option linter.unusedVariables false
def jQ (q : Nat × Nat) : List Int := [(q.1 : Int), (q.2 : Int)]
theorem jC_jI (l : List (Nat × Nat)) : l.map jC = (l.map jQ).map jI := by
  rw [List.map_map]
  exact List.map_congr_left fun a _ => rfl
def oLJ : Option (List (List Int)) → LV
  | none => .nl
  | some ws => .ow 33 1 (ws.map jI)
def jOf (D : Dr) : Option (List (List Int)) × Int := ifb (drOk D) (some ((jF D D.fcs.length 0).map jQ), 0) (none, 1)
theorem jF_len (D : Dr) : ∀ m i, (jF D m i).length ≤ D.pts.length * m := by
  intro m
  induction m with
  | zero => intro i; simp [jF]
  | succ m ih =>
    intro i
    have h1 := jP_len D i D.pts.length 0
    have h2 := ih (i + 1)
    simp only [jF, List.length_append, Nat.mul_add]
    omega
theorem r47 (d : Nat) (D : Dr) (hb : BdN D) : ev (d + 7) 47 [.ag (dV D)] = some (.tu [oLJ (jOf D).1, I (jOf D).2], []) := by
  rw [s47 (d + 6) _ rfl]
  have c1 := r96 d D [] hb
  unfold jOf
  cases h1 : drOk D
  · rw [h1] at c1
    simp [c1, oLJ]
  · have c2 := r113 (d + 1) D [] hb h1
    rw [jC_jI] at c2
    rw [h1] at c1
    simp only [ifb_t]
    generalize (jF D D.fcs.length 0).map jQ = ws at c2 ⊢
    simp [c1, c2, oLJ]
theorem r48 (d : Nat) (D : Dr) (hb : BdN D) : ev (d + 8) 48 [.ag (dV D)] = some (.tu [oLJ (jOf D).1, I (jOf D).2], []) := by
  rw [s48 (d + 7) _ rfl]
  have c1 := r104 (d + 1) D hb
  unfold jOf
  cases h1 : drOk D
  · rw [h1] at c1
    simp [c1, oLJ]
  · have c2 := r116 d D hb h1
    rw [jC_jI] at c2
    rw [h1] at c1
    simp only [ifb_t]
    generalize (jF D D.fcs.length 0).map jQ = ws at c2 ⊢
    simp [c1, c2, oLJ]
theorem tot_j : ∀ (l : List (Nat × Nat)), tot (l.map jQ) = 2 * l.length := by
  intro l
  induction l with
  | nil => rfl
  | cons q l ih =>
    simp only [List.map_cons, tot, List.length_cons, ih, jQ, List.length_nil]
    omega
set_option maxHeartbeats 2000000 in
theorem r9 (d : Nat) (w h : Int) (pts : List Pt) (fcs : List (Fc × Bool)) (hp : pts.length ≤ maxLen) (hf : fcs.length ≤ maxLen) (hw : ∀ q ∈ fcs, WfF q) {x y : LV} (hx : SV 2 (pts.map pC) x) (hy : SV 2 (fcs.map fI) y) :
    ev (d + 9) 9 [.ag [I w, I h, x, y]] = some (B true, []) := by
  rw [s9 (d + 8) _ rfl]
  obtain ⟨k1, h1, s1⟩ := r37 (d + 4) w h pts fcs hp hf hw 1048576 (by omega) hx hy
  by_cases g1 : k1 < 0
  · rcases hx with rfl | ⟨rfl, _⟩ <;> rcases hy with rfl | ⟨rfl, _⟩ <;> simp [h1, g1]
  obtain ⟨_, b1, b2, b3⟩ := s1 (by omega)
  have bD : BdN ⟨w, h, pts, fcs.map (·.1)⟩ := ⟨⟨b1, by simpa using b2, fun f hf => by
    obtain ⟨q, hq, rfl⟩ := List.mem_map.1 hf
    exact (b3 q hq).1⟩, fun f hf => by
    obtain ⟨q, hq, rfl⟩ := List.mem_map.1 hf
    exact (b3 q hq).2⟩
  have t1 := r39 (d + 4) w h pts fcs b1 b2 (fun q hq => ⟨(b3 q hq).1, (hw q hq).nil⟩) hx hy
  have f1 := r47 (d + 1) _ bD
  have f2 := r48 d _ bD
  have e1 := r41 (d + 4) _ bD.toBdD
  obtain ⟨km, ps, rows, hps, hrows, hm⟩ := v42' _ bD.toBdD
  have hm := hm (d + 4)
  have n1 : fcs.length = (fcs.map (·.1)).length := by simp
  have hkm : ¬ (km : Int) < 0 := by omega
  have hbd : ∀ ws, (jOf ⟨w, h, pts, fcs.map (·.1)⟩).1 = some ws → ws.length ≤ 100000 ∧ (∀ q ∈ ws, q.length ≤ big) ∧ tot ws ≤ 200000 := fun ws hws => by
    unfold jOf at hws
    cases ho : drOk ⟨w, h, pts, fcs.map (·.1)⟩
    · rw [ho] at hws; cases hws
    rw [ho] at hws
    obtain ⟨hq1, hq2⟩ := dr_small ho
    have hl := jF_len ⟨w, h, pts, fcs.map (·.1)⟩ (fcs.map (·.1)).length 0
    have hm : pts.length * (fcs.map (·.1)).length ≤ 48 * 24 := Nat.mul_le_mul hq1 hq2
    simp only [ifb_t, Option.some.injEq] at hws
    simp only at hl
    rw [← hws, tot_j]
    refine ⟨by rw [List.length_map]; omega, fun q hq => ?_, by omega⟩
    obtain ⟨p, _, rfl⟩ := List.mem_map.1 hq
    simp [jQ, big]
  generalize hD : (⟨w, h, pts, fcs.map (·.1)⟩ : Dr) = D at f1 f2 e1 hm hps hrows hbd
  have hDp : D.pts = pts := by rw [← hD]
  have hDw : D.w = w := by rw [← hD]
  have hDh : D.h = h := by rw [← hD]
  have hDf : D.fcs = fcs.map (·.1) := by rw [← hD]
  simp only [dV, dA, hDw, hDh, hDp, hDf] at f1 f2 e1 hm hps hrows
  generalize fcs.map (·.1) = lf at t1 f1 f2 e1 hm hrows n1
  generalize jOf D = oc at f1 f2 hbd
  obtain ⟨o, c⟩ := oc
  cases o with
  | none =>
    have q2 := r36n (d + 7)
    have q3 := v49'n (d + 6) 1
    have q4 := r50n (d + 6) 1
    simp [oLJ] at q3 q4 f1 f2
    rcases hx with rfl | ⟨rfl, _⟩ <;> rcases hy with rfl | ⟨rfl, _⟩ <;> simp [h1, g1, t1, f1, f2, e1, q2, q3, q4, hm, hkm, hps, hrows, n1]
  | some ws =>
    obtain ⟨hw2, hw3, tt⟩ := hbd ws rfl
    have q2 := r36 (d + 6) ws (by simp only [big]; omega) hw3
    have q3 := v49' (d + 6) ws 1 (by simp only [big]; omega) (by omega)
    have q4 := r50 (d + 6) ws 1 (by simp only [big]; omega) (by omega)
    have q5 : ¬ (1 : Int) + (tot ws : Int) < 0 := by omega
    simp [oLJ] at q3 q4 f1 f2
    rcases hx with rfl | ⟨rfl, _⟩ <;> rcases hy with rfl | ⟨rfl, _⟩ <;> simp [h1, g1, t1, f1, f2, e1, q2, q3, q4, q5, hm, hkm, hps, hrows, n1]
end Go.Proofs.Ytojjkjbffihppaa.walkS
