/- The row Recolor; no conditions. -/
import Derived.Test.YtmhddfikpfkeoaaWPx
namespace Go.Proofs.Ytmhddfikpfkeoaa.walkS
open Go Go.Proofs.Ytmhddfikpfkeoaa.Ev
set_option linter.unusedSimpArgs false
set_option linter.unusedVariables false
theorem ckC_nil2 {st : St} : ckC [] (some st) = some (.nm, st) := rfl
attribute [simp] ckC_nil2
theorem rClV (d : Nat) (l : List Vn) (hb : l.length ≤ big) : ev (d + 1) 141 [.ro 3 (l.map vC)] = some (.ow 64 3 (l.map vC), []) := by
  rw [s141 d _ rfl]
  simp [hb]
theorem r76 (d : Nat) (Q : Pi) (hb : BdD Q.d) (hv : Q.vs.length ≤ big) (hF : Q.d.fcs ≠ []) : ev (d + 3) 76 [.ag (qV Q)] = some (.ag (qO Q (.ow 146 2 (Q.d.pts.map pC)) (.ow 162 2 (Q.d.fcs.map fC)) (.ow 64 3 (Q.vs.map vC))), []) := by
  rw [s76 (d + 2) _ rfl]
  have c1 := r140 d Q.d hb
  have c2 := rClV (d + 1) Q.vs hv
  rw [fO_ne hF] at c1
  simp [c1, c2]
theorem r73 (d : Nat) (Q : Pi) (hb : BdD Q.d) (hv : Q.vs.length ≤ big) (hF : Q.d.fcs ≠ []) : ev (d + 3) 73 [.rp (qV Q)] = some (.ag (qO Q (.ow 146 2 (Q.d.pts.map pC)) (.ow 162 2 (Q.d.fcs.map fC)) (.ow 64 3 (Q.vs.map vC))), []) := by
  rw [s73 (d + 2) _ rfl]
  have c1 := r138 d Q.d [.ro 3 (Q.vs.map vC)] hb
  rw [fO_ne hF] at c1
  simp [c1, hv]
theorem r72 (d : Nat) (D : Dr) (rest : List LV) (k : Int) : ev (d + 2) 72 [.rp (dR D rest), I k] = some (B (inR k 0 (W ((D.fcs.length : Int) - 1))), []) := by
  rw [s72 (d + 1) _ rfl]
  simp [r135, W]
def rcQ (Q : Pi) (k : Int) (v : Vn) : Pi := ⟨Q.d, Q.vs.set k.toNat v⟩
def rcOf (Q : Pi) (k : Int) (v : Vn) : Option Pi × Int := ifb (okPi Q) (ifb (okVn v) (ifb (inR k 0 (W ((Q.d.fcs.length : Int) - 1))) (some (rcQ Q k v), 0) (none, 2)) (none, 1)) (none, 1)
def oQ : Option Pi → LV
  | none => .ag z5
  | some Q => .ag (qO Q (.ow 146 2 (Q.d.pts.map pC)) (.ow 162 2 (Q.d.fcs.map fC)) (.ow 64 3 (Q.vs.map vC)))
theorem okPi_len {Q : Pi} (h : okPi Q = true) : drOk Q.d = true ∧ Q.vs.length = Q.d.fcs.length := by
  simp only [okPi, Bool.and_eq_true, decide_eq_true_eq] at h
  exact ⟨h.1, h.2.1⟩
theorem rc_in {Q : Pi} {k : Int} (hb : Q.d.fcs.length ≤ big) (h : inR k 0 (W ((Q.d.fcs.length : Int) - 1)) = true) : 0 ≤ k ∧ k.toNat < Q.d.fcs.length ∧ Q.d.fcs ≠ [] := by
  simp only [big] at hb
  rw [W, IntWalk.i64_in _ (by omega)] at h
  simp only [inR, Bool.and_eq_true, decide_eq_true_eq] at h
  refine ⟨by omega, by omega, fun e => ?_⟩
  rw [e] at h
  simp at h
  omega
set_option maxHeartbeats 1000000 in
theorem r33 (d : Nat) (Q : Pi) (hb : BdN Q.d) (hv : Q.vs.length ≤ big) (k : Int) (v : Vn) : ev (d + 9) 33 [.ag (qV Q), I k, .ag (V v.1 v.2.1 v.2.2)] = some (.tu [oQ (rcOf Q k v).1, I (rcOf Q k v).2], []) := by
  rw [s33 (d + 8) _ rfl]
  have c1 := r68 d Q hb hv
  have c2 := r74 (d + 5) v.1 v.2.1 v.2.2
  have e := ok_same v.1 v.2.1 v.2.2
  have eo : okVn v = okS v.1 v.2.1 v.2.2 := rfl
  rw [e, ← eo] at c2
  unfold rcOf
  cases h1 : okPi Q
  · rw [h1] at c1
    simp [c1, oQ]
  rw [h1] at c1
  obtain ⟨_, hl⟩ := okPi_len h1
  cases h2 : okVn v
  · rw [h2] at c2
    simp [c1, c2, oQ]
  rw [h2] at c2
  have c3 := r75 (d + 7) k 0 (W ((Q.d.fcs.length : Int) - 1))
  have hl2 : (Q.vs.length : Int) = (Q.d.fcs.length : Int) := by omega
  cases h3 : inR k 0 (W ((Q.d.fcs.length : Int) - 1))
  · rw [h3] at c3
    simp only [W] at c3
    simp [c1, c2, c3, hl, hl2, oQ]
  obtain ⟨k0, k1, hF⟩ := rc_in hb.fcs h3
  rw [h3] at c3
  simp only [W] at c3
  have c4 := r76 (d + 5) Q hb.toBdD hv hF
  have kl : k < (Q.d.fcs.length : Int) := by omega
  have hg : ∃ u, Q.vs[k.toNat]? = some u := get_lt (by omega)
  obtain ⟨u, hu⟩ := hg
  have em : (Q.vs.set k.toNat v).map vC = (Q.vs.map vC).set k.toNat (vC v) := by rw [List.map_set]
  simp only [ifb_t, oQ, rcQ, em]
  simp [c1, c2, c3, c4, hl, hl2, k0, kl, hu]
set_option maxHeartbeats 1000000 in
theorem r31 (d : Nat) (Q : Pi) (hb : BdN Q.d) (hv : Q.vs.length ≤ big) (k : Int) (v : Vn) : ev (d + 9) 31 [.ag (qV Q), I k, .ag (V v.1 v.2.1 v.2.2)] = some (.tu [oQ (rcOf Q k v).1, I (rcOf Q k v).2], []) := by
  rw [s31 (d + 8) _ rfl]
  have c1 := r65 (d + 1) Q hb hv
  have c2 := r71 (d + 5) v.1 v.2.1 v.2.2 []
  have eo : okVn v = okS v.1 v.2.1 v.2.2 := rfl
  rw [← eo] at c2
  unfold rcOf
  cases h1 : okPi Q
  · rw [h1] at c1
    simp [c1, oQ]
  rw [h1] at c1
  obtain ⟨_, hl⟩ := okPi_len h1
  cases h2 : okVn v
  · rw [h2] at c2
    simp [c1, c2, oQ]
  rw [h2] at c2
  have c3 := r72 (d + 6) Q.d [.ro 3 (Q.vs.map vC)] k
  cases h3 : inR k 0 (W ((Q.d.fcs.length : Int) - 1))
  · rw [h3] at c3
    simp [c1, c2, c3, oQ]
  obtain ⟨k0, k1, hF⟩ := rc_in hb.fcs h3
  rw [h3] at c3
  have c4 := r73 (d + 5) Q hb.toBdD hv hF
  have kl : k < (Q.vs.length : Int) := by omega
  have hg : ∃ u, Q.vs[k.toNat]? = some u := get_lt (by omega)
  obtain ⟨u, hu⟩ := hg
  have em : (Q.vs.set k.toNat v).map vC = (Q.vs.map vC).set k.toNat (vC v) := by rw [List.map_set]
  simp only [ifb_t, oQ, rcQ, em]
  simp [c1, c2, c3, c4, k0, kl, hu]
theorem dr_sm' {D : Dr} (h : drOk D = true) : D.pts.length ≤ 48 ∧ D.fcs.length ≤ 24 := by
  simp only [drOk, Bool.and_eq_true, decide_eq_true_eq] at h
  exact ⟨h.2.2.1, h.2.2.2.2.1⟩
theorem totF_ok' {D : Dr} (h : drOk D = true) : totF D.fcs ≤ 100000 := by
  obtain ⟨_, h24⟩ := dr_sm' h
  have hr := drOk_ring h
  have : ∀ l : List Fc, (∀ f ∈ l, f.2.length ≤ 24) → totF l ≤ 25 * l.length := by
    intro l
    induction l with
    | nil => intro _; exact Nat.le_refl _
    | cons f l ih =>
      intro h
      have h1 := h f (by simp)
      have h2 := ih fun g hg => h g (by simp [hg])
      simp only [totF, List.length_cons]
      omega
  have := this D.fcs fun f hf => (hr f hf).top
  omega
theorem rcOf_b {Q : Pi} (hb : BdN Q.d) (hv : Q.vs.length ≤ big) (k : Int) (v : Vn) {T : Pi} (h : (rcOf Q k v).1 = some T) : BdN T.d ∧ T.vs.length ≤ big ∧ totF T.d.fcs ≤ 100000 := by
  unfold rcOf at h
  cases h1 : okPi Q
  · rw [h1] at h; cases h
  rw [h1] at h
  cases h2 : okVn v
  · rw [h2] at h; cases h
  rw [h2] at h
  cases h3 : inR k 0 (W ((Q.d.fcs.length : Int) - 1))
  · rw [h3] at h; cases h
  rw [h3] at h
  simp only [ifb_t, Option.some.injEq] at h
  subst h
  exact ⟨hb, by simp only [rcQ, List.length_set]; exact hv, totF_ok' (okPi_len h1).1⟩
theorem ldsv (b : Bool) (st : Nat) (rows : List (List Cell)) : svV b st rows = match b with | true => .nl | false => .ro st rows := rfl
set_option maxHeartbeats 4000000 in
theorem r6 (d : Nat) (p : Pin) {x y z : LV} (w : WfP p x y z) (k : Int) (v : Vn) : ev (d + 10) 6 [.ag (pA p x y z), I k, .ag (V v.1 v.2.1 v.2.2)] = some (B true, []) := by
  rw [s6 (d + 9) _ rfl]
  obtain ⟨k1, h1, s1⟩ := r25 (d + 4) p w 1048576 (by omega)
  obtain ⟨bx, ex⟩ := SV.sv w.x
  obtain ⟨by', ey⟩ := SV.sv w.y
  obtain ⟨bz, ez⟩ := SV.sv w.z
  by_cases g1 : k1 < 0
  · subst ex ey ez
    simp [h1, g1]
  obtain ⟨k2, h2⟩ := r30 (d + 8) v.1 v.2.1 v.2.2 k1
  by_cases g2 : k2 < 0
  · subst ex ey ez
    simp [h1, g1, h2, g2]
  obtain ⟨q1, bp⟩ := s1 (by omega)
  have t1 := r27 (d + 4) p.w p.h p.pts p.fcs p.vs bp.pts bp.fcs (fun q hq => ⟨bp.ring q hq, (w.face q hq).nil⟩) bp.vs w.x w.y w.z
  have t2 := r32 (d + 8) v.1 v.2.1 v.2.2
  have f1 := r31 d (pOf p) bp.n bp.vs k v
  have f2 := r33 d (pOf p) bp.n bp.vs k v
  have e1 := r29 (d + 4) (pOf p) bp.d bp.vs
  obtain ⟨km, ps, rows, vrs, hps, hrows, hvrs, hm⟩ := v34' (pOf p) bp.d bp.vs
  have hm := hm (d + 4)
  have hkm : ¬ (km : Int) < 0 := by omega
  have n1 : p.fcs.length = (p.fcs.map (·.1)).length := by simp
  have hbd := fun T => rcOf_b bp.n bp.vs k v (T := T)
  generalize rcOf (pOf p) k v = oc at f1 f2 hbd
  obtain ⟨o, c⟩ := oc
  simp only [pOf, qV, qO] at f1 f2 e1 hm hps hrows hvrs
  generalize p.fcs.map (·.1) = lp at t1 f1 f2 e1 n1 hm hrows
  cases o with
  | none =>
    have q2 := r29z (d + 4)
    have q3 := v34xz (d + 4)
    have q4 := r35z (d + 4)
    simp only [oQ] at f1 f2
    subst ex ey ez
    cases bx <;> cases by' <;> cases bz <;> simp only [svV] at h1 t1 ⊢ <;> simp [h1, g1, h2, g2, t1, t2, f1, f2, e1, q2, q3, q4, hm, hkm, hps, hrows, hvrs, n1]
  | some T =>
    obtain ⟨bT, bV, tT⟩ := hbd T rfl
    have q5 : ¬ (mkQ T : Int) < 0 := by omega
    have q2 := r29 (d + 4) T bT.toBdD bV
    have q3 := v34x (d + 4) T bT.toBdD bV (by omega)
    have q4 := r35 (d + 4) T bT.toBdD bV (by omega)
    simp only [oQ] at f1 f2
    subst ex ey ez
    cases bx <;> cases by' <;> cases bz <;> simp only [svV] at h1 t1 ⊢ <;> simp [h1, g1, h2, g2, t1, t2, f1, f2, e1, q2, q3, q4, q5, hm, hkm, hps, hrows, hvrs, n1]
end Go.Proofs.Ytmhddfikpfkeoaa.walkS
