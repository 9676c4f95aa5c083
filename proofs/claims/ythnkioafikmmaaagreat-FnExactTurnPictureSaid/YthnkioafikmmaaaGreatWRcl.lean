/- The row Recolor; no conditions. -/
import Derived.Test.YthnkioafikmmaaaGreatWPx
namespace Go.Proofs.YthnkioafikmmaaaGreat.walkS
open Go Go.Proofs.YthnkioafikmmaaaGreat.Ev
set_option linter.unusedSimpArgs false
set_option linter.unusedVariables false
theorem ckC_nil2 {st : St} : ckC [] (some st) = some (.nm, st) := rfl
attribute [simp] ckC_nil2
theorem rClV (d : Nat) (l : List Vn) (hb : l.length ≤ big) : ev (d + 1) 74 [.ro 3 (l.map vC)] = some (.ow 61 3 (l.map vC), []) := by
  rw [s74 d _ rfl]
  simp [hb]
theorem r41 (d : Nat) (Q : Pi) (hb : BdD Q.d) (hv : Q.vs.length ≤ big) (hF : Q.d.fcs ≠ []) : ev (d + 3) 41 [.ag (qV Q)] = some (.ag (qO Q (.ow 72 2 (Q.d.pts.map pC)) (.ow 77 2 (Q.d.fcs.map fC)) (.ow 61 3 (Q.vs.map vC))), []) := by
  rw [s41 (d + 2) _ rfl]
  have c1 := r73 d Q.d hb
  have c2 := rClV (d + 1) Q.vs hv
  rw [fO_ne hF] at c1
  simp [c1, c2]
theorem r36 (d : Nat) (Q : Pi) (hb : BdD Q.d) (hv : Q.vs.length ≤ big) (hF : Q.d.fcs ≠ []) : ev (d + 3) 36 [.rp (qV Q)] = some (.ag (qO Q (.ow 72 2 (Q.d.pts.map pC)) (.ow 77 2 (Q.d.fcs.map fC)) (.ow 61 3 (Q.vs.map vC))), []) := by
  rw [s36 (d + 2) _ rfl]
  have c1 := r72 d Q.d [.ro 3 (Q.vs.map vC)] hb
  rw [fO_ne hF] at c1
  simp [c1, hv]
def rcQ (Q : Pi) (k : Int) (v : Vn) : Pi := ⟨Q.d, Q.vs.set k.toNat v⟩
def rcOf (Q : Pi) (k : Int) (v : Vn) : Option Pi × Int := ifb (okPi Q) (ifb (okVn v) (ifb (inR k 0 (W ((Q.d.fcs.length : Int) - 1))) (some (rcQ Q k v), 0) (none, 2)) (none, 1)) (none, 1)
def oQ : Option Pi → LV
  | none => .ag z5
  | some Q => .ag (qO Q (.ow 72 2 (Q.d.pts.map pC)) (.ow 77 2 (Q.d.fcs.map fC)) (.ow 61 3 (Q.vs.map vC)))
theorem okPi_len {Q : Pi} (h : okPi Q = true) : drOk Q.d = true ∧ Q.vs.length = Q.d.fcs.length := by
  simp only [okPi, Bool.and_eq_true, decide_eq_true_eq] at h
  exact ⟨h.1, h.2.1⟩
theorem rc_in {Q : Pi} {k : Int} (hb : Q.d.fcs.length ≤ big) (h : inR k 0 (W ((Q.d.fcs.length : Int) - 1)) = true) : 0 ≤ k ∧ k.toNat < Q.d.fcs.length ∧ Q.d.fcs ≠ [] := by
  simp only [big] at hb
  rw [W, IntWalk.i64_in _ (by omega)] at h
  simp only [inR, Bool.and_eq_true, decide_eq_true_eq] at h
  refine ⟨by omega, by omega, fun e => ?_⟩
  rw [e] at h
  simp at h
  omega
theorem dr_sm' {D : Dr} (h : drOk D = true) : D.pts.length ≤ 48 ∧ D.fcs.length ≤ 24 := by
  simp only [drOk, Bool.and_eq_true, decide_eq_true_eq] at h
  exact ⟨h.2.2.1, h.2.2.2.2.1⟩
theorem totF_ok' {D : Dr} (h : drOk D = true) : totF D.fcs ≤ 100000 := by
  obtain ⟨_, h24⟩ := dr_sm' h
  have hr := drOk_ring h
  have : ∀ l : List Fc, (∀ f ∈ l, f.2.length ≤ 24) → totF l ≤ 25 * l.length := by
    intro l
    induction l with
    | nil => intro _; exact Nat.le_refl _
    | cons f l ih =>
      intro h
      have h1 := h f (by simp)
      have h2 := ih fun g hg => h g (by simp [hg])
      simp only [totF, List.length_cons]
      omega
  have := this D.fcs fun f hf => (hr f hf).top
  omega
theorem rcOf_b {Q : Pi} (hb : BdN Q.d) (hv : Q.vs.length ≤ big) (k : Int) (v : Vn) {T : Pi} (h : (rcOf Q k v).1 = some T) : BdN T.d ∧ T.vs.length ≤ big ∧ totF T.d.fcs ≤ 100000 := by
  unfold rcOf at h
  cases h1 : okPi Q
  · rw [h1] at h; cases h
  rw [h1] at h
  cases h2 : okVn v
  · rw [h2] at h; cases h
  rw [h2] at h
  cases h3 : inR k 0 (W ((Q.d.fcs.length : Int) - 1))
  · rw [h3] at h; cases h
  rw [h3] at h
  simp only [ifb_t, Option.some.injEq] at h
  subst h
  exact ⟨hb, by simp only [rcQ, List.length_set]; exact hv, totF_ok' (okPi_len h1).1⟩
theorem ldsv (b : Bool) (st : Nat) (rows : List (List Cell)) : svV b st rows = match b with | true => .nl | false => .ro st rows := rfl
end Go.Proofs.YthnkioafikmmaaaGreat.walkS
