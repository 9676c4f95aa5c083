/- The mean shade of a picture; the row PictureShade; no conditions. -/
import Derived.Test.YthnkioafikmmaaaGreatWVp
namespace Go.Proofs.YthnkioafikmmaaaGreat.walkS
open Go Go.Proofs.YthnkioafikmmaaaGreat.Ev
set_option linter.unusedSimpArgs false
set_option linter.unusedVariables false
theorem mul_in {a b : Int} (ha : 0 ≤ a ∧ a ≤ 20000) (hb : 0 ≤ b ∧ b ≤ 20000) : 0 ≤ a * b ∧ a * b ≤ 400000000 := by
  refine ⟨Int.mul_nonneg ha.1 hb.1, ?_⟩
  have h1 : a * b ≤ 20000 * b := Int.mul_le_mul_of_nonneg_right ha.2 hb.1
  have h2 : 20000 * b ≤ 20000 * 20000 := Int.mul_le_mul_of_nonneg_left hb.2 (by omega)
  omega
theorem pt_in {l : List Pt} (h : l.all okP = true) (i : Nat) : (0 ≤ (pt l i).1 ∧ (pt l i).1 ≤ 20000) ∧ (0 ≤ (pt l i).2 ∧ (pt l i).2 ≤ 20000) := by
  unfold pt
  cases hx : l[i % l.length]? with
  | none => simp
  | some x =>
    have := List.all_eq_true.1 h x (List.mem_of_getElem? hx)
    simp only [okP, inR, Bool.and_eq_true, decide_eq_true_eq] at this
    simp only [Option.getD_some]
    omega
theorem dbl_in {l : List Pt} (h : l.all okP = true) : ∀ (m i : Nat) (a : Int), i + m ≤ 100 → (-400000000 * (i : Int) ≤ a ∧ a ≤ 400000000 * (i : Int)) → -400000000 * ((i + m : Nat) : Int) ≤ dblF l m i a ∧ dblF l m i a ≤ 400000000 * ((i + m : Nat) : Int) := by
  intro m
  induction m with
  | zero => intro i a hi ha; simpa [dblF] using ha
  | succ m ih =>
    intro i a hi ha
    obtain ⟨p1, p2⟩ := pt_in h i
    obtain ⟨q1, q2⟩ := pt_in h (i + 1)
    have m1 := mul_in p1 q2
    have m2 := mul_in p2 q1
    simp only [dblF]
    generalize (pt l i).1 * (pt l (i + 1)).2 = u at m1 ⊢
    generalize (pt l i).2 * (pt l (i + 1)).1 = v at m2 ⊢
    have w1 : W u = u := IntWalk.i64_in _ (by omega)
    have w2 : W v = v := IntWalk.i64_in _ (by omega)
    have w3 : W (u - v) = u - v := IntWalk.i64_in _ (by omega)
    have w4 : W (a + (u - v)) = a + (u - v) := IntWalk.i64_in _ (by omega)
    rw [w1, w2, w3, w4]
    have := ih (i + 1) (a + (u - v)) (by omega) (by omega)
    rw [show i + 1 + m = i + (m + 1) by omega] at this
    exact this
theorem poly_area {l : List Pt} (h : polyOk l = true) : 0 < dblF l l.length 0 0 ∧ dblF l l.length 0 0 ≤ 9600000000 := by
  simp only [polyOk, Bool.and_eq_true, decide_eq_true_eq] at h
  obtain ⟨_, h2, h3, _, h5⟩ := h
  have := dbl_in h3 l.length 0 0 (by omega) (by omega)
  omega
def frg (F : List Fc) (i : Nat) : List Int := ((F[i]?).getD (.empty, [])).2
def ar (D : Dr) (i : Nat) : Int := match rg D.pts (frg D.fcs i) [] with | some r => dblF r r.length 0 0 | none => 0
def vn (vs : List Vn) (i : Nat) : Int := ((vs[i]?).getD (.empty, 0, 0)).2.1
def shF (Q : Pi) : Nat → Nat → Int → Int → Int × Int
  | 0, _, a, b => (a, b)
  | m + 1, i, a, b => shF Q m (i + 1) (W (a + W (ar Q.d i * vn Q.vs i))) (W (b + ar Q.d i))
theorem fOk_at {P : List Pt} {F : List Fc} : ∀ (m i : Nat), fOk P F m i = true → ∀ k, i ≤ k → k < i + m → fcOk P F k = true := by
  intro m
  induction m with
  | zero => intro i _ k h1 h2; omega
  | succ m ih =>
    intro i h k h1 h2
    simp only [fOk] at h
    cases hb : fcOk P F i <;> rw [hb] at h
    · cases h
    · by_cases hk : k = i
      · subst hk; exact hb
      · exact ih (i + 1) h k (by omega) (by omega)
theorem dr_face {D : Dr} (h : drOk D = true) {k : Nat} {f : Fc} (hk : D.fcs[k]? = some f) : ∃ r, rg D.pts f.2 [] = some r ∧ polyOk r = true := by
  simp only [drOk, Bool.and_eq_true] at h
  obtain ⟨_, _, _, _, _, ho⟩ := h
  have hkl : k < D.fcs.length := (List.getElem?_eq_some_iff.1 hk).1
  have := fOk_at _ _ ho k (by omega) (by omega)
  simp only [fcOk, hk, Option.getD_some] at this
  cases h1 : nameOk f.1 <;> rw [h1] at this
  · cases this
  cases h2 : ordF D.fcs k <;> rw [h2] at this
  · cases this
  simp only [ifb_t, ringOk] at this
  cases h3 : rg D.pts f.2 [] with
  | none => rw [h3] at this; cases this
  | some r => rw [h3] at this; exact ⟨r, rfl, this⟩
theorem ar_in {D : Dr} (h : drOk D = true) {k : Nat} (hk : k < D.fcs.length) : 0 < ar D k ∧ ar D k ≤ 9600000000 := by
  obtain ⟨f, hf⟩ := get_lt hk
  obtain ⟨r, hr, hp⟩ := dr_face h hf
  unfold ar frg
  rw [hf]
  simp only [Option.getD_some, hr]
  exact poly_area hp
theorem shF_pos {Q : Pi} (h : drOk Q.d = true) : ∀ (m i : Nat) (a b : Int), m + i = Q.d.fcs.length → Q.d.fcs.length ≤ 24 → (0 ≤ b ∧ b ≤ 9600000000 * (i : Int)) → (0 < m ∨ 0 < b) → 0 < (shF Q m i a b).2 := by
  intro m
  induction m with
  | zero => intro i a b _ _ hb h0; simp only [shF]; omega
  | succ m ih =>
    intro i a b hi hl hb h0
    have := ar_in h (k := i) (by omega)
    simp only [shF]
    have w : W (b + ar Q.d i) = b + ar Q.d i := IntWalk.i64_in _ (by omega)
    rw [w]
    exact ih (i + 1) _ _ (by omega) hl (by omega) (by omega)
def shadeOf (Q : Pi) : Int × Int := ifb (okPi Q) (ifb (decide (Q.vs.length = 0)) (0, 6) (W ((shF Q Q.vs.length 0 0 0).1.tdiv (shF Q Q.vs.length 0 0 0).2), 0)) (0, 1)
end Go.Proofs.YthnkioafikmmaaaGreat.walkS
