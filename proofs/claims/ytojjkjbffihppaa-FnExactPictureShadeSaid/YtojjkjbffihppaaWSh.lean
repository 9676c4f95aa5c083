/- The mean shade of a picture; the row PictureShade; no conditions. -/
import Derived.Test.YtojjkjbffihppaaWVp
namespace Go.Proofs.Ytojjkjbffihppaa.walkS
open Go Go.Proofs.Ytojjkjbffihppaa.Ev
set_option linter.unusedSimpArgs false
set_option linter.unusedVariables false
theorem mul_in {a b : Int} (ha : 0 ≤ a ∧ a ≤ 20000) (hb : 0 ≤ b ∧ b ≤ 20000) : 0 ≤ a * b ∧ a * b ≤ 400000000 := by
  refine ⟨Int.mul_nonneg ha.1 hb.1, ?_⟩
  have h1 : a * b ≤ 20000 * b := Int.mul_le_mul_of_nonneg_right ha.2 hb.1
  have h2 : 20000 * b ≤ 20000 * 20000 := Int.mul_le_mul_of_nonneg_left hb.2 (by omega)
  omega
theorem pt_in {l : List Pt} (h : l.all okP = true) (i : Nat) : (0 ≤ (pt l i).1 ∧ (pt l i).1 ≤ 20000) ∧ (0 ≤ (pt l i).2 ∧ (pt l i).2 ≤ 20000) := by
  unfold pt
  cases hx : l[i % l.length]? with
  | none => simp
  | some x =>
    have := List.all_eq_true.1 h x (List.mem_of_getElem? hx)
    simp only [okP, inR, Bool.and_eq_true, decide_eq_true_eq] at this
    simp only [Option.getD_some]
    omega
theorem dbl_in {l : List Pt} (h : l.all okP = true) : ∀ (m i : Nat) (a : Int), i + m ≤ 100 → (-400000000 * (i : Int) ≤ a ∧ a ≤ 400000000 * (i : Int)) → -400000000 * ((i + m : Nat) : Int) ≤ dblF l m i a ∧ dblF l m i a ≤ 400000000 * ((i + m : Nat) : Int) := by
  intro m
  induction m with
  | zero => intro i a hi ha; simpa [dblF] using ha
  | succ m ih =>
    intro i a hi ha
    obtain ⟨p1, p2⟩ := pt_in h i
    obtain ⟨q1, q2⟩ := pt_in h (i + 1)
    have m1 := mul_in p1 q2
    have m2 := mul_in p2 q1
    simp only [dblF]
    generalize (pt l i).1 * (pt l (i + 1)).2 = u at m1 ⊢
    generalize (pt l i).2 * (pt l (i + 1)).1 = v at m2 ⊢
    have w1 : W u = u := IntWalk.i64_in _ (by omega)
    have w2 : W v = v := IntWalk.i64_in _ (by omega)
    have w3 : W (u - v) = u - v := IntWalk.i64_in _ (by omega)
    have w4 : W (a + (u - v)) = a + (u - v) := IntWalk.i64_in _ (by omega)
    rw [w1, w2, w3, w4]
    have := ih (i + 1) (a + (u - v)) (by omega) (by omega)
    rw [show i + 1 + m = i + (m + 1) by omega] at this
    exact this
theorem poly_area {l : List Pt} (h : polyOk l = true) : 0 < dblF l l.length 0 0 ∧ dblF l l.length 0 0 ≤ 9600000000 := by
  simp only [polyOk, Bool.and_eq_true, decide_eq_true_eq] at h
  obtain ⟨_, h2, h3, _, h5⟩ := h
  have := dbl_in h3 l.length 0 0 (by omega) (by omega)
  omega
def frg (F : List Fc) (i : Nat) : List Int := ((F[i]?).getD (.empty, [])).2
def ar (D : Dr) (i : Nat) : Int := match rg D.pts (frg D.fcs i) [] with | some r => dblF r r.length 0 0 | none => 0
def vn (vs : List Vn) (i : Nat) : Int := ((vs[i]?).getD (.empty, 0, 0)).2.1
def shF (Q : Pi) : Nat → Nat → Int → Int → Int × Int
  | 0, _, a, b => (a, b)
  | m + 1, i, a, b => shF Q m (i + 1) (W (a + W (ar Q.d i * vn Q.vs i))) (W (b + ar Q.d i))
theorem fOk_at {P : List Pt} {F : List Fc} : ∀ (m i : Nat), fOk P F m i = true → ∀ k, i ≤ k → k < i + m → fcOk P F k = true := by
  intro m
  induction m with
  | zero => intro i _ k h1 h2; omega
  | succ m ih =>
    intro i h k h1 h2
    simp only [fOk] at h
    cases hb : fcOk P F i <;> rw [hb] at h
    · cases h
    · by_cases hk : k = i
      · subst hk; exact hb
      · exact ih (i + 1) h k (by omega) (by omega)
theorem dr_face {D : Dr} (h : drOk D = true) {k : Nat} {f : Fc} (hk : D.fcs[k]? = some f) : ∃ r, rg D.pts f.2 [] = some r ∧ polyOk r = true := by
  simp only [drOk, Bool.and_eq_true] at h
  obtain ⟨_, _, _, _, _, ho⟩ := h
  have hkl : k < D.fcs.length := (List.getElem?_eq_some_iff.1 hk).1
  have := fOk_at _ _ ho k (by omega) (by omega)
  simp only [fcOk, hk, Option.getD_some] at this
  cases h1 : nameOk f.1 <;> rw [h1] at this
  · cases this
  cases h2 : ordF D.fcs k <;> rw [h2] at this
  · cases this
  simp only [ifb_t, ringOk] at this
  cases h3 : rg D.pts f.2 [] with
  | none => rw [h3] at this; cases this
  | some r => rw [h3] at this; exact ⟨r, rfl, this⟩
theorem ar_in {D : Dr} (h : drOk D = true) {k : Nat} (hk : k < D.fcs.length) : 0 < ar D k ∧ ar D k ≤ 9600000000 := by
  obtain ⟨f, hf⟩ := get_lt hk
  obtain ⟨r, hr, hp⟩ := dr_face h hf
  unfold ar frg
  rw [hf]
  simp only [Option.getD_some, hr]
  exact poly_area hp
theorem shF_pos {Q : Pi} (h : drOk Q.d = true) : ∀ (m i : Nat) (a b : Int), m + i = Q.d.fcs.length → Q.d.fcs.length ≤ 24 → (0 ≤ b ∧ b ≤ 9600000000 * (i : Int)) → (0 < m ∨ 0 < b) → 0 < (shF Q m i a b).2 := by
  intro m
  induction m with
  | zero => intro i a b _ _ hb h0; simp only [shF]; omega
  | succ m ih =>
    intro i a b hi hl hb h0
    have := ar_in h (k := i) (by omega)
    simp only [shF]
    have w : W (b + ar Q.d i) = b + ar Q.d i := IntWalk.i64_in _ (by omega)
    rw [w]
    exact ih (i + 1) _ _ (by omega) hl (by omega) (by omega)
theorem r98 (d : Nat) (D : Dr) (rest : List LV) (hb : BdN D) (i : Nat) (f : Fc) (r : List Pt) (hf : D.fcs[i]? = some f) (hr : rg D.pts f.2 [] = some r) : ev (d + 3) 98 [.rp (dR D rest), I i] = some (.ow 127 2 (r.map pC), []) := by
  rw [s98 (d + 2) _ rfl]
  have c := r167 d D rest f.2 (hb.ring f (List.mem_of_getElem? hf)) hb.pts
  rw [hr] at c
  simp only [rgV] at c
  simp [hf, c]
theorem r106 (d : Nat) (D : Dr) (hb : BdN D) (i : Nat) (f : Fc) (r : List Pt) (hf : D.fcs[i]? = some f) (hr : rg D.pts f.2 [] = some r) : ev (d + 3) 106 [.ag (dV D), I i] = some (.ow 127 2 (r.map pC), []) := by
  rw [s106 (d + 2) _ rfl]
  have c := r175 d D.pts f.2 (hb.ring f (List.mem_of_getElem? hf)) hb.pts
  rw [hr] at c
  simp only [rgV] at c
  simp [hf, c]
theorem l65 (d : Nat) (Q : Pi) (hb : BdN Q.d) (hv : Q.vs.length ≤ big) (ho : drOk Q.d = true) (hl : Q.vs.length = Q.d.fcs.length) : ∀ (n i : Nat) (a b : Int), n + i = Q.vs.length →
    clC [4, 5] [2, 3] (blk 0 (lp (evC (ev (d + 3)) b65_1) (clean [1, 4, 5, 6]) ⟨lookS [(1, .bp (.sl 1) 0), (4, I a), (5, I b), (6, I i)], lookM [((.sl 1), some (.box (qV Q)))]⟩)) =
      some (.nm, ⟨lookS [(4, I (shF Q n i a b).1), (5, I (shF Q n i a b).2)], lookM []⟩) := by
  intro n
  induction n with
  | zero =>
    intro i a b hi
    have h0 : ¬ (i : Int) < (Q.vs.length : Int) := by omega
    rw [lp_step]
    simp [h0, shF]
  | succ n ih =>
    intro i a b hi
    have hlt : i < Q.vs.length := by omega
    have h0 : (i : Int) < (Q.vs.length : Int) := by omega
    obtain ⟨v, hx⟩ := get_lt hlt
    obtain ⟨f, hf⟩ := get_lt (l := Q.d.fcs) (i := i) (by omega)
    obtain ⟨r, hr, hp⟩ := dr_face ho hf
    have hrl : r.length ≤ big := by rw [rg_len hr]; simpa using hb.ring f (List.mem_of_getElem? hf)
    have hw := wrap_nat (i := i) (by simp only [big] at hv; omega)
    have c1 := r98 d Q.d [.ro 3 (Q.vs.map vC)] hb i f r hf hr
    have c2 := r101 (d + 2) r hrl
    have ea : ar Q.d i = dblF r r.length 0 0 := by unfold ar frg; rw [hf]; simp only [Option.getD_some, hr]
    have ev' : vn Q.vs i = v.2.1 := by unfold vn; rw [hx]; rfl
    have ih' := ih (i + 1) (W (a + W (ar Q.d i * vn Q.vs i))) (W (b + ar Q.d i)) (by omega)
    simp only [shF]
    rw [ea, ev'] at ih' ⊢
    simp only [Int.natCast_add, Int.cast_ofNat_Int, W] at ih' ⊢
    rw [lp_step]
    simp [h0, hx, hf, c1, c2, hw, ih']
theorem l66 (d : Nat) (Q : Pi) (hb : BdN Q.d) (hv : Q.vs.length ≤ big) (ho : drOk Q.d = true) (hl : Q.vs.length = Q.d.fcs.length) : ∀ (n i : Nat) (a b : Int), n + i = Q.vs.length →
    clC [4, 5] [2, 3] (blk 0 (lp (evC (ev (d + 3)) b66_1) (clean [1, 4, 5, 17, 18, 19]) ⟨lookS [(1, .bp (.sl 1) 0), (4, I a), (5, I b), (17, .ro 3 (Q.vs.map vC)), (18, I Q.vs.length), (19, I i)], lookM [((.sl 1), some (.box (qV Q)))]⟩)) =
      some (.nm, ⟨lookS [(4, I (shF Q n i a b).1), (5, I (shF Q n i a b).2)], lookM []⟩) := by
  intro n
  induction n with
  | zero =>
    intro i a b hi
    have h0 : ¬ (i : Int) < (Q.vs.length : Int) := by omega
    rw [lp_step]
    simp [h0, shF]
  | succ n ih =>
    intro i a b hi
    have hlt : i < Q.vs.length := by omega
    have h0 : (i : Int) < (Q.vs.length : Int) := by omega
    obtain ⟨v, hx⟩ := get_lt hlt
    obtain ⟨f, hf⟩ := get_lt (l := Q.d.fcs) (i := i) (by omega)
    obtain ⟨r, hr, hp⟩ := dr_face ho hf
    have hrl : r.length ≤ big := by rw [rg_len hr]; simpa using hb.ring f (List.mem_of_getElem? hf)
    have hw := wrap_nat (i := i) (by simp only [big] at hv; omega)
    have c1 := r106 d Q.d hb i f r hf hr
    have c2 := r108 (d + 2) r hrl
    have ea : ar Q.d i = dblF r r.length 0 0 := by unfold ar frg; rw [hf]; simp only [Option.getD_some, hr]
    have ev' : vn Q.vs i = v.2.1 := by unfold vn; rw [hx]; rfl
    have ih' := ih (i + 1) (W (a + W (ar Q.d i * vn Q.vs i))) (W (b + ar Q.d i)) (by omega)
    simp only [shF]
    rw [ea, ev'] at ih' ⊢
    simp only [Int.natCast_add, Int.cast_ofNat_Int, W] at ih' ⊢
    rw [lp_step]
    simp [h0, hx, hf, c1, c2, hw, ih']
def shadeOf (Q : Pi) : Int × Int := ifb (okPi Q) (ifb (decide (Q.vs.length = 0)) (0, 6) (W ((shF Q Q.vs.length 0 0 0).1.tdiv (shF Q Q.vs.length 0 0 0).2), 0)) (0, 1)
theorem r65 (d : Nat) (Q : Pi) (hb : BdN Q.d) (hv : Q.vs.length ≤ big) : ev (d + 9) 65 [.ag (qV Q)] = some (.tu [I (shadeOf Q).1, I (shadeOf Q).2], []) := by
  rw [s65 (d + 8) _ rfl]
  have c1 := r123 (d + 1) Q hb hv
  unfold shadeOf
  cases h1 : okPi Q
  · rw [h1] at c1
    simp [c1]
  rw [h1] at c1
  have h1' := h1
  simp only [okPi, Bool.and_eq_true, decide_eq_true_eq] at h1'
  obtain ⟨ho, hl, _⟩ := h1'
  by_cases h2 : Q.vs.length = 0
  · have h2' : Q.vs = [] := List.eq_nil_of_length_eq_zero h2
    obtain ⟨D, vs⟩ := Q
    simp only at h2'
    subst h2'
    simp only [qV, List.map_nil] at c1
    simp [c1]
  · have h2' : ¬ Q.vs = [] := fun e => h2 (by rw [e]; rfl)
    have key := l65 (d + 5) Q hb hv ho hl Q.vs.length 0 0 0 (by omega)
    have h24 : Q.d.fcs.length ≤ 24 := by
      simp only [drOk, Bool.and_eq_true, decide_eq_true_eq] at ho
      exact ho.2.2.2.2.1
    have hpos := shF_pos ho Q.vs.length 0 0 0 (by omega) h24 (by omega) (by omega)
    generalize shF Q Q.vs.length 0 0 0 = o at key hpos
    have hne : ¬ o.2 = 0 := by omega
    simp at key
    simp [c1, h2, h2', key, hne, W]
theorem r66 (d : Nat) (Q : Pi) (hb : BdN Q.d) (hv : Q.vs.length ≤ big) : ev (d + 9) 66 [.ag (qV Q)] = some (.tu [I (shadeOf Q).1, I (shadeOf Q).2], []) := by
  rw [s66 (d + 8) _ rfl]
  have c1 := r54 d Q hb hv
  unfold shadeOf
  cases h1 : okPi Q
  · rw [h1] at c1
    simp [c1]
  rw [h1] at c1
  have h1' := h1
  simp only [okPi, Bool.and_eq_true, decide_eq_true_eq] at h1'
  obtain ⟨ho, hl, _⟩ := h1'
  by_cases h2 : Q.vs.length = 0
  · have h2' : Q.vs = [] := List.eq_nil_of_length_eq_zero h2
    obtain ⟨D, vs⟩ := Q
    simp only at h2'
    subst h2'
    simp only [qV, List.map_nil] at c1
    simp [c1]
  · have h2' : ¬ Q.vs = [] := fun e => h2 (by rw [e]; rfl)
    have key := l66 (d + 5) Q hb hv ho hl Q.vs.length 0 0 0 (by omega)
    have h24 : Q.d.fcs.length ≤ 24 := by
      simp only [drOk, Bool.and_eq_true, decide_eq_true_eq] at ho
      exact ho.2.2.2.2.1
    have hpos := shF_pos ho Q.vs.length 0 0 0 (by omega) h24 (by omega) (by omega)
    generalize shF Q Q.vs.length 0 0 0 = o at key hpos
    have hne : ¬ o.2 = 0 := by omega
    simp at key
    simp [c1, h2, h2', key, hne, W]
theorem r15 (d : Nat) (p : Pin) {x y z : LV} (w : WfP p x y z) : ev (d + 10) 15 [.ag (pA p x y z)] = some (B true, []) := by
  rw [s15 (d + 9) _ rfl]
  obtain ⟨k1, h1, s1⟩ := r51 (d + 4) p w 1048576 (by omega)
  obtain ⟨bx, ex⟩ := SV.sv w.x
  obtain ⟨by', ey⟩ := SV.sv w.y
  obtain ⟨bz, ez⟩ := SV.sv w.z
  by_cases g1 : k1 < 0
  · subst ex ey ez
    simp [h1, g1]
  obtain ⟨q1, bp⟩ := s1 (by omega)
  have t1 := r53 (d + 4) p.w p.h p.pts p.fcs p.vs bp.pts bp.fcs (fun q hq => ⟨bp.ring q hq, (w.face q hq).nil⟩) bp.vs w.x w.y w.z
  have f1 := r65 d (pOf p) bp.n bp.vs
  have f2 := r66 d (pOf p) bp.n bp.vs
  have e1 := r55 (d + 4) (pOf p) bp.d bp.vs
  have n1 : p.fcs.length = (p.fcs.map (·.1)).length := by simp
  generalize shadeOf (pOf p) = r at f1 f2
  simp only [pOf, qV] at f1 f2 e1
  generalize p.fcs.map (·.1) = lp at t1 f1 f2 e1 n1
  subst ex ey ez
  simp [h1, g1, t1, f1, f2, e1, n1]
end Go.Proofs.Ytojjkjbffihppaa.walkS
