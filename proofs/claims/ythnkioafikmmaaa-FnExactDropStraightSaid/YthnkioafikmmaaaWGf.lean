/- Valid polygons are simple ones: what the program reckons, in the plain geometry's words; no conditions. -/
import Derived.Test.YthnkioafikmmaaaWGe
namespace Go.Proofs.Ythnkioafikmmaaa.walkS
open Go Go.Proofs.Ythnkioafikmmaaa.Ev
set_option linter.unusedSimpArgs false
set_option linter.unusedVariables false
/-! ### what the program reckons is this geometry -/
theorem mul_bd {x y : Int} (hx : -20000 ≤ x ∧ x ≤ 20000) (hy : -20000 ≤ y ∧ y ≤ 20000) : -400000000 ≤ x * y ∧ x * y ≤ 400000000 := by
  have h1 : 0 ≤ (20000 - x) * (20000 - y) := Int.mul_nonneg (by omega) (by omega)
  have h2 : 0 ≤ (20000 + x) * (20000 + y) := Int.mul_nonneg (by omega) (by omega)
  have h3 : 0 ≤ (20000 - x) * (20000 + y) := Int.mul_nonneg (by omega) (by omega)
  have h4 : 0 ≤ (20000 + x) * (20000 - y) := Int.mul_nonneg (by omega) (by omega)
  have e1 : (20000 - x) * (20000 - y) = 400000000 - 20000 * x - 20000 * y + x * y := by grind
  have e2 : (20000 + x) * (20000 + y) = 400000000 + 20000 * x + 20000 * y + x * y := by grind
  have e3 : (20000 - x) * (20000 + y) = 400000000 - 20000 * x + 20000 * y - x * y := by grind
  have e4 : (20000 + x) * (20000 - y) = 400000000 + 20000 * x - 20000 * y - x * y := by grind
  generalize x * y = z at *
  omega
def OkP (p : Pt) : Prop := (0 ≤ p.1 ∧ p.1 ≤ 20000) ∧ 0 ≤ p.2 ∧ p.2 ≤ 20000
theorem okP_iff {p : Pt} : okP p = true ↔ OkP p := by
  unfold okP inR OkP
  simp only [Bool.and_eq_true, decide_eq_true_eq]
theorem crs_eq {a b c : Pt} (ha : OkP a) (hb : OkP b) (hc : OkP c) : crs a b c = Geo.crs a b c := by
  unfold OkP at *
  unfold crs Geo.crs
  have w1 : W (b.1 - a.1) = b.1 - a.1 := IntWalk.i64_in _ (by omega)
  have w2 : W (c.2 - a.2) = c.2 - a.2 := IntWalk.i64_in _ (by omega)
  have w3 : W (b.2 - a.2) = b.2 - a.2 := IntWalk.i64_in _ (by omega)
  have w4 : W (c.1 - a.1) = c.1 - a.1 := IntWalk.i64_in _ (by omega)
  have m1 := mul_bd (x := b.1 - a.1) (y := c.2 - a.2) (by omega) (by omega)
  have m2 := mul_bd (x := b.2 - a.2) (y := c.1 - a.1) (by omega) (by omega)
  rw [w1, w2, w3, w4]
  generalize (b.1 - a.1) * (c.2 - a.2) = x at *
  generalize (b.2 - a.2) * (c.1 - a.1) = y at *
  have w5 : W x = x := IntWalk.i64_in _ (by omega)
  have w6 : W y = y := IntWalk.i64_in _ (by omega)
  rw [w5, w6]
  exact IntWalk.i64_in _ (by omega)
theorem inR_btw {x a b : Int} : inR x (mnI a b) (mxI a b) = true ↔ Geo.btwI x a b := by
  unfold inR mnI mxI Geo.btwI
  simp only [Bool.and_eq_true, decide_eq_true_eq]
  split <;> split <;> omega
theorem sd_zero {a b c : Pt} : sd a b c = 0 ↔ crs a b c = 0 := by
  unfold sd
  split
  · omega
  · split <;> omega
theorem onB_iff {a b c : Pt} (ha : OkP a) (hb : OkP b) (hc : OkP c) : onB a b c = true ↔ Geo.On a b c := by
  unfold onB Geo.On
  rw [Bool.and_eq_true, Bool.and_eq_true, decide_eq_true_eq, sd_zero, crs_eq ha hb hc, inR_btw, inR_btw]
theorem sd_opp {x y : Int} {s t : Int} (hs : s = if 0 < x then 1 else if x < 0 then -1 else 0) (ht : t = if 0 < y then 1 else if y < 0 then -1 else 0) : W (s * t) < 0 ↔ Geo.opp x y := by
  unfold Geo.opp
  have w : ∀ z : Int, -1 ≤ z ∧ z ≤ 1 → W z = z := fun z h => IntWalk.i64_in _ (by omega)
  by_cases h1 : 0 < x <;> by_cases h2 : x < 0 <;> by_cases h3 : 0 < y <;> by_cases h4 : y < 0 <;> simp only [h1, h2, h3, h4, if_true, if_false] at hs ht <;> subst hs <;> subst ht <;> rw [w _ (by decide)] <;> simp <;> omega
theorem touB_iff {a b c e : Pt} (ha : OkP a) (hb : OkP b) (hc : OkP c) (he : OkP e) : touB a b c e = true ↔ Geo.Tch a b c e := by
  unfold touB crB Geo.Tch
  rw [Bool.or_eq_true, Bool.or_eq_true, Bool.or_eq_true, Bool.or_eq_true, Bool.and_eq_true, decide_eq_true_eq, decide_eq_true_eq, onB_iff ha hb hc, onB_iff ha hb he, onB_iff hc he ha, onB_iff hc he hb,
    sd_opp (x := Geo.crs a b c) (y := Geo.crs a b e) (by unfold sd; rw [crs_eq ha hb hc]) (by unfold sd; rw [crs_eq ha hb he]),
    sd_opp (x := Geo.crs c e a) (y := Geo.crs c e b) (by unfold sd; rw [crs_eq hc he ha]) (by unfold sd; rw [crs_eq hc he hb])]
theorem badAt_iff {a b c : Pt} (ha : OkP a) (hb : OkP b) (hc : OkP c) : badAt a b c = true ↔ Geo.Bad a b c := by
  unfold badAt Geo.Bad
  rw [Bool.or_eq_true, Bool.or_eq_true, decide_eq_true_eq, onB_iff ha hb hc, onB_iff hb hc ha]
theorem inOk_iff {l : List Pt} {i : Nat} : ∀ (m j : Nat), inOk l i m j = true ↔ ∀ k, j ≤ k → k < j + m → (k + 1) % l.length ≠ i → touB (pt l i) (pt l (i + 1)) (pt l k) (pt l (k + 1)) = false := by
  intro m
  induction m with
  | zero => intro j; simp only [inOk, true_iff]; intro k h1 h2; omega
  | succ m ih =>
    intro j
    simp only [inOk]
    by_cases h : (j + 1) % l.length = i
    · rw [decide_eq_true h]
      simp only [ifb]
      rw [ih]
      constructor
      · intro q k h1 h2 h3
        by_cases e : k = j
        · subst e; exact absurd h h3
        · exact q k (by omega) (by omega) h3
      · intro q k h1 h2 h3
        exact q k (by omega) (by omega) h3
    · rw [decide_eq_false h]
      simp only [ifb]
      cases ht : touB (pt l i) (pt l (i + 1)) (pt l j) (pt l (j + 1))
      · simp only
        rw [ih]
        constructor
        · intro q k h1 h2 h3
          by_cases e : k = j
          · subst e; exact ht
          · exact q k (by omega) (by omega) h3
        · intro q k h1 h2 h3
          exact q k (by omega) (by omega) h3
      · simp only
        constructor
        · intro q; cases q
        · intro q
          have := q j (Nat.le_refl _) (by omega) h
          rw [ht] at this
          cases this
theorem oOk_iff {l : List Pt} : ∀ (m i : Nat), oOk l m i = true ↔ ∀ k, i ≤ k → k < i + m → badAt (pt l k) (pt l (k + 1)) (pt l (k + 2)) = false ∧ inOk l k (l.length - (k + 2)) (k + 2) = true := by
  intro m
  induction m with
  | zero => intro i; simp only [oOk, true_iff]; intro k h1 h2; omega
  | succ m ih =>
    intro i
    simp only [oOk]
    cases hb : badAt (pt l i) (pt l (i + 1)) (pt l (i + 2))
    · simp only [ifb]
      cases hi : inOk l i (l.length - (i + 2)) (i + 2)
      · simp only
        constructor
        · intro q; cases q
        · intro q
          have := (q i (Nat.le_refl _) (by omega)).2
          rw [hi] at this
          cases this
      · simp only
        rw [ih]
        constructor
        · intro q k h1 h2
          by_cases e : k = i
          · subst e; exact ⟨hb, hi⟩
          · exact q k (by omega) (by omega)
        · intro q k h1 h2
          exact q k (by omega) (by omega)
    · simp only [ifb]
      constructor
      · intro q; cases q
      · intro q
        have := (q i (Nat.le_refl _) (by omega)).1
        rw [hb] at this
        cases this
theorem pt_per {l : List Pt} (i : Nat) : pt l (i + l.length) = pt l i := by unfold pt; rw [Nat.add_mod_right]
theorem pt_ok {l : List Pt} (h : ∀ p ∈ l, OkP p) (hn : 0 < l.length) (i : Nat) : OkP (pt l i) := by
  unfold pt
  have hi := Nat.mod_lt i hn
  rw [List.getElem?_eq_getElem hi]
  exact h _ (List.getElem_mem hi)
/-- corners all looked at: a simple polygon -/
theorem simple_iff {l : List Pt} (h : ∀ p ∈ l, OkP p) (hn : 3 ≤ l.length) : oOk l l.length 0 = true ↔ Geo.Simple l.length (pt l) := by
  have ok := pt_ok h (by omega)
  rw [oOk_iff]
  constructor
  · intro q
    refine Geo.Simple.of (by omega) pt_per (fun i hi hb => ?_) (fun i j h1 h2 h3 ht => ?_)
    · have := (q i (Nat.zero_le _) (by omega)).1
      rw [(badAt_iff (ok _) (ok _) (ok _)).2 hb] at this
      cases this
    · have := (inOk_iff _ _).1 (q i (Nat.zero_le _) (by omega)).2 j (by omega) (by omega) (by
        by_cases e : j + 1 = l.length
        · rw [e, Nat.mod_self]; omega
        · rw [Nat.mod_eq_of_lt (by omega)]; omega)
      rw [(touB_iff (ok _) (ok _) (ok _) (ok _)).2 ht] at this
      cases this
  · intro s k _ hk
    refine ⟨?_, (inOk_iff _ _).2 fun j h1 h2 h3 => ?_⟩
    · cases hb : badAt (pt l k) (pt l (k + 1)) (pt l (k + 2))
      · rfl
      · exact absurd ((badAt_iff (ok _) (ok _) (ok _)).1 hb) (s.bad k)
    · cases ht : touB (pt l k) (pt l (k + 1)) (pt l j) (pt l (j + 1))
      · rfl
      · refine absurd ((touB_iff (ok _) (ok _) (ok _) (ok _)).1 ht) (s.tch k j (by omega) ?_)
        apply Classical.byContradiction
        intro q
        have e1 : j + 1 = l.length := by omega
        have e2 : k = 0 := by omega
        rw [e1, Nat.mod_self] at h3
        exact h3 e2.symm
theorem mul_pos_bd {x y : Int} (hx : 0 ≤ x ∧ x ≤ 20000) (hy : 0 ≤ y ∧ y ≤ 20000) : 0 ≤ x * y ∧ x * y ≤ 400000000 :=
  ⟨Int.mul_nonneg hx.1 hy.1, (mul_bd (by omega) (by omega)).2⟩
theorem dbl_areaP {l : List Pt} (h : ∀ p ∈ l, OkP p) (hn : 0 < l.length) : ∀ (m i : Nat) (a : Int), i + m ≤ 100 → (-400000000 * (i : Int) ≤ a ∧ a ≤ 400000000 * (i : Int)) → dblF l m i a = a + (Geo.areaP (pt l) (i + m) - Geo.areaP (pt l) i) := by
  intro m
  induction m with
  | zero => intro i a _ _; simp only [dblF, Nat.add_zero]; omega
  | succ m ih =>
    intro i a hi ha
    have h1 := pt_ok h hn i
    have h2 := pt_ok h hn (i + 1)
    unfold OkP at h1 h2
    have m1 := mul_pos_bd h1.1 h2.2
    have m2 := mul_pos_bd h1.2 h2.1
    have e : Geo.areaP (pt l) (i + 1) = Geo.areaP (pt l) i + ((pt l i).1 * (pt l (i + 1)).2 - (pt l i).2 * (pt l (i + 1)).1) := rfl
    simp only [dblF]
    generalize (pt l i).1 * (pt l (i + 1)).2 = x at *
    generalize (pt l i).2 * (pt l (i + 1)).1 = y at *
    have w1 : W x = x := IntWalk.i64_in _ (by omega)
    have w2 : W y = y := IntWalk.i64_in _ (by omega)
    have w3 : W (x - y) = x - y := IntWalk.i64_in _ (by omega)
    have w4 : W (a + (x - y)) = a + (x - y) := IntWalk.i64_in _ (by omega)
    rw [w1, w2, w3, w4, ih (i + 1) _ (by omega) (by omega), show i + 1 + m = i + (m + 1) by omega, e]
    omega
/-- what a valid polygon is -/
theorem poly_iff {l : List Pt} : polyOk l = true ↔ (3 ≤ l.length ∧ l.length ≤ 24) ∧ (∀ p ∈ l, OkP p) ∧ Geo.Simple l.length (pt l) ∧ 0 < Geo.areaP (pt l) l.length := by
  unfold polyOk
  simp only [Bool.and_eq_true, decide_eq_true_eq, List.all_eq_true]
  constructor
  · rintro ⟨h1, h2, h3, h4, h5⟩
    have ok : ∀ p ∈ l, OkP p := fun p hp => okP_iff.1 (h3 p hp)
    refine ⟨⟨h1, h2⟩, ok, (simple_iff ok h1).1 h4, ?_⟩
    rw [dbl_areaP ok (by omega) l.length 0 0 (by omega) (by omega), Nat.zero_add] at h5
    have : Geo.areaP (pt l) 0 = 0 := rfl
    omega
  · rintro ⟨⟨h1, h2⟩, ok, h4, h5⟩
    refine ⟨h1, h2, fun p hp => okP_iff.2 (ok p hp), (simple_iff ok h1).2 h4, ?_⟩
    rw [dbl_areaP ok (by omega) l.length 0 0 (by omega) (by omega), Nat.zero_add]
    have : Geo.areaP (pt l) 0 = 0 := rfl
    omega
theorem areaP_shift {n : Nat} {P : Nat → Int × Int} (h : ∀ i, P (i + n) = P i) : ∀ r, Geo.areaP (fun i => P (i + r)) n = Geo.areaP P n := by
  intro r
  induction r with
  | zero => rfl
  | succ r ih =>
    have key : ∀ (Q : Nat → Int × Int) (m : Nat), Geo.areaP (fun i => Q (i + 1)) m + ((Q 0).1 * (Q 1).2 - (Q 0).2 * (Q 1).1) = Geo.areaP Q (m + 1) := by
      intro Q m
      induction m with
      | zero => simp [Geo.areaP]
      | succ m ihm =>
        have e1 : Geo.areaP (fun i => Q (i + 1)) (m + 1) = Geo.areaP (fun i => Q (i + 1)) m + ((Q (m + 1)).1 * (Q (m + 1 + 1)).2 - (Q (m + 1)).2 * (Q (m + 1 + 1)).1) := rfl
        have e2 : Geo.areaP Q (m + 1 + 1) = Geo.areaP Q (m + 1) + ((Q (m + 1)).1 * (Q (m + 1 + 1)).2 - (Q (m + 1)).2 * (Q (m + 1 + 1)).1) := rfl
        omega
    have k := key (fun i => P (i + r)) n
    have e3 : Geo.areaP (fun i => P (i + r)) (n + 1) = Geo.areaP (fun i => P (i + r)) n + ((P (n + r)).1 * (P (n + 1 + r)).2 - (P (n + r)).2 * (P (n + 1 + r)).1) := rfl
    have p0 : P (n + r) = P (0 + r) := by rw [show n + r = 0 + r + n by omega]; exact h _
    have p1 : P (n + 1 + r) = P (1 + r) := by rw [show n + 1 + r = 1 + r + n by omega]; exact h _
    rw [p0, p1] at e3
    have e4 : (fun i => P (i + (r + 1))) = fun i => (fun i => P (i + r)) (i + 1) := by
      funext i
      show P (i + (r + 1)) = P (i + 1 + r)
      congr 1
      omega
    rw [e4]
    simp only at k ⊢
    omega
end Go.Proofs.Ythnkioafikmmaaa.walkS
