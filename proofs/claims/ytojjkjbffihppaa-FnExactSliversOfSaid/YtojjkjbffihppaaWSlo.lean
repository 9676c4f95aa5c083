/- Slivers; the row SliversOf; no conditions. -/
import Derived.Test.YtojjkjbffihppaaWSlv
namespace Go.Proofs.Ytojjkjbffihppaa.walkS
open Go Go.Proofs.Ytojjkjbffihppaa.Ev
set_option linter.unusedSimpArgs false
set_option linter.unusedVariables false
/-- what spec takes: the corners before a -/
noncomputable def g1 (R : List Pt) (p : Pt) : Nat → Nat → Int → Int
  | 0, _, c => c
  | m + 1, b, c => g1 R p m (b + 1) (mxI c (dsI p (pn R b)))
noncomputable def g2 (R : List Pt) : Nat → Nat → Int → Int
  | 0, _, c => c
  | m + 1, a, c => g2 R m (a + 1) (g1 R (pn R a) a 0 c)
/-- what impl takes: all corners -/
noncomputable def h2 (R : List Pt) : Nat → Nat → Int → Int
  | 0, _, c => c
  | m + 1, a, c => h2 R m (a + 1) (g1 R (pn R a) R.length 0 c)
theorem mxI_le {a b x : Int} : mxI a b ≤ x ↔ a ≤ x ∧ b ≤ x := by unfold mxI; split <;> omega
theorem g1_le {R : List Pt} {p : Pt} {x : Int} : ∀ (m b : Nat) (c : Int), g1 R p m b c ≤ x ↔ c ≤ x ∧ ∀ k, b ≤ k → k < b + m → dsI p (pn R k) ≤ x := by
  intro m
  induction m with
  | zero => intro b c; simp only [g1]; exact ⟨fun h => ⟨h, fun k h1 h2 => by omega⟩, fun h => h.1⟩
  | succ m ih =>
    intro b c
    simp only [g1, ih, mxI_le]
    constructor
    · intro ⟨⟨h1, h2⟩, h3⟩
      refine ⟨h1, fun k k1 k2 => ?_⟩
      by_cases hk : k = b
      · subst hk; exact h2
      · exact h3 k (by omega) (by omega)
    · intro ⟨h1, h2⟩
      exact ⟨⟨h1, h2 b (by omega) (by omega)⟩, fun k k1 k2 => h2 k (by omega) (by omega)⟩
theorem g2_le {R : List Pt} {x : Int} : ∀ (m a : Nat) (c : Int), g2 R m a c ≤ x ↔ c ≤ x ∧ ∀ i, a ≤ i → i < a + m → ∀ k, k < i → dsI (pn R i) (pn R k) ≤ x := by
  intro m
  induction m with
  | zero => intro a c; simp only [g2]; exact ⟨fun h => ⟨h, fun i h1 h2 => by omega⟩, fun h => h.1⟩
  | succ m ih =>
    intro a c
    simp only [g2, ih, g1_le]
    constructor
    · intro ⟨⟨h1, h2⟩, h3⟩
      refine ⟨h1, fun i i1 i2 k hk => ?_⟩
      by_cases hi : i = a
      · subst hi; exact h2 k (by omega) (by omega)
      · exact h3 i (by omega) (by omega) k hk
    · intro ⟨h1, h2⟩
      exact ⟨⟨h1, fun k _ k2 => h2 a (by omega) (by omega) k (by omega)⟩, fun i i1 i2 => h2 i (by omega) (by omega)⟩
theorem h2_le {R : List Pt} {x : Int} : ∀ (m a : Nat) (c : Int), h2 R m a c ≤ x ↔ c ≤ x ∧ ∀ i, a ≤ i → i < a + m → ∀ k, k < R.length → dsI (pn R i) (pn R k) ≤ x := by
  intro m
  induction m with
  | zero => intro a c; simp only [h2]; exact ⟨fun h => ⟨h, fun i h1 h2 => by omega⟩, fun h => h.1⟩
  | succ m ih =>
    intro a c
    simp only [h2, ih, g1_le]
    constructor
    · intro ⟨⟨h1, h2⟩, h3⟩
      refine ⟨h1, fun i i1 i2 k hk => ?_⟩
      by_cases hi : i = a
      · subst hi; exact h2 k (by omega) (by omega)
      · exact h3 i (by omega) (by omega) k hk
    · intro ⟨h1, h2⟩
      exact ⟨⟨h1, fun k _ k2 => h2 a (by omega) (by omega) k (by omega)⟩, fun i i1 i2 => h2 i (by omega) (by omega)⟩
theorem pn_ok {R : List Pt} (h : R.all okP = true) {i : Nat} (hi : i < R.length) : okP (pn R i) = true := by
  obtain ⟨x, hx⟩ := get_lt hi
  rw [pn_get hx]
  exact List.all_eq_true.1 h x (List.mem_of_getElem? hx)
theorem ds_comm {p q : Pt} (hp : okP p = true) (hq : okP q = true) : dsI p q = dsI q p := by unfold dsI; rw [sqI_comm hp hq]
theorem far_same {R : List Pt} (h : R.all okP = true) : h2 R R.length 0 0 = g2 R R.length 0 0 := by
  have key : ∀ x, h2 R R.length 0 0 ≤ x ↔ g2 R R.length 0 0 ≤ x := by
    intro x
    rw [h2_le, g2_le]
    constructor
    · intro ⟨h1, h2⟩
      exact ⟨h1, fun i _ i2 k hk => h2 i (by omega) i2 k (by omega)⟩
    · intro ⟨h1, h2⟩
      refine ⟨h1, fun i _ i2 k hk => ?_⟩
      rcases Nat.lt_trichotomy k i with hl | hl | hl
      · exact h2 i (by omega) i2 k hl
      · subst hl; rw [ds_self (pn_ok h (by omega))]; exact h1
      · rw [ds_comm (pn_ok h (by omega)) (pn_ok h hk)]
        exact h2 k (by omega) (by omega) i hl
  have a := (key (g2 R R.length 0 0)).2 (Int.le_refl _)
  have b := (key (h2 R R.length 0 0)).1 (Int.le_refl _)
  omega
theorem l38_3 (d : Nat) (D : Dr) (tol : Int) (acc : List Int) (i : Nat) (R : List Pt) (hR : R.all okP = true) (hRb : R.length ≤ big) (a : Nat) (p : Pt) (ha : R[a]? = some p) : ∀ (n b : Nat) (c : Int), n + b = a →
    clC [1, 2, 6, 7, 8, 9, 10] [4, 5] (blk 4 (lp (evC (ev (d + 2)) b38_3) (clean [1, 2, 6, 7, 8, 9, 10, 11]) ⟨lookS [(1, I tol), (2, .bp (.sl 2) 0), (6, .rf (.sl 6) none 0 acc.length), (7, I i), (8, .rf (.sl 8) none 0 R.length), (9, I (c)), (10, I a), (11, I b)], lookM [((.sl 2), some (.box (dV D))), ((.sl 6), some (.arr 2 1 (acc.map iC))), ((.sl 8), some (.arr 127 2 (R.map pC)))]⟩)) =
      some (.nm, ⟨lookS [(1, I tol), (2, .bp (.sl 2) 0), (6, .rf (.sl 6) none 0 acc.length), (7, I i), (8, .rf (.sl 8) none 0 R.length), (9, I (g1 R p n b c)), (10, I a)], lookM [((.sl 2), some (.box (dV D))), ((.sl 6), some (.arr 2 1 (acc.map iC))), ((.sl 8), some (.arr 127 2 (R.map pC)))]⟩) := by
  intro n
  induction n with
  | zero =>
    intro b c hb
    have h0 : ¬ (b : Int) < (a : Int) := by omega
    rw [lp_step]
    simp [h0, g1]
  | succ n ih =>
    intro b c hb
    have h0 : (b : Int) < (a : Int) := by omega
    have hal : a < R.length := (List.getElem?_eq_some_iff.1 ha).1
    obtain ⟨q, hq⟩ := get_lt (l := R) (i := b) (by omega)
    have ha' : (a : Int) < (R.length : Int) := by omega
    have hb' : (b : Int) < (R.length : Int) := by omega
    have hw := wrap_nat (i := b) (by simp only [big] at hRb; omega)
    have cd := r100 d p q (List.all_eq_true.1 hR p (List.mem_of_getElem? ha)) (List.all_eq_true.1 hR q (List.mem_of_getElem? hq))
    have ih' := ih (b + 1) (mxI c (dsI p q)) (by omega)
    rw [lp_step]
    simp only [g1, pn_get hq]
    simp only [Int.natCast_add, Int.cast_ofNat_Int] at ih'
    simp [h0, ha, hq, ha', hb', cd, r99, hw, ih']
theorem l38_2 (d : Nat) (D : Dr) (tol : Int) (acc : List Int) (i : Nat) (R : List Pt) (hR : R.all okP = true) (hRb : R.length ≤ big) : ∀ (n a : Nat) (c : Int), n + a = R.length →
    clC [1, 2, 6, 7, 8, 9] [4, 5] (blk 2 (lp (evC (ev (d + 2)) b38_2) (clean [1, 2, 6, 7, 8, 9, 10]) ⟨lookS [(1, I tol), (2, .bp (.sl 2) 0), (6, .rf (.sl 6) none 0 acc.length), (7, I i), (8, .rf (.sl 8) none 0 R.length), (9, I (c)), (10, I a)], lookM [((.sl 2), some (.box (dV D))), ((.sl 6), some (.arr 2 1 (acc.map iC))), ((.sl 8), some (.arr 127 2 (R.map pC)))]⟩)) =
      some (.nm, ⟨lookS [(1, I tol), (2, .bp (.sl 2) 0), (6, .rf (.sl 6) none 0 acc.length), (7, I i), (8, .rf (.sl 8) none 0 R.length), (9, I (g2 R n a c))], lookM [((.sl 2), some (.box (dV D))), ((.sl 6), some (.arr 2 1 (acc.map iC))), ((.sl 8), some (.arr 127 2 (R.map pC)))]⟩) := by
  intro n
  induction n with
  | zero =>
    intro a c ha
    have h0 : ¬ (a : Int) < (R.length : Int) := by omega
    rw [lp_step]
    simp [h0, g2]
  | succ n ih =>
    intro a c ha
    have hlt : a < R.length := by omega
    have h0 : (a : Int) < (R.length : Int) := by omega
    obtain ⟨p, hp⟩ := get_lt hlt
    have hw := wrap_nat (i := a) (by simp only [big] at hRb; omega)
    have inn := l38_3 d D tol acc i R hR hRb a p hp a 0 c (by omega)
    have ih' := ih (a + 1) (g1 R p a 0 c) (by omega)
    rw [lp_step]
    simp only [g2, pn_get hp]
    simp only [Int.natCast_add, Int.cast_ofNat_Int] at ih'
    simp at inn
    simp [h0, inn, hw, ih']
theorem l40_3 (d : Nat) (D : Dr) (tol : Int) (acc : List Int) (i : Nat) (R : List Pt) (hR : R.all okP = true) (hRb : R.length ≤ big) (a : Nat) (p : Pt) (ha : R[a]? = some p) : ∀ (n b : Nat) (c : Int), n + b = R.length →
    clC [1, 2, 6, 7, 8, 9, 25, 26, 32, 33, 34] [4, 5] (blk 5 (lp (evC (ev (d + 4)) b40_3) (clean [1, 2, 6, 7, 8, 9, 11, 25, 26, 32, 33, 34, 38, 39, 40]) ⟨lookS [(1, I tol), (2, .bp (.sl 2) 0), (6, .rf (.sl 6) none 0 acc.length), (7, I i), (8, .rf (.sl 8) none 0 R.length), (9, I (c)), (11, .bp (.sl 11) 0), (25, I D.fcs.length), (26, I i), (32, .rf (.sl 8) none 0 R.length), (33, I R.length), (34, I a), (38, .rf (.sl 8) none 0 R.length), (39, I R.length), (40, I b)], lookM [((.sl 2), some (.box (dV D))), ((.sl 6), some (.arr 2 1 (acc.map iC))), ((.sl 8), some (.arr 127 2 (R.map pC))), ((.sl 11), some (.box (pV p)))]⟩)) =
      some (.nm, ⟨lookS [(1, I tol), (2, .bp (.sl 2) 0), (6, .rf (.sl 6) none 0 acc.length), (7, I i), (8, .rf (.sl 8) none 0 R.length), (9, I (g1 R p n b c)), (25, I D.fcs.length), (26, I i), (32, .rf (.sl 8) none 0 R.length), (33, I R.length), (34, I a)], lookM [((.sl 2), some (.box (dV D))), ((.sl 6), some (.arr 2 1 (acc.map iC))), ((.sl 8), some (.arr 127 2 (R.map pC)))]⟩) := by
  intro n
  induction n with
  | zero =>
    intro b c hb
    have h0 : ¬ (b : Int) < (R.length : Int) := by omega
    rw [lp_step]
    simp [h0, g1]
  | succ n ih =>
    intro b c hb
    have hlt : b < R.length := by omega
    have h0 : (b : Int) < (R.length : Int) := by omega
    obtain ⟨q, hq⟩ := get_lt hlt
    have hw := wrap_nat (i := b) (by simp only [big] at hRb; omega)
    have cd := r107 d p q (List.all_eq_true.1 hR p (List.mem_of_getElem? ha)) (List.all_eq_true.1 hR q (List.mem_of_getElem? hq))
    have ih' := ih (b + 1) (mxI c (dsI p q)) (by omega)
    rw [lp_step]
    simp only [g1, pn_get hq]
    simp only [Int.natCast_add, Int.cast_ofNat_Int] at ih'
    simp only [mxI] at ih' ⊢
    simp [h0, hq, cd, hw, ih']
theorem l40_2 (d : Nat) (D : Dr) (tol : Int) (acc : List Int) (i : Nat) (R : List Pt) (hR : R.all okP = true) (hRb : R.length ≤ big) : ∀ (n a : Nat) (c : Int), n + a = R.length →
    clC [1, 2, 6, 7, 8, 9, 25, 26] [4, 5] (blk 3 (lp (evC (ev (d + 4)) b40_2) (clean [1, 2, 6, 7, 8, 9, 25, 26, 32, 33, 34]) ⟨lookS [(1, I tol), (2, .bp (.sl 2) 0), (6, .rf (.sl 6) none 0 acc.length), (7, I i), (8, .rf (.sl 8) none 0 R.length), (9, I (c)), (25, I D.fcs.length), (26, I i), (32, .rf (.sl 8) none 0 R.length), (33, I R.length), (34, I a)], lookM [((.sl 2), some (.box (dV D))), ((.sl 6), some (.arr 2 1 (acc.map iC))), ((.sl 8), some (.arr 127 2 (R.map pC)))]⟩)) =
      some (.nm, ⟨lookS [(1, I tol), (2, .bp (.sl 2) 0), (6, .rf (.sl 6) none 0 acc.length), (7, I i), (8, .rf (.sl 8) none 0 R.length), (9, I (h2 R n a c)), (25, I D.fcs.length), (26, I i)], lookM [((.sl 2), some (.box (dV D))), ((.sl 6), some (.arr 2 1 (acc.map iC))), ((.sl 8), some (.arr 127 2 (R.map pC)))]⟩) := by
  intro n
  induction n with
  | zero =>
    intro a c ha
    have h0 : ¬ (a : Int) < (R.length : Int) := by omega
    rw [lp_step]
    simp [h0, h2]
  | succ n ih =>
    intro a c ha
    have hlt : a < R.length := by omega
    have h0 : (a : Int) < (R.length : Int) := by omega
    obtain ⟨p, hp⟩ := get_lt hlt
    have hw := wrap_nat (i := a) (by simp only [big] at hRb; omega)
    have inn := l40_3 d D tol acc i R hR hRb a p hp R.length 0 c (by omega)
    have ih' := ih (a + 1) (g1 R p R.length 0 c) (by omega)
    rw [lp_step]
    simp only [h2, pn_get hp]
    simp only [Int.natCast_add, Int.cast_ofNat_Int] at ih'
    simp at inn
    simp [h0, hp, inn, hw, ih']
noncomputable def slv (tol : Int) (D : Dr) (i : Nat) : Bool := match rg D.pts (frg D.fcs i) [] with | some r => decide (dblF r r.length 0 0 < W (tol * g2 r r.length 0 0)) | none => false
theorem poly_okP {l : List Pt} (h : polyOk l = true) : l.all okP = true := by
  simp only [polyOk, Bool.and_eq_true, decide_eq_true_eq] at h
  exact h.2.2.1
theorem l38 (d : Nat) (D : Dr) (hb : BdN D) (ho : drOk D = true) (tol : Int) : ∀ (n i : Nat) (acc r : List Int), n + i = D.fcs.length → acc ++ whN (slv tol D) n i = r → acc.length ≤ i →
    clC [6] [4, 5] (blk 0 (lp (evC (ev (d + 3)) b38_1) (clean [1, 2, 6, 7]) ⟨lookS [(1, I tol), (2, .bp (.sl 2) 0), (6, .rf (.sl 6) none 0 acc.length), (7, I i)], lookM [((.sl 2), some (.box (dV D))), ((.sl 6), some (.arr 2 1 (acc.map iC)))]⟩)) =
      some (.nm, ⟨lookS [(6, .rf (.sl 6) none 0 r.length)], lookM [((.sl 6), some (.arr 2 1 (r.map iC)))]⟩) := by
  intro n
  induction n with
  | zero =>
    intro i acc r hi hr2 ha
    have h0 : ¬ (i : Int) < (D.fcs.length : Int) := by omega
    have e : acc = r := by simpa [whN] using hr2
    subst e
    rw [lp_step]
    simp [h0]
  | succ n ih =>
    intro i acc r hi hr2 ha
    have hlt : i < D.fcs.length := by omega
    have h0 : (i : Int) < (D.fcs.length : Int) := by omega
    obtain ⟨f, hf⟩ := get_lt hlt
    obtain ⟨R, hr, hp⟩ := dr_face ho hf
    have hRb : R.length ≤ big := by rw [rg_len hr]; simpa using hb.ring f (List.mem_of_getElem? hf)
    have hfb := hb.fcs
    have hb2 : acc.length + 1 ≤ big := by omega
    have hw := wrap_nat (i := i) (by simp only [big] at hfb; omega)
    have c1 := r98 d D [] hb i f R hf hr
    have c2 := r101 (d + 2) R hRb
    have inn := l38_2 (d + 1) D tol acc i R (poly_okP hp) hRb R.length 0 0 (by omega)
    have hr' := whN_at hr2
    have es : slv tol D i = decide (dblF R R.length 0 0 < W (tol * g2 R R.length 0 0)) := by unfold slv frg; rw [hf]; simp only [Option.getD_some, hr]
    rw [es] at hr'
    simp only [W] at hr'
    simp at inn
    rw [lp_step]
    by_cases hs : dblF R R.length 0 0 < IntKind.i64.wrap (tol * g2 R R.length 0 0)
    · rw [decide_eq_true hs] at hr'
      have ih' := ih (i + 1) (acc ++ [(i : Int)]) r (by omega) hr' (by simp; omega)
      simp only [Int.natCast_add, Int.cast_ofNat_Int] at ih'
      simp at ih'
      simp [h0, hf, c1, c2, inn, hs, hb2, hw, ih']
    · rw [decide_eq_false hs] at hr'
      have ih' := ih (i + 1) acc r (by omega) hr' (by omega)
      simp only [Int.natCast_add, Int.cast_ofNat_Int] at ih'
      simp [h0, hf, c1, c2, inn, hs, hw, ih']
theorem l40 (d : Nat) (D : Dr) (hb : BdN D) (ho : drOk D = true) (tol : Int) : ∀ (n i : Nat) (acc r : List Int), n + i = D.fcs.length → acc ++ whN (slv tol D) n i = r → acc.length ≤ i →
    clC [6] [4, 5] (blk 1 (lp (evC (ev (d + 4)) b40_1) (clean [1, 2, 6, 25, 26]) ⟨lookS [(1, I tol), (2, .bp (.sl 2) 0), (6, .rf (.sl 6) none 0 acc.length), (25, I D.fcs.length), (26, I i)], lookM [((.sl 2), some (.box (dV D))), ((.sl 6), some (.arr 2 1 (acc.map iC)))]⟩)) =
      some (.nm, ⟨lookS [(6, .rf (.sl 6) none 0 r.length)], lookM [((.sl 6), some (.arr 2 1 (r.map iC)))]⟩) := by
  intro n
  induction n with
  | zero =>
    intro i acc r hi hr2 ha
    have h0 : ¬ (i : Int) < (D.fcs.length : Int) := by omega
    have e : acc = r := by simpa [whN] using hr2
    subst e
    rw [lp_step]
    simp [h0]
  | succ n ih =>
    intro i acc r hi hr2 ha
    have hlt : i < D.fcs.length := by omega
    have h0 : (i : Int) < (D.fcs.length : Int) := by omega
    obtain ⟨f, hf⟩ := get_lt hlt
    obtain ⟨R, hr, hp⟩ := dr_face ho hf
    have hRb : R.length ≤ big := by rw [rg_len hr]; simpa using hb.ring f (List.mem_of_getElem? hf)
    have hfb := hb.fcs
    have hb2 : acc.length + 1 ≤ big := by omega
    have hw := wrap_nat (i := i) (by simp only [big] at hfb; omega)
    have c1 := r106 (d + 1) D hb i f R hf hr
    have c2 := r108 (d + 3) R hRb
    have inn := l40_2 d D tol acc i R (poly_okP hp) hRb R.length 0 0 (by omega)
    rw [far_same (poly_okP hp)] at inn
    have hr' := whN_at hr2
    have es : slv tol D i = decide (dblF R R.length 0 0 < W (tol * g2 R R.length 0 0)) := by unfold slv frg; rw [hf]; simp only [Option.getD_some, hr]
    rw [es] at hr'
    simp only [W] at hr'
    simp at inn
    rw [lp_step]
    by_cases hs : dblF R R.length 0 0 < IntKind.i64.wrap (tol * g2 R R.length 0 0)
    · rw [decide_eq_true hs] at hr'
      have ih' := ih (i + 1) (acc ++ [(i : Int)]) r (by omega) hr' (by simp; omega)
      simp only [Int.natCast_add, Int.cast_ofNat_Int] at ih'
      simp at ih'
      simp [h0, hf, c1, c2, inn, hs, hb2, hw, ih']
    · rw [decide_eq_false hs] at hr'
      have ih' := ih (i + 1) acc r (by omega) hr' (by omega)
      simp only [Int.natCast_add, Int.cast_ofNat_Int] at ih'
      simp [h0, hf, c1, c2, inn, hs, hw, ih']
noncomputable def slvOf (D : Dr) (tol : Int) : LV × Int := ifb (drOk D) (ifb (inR tol 1 2000) (.ow 2 1 ((whN (slv tol D) D.fcs.length 0).map iC), 0) (.nl, 2)) (.nl, 1)
theorem r38 (d : Nat) (D : Dr) (hb : BdN D) (tol : Int) : ev (d + 7) 38 [.ag (dV D), I tol] = some (.tu [(slvOf D tol).1, I (slvOf D tol).2], []) := by
  rw [s38 (d + 6) _ rfl]
  have c1 := r96 d D [] hb
  have c2 := r97 (d + 5) tol 1 2000
  unfold slvOf
  cases h1 : drOk D
  · rw [h1] at c1
    simp [c1]
  rw [h1] at c1
  cases h2 : inR tol 1 2000
  · rw [h2] at c2
    simp [c1, c2]
  rw [h2] at c2
  have key := l38 (d + 3) D hb h1 tol D.fcs.length 0 [] _ (by omega) rfl (by simp)
  rw [List.nil_append] at key
  simp at key
  simp [c1, c2, key]
theorem r40 (d : Nat) (D : Dr) (hb : BdN D) (tol : Int) : ev (d + 7) 40 [.ag (dV D), I tol] = some (.tu [(slvOf D tol).1, I (slvOf D tol).2], []) := by
  rw [s40 (d + 6) _ rfl]
  have c1 := r104 d D hb
  have c2 := r105 (d + 5) tol 1 2000
  unfold slvOf
  cases h1 : drOk D
  · rw [h1] at c1
    simp [c1]
  rw [h1] at c1
  cases h2 : inR tol 1 2000
  · rw [h2] at c2
    simp [c1, c2]
  rw [h2] at c2
  have key := l40 (d + 2) D hb h1 tol D.fcs.length 0 [] _ (by omega) rfl (by simp)
  rw [List.nil_append] at key
  simp at key
  simp [c1, c2, key]
end Go.Proofs.Ytojjkjbffihppaa.walkS
