/- Faces that have an edge in common; no conditions. -/
import Derived.Test.YtmhddfikpfkeoaaWStr
namespace Go.Proofs.Ytmhddfikpfkeoaa.walkS
open Go Go.Proofs.Ytmhddfikpfkeoaa.Ev
set_option linter.unusedSimpArgs false
set_option linter.unusedVariables false
def anyN (b : Nat → Bool) : Nat → Nat → Bool
  | 0, _ => false
  | m + 1, i => b i || anyN b m (i + 1)
theorem anyN_same {b c : Nat → Bool} : ∀ m i, (∀ j, i ≤ j → j < i + m → b j = c j) → anyN b m i = anyN c m i := by
  intro m
  induction m with
  | zero => intro i _; rfl
  | succ m ih =>
    intro i h
    simp only [anyN, h i (Nat.le_refl _) (by omega), ih (i + 1) fun j h1 h2 => h j (by omega) (by omega)]
def orN (b : Nat → Bool) : Nat → Nat → Bool → Bool
  | 0, _, h => h
  | m + 1, i, h => orN b m (i + 1) (ifb h true (b i))
theorem orN_t (b : Nat → Bool) : ∀ m i, orN b m i true = true := by
  intro m
  induction m with
  | zero => intro i; rfl
  | succ m ih => intro i; simp only [orN, ifb_t, ih]
theorem orN_any (b : Nat → Bool) : ∀ m i, orN b m i false = anyN b m i := by
  intro m
  induction m with
  | zero => intro i; rfl
  | succ m ih =>
    intro i
    simp only [orN, ifb_f, anyN]
    cases b i
    · rw [ih, Bool.false_or]
    · rw [orN_t, Bool.true_or]
/-- is the edge at place j of a ring that between a and b? -/
def heB (R : List Int) (a b : Int) (j : Nat) : Bool := (decide (rn R j = a) && decide (rn R (j + 1) = b)) || (decide (rn R j = b) && decide (rn R (j + 1) = a))
def hasE (R : List Int) (a b : Int) : Bool := anyN (heB R a b) R.length 0
theorem l226 (d : Nat) (R : List Int) (hb : R.length ≤ big) (a b : Int) : ∀ (n j : Nat), n + j = R.length →
    clC [] [6] (blk 0 (lp (evC (ev d) b226_1) (clean [0, 1, 2, 7]) ⟨lookS [(0, .ro 1 (R.map iC)), (1, I a), (2, I b), (7, I j)], lookM []⟩)) =
      ifb (anyN (heB R a b) n j) (some (.rt, ⟨lookS [(6, B true)], lookM []⟩)) (some (.nm, ⟨lookS [], lookM []⟩)) := by
  intro n
  induction n with
  | zero =>
    intro j hj
    have h0 : ¬ (j : Int) < (R.length : Int) := by omega
    rw [lp_step]
    simp [h0, anyN]
  | succ n ih =>
    intro j hj
    have hk : j < R.length := by omega
    have h0 : (j : Int) < (R.length : Int) := by omega
    obtain ⟨k2, hk2⟩ : ∃ k2, k2 = (j + 1) % R.length := ⟨_, rfl⟩
    obtain ⟨y1, hy1⟩ := get_lt hk
    obtain ⟨y2, hy2⟩ := get_lt (l := R) (i := k2) (by rw [hk2]; exact Nat.mod_lt _ (by omega))
    have tm := tm_nat hk2
    simp only [Int.natCast_add, Int.cast_ofNat_Int] at tm
    simp only [big] at hb
    have hw := wrap_nat (i := j) (by omega)
    have hne : ¬ R = [] := by intro e; rw [e] at hk; simp at hk
    have eb : heB R a b j = ((decide (y1 = a) && decide (y2 = b)) || (decide (y1 = b) && decide (y2 = a))) := by
      unfold heB
      rw [rn_get (Nat.mod_eq_of_lt hk).symm hy1, rn_get hk2 hy2]
    have ih' := ih (j + 1) (by omega)
    simp only [Int.natCast_add, Int.cast_ofNat_Int] at ih'
    rw [lp_step]

    by_cases c1 : y1 = a
    · by_cases c2 : y2 = b
      · have e : heB R a b j = true := by rw [eb]; simp [c1, c2]
        simp only [anyN, e, Bool.true_or]
        simp [h0, hy1, hy2, tm, hw, hne, eq_true c1, eq_true c2]
      · by_cases c3 : y1 = b
        · by_cases c4 : y2 = a
          · have e : heB R a b j = true := by rw [eb]; simp [eq_true c3, eq_true c4]
            simp only [anyN, e, Bool.true_or]
            simp [h0, hy1, hy2, tm, hw, hne, eq_true c1, eq_false c2, eq_true c3, eq_true c4]
          · have e : heB R a b j = false := by rw [eb]; simp [eq_false c2, eq_false c4]
            simp only [anyN, e, Bool.false_or]
            simp [h0, hy1, hy2, tm, hw, hne, eq_true c1, eq_false c2, eq_true c3, eq_false c4, ih']
        · have e : heB R a b j = false := by rw [eb]; simp [eq_false c2, eq_false c3]
          simp only [anyN, e, Bool.false_or]
          simp [h0, hy1, hy2, tm, hw, hne, eq_true c1, eq_false c2, eq_false c3, ih']
    · by_cases c3 : y1 = b
      · by_cases c4 : y2 = a
        · have e : heB R a b j = true := by rw [eb]; simp [eq_true c3, eq_true c4]
          simp only [anyN, e, Bool.true_or]
          simp [h0, hy1, hy2, tm, hw, hne, eq_false c1, eq_true c3, eq_true c4]
        · have e : heB R a b j = false := by rw [eb]; simp [eq_false c1, eq_false c4]
          simp only [anyN, e, Bool.false_or]
          simp [h0, hy1, hy2, tm, hw, hne, eq_false c1, eq_true c3, eq_false c4, ih']
      · have e : heB R a b j = false := by rw [eb]; simp [eq_false c1, eq_false c3]
        simp only [anyN, e, Bool.false_or]
        simp [h0, hy1, hy2, tm, hw, hne, eq_false c1, eq_false c3, ih']
theorem r226 (d : Nat) (R : List Int) (hb : R.length ≤ big) (a b : Int) : ev (d + 1) 226 [.ro 1 (R.map iC), I a, I b] = some (B (hasE R a b), []) := by
  rw [s226 d _ rfl]
  have key := l226 d R hb a b R.length 0 (by omega)
  unfold hasE
  cases h : anyN (heB R a b) R.length 0 <;> rw [h] at key <;> simp at key <;> simp [key]
/-- have two faces an edge in common? -/
def comE (Rk Rf : List Int) (j : Nat) : Bool := hasE Rf (rn Rk j) (rn Rk (j + 1))
def adj (F : List Fc) (k f : Nat) : Bool := orN (comE (fr F k) (fr F f)) (fr F k).length 0 false
def nearP (F : List Fc) (k f : Nat) : Bool := !decide (f = k) && adj F k f
def near (F : List Fc) (k : Nat) : List Int := whN (nearP F k) F.length 0
theorem fr_get {F : List Fc} {i : Nat} {f : Fc} (h : F[i]? = some f) : fr F i = f.2 := by unfold fr; rw [h]; rfl
theorem l186_2 (d : Nat) (D : Dr) (rest : List LV) (hb : BdN D) (k i : Nat) (g : Fc) (hg : D.fcs[k]? = some g) (f : Fc) (hf : D.fcs[i]? = some f) (acc : List Int) : ∀ (n j : Nat) (h : Bool), n + j = g.2.length →
    clC [0, 1, 5, 6, 7, 8] [4] (blk 2 (lp (evC (ev (d + 1)) b186_2) (clean [0, 1, 5, 6, 7, 8, 9]) ⟨lookS [(0, .rp (dR D rest)), (1, I k), (5, .rf (.sl 5) none 0 acc.length), (6, .ro 1 (g.2.map iC)), (7, I i), (8, B h), (9, I j)], lookM [((.sl 5), some (.arr 2 1 (acc.map iC)))]⟩)) =
      some (.nm, ⟨lookS [(0, .rp (dR D rest)), (1, I k), (5, .rf (.sl 5) none 0 acc.length), (6, .ro 1 (g.2.map iC)), (7, I i), (8, B (orN (comE g.2 f.2) n j h))], lookM [((.sl 5), some (.arr 2 1 (acc.map iC)))]⟩) := by
  intro n
  induction n with
  | zero =>
    intro j h hj
    have h0 : ¬ (j : Int) < (g.2.length : Int) := by omega
    rw [lp_step]
    simp [h0, orN]
  | succ n ih =>
    intro j h hj
    obtain ⟨gn, R⟩ := g
    simp only at hj ⊢
    have hk : j < R.length := by omega
    have h0 : (j : Int) < (R.length : Int) := by omega
    have hRb : R.length ≤ big := hb.ring _ (List.mem_of_getElem? hg)
    obtain ⟨k2, hk2⟩ : ∃ k2, k2 = (j + 1) % R.length := ⟨_, rfl⟩
    obtain ⟨y1, hy1⟩ := get_lt hk
    obtain ⟨y2, hy2⟩ := get_lt (l := R) (i := k2) (by rw [hk2]; exact Nat.mod_lt _ (by omega))
    have tm := tm_nat hk2
    simp only [Int.natCast_add, Int.cast_ofNat_Int] at tm
    simp only [big] at hRb
    have hw := wrap_nat (i := j) (by omega)
    have hne : ¬ R = [] := by intro e; rw [e] at hk; simp at hk
    have e : comE R f.2 j = hasE f.2 y1 y2 := by unfold comE; rw [rn_get (Nat.mod_eq_of_lt hk).symm hy1, rn_get hk2 hy2]
    have c := r226 d f.2 (hb.ring f (List.mem_of_getElem? hf)) y1 y2
    rw [← e] at c
    have ih' := ih (j + 1) (ifb h true (comE R f.2 j)) (by simp only; omega)
    simp only [Int.natCast_add, Int.cast_ofNat_Int] at ih'
    simp only [orN]
    rw [lp_step]
    cases h
    · simp only [ifb_f] at ih' ⊢
      simp [h0, hf, hy1, hy2, tm, hw, hne, c, ih']
    · simp only [ifb_t] at ih' ⊢
      simp [h0, hw, ih']
theorem l186 (d : Nat) (D : Dr) (rest : List LV) (hb : BdN D) (k : Nat) (g : Fc) (hg : D.fcs[k]? = some g) : ∀ (n i : Nat) (acc r : List Int), n + i = D.fcs.length → acc ++ whN (nearP D.fcs k) n i = r → acc.length ≤ i →
    clC [5] [4] (blk 0 (lp (evC (ev (d + 1)) b186_1) (clean [0, 1, 5, 6, 7]) ⟨lookS [(0, .rp (dR D rest)), (1, I k), (5, .rf (.sl 5) none 0 acc.length), (6, .ro 1 (g.2.map iC)), (7, I i)], lookM [((.sl 5), some (.arr 2 1 (acc.map iC)))]⟩)) =
      some (.nm, ⟨lookS [(5, .rf (.sl 5) none 0 r.length)], lookM [((.sl 5), some (.arr 2 1 (r.map iC)))]⟩) := by
  intro n
  induction n with
  | zero =>
    intro i acc r hi hr ha
    have h0 : ¬ (i : Int) < (D.fcs.length : Int) := by omega
    have e : acc = r := by simpa [whN] using hr
    subst e
    rw [lp_step]
    simp [h0]
  | succ n ih =>
    intro i acc r hi hr ha
    have hlt : i < D.fcs.length := by omega
    have h0 : (i : Int) < (D.fcs.length : Int) := by omega
    have hfb := hb.fcs
    obtain ⟨f, hf⟩ := get_lt hlt
    have hw := wrap_nat (i := i) (by simp only [big] at hfb; omega)
    have hb2 : acc.length + 1 ≤ big := by omega
    have hr' := whN_at hr
    have inn := l186_2 d D rest hb k i g hg f hf acc g.2.length 0 false (by omega)
    have ea : orN (comE g.2 f.2) g.2.length 0 false = adj D.fcs k i := by unfold adj; rw [fr_get hg, fr_get hf]
    rw [ea] at inn
    simp at inn
    rw [lp_step]
    unfold nearP at hr'
    by_cases hik : i = k
    · rw [decide_eq_true hik] at hr'
      have hik2 : (i : Int) = (k : Int) := by omega
      have ih' := ih (i + 1) acc r (by omega) hr' (by omega)
      simp only [Int.natCast_add, Int.cast_ofNat_Int] at ih'
      simp [h0, inn, hw, eq_true hik, eq_true hik2, ih']
    · rw [decide_eq_false hik] at hr'
      have hik2 : ¬ (i : Int) = (k : Int) := by omega
      cases ha2 : adj D.fcs k i
      · rw [ha2] at hr' inn
        have ih' := ih (i + 1) acc r (by omega) hr' (by omega)
        simp only [Int.natCast_add, Int.cast_ofNat_Int] at ih'
        simp [h0, inn, hw, hik, hik2, ih']
      · rw [ha2] at hr' inn
        have ih' := ih (i + 1) (acc ++ [(i : Int)]) r (by omega) hr' (by simp; omega)
        simp only [Int.natCast_add, Int.cast_ofNat_Int] at ih'
        simp at ih'
        simp [h0, inn, hb2, hw, hik, hik2, ih']
theorem r186 (d : Nat) (D : Dr) (rest : List LV) (hb : BdN D) (k : Nat) (hk : k < D.fcs.length) : ev (d + 2) 186 [.rp (dR D rest), I k] = some (.ow 2 1 ((near D.fcs k).map iC), []) := by
  rw [s186 (d + 1) _ rfl]
  obtain ⟨g, hg⟩ := get_lt hk
  have key := l186 d D rest hb k g hg D.fcs.length 0 [] (near D.fcs k) (by omega) rfl (by simp)
  simp at key
  simp [hg, key]
/-! ### the program's edges -/
def ed (R : List Int) (j : Nat) : Pt := (mnI (rn R j) (rn R (j + 1)), mxI (rn R j) (rn R (j + 1)))
def edN (R : List Int) : Nat → Nat → List Pt
  | 0, _ => []
  | m + 1, i => ed R i :: edN R m (i + 1)
theorem edN_len (R : List Int) : ∀ m i, (edN R m i).length = m := by
  intro m
  induction m with
  | zero => intro i; rfl
  | succ m ih => intro i; simp [edN, ih]
theorem edN_any (R : List Int) (p : Pt → Bool) : ∀ m i, (edN R m i).any p = anyN (fun j => p (ed R j)) m i := by
  intro m
  induction m with
  | zero => intro i; rfl
  | succ m ih => intro i; simp only [edN, List.any_cons, anyN, ih]
def eds (R : List Int) : List Pt := edN R R.length 0
theorem l191 (d : Nat) (R : List Int) (hb : R.length ≤ big) : ∀ (n i : Nat) (acc r : List Pt), n + i = R.length → acc ++ edN R n i = r → acc.length = i →
    clC [3] [2] (blk 0 (lp (evC (ev d) b191_1) (clean [0, 3, 8, 9, 10]) ⟨lookS [(0, .ro 1 (R.map iC)), (3, .rf (.sl 3) none 0 acc.length), (8, .ro 1 (R.map iC)), (9, I R.length), (10, I i)], lookM [((.sl 3), some (.arr 225 2 (acc.map pC)))]⟩)) =
      some (.nm, ⟨lookS [(3, .rf (.sl 3) none 0 r.length)], lookM [((.sl 3), some (.arr 225 2 (r.map pC)))]⟩) := by
  intro n
  induction n with
  | zero =>
    intro i acc r hi hr ha
    have h0 : ¬ (i : Int) < (R.length : Int) := by omega
    have e : acc = r := by simpa [edN] using hr
    subst e
    rw [lp_step]
    simp [h0]
  | succ n ih =>
    intro i acc r hi hr ha
    have hk : i < R.length := by omega
    have h0 : (i : Int) < (R.length : Int) := by omega
    obtain ⟨k2, hk2⟩ : ∃ k2, k2 = (i + 1) % R.length := ⟨_, rfl⟩
    obtain ⟨y1, hy1⟩ := get_lt hk
    obtain ⟨y2, hy2⟩ := get_lt (l := R) (i := k2) (by rw [hk2]; exact Nat.mod_lt _ (by omega))
    have tm := tm_nat hk2
    simp only [Int.natCast_add, Int.cast_ofNat_Int] at tm
    have hw := wrap_nat (i := i) (by simp only [big] at hb; omega)
    have hne : ¬ R = [] := by intro e; rw [e] at hk; simp at hk
    have hb2 : acc.length + 1 ≤ big := by omega
    have e : ed R i = (mnI y1 y2, mxI y1 y2) := by unfold ed; rw [rn_get (Nat.mod_eq_of_lt hk).symm hy1, rn_get hk2 hy2]
    have ih' := ih (i + 1) (acc ++ [ed R i]) r (by omega) (by rw [List.append_assoc]; exact hr) (by simp; omega)
    rw [e] at ih'
    simp only [Int.natCast_add, Int.cast_ofNat_Int] at ih'
    simp [mnI, mxI] at ih'
    rw [lp_step]
    simp [h0, hy1, hy2, tm, hw, hne, hb2, ih']
theorem r191 (d : Nat) (R : List Int) (hb : R.length ≤ big) : ev (d + 1) 191 [.ro 1 (R.map iC)] = some (.ow 225 2 ((eds R).map pC), []) := by
  rw [s191 d _ rfl]
  have key := l191 d R hb R.length 0 [] (eds R) (by omega) rfl rfl
  simp at key
  simp [key]
/-! ### looked for -/
def fsI (p : Pt → Bool) : Nat → List Pt → Int
  | _, [] => -1
  | i, x :: l => ifb (p x) (i : Int) (fsI p (i + 1) l)
theorem fsI_any (p : Pt → Bool) : ∀ (l : List Pt) (i : Nat), decide (0 ≤ fsI p i l) = l.any p := by
  intro l
  induction l with
  | nil => intro i; rfl
  | cons x l ih =>
    intro i
    cases h : p x
    · have e : fsI p i (x :: l) = fsI p (i + 1) l := by simp only [fsI, h, ifb_f]
      simp only [e, List.any_cons, h, Bool.false_or]
      exact ih (i + 1)
    · have e : fsI p i (x :: l) = (i : Int) := by simp only [fsI, h, ifb_t]
      simp [e, h]
theorem fsI_neg (p : Pt → Bool) : ∀ (l : List Pt) (i : Nat), l.any p = false → fsI p i l = -1 := by
  intro l
  induction l with
  | nil => intro i _; rfl
  | cons x l ih =>
    intro i h
    simp only [List.any_cons, Bool.or_eq_false_iff] at h
    simp only [fsI, h.1, ifb_f]
    exact ih (i + 1) h.2
theorem l230 (d : Nat) (l : List Pt) (hb : l.length ≤ big) (e : Pt) : ∀ (n i : Nat), n + i = l.length →
    clC [] [4] (blk 0 (lp (evC (ev d) b230_1) (clean [0, 3, 7, 8]) ⟨lookS [(0, .ro 2 (l.map pC)), (3, .bp (.sl 3) 0), (7, I l.length), (8, I i)], lookM [((.sl 3), some (.box [I e.1, I e.2]))]⟩)) =
      ifb ((l.drop i).any (fun x => decide (x = e))) (some (.rt, ⟨lookS [(4, I (fsI (fun x => decide (x = e)) i (l.drop i)))], lookM []⟩)) (some (.nm, ⟨lookS [], lookM []⟩)) := by
  intro n
  induction n with
  | zero =>
    intro i hi
    have h0 : ¬ (i : Int) < (l.length : Int) := by omega
    rw [List.drop_eq_nil_of_le (by omega), lp_step]
    simp [h0]
  | succ n ih =>
    intro i hi
    have hlt : i < l.length := by omega
    have h0 : (i : Int) < (l.length : Int) := by omega
    obtain ⟨x, hx⟩ := get_lt hlt
    have hw := wrap_nat (i := i) (by simp only [big] at hb; omega)
    have ih' := ih (i + 1) (by omega)
    simp only [Int.natCast_add, Int.cast_ofNat_Int] at ih'
    rw [drop_get hx]
    simp only [List.any_cons, fsI]
    rw [lp_step]

    by_cases h : e = x
    · subst h
      have e1 : decide (e = e) = true := by simp
      rw [e1]
      simp [h0, hx]
    · have h' : ¬ x = e := fun q => h q.symm
      have e1 : decide (x = e) = false := decide_eq_false h'
      rw [e1]
      simp only [Bool.false_or, ifb_f]
      simp [h0, hx, eqq_ne h, hw, ih']
theorem l229 (d : Nat) (f : Nat) (u v : List LV) (p : Pt → Bool) (hp : ∀ e : Pt, ev d f [.ag [I e.1, I e.2], .rp u, .rp v] = some (B (p e), [])) (l : List Pt) (hb : l.length ≤ big) : ∀ (n i : Nat), n + i = l.length →
    clC [] [4] (blk 0 (lp (evC (ev d) b229_1) (clean [0, 1, 7, 8]) ⟨lookS [(0, .ro 2 (l.map pC)), (1, .cl f [.rp u, .rp v]), (7, I l.length), (8, I i)], lookM []⟩)) =
      ifb ((l.drop i).any (p)) (some (.rt, ⟨lookS [(4, I (fsI (p) i (l.drop i)))], lookM []⟩)) (some (.nm, ⟨lookS [], lookM []⟩)) := by
  intro n
  induction n with
  | zero =>
    intro i hi
    have h0 : ¬ (i : Int) < (l.length : Int) := by omega
    rw [List.drop_eq_nil_of_le (by omega), lp_step]
    simp [h0]
  | succ n ih =>
    intro i hi
    have hlt : i < l.length := by omega
    have h0 : (i : Int) < (l.length : Int) := by omega
    obtain ⟨x, hx⟩ := get_lt hlt
    have hw := wrap_nat (i := i) (by simp only [big] at hb; omega)
    have ih' := ih (i + 1) (by omega)
    simp only [Int.natCast_add, Int.cast_ofNat_Int] at ih'
    rw [drop_get hx]
    simp only [List.any_cons, fsI]
    rw [lp_step]

    have hc := hp x
    cases h : p x
    · rw [h] at hc
      simp only [Bool.false_or, ifb_f]
      simp [h0, hx, hc, hw, ih']
    · rw [h] at hc
      simp [h0, hx, hc]
theorem r230 (d : Nat) (l : List Pt) (hb : l.length ≤ big) (e : Pt) : ev (d + 1) 230 [.ro 2 (l.map pC), .ag [I e.1, I e.2]] = some (I (fsI (fun x => decide (x = e)) 0 l), []) := by
  rw [s230 d _ rfl]
  have key := l230 d l hb e l.length 0 (by omega)
  rw [List.drop_zero] at key
  cases h : l.any fun x => decide (x = e)
  · rw [h] at key
    rw [fsI_neg _ _ _ h]
    simp at key
    simp [key]
  · rw [h] at key
    simp at key
    simp [key]
theorem r194 (d : Nat) (l : List Pt) (hb : l.length ≤ big) (e : Pt) : ev (d + 2) 194 [.ro 2 (l.map pC), .ag [I e.1, I e.2]] = some (B (l.any fun x => decide (x = e)), []) := by
  rw [s194 (d + 1) _ rfl]
  have h := r230 d l hb e
  have q := fsI_any (fun x => decide (x = e)) l 0
  rw [← q]
  simp [h]
theorem r229 (d : Nat) (f : Nat) (u v : List LV) (p : Pt → Bool) (hp : ∀ e : Pt, ev d f [.ag [I e.1, I e.2], .rp u, .rp v] = some (B (p e), [])) (l : List Pt) (hb : l.length ≤ big) : ev (d + 1) 229 [.ro 2 (l.map pC), .cl f [.rp u, .rp v]] = some (I (fsI p 0 l), []) := by
  rw [s229 d _ rfl]
  have key := l229 d f u v p hp l hb l.length 0 (by omega)
  rw [List.drop_zero] at key
  cases h : l.any p
  · rw [h] at key
    rw [fsI_neg _ _ _ h]
    simp at key
    simp [key]
  · rw [h] at key
    simp at key
    simp [key]
theorem r192 (d : Nat) (f : Nat) (u v : List LV) (p : Pt → Bool) (hp : ∀ e : Pt, ev d f [.ag [I e.1, I e.2], .rp u, .rp v] = some (B (p e), [])) (l : List Pt) (hb : l.length ≤ big) : ev (d + 2) 192 [.ro 2 (l.map pC), .cl f [.rp u, .rp v]] = some (B (l.any p), []) := by
  rw [s192 (d + 1) _ rfl]
  have h := r229 d f u v p hp l hb
  rw [← fsI_any p l 0]
  simp [h]
/-! ### the lists of edges of all faces -/
abbrev eW (e : Pt) : List Value := [.int .i64 e.1, .int .i64 e.2]
theorem lift_eW (l : List Pt) : Ev.lift (l.map eW) = l.map pC := lift_map (fun _ => rfl) l
theorem low_eC (l : List Pt) : low (l.map pC) = some (l.map eW) := low_map (fun _ => rfl) l
attribute [simp] lift_eW low_eC
abbrev eR (l : List Pt) : List Cell := [.sl true 225 2 (l.map eW)]
abbrev eS (l : List Pt) : List Cell := [.sl false 225 2 (l.map eW)]
theorem shut_eR (l : List (List Pt)) : shut (l.map eR) = l.map eS := by
  simp only [shut, List.map_map]
  exact List.map_congr_left fun a _ => rfl
attribute [simp high] shut_eR
theorem r193 (d : Nat) (E : List (List Pt)) (m : Nat) (em : List Pt) (hm : E[m]? = some em) (hb : em.length ≤ big) (e : Pt) : ev (d + 3) 193 [.ag [I e.1, I e.2], .rp [.ro 1 (E.map eS)], .rp [I m]] = some (B (em.any fun x => decide (x = e)), []) := by
  rw [s193 (d + 2) _ rfl]
  have h := r194 d em hb e
  simp [hm, h]
attribute [simp] subI
theorem l132 (d : Nat) (F : List Fc) (hb : F.length ≤ big) (hr : ∀ f ∈ F, f.2.length ≤ big) : ∀ (n i : Nat) (acc r : List (List Pt)), n + i = F.length → acc ++ (F.drop i).map (fun f => eds f.2) = r → acc.length = i →
    clC [3] [2] (blk 0 (lp (evC (ev (d + 1)) b132_1) (clean [3, 11, 12, 13]) ⟨lookS [(3, .bp (.sl 3) 0), (11, .ro 2 (F.map fS)), (12, I F.length), (13, I i)], lookM [((.sl 3), some (.box [.rf (.ce 3 0) none 0 acc.length])), ((.ce 3 0), some (.arr 222 1 (acc.map eR)))]⟩)) =
      some (.nm, ⟨lookS [(3, .bp (.sl 3) 0)], lookM [((.sl 3), some (.box [.rf (.ce 3 0) none 0 r.length])), ((.ce 3 0), some (.arr 222 1 (r.map eR)))]⟩) := by
  intro n
  induction n with
  | zero =>
    intro i acc r hi hr2 ha
    have h0 : ¬ (i : Int) < (F.length : Int) := by omega
    rw [List.drop_eq_nil_of_le (by omega)] at hr2
    have e : acc = r := by simpa using hr2
    subst e
    rw [lp_step]
    simp [h0]
  | succ n ih =>
    intro i acc r hi hr2 ha
    have hlt : i < F.length := by omega
    have h0 : (i : Int) < (F.length : Int) := by omega
    obtain ⟨f, hf⟩ := get_lt hlt
    have hw := wrap_nat (i := i) (by simp only [big] at hb; omega)
    have hb2 : acc.length + 1 ≤ big := by omega
    have hc := r191 d f.2 (hr f (List.mem_of_getElem? hf))
    rw [drop_get hf, List.map_cons] at hr2
    have ih' := ih (i + 1) (acc ++ [eds f.2]) r (by omega) (by rw [List.append_assoc]; exact hr2) (by simp; omega)
    generalize eds f.2 = es at hc ih'
    simp only [Int.natCast_add, Int.cast_ofNat_Int] at ih'
    simp at ih'
    rw [lp_step]
    simp [h0, hf, hc, hb2, hw, fillU, adsOf, List.mapM_cons, ih']
end Go.Proofs.Ytmhddfikpfkeoaa.walkS
