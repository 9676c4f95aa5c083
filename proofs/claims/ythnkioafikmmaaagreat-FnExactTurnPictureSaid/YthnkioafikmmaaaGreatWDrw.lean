/- Drawings that are valid; no conditions. -/
import Derived.Test.YthnkioafikmmaaaGreatWPoly
namespace Go.Proofs.YthnkioafikmmaaaGreat.walkS
open Go Go.Proofs.YthnkioafikmmaaaGreat.Ev
set_option linter.unusedSimpArgs false
set_option linter.unusedVariables false
abbrev dR (D : Dr) (rest : List LV) : List LV := I D.w :: I D.h :: .ro 2 (D.pts.map pC) :: .ro 2 (D.fcs.map fS) :: rest
def pn (P : List Pt) (j : Nat) : Pt := (P[j]?).getD (0, 0)
theorem pn_get {P : List Pt} {j : Nat} {x : Pt} (h : P[j]? = some x) : pn P j = x := by unfold pn; rw [h]; rfl
/-- the corners of a ring -/
def rg (P : List Pt) : List Int → List Pt → Option (List Pt)
  | [], acc => some acc
  | x :: xs, acc => ifb (inR x 0 (W (P.length - 1))) (rg P xs (acc ++ [pn P x.toNat])) none
theorem rg_len {P : List Pt} : ∀ {l : List Int} {acc r : List Pt}, rg P l acc = some r → r.length = acc.length + l.length := by
  intro l
  induction l with
  | nil => intro acc r h; simp only [rg, Option.some.injEq] at h; subst h; simp
  | cons x l ih =>
    intro acc r h
    simp only [rg] at h
    cases hx : inR x 0 (W (P.length - 1)) <;> rw [hx] at h
    · cases h
    · have := ih h
      simp only [List.length_append, List.length_cons, List.length_nil] at this ⊢
      omega
theorem in_ring {P : List Pt} {x : Int} (hb : P.length ≤ big) (h : inR x 0 (W (P.length - 1)) = true) : 0 ≤ x ∧ x.toNat < P.length := by
  rw [W, IntWalk.i64_in _ (by simp only [big] at hb; omega)] at h
  simp only [inR, Bool.and_eq_true, decide_eq_true_eq] at h
  omega
def rgR : Option (List Pt) → Option (Ex × St)
  | some r => some (.nm, ⟨lookS [(6, .rf (.sl 6) none 0 r.length)], lookM [(Ev.Id.sl 6, some (.arr 72 2 (r.map pC)))]⟩)
  | none => some (.rt, ⟨lookS [(4, .nl), (5, B false)], lookM []⟩)
def rgV : Option (List Pt) → LV
  | some r => .tu [.ow 72 2 (r.map pC), B true]
  | none => .tu [.nl, B false]
theorem l103 (d : Nat) (D : Dr) (rest : List LV) (l : List Int) (hb : l.length ≤ big) (hp : D.pts.length ≤ big) : ∀ (n i : Nat) (acc : List Pt), n + i = l.length → acc.length = i →
    clC [6] [4, 5] (blk 0 (lp (evC (ev (d + 1)) b103_1) (clean [0, 1, 6, 7]) ⟨lookS [(0, .rp (dR D rest)), (1, .ro 1 (l.map iC)), (6, .rf (.sl 6) none 0 acc.length), (7, I i)], lookM [((.sl 6), some (.arr 72 2 (acc.map pC)))]⟩)) =
      rgR (rg D.pts (l.drop i) acc) := by
  intro n
  induction n with
  | zero =>
    intro i acc hi ha
    have h0 : ¬ (i : Int) < (l.length : Int) := by omega
    rw [lp_step, List.drop_eq_nil_of_le (by omega)]
    simp [h0, rg, rgR]
  | succ n ih =>
    intro i acc hi ha
    have hlt : i < l.length := by omega
    have h0 : (i : Int) < (l.length : Int) := by omega
    obtain ⟨x, hx⟩ := get_lt hlt
    have hw := wrap_nat (i := i) (by simp [big] at hb; omega)
    have hb2 : acc.length + 1 ≤ big := by omega
    have hc := r71 d x 0 (W ((D.pts.length : Int) - 1))
    rw [lp_step, drop_get hx]
    simp only [rg]
    cases hk : inR x 0 (W ((D.pts.length : Int) - 1))
    · rw [hk] at hc
      simp only [W] at hc
      simp [h0, hx, hc, rgR]
    · rw [hk] at hc
      obtain ⟨x0, x1⟩ := in_ring hp hk
      obtain ⟨p, hpx⟩ := get_lt x1
      have ih' := ih (i + 1) (acc ++ [pn D.pts x.toNat]) (by omega) (by simp; omega)
      rw [pn_get hpx] at ih' ⊢
      simp only [W] at hc
      simp at ih'
      simp [h0, hx, hc, x0, hpx, hb2, hw, ih']
theorem l108 (d : Nat) (P : List Pt) (l : List Int) (hb : l.length ≤ big) (hp : P.length ≤ big) : ∀ (n i : Nat) (acc : List Pt), n + i = l.length → acc.length = i →
    clC [6] [4, 5] (blk 0 (lp (evC (ev (d + 1)) b108_1) (clean [0, 6, 10, 11, 12]) ⟨lookS [(0, .ro 2 (P.map pC)), (6, .rf (.sl 6) none 0 acc.length), (10, .ro 1 (l.map iC)), (11, I l.length), (12, I i)], lookM [((.sl 6), some (.arr 72 2 (acc.map pC)))]⟩)) =
      rgR (rg P (l.drop i) acc) := by
  intro n
  induction n with
  | zero =>
    intro i acc hi ha
    have h0 : ¬ (i : Int) < (l.length : Int) := by omega
    rw [lp_step, List.drop_eq_nil_of_le (by omega)]
    simp [h0, rg, rgR]
  | succ n ih =>
    intro i acc hi ha
    have hlt : i < l.length := by omega
    have h0 : (i : Int) < (l.length : Int) := by omega
    obtain ⟨x, hx⟩ := get_lt hlt
    have hw := wrap_nat (i := i) (by simp [big] at hb; omega)
    have hb2 : acc.length + 1 ≤ big := by omega
    have hc := r40 d x 0 (W ((P.length : Int) - 1))
    rw [lp_step, drop_get hx]
    simp only [rg]
    cases hk : inR x 0 (W ((P.length : Int) - 1))
    · rw [hk] at hc
      simp only [W] at hc
      simp [h0, hx, hc, rgR]
    · rw [hk] at hc
      obtain ⟨x0, x1⟩ := in_ring hp hk
      obtain ⟨p, hpx⟩ := get_lt x1
      have ih' := ih (i + 1) (acc ++ [pn P x.toNat]) (by omega) (by simp; omega)
      rw [pn_get hpx] at ih' ⊢
      simp only [W] at hc
      simp at ih'
      simp [h0, hx, hc, x0, hpx, hb2, hw, ih']
theorem r103 (d : Nat) (D : Dr) (rest : List LV) (l : List Int) (hb : l.length ≤ big) (hp : D.pts.length ≤ big) : ev (d + 2) 103 [.rp (dR D rest), .ro 1 (l.map iC)] = some (rgV (rg D.pts l []), []) := by
  rw [s103 (d + 1) _ rfl]
  have key := l103 d D rest l hb hp l.length 0 [] (by omega) rfl
  rw [List.drop_zero] at key
  cases h : rg D.pts l [] <;> rw [h] at key <;> simp [rgR] at key <;> simp [key, rgV]
theorem r108 (d : Nat) (P : List Pt) (l : List Int) (hb : l.length ≤ big) (hp : P.length ≤ big) : ev (d + 2) 108 [.ro 2 (P.map pC), .ro 1 (l.map iC)] = some (rgV (rg P l []), []) := by
  rw [s108 (d + 1) _ rfl]
  have key := l108 d P l hb hp l.length 0 [] (by omega) rfl
  rw [List.drop_zero] at key
  cases h : rg P l [] <;> rw [h] at key <;> simp [rgR] at key <;> simp [key, rgV]
/-! ### points -/
def dupF (P : List Pt) (p : Pt) : Nat → Nat → Bool
  | 0, _ => false
  | m + 1, j => ifb (decide (p = pn P j)) true (dupF P p m (j + 1))
def ixF (P : List Pt) (p : Pt) : Nat → Nat → Int
  | 0, _ => -1
  | m + 1, j => ifb (decide (p = pn P j)) (j : Int) (ixF P p m (j + 1))
theorem ix_dup {P L : List Pt} {p : Pt} : ∀ (m j : Nat), (∀ k, j ≤ k → k < j + m → pn P k = pn L k) → decide (0 ≤ ixF L p m j) = dupF P p m j := by
  intro m
  induction m with
  | zero => intro j _; rfl
  | succ m ih =>
    intro j h
    have e := ih (j + 1) fun k h1 h2 => h k (by omega) (by omega)
    have e0 := h j (Nat.le_refl _) (by omega)
    by_cases hq : p = pn L j
    · have e1 : ixF L p (m + 1) j = (j : Int) := by simp [ixF, hq]
      have e2 : dupF P p (m + 1) j = true := by simp [dupF, e0, hq]
      rw [e1, e2]
      simp
    · have e1 : ixF L p (m + 1) j = ixF L p m (j + 1) := by simp [ixF, hq]
      have e2 : dupF P p (m + 1) j = dupF P p m (j + 1) := by simp [dupF, e0, hq]
      rw [e1, e2]
      exact e
def pOk (w h : Int) (P : List Pt) : Nat → Nat → Bool
  | 0, _ => true
  | m + 1, i => ifb (inR (pn P i).1 0 w && inR (pn P i).2 0 h) (ifb (dupF P (pn P i) i 0) false (pOk w h P m (i + 1))) false
theorem l101_2 (d : Nat) (D : Dr) (rest : List LV) (hb : D.pts.length ≤ big) (i : Nat) (hi : i < D.pts.length) (p : Pt) (hp : D.pts[i]? = some p) : ∀ (n j : Nat), n + j = i →
    clC [0, 3] [2] (blk 2 (lp (evC (ev (d + 1)) b101_2) (clean [0, 3, 4]) ⟨lookS [(0, .rp (dR D rest)), (3, I i), (4, I j)], lookM []⟩)) =
      ifb (dupF D.pts p n j) (some (.rt, ⟨lookS [(2, B false)], lookM []⟩)) (some (.nm, ⟨lookS [(0, .rp (dR D rest)), (3, I i)], lookM []⟩)) := by
  intro n
  induction n with
  | zero =>
    intro j hj
    have h0 : ¬ (j : Int) < (i : Int) := by omega
    rw [lp_step]
    simp [h0, dupF]
  | succ n ih =>
    intro j hj
    have h0 : (j : Int) < (i : Int) := by omega
    obtain ⟨q, hq⟩ := get_lt (l := D.pts) (i := j) (by omega)
    have hw := wrap_nat (i := j) (by simp [big] at hb; omega)
    have ih' := ih (j + 1) (by omega)
    rw [lp_step]
    simp only [dupF, pn_get hq]
    by_cases hpq : p = q
    · subst hpq
      simp [h0, hp, hq]
    · try simp at ih'
      simp [h0, hp, hq, hpq, eqq_ne hpq, hw, ih']
theorem l101 (d : Nat) (D : Dr) (rest : List LV) (hb : D.pts.length ≤ big) : ∀ (n i : Nat), n + i = D.pts.length →
    clC [] [2] (blk 0 (lp (evC (ev (d + 1)) b101_1) (clean [0, 3]) ⟨lookS [(0, .rp (dR D rest)), (3, I i)], lookM []⟩)) =
      ifb (pOk D.w D.h D.pts n i) (some (.nm, ⟨lookS [], lookM []⟩)) (some (.rt, ⟨lookS [(2, B false)], lookM []⟩)) := by
  intro n
  induction n with
  | zero =>
    intro i hi
    have h0 : ¬ (i : Int) < (D.pts.length : Int) := by omega
    rw [lp_step]
    simp [h0, pOk]
  | succ n ih =>
    intro i hi
    have hlt : i < D.pts.length := by omega
    have h0 : (i : Int) < (D.pts.length : Int) := by omega
    obtain ⟨p, hp⟩ := get_lt hlt
    have hw := wrap_nat (i := i) (by simp [big] at hb; omega)
    have c1 := r71 d p.1 0 D.w
    have c2 := r71 d p.2 0 D.h
    have inn := l101_2 d D rest hb i hlt p hp i 0 (by omega)
    have ih' := ih (i + 1) (by omega)
    rw [lp_step]
    simp only [pOk, pn_get hp]
    cases h1 : inR p.1 0 D.w
    · rw [h1] at c1
      simp [h0, hp, c1]
    rw [h1] at c1
    cases h2 : inR p.2 0 D.h
    · rw [h2] at c2
      simp [h0, hp, c1, c2]
    rw [h2] at c2
    cases h3 : dupF D.pts p i 0
    · rw [h3] at inn
      try simp at inn ih'
      try simp at ih'
      simp [h0, hp, c1, c2, hw, inn, ih']
    · rw [h3] at inn
      try simp at inn
      simp [h0, hp, c1, c2, inn]
theorem r101 (d : Nat) (D : Dr) (rest : List LV) (hb : D.pts.length ≤ big) : ev (d + 2) 101 [.rp (dR D rest)] = some (B (decide (D.pts.length ≤ 48) && pOk D.w D.h D.pts D.pts.length 0), []) := by
  rw [s101 (d + 1) _ rfl]
  have key := l101 d D rest hb D.pts.length 0 (by omega)
  by_cases h1 : D.pts.length ≤ 48
  · have h1' : ¬ (48 : Int) < (D.pts.length : Int) := by omega
    cases h : pOk D.w D.h D.pts D.pts.length 0 <;> rw [h] at key <;> simp at key <;> simp [h1, h1', key]
  · have h1' : (48 : Int) < (D.pts.length : Int) := by omega
    simp [h1, h1']
theorem l160 (d : Nat) (P : List Pt) (hb : P.length ≤ big) (p : Pt) : ∀ (n i : Nat), n + i = P.length →
    clC [] [4] (blk 0 (lp (evC (ev d) b160_1) (clean [0, 3, 7, 8]) ⟨lookS [(0, .ro 2 (P.map pC)), (3, .bp (.sl 3) 0), (7, I P.length), (8, I i)], lookM [((.sl 3), some (.box (pV p)))]⟩)) =
      ifb (decide (0 ≤ ixF P p n i)) (some (.rt, ⟨lookS [(4, I (ixF P p n i))], lookM []⟩)) (some (.nm, ⟨lookS [], lookM []⟩)) := by
  intro n
  induction n with
  | zero =>
    intro i hi
    have h0 : ¬ (i : Int) < (P.length : Int) := by omega
    rw [lp_step]
    simp [h0, ixF]
  | succ n ih =>
    intro i hi
    have hlt : i < P.length := by omega
    have h0 : (i : Int) < (P.length : Int) := by omega
    obtain ⟨q, hq⟩ := get_lt hlt
    have hw := wrap_nat (i := i) (by simp [big] at hb; omega)
    have ih' := ih (i + 1) (by omega)
    rw [lp_step]
    simp only [ixF, pn_get hq]
    by_cases hpq : p = q
    · subst hpq
      simp [h0, hq]
    · try simp at ih'
      simp [h0, hq, hpq, eqq_ne hpq, hw, ih']
theorem ixF_neg {P : List Pt} {p : Pt} : ∀ (m j : Nat), ¬ 0 ≤ ixF P p m j → ixF P p m j = -1 := by
  intro m
  induction m with
  | zero => intro j _; rfl
  | succ m ih =>
    intro j h
    simp only [ixF] at h ⊢
    cases hd : decide (p = pn P j) <;> rw [hd] at h
    · exact ih _ h
    · exact absurd (by simp) h
theorem r160 (d : Nat) (P : List Pt) (hb : P.length ≤ big) (p : Pt) : ev (d + 1) 160 [.ro 2 (P.map pC), .ag (pV p)] = some (I (ixF P p P.length 0), []) := by
  rw [s160 d _ rfl]
  have key := l160 d P hb p P.length 0 (by omega)
  by_cases h : 0 ≤ ixF P p P.length 0
  · simp [h] at key
    simp [key]
  · have e := ixF_neg _ _ h
    simp [h] at key
    simp [key, e]
theorem r106 (d : Nat) (P : List Pt) (hb : P.length ≤ big) (p : Pt) : ev (d + 2) 106 [.ro 2 (P.map pC), .ag (pV p)] = some (B (dupF P p P.length 0), []) := by
  rw [s106 (d + 1) _ rfl]
  have key := r160 d P hb p
  rw [← ix_dup (P := P) (L := P) P.length 0 fun k _ _ => rfl]
  simp [key]
theorem l66 (d : Nat) (D : Dr) (hb : D.pts.length ≤ big) : ∀ (n i : Nat), n + i = D.pts.length →
    clC [1] [2] (blk 0 (lp (evC (ev (d + 3)) b66_1) (clean [1, 32, 33, 34]) ⟨lookS [(1, .bp (.sl 1) 0), (32, .ro 2 (D.pts.map pC)), (33, I D.pts.length), (34, I i)], lookM [((.sl 1), some (.box (dV D)))]⟩)) =
      ifb (pOk D.w D.h D.pts n i) (some (.nm, ⟨lookS [(1, .bp (.sl 1) 0)], lookM [((.sl 1), some (.box (dV D)))]⟩)) (some (.rt, ⟨lookS [(2, B false)], lookM []⟩)) := by
  intro n
  induction n with
  | zero =>
    intro i hi
    have h0 : ¬ (i : Int) < (D.pts.length : Int) := by omega
    rw [lp_step]
    simp [h0, pOk]
  | succ n ih =>
    intro i hi
    have hlt : i < D.pts.length := by omega
    have h0 : (i : Int) < (D.pts.length : Int) := by omega
    obtain ⟨p, hp⟩ := get_lt hlt
    have hw := wrap_nat (i := i) (by simp [big] at hb; omega)
    have c1 := r40 (d + 2) p.1 0 D.w
    have c2 := r40 (d + 2) p.2 0 D.h
    have hle : i ≤ D.pts.length := by omega
    have c3 := r106 (d + 1) (D.pts.take i) (by rw [List.length_take]; omega) p
    have e3 : dupF (D.pts.take i) p (D.pts.take i).length 0 = dupF D.pts p i 0 := by
      have el : (D.pts.take i).length = i := by rw [List.length_take]; omega
      rw [el, ← ix_dup (P := D.pts.take i) (L := D.pts.take i) i 0 fun k _ _ => rfl]
      exact ix_dup i 0 fun k _ h2 => by unfold pn; rw [List.getElem?_take_of_lt (by omega)]
    rw [e3] at c3
    have ih' := ih (i + 1) (by omega)
    rw [lp_step]
    simp only [pOk, pn_get hp]
    cases h1 : inR p.1 0 D.w
    · rw [h1] at c1
      simp [h0, hp, c1]
    rw [h1] at c1
    cases h2 : inR p.2 0 D.h
    · rw [h2] at c2
      simp [h0, hp, c1, c2]
    rw [h2] at c2
    cases h3 : dupF D.pts p i 0
    · rw [h3] at c3
      try simp at c3 ih'
      try simp at ih'
      simp [h0, hp, c1, c2, hle, c3, hw, ih']
    · rw [h3] at c3
      try simp at c3
      simp [h0, hp, c1, c2, hle, c3]
end Go.Proofs.YthnkioafikmmaaaGreat.walkS
