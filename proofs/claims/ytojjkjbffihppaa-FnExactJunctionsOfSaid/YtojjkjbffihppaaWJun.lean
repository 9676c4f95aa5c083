/- Junctions of a drawing; no conditions. -/
import Derived.Test.YtojjkjbffihppaaWStr
namespace Go.Proofs.Ytojjkjbffihppaa.walkS
open Go Go.Proofs.Ytojjkjbffihppaa.Ev
set_option linter.unusedSimpArgs false
set_option linter.unusedVariables false
/-- is a number in a ring? -/
def hasR (R : List Int) (p : Int) : Bool := decide (0 ≤ ixR R p R.length 0)
theorem hasR_neg {R : List Int} {p : Int} (h : ixR R p R.length 0 < 0) : hasR R p = false := by unfold hasR; exact decide_eq_false (by omega)
theorem hasR_pos {R : List Int} {p : Int} (h : ¬ ixR R p R.length 0 < 0) : hasR R p = true := by unfold hasR; exact decide_eq_true (by omega)
theorem l158 (d : Nat) (R : List Int) (hb : R.length ≤ big) (p : Int) : ∀ (n i : Nat), n + i = R.length →
    clC [] [4] (blk 0 (lp (evC (ev d) b158_1) (clean [0, 1, 5]) ⟨lookS [(0, .ro 1 (R.map iC)), (1, I p), (5, I i)], lookM []⟩)) =
      (if ixR R p n i < 0 then some (.nm, ⟨lookS [], lookM []⟩) else some (.rt, ⟨lookS [(4, B true)], lookM []⟩)) := by
  intro n
  induction n with
  | zero =>
    intro i hi
    have h0 : ¬ (i : Int) < (R.length : Int) := by omega
    rw [lp_step]
    simp [h0, ixR]
  | succ n ih =>
    intro i hi
    have hlt : i < R.length := by omega
    have h0 : (i : Int) < (R.length : Int) := by omega
    obtain ⟨y, hy⟩ := get_lt hlt
    have py : rn R i = y := rn_get (Nat.mod_eq_of_lt hlt).symm hy
    have hw := wrap_nat (i := i) (by simp [big] at hb; omega)
    have ih' := ih (i + 1) (by omega)
    rw [lp_step]
    simp only [ixR, py]
    by_cases hyp : y = p
    · subst hyp
      have hn : ¬ (i : Int) < 0 := by omega
      simp [h0, hy, hn]
    · have hyp2 : ¬ p = y := fun e => hyp e.symm
      simp only [Int.natCast_add, Int.cast_ofNat_Int] at ih'
      simp [h0, hy, hyp, hyp2, hw, ih']
theorem r158 (d : Nat) (R : List Int) (hb : R.length ≤ big) (p : Int) : ev (d + 1) 158 [.ro 1 (R.map iC), I p] = some (B (hasR R p), []) := by
  rw [s158 d _ rfl]
  have key := l158 d R hb p R.length 0 (by omega)
  by_cases h : ixR R p R.length 0 < 0
  · rw [if_pos h] at key
    rw [hasR_neg h]
    simp at key
    simp [key]
  · rw [if_neg h] at key
    rw [hasR_pos h]
    simp at key
    simp [key]
theorem r138 (d : Nat) (R : List Int) (hb : R.length ≤ big) (p : Int) : ev (d + 2) 138 [.ro 1 (R.map iC), I p] = some (B (hasR R p), []) := by
  rw [s138 (d + 1) _ rfl]
  have h := r139 d R hb p
  simp [h, hasR]
/-- does another face than k name the point? -/
def usF (F : List Fc) (p k : Int) : Nat → Nat → Bool
  | 0, _ => false
  | m + 1, f => ifb (!decide ((f : Int) = k) && hasR (fr F f) p) true (usF F p k m (f + 1))
theorem l115 (d : Nat) (D : Dr) (rest : List LV) (hb : BdN D) (p k : Int) : ∀ (n i : Nat), n + i = D.fcs.length →
    clC [] [6] (blk 0 (lp (evC (ev (d + 1)) b115_1) (clean [0, 1, 2, 7]) ⟨lookS [(0, .rp (dR D rest)), (1, I p), (2, I k), (7, I i)], lookM []⟩)) =
      ifb (usF D.fcs p k n i) (some (.rt, ⟨lookS [(6, B true)], lookM []⟩)) (some (.nm, ⟨lookS [], lookM []⟩)) := by
  intro n
  induction n with
  | zero =>
    intro i hi
    have h0 : ¬ (i : Int) < (D.fcs.length : Int) := by omega
    rw [lp_step]
    simp [h0, usF]
  | succ n ih =>
    intro i hi
    have hlt : i < D.fcs.length := by omega
    have h0 : (i : Int) < (D.fcs.length : Int) := by omega
    obtain ⟨f, hf⟩ := get_lt hlt
    have hfr : fr D.fcs i = f.2 := by unfold fr; rw [hf]; rfl
    have hw := wrap_nat (i := i) (by have := hb.fcs; simp only [big] at this; omega)
    have hc := r158 d f.2 (hb.ring f (List.mem_of_getElem? hf)) p
    have ih' := ih (i + 1) (by omega)
    simp only [Int.natCast_add, Int.cast_ofNat_Int] at ih'
    rw [lp_step]
    simp only [usF, hfr]
    by_cases hik : (i : Int) = k
    · subst hik
      simp [h0, hw, ih']
    cases hh : hasR f.2 p
    · rw [hh] at hc
      simp [h0, hik, hf, hc, hw, ih']
    · rw [hh] at hc
      simp [h0, hik, hf, hc]
def used (D : Dr) (p k : Int) : Bool := usF D.fcs p k D.fcs.length 0
theorem r115 (d : Nat) (D : Dr) (rest : List LV) (hb : BdN D) (p k : Int) : ev (d + 2) 115 [.rp (dR D rest), I p, I k] = some (B (used D p k), []) := by
  rw [s115 (d + 1) _ rfl]
  have key := l115 d D rest hb p k D.fcs.length 0 (by omega)
  unfold used
  cases h : usF D.fcs p k D.fcs.length 0 <;> rw [h] at key <;> simp at key <;> simp [key]
/-- is the point on the ring's edge at place k? -/
def onAt (P : List Pt) (R : List Int) (p : Pt) (k : Nat) : Bool := onB (pn P (rn R k).toNat) (pn P (rn R (k + 1)).toNat) p
theorem r182 (d : Nat) (D : Dr) (rest : List LV) (hb : BdN D) (hr : ∀ f ∈ D.fcs, RingW D.pts f.2) (p i k : Nat) (x : Pt) (hp : D.pts[p]? = some x) (f : Fc) (hf : D.fcs[i]? = some f) (hk : k < f.2.length) :
    ev (d + 4) 182 [.rp (dR D rest), I p, I i, I k] = some (B (!hasR f.2 p && (used D p i && onAt D.pts f.2 x k)), []) := by
  rw [s182 (d + 3) _ rfl]
  obtain ⟨fnm, R⟩ := f
  have hm := List.mem_of_getElem? hf
  have hR : RingW D.pts R := hr _ hm
  have hRb : R.length ≤ big := hb.ring _ hm
  have hk : k < R.length := hk
  have c1 := r158 (d + 2) R hRb p
  have c2 := r115 (d + 1) D rest hb p i
  obtain ⟨k2, hk2⟩ : ∃ k2, k2 = (k + 1) % R.length := ⟨_, rfl⟩
  obtain ⟨y1, hy1⟩ := get_lt hk
  obtain ⟨y2, hy2⟩ := get_lt (l := R) (i := k2) (by rw [hk2]; exact Nat.mod_lt _ (by omega))
  obtain ⟨a1, a2⟩ := in_ring hb.pts (hR.inr y1 (List.mem_of_getElem? hy1))
  obtain ⟨b1, b2⟩ := in_ring hb.pts (hR.inr y2 (List.mem_of_getElem? hy2))
  obtain ⟨q1, hq1⟩ := get_lt a2
  obtain ⟨q2, hq2⟩ := get_lt b2
  have tm := tm_nat hk2
  simp only [Int.natCast_add, Int.cast_ofNat_Int] at tm
  simp only [big] at hRb
  have hw := wrap_nat (i := k) (by omega)
  have hne : ¬ R = [] := by intro e; rw [e] at hk; simp at hk
  have hon := r222 d q1 q2 x
  have e : onAt D.pts R x k = onB q1 q2 x := by
    unfold onAt
    rw [rn_get (Nat.mod_eq_of_lt hk).symm hy1, rn_get hk2 hy2, pn_get hq1, pn_get hq2]
  simp only [e]
  cases h1 : hasR R p
  case true => rw [h1] at c1; simp [hf, c1]
  rw [h1] at c1
  cases h2 : used D p i
  case false => rw [h2] at c2; simp [hf, c1, c2]
  rw [h2] at c2
  simp [hf, c1, c2, hw, hne, tm, hy1, hy2, a1, b1, hq1, hq2, hp, hon]
/-- a pair of numbers as a row -/
abbrev jC (q : Nat × Nat) : List Cell := [.sl true 2 1 [iW (q.1 : Int), iW (q.2 : Int)]]
def bt (D : Dr) (R : List Int) (x : Pt) (p f k : Nat) : Bool := !hasR R p && (used D p f && onAt D.pts R x k)
def jK (b : Nat → Bool) : Nat → Nat → Bool → Bool
  | 0, _, h => h
  | m + 1, k, h => ifb h true (jK b m (k + 1) (b k))
theorem l113_3 (d : Nat) (D : Dr) (rest : List LV) (hb : BdN D) (hr : ∀ f ∈ D.fcs, RingW D.pts f.2) (acc : List (Nat × Nat)) (p i : Nat) (x : Pt) (hp : D.pts[p]? = some x) (f : Fc) (hf : D.fcs[i]? = some f) : ∀ (n k : Nat) (h : Bool), n + k = f.2.length →
    clC [0, 3, 4, 5, 6] [2] (blk 4 (lp (evC (ev (d + 4)) b113_3) (clean [0, 3, 4, 5, 6, 7]) ⟨lookS [(0, .rp (dR D rest)), (3, .rf (.sl 3) none 0 acc.length), (4, I i), (5, I p), (6, B h), (7, I k)], lookM [((.sl 3), some (.arr 33 1 (acc.map jC)))]⟩)) =
      some (.nm, ⟨lookS [(0, .rp (dR D rest)), (3, .rf (.sl 3) none 0 acc.length), (4, I i), (5, I p), (6, B (jK (bt D f.2 x p i) n k h))], lookM [((.sl 3), some (.arr 33 1 (acc.map jC)))]⟩) := by
  intro n
  induction n with
  | zero =>
    intro k h hk
    have h0 : ¬ (k : Int) < (f.2.length : Int) := by omega
    rw [lp_step]
    simp [h0, hf, jK]
  | succ n ih =>
    intro k h hk
    have hlt : k < f.2.length := by omega
    have h0 : (k : Int) < (f.2.length : Int) := by omega
    have hrb := hb.ring f (List.mem_of_getElem? hf)
    have hw := wrap_nat (i := k) (by simp only [big] at hrb; omega)
    have hc := r182 d D rest hb hr p i k x hp f hf hlt
    have ih' := ih (k + 1) (bt D f.2 x p i k) (by omega)
    simp only [Int.natCast_add, Int.cast_ofNat_Int] at ih'
    have eb : (!hasR f.2 p && (used D p i && onAt D.pts f.2 x k)) = bt D f.2 x p i k := rfl
    rw [eb] at hc
    rw [lp_step]
    cases h
    · simp [h0, hf, hc, hw, ih', jK]
    · simp [h0, hf, jK]
def hit (D : Dr) (i p : Nat) : Bool := jK (bt D (fr D.fcs i) (pn D.pts p) p i) (fr D.fcs i).length 0 false
def jP (D : Dr) (i : Nat) : Nat → Nat → List (Nat × Nat)
  | 0, _ => []
  | m + 1, p => ifb (hit D i p) ((p, i) :: jP D i m (p + 1)) (jP D i m (p + 1))
def jF (D : Dr) : Nat → Nat → List (Nat × Nat)
  | 0, _ => []
  | m + 1, i => jP D i D.pts.length 0 ++ jF D m (i + 1)
theorem jP_len (D : Dr) (i : Nat) : ∀ m p, (jP D i m p).length ≤ m := by
  intro m
  induction m with
  | zero => intro p; exact Nat.le_refl _
  | succ m ih =>
    intro p
    have := ih (p + 1)
    cases h : hit D i p <;> simp [jP, h] <;> omega
theorem jP_at {D : Dr} {i m p : Nat} {acc r : List (Nat × Nat)} (h : acc ++ jP D i (m + 1) p = r) : ifb (hit D i p) (acc ++ [(p, i)]) acc ++ jP D i m (p + 1) = r := by
  rw [← h]
  cases hp : hit D i p <;> simp [jP, hp]
theorem l113_2 (d : Nat) (D : Dr) (rest : List LV) (hb : BdN D) (hr : ∀ f ∈ D.fcs, RingW D.pts f.2) (i : Nat) (f : Fc) (hf : D.fcs[i]? = some f) (hp48 : D.pts.length ≤ 48) : ∀ (n p : Nat) (acc r : List (Nat × Nat)), n + p = D.pts.length → acc ++ jP D i n p = r → acc.length + n ≤ 100000 →
    clC [0, 3, 4] [2] (blk 2 (lp (evC (ev (d + 4)) b113_2) (clean [0, 3, 4, 5]) ⟨lookS [(0, .rp (dR D rest)), (3, .rf (.sl 3) none 0 acc.length), (4, I i), (5, I p)], lookM [((.sl 3), some (.arr 33 1 (acc.map jC)))]⟩)) =
      some (.nm, ⟨lookS [(0, .rp (dR D rest)), (3, .rf (.sl 3) none 0 r.length), (4, I i)], lookM [((.sl 3), some (.arr 33 1 (r.map jC)))]⟩) := by
  intro n
  induction n with
  | zero =>
    intro p acc r hi hr2 ha
    have h0 : ¬ (p : Int) < (D.pts.length : Int) := by omega
    have e : acc = r := by simpa [jP] using hr2
    subst e
    rw [lp_step]
    simp [h0]
  | succ n ih =>
    intro p acc r hi hr2 ha
    have hlt : p < D.pts.length := by omega
    have h0 : (p : Int) < (D.pts.length : Int) := by omega
    obtain ⟨x, hx⟩ := get_lt hlt
    have hb2 : acc.length + 1 ≤ big := by simp only [big]; omega
    have hw := wrap_nat (i := p) (by omega)
    have inn := l113_3 d D rest hb hr acc p i x hx f hf f.2.length 0 false (by omega)
    have hfr : fr D.fcs i = f.2 := by unfold fr; rw [hf]; rfl
    have eh : hit D i p = jK (bt D f.2 x p i) f.2.length 0 false := by unfold hit; rw [hfr, pn_get hx]
    rw [← eh] at inn
    have hr' := jP_at hr2
    simp at inn
    rw [lp_step]
    cases hh : hit D i p
    · rw [hh] at inn hr'
      have ih' := ih (p + 1) acc r (by omega) hr' (by omega)
      simp only [Int.natCast_add, Int.cast_ofNat_Int] at ih'
      simp [h0, inn, hw, ih']
    · rw [hh] at inn hr'
      have ih' := ih (p + 1) (acc ++ [(p, i)]) r (by omega) hr' (by simp; omega)
      simp only [Int.natCast_add, Int.cast_ofNat_Int] at ih'
      simp at ih'
      have hlow : low [[Cell.sc (.int .i64 (p : Int))], [Cell.sc (.int .i64 (i : Int))]] = some [iW (p : Int), iW (i : Int)] := rfl
      simp [h0, inn, hb2, hw, hlow, fillU, adsOf, List.mapM_cons, ih']
theorem l113 (d : Nat) (D : Dr) (rest : List LV) (hb : BdN D) (hr : ∀ f ∈ D.fcs, RingW D.pts f.2) (hp48 : D.pts.length ≤ 48) (hf24 : D.fcs.length ≤ 24) : ∀ (n i : Nat) (acc r : List (Nat × Nat)), n + i = D.fcs.length → acc ++ jF D n i = r → acc.length + 48 * n ≤ 50000 →
    clC [3] [2] (blk 0 (lp (evC (ev (d + 4)) b113_1) (clean [0, 3, 4]) ⟨lookS [(0, .rp (dR D rest)), (3, .rf (.sl 3) none 0 acc.length), (4, I i)], lookM [((.sl 3), some (.arr 33 1 (acc.map jC)))]⟩)) =
      some (.nm, ⟨lookS [(3, .rf (.sl 3) none 0 r.length)], lookM [((.sl 3), some (.arr 33 1 (r.map jC)))]⟩) := by
  intro n
  induction n with
  | zero =>
    intro i acc r hi hr2 ha
    have h0 : ¬ (i : Int) < (D.fcs.length : Int) := by omega
    have e : acc = r := by simpa [jF] using hr2
    subst e
    rw [lp_step]
    simp [h0]
  | succ n ih =>
    intro i acc r hi hr2 ha
    have hlt : i < D.fcs.length := by omega
    have h0 : (i : Int) < (D.fcs.length : Int) := by omega
    obtain ⟨f, hf⟩ := get_lt hlt
    have hw := wrap_nat (i := i) (by omega)
    have hl := jP_len D i D.pts.length 0
    have inn := l113_2 d D rest hb hr i f hf hp48 D.pts.length 0 acc (acc ++ jP D i D.pts.length 0) (by omega) rfl (by omega)
    have ih' := ih (i + 1) (acc ++ jP D i D.pts.length 0) r (by omega) (by rw [List.append_assoc]; exact hr2) (by rw [List.length_append]; omega)
    simp only [Int.natCast_add, Int.cast_ofNat_Int] at ih'
    generalize acc ++ jP D i D.pts.length 0 = acc' at inn ih'
    simp at inn
    rw [lp_step]
    simp [h0, inn, hw, ih']
theorem dr_small {D : Dr} (h : drOk D = true) : D.pts.length ≤ 48 ∧ D.fcs.length ≤ 24 := by
  simp only [drOk, Bool.and_eq_true, decide_eq_true_eq] at h
  exact ⟨h.2.2.1, h.2.2.2.2.1⟩
theorem r113 (d : Nat) (D : Dr) (rest : List LV) (hb : BdN D) (ho : drOk D = true) : ev (d + 5) 113 [.rp (dR D rest)] = some (.ow 33 1 ((jF D D.fcs.length 0).map jC), []) := by
  rw [s113 (d + 4) _ rfl]
  obtain ⟨h1, h2⟩ := dr_small ho
  have key := l113 d D rest hb (drOk_ring ho) h1 h2 D.fcs.length 0 [] _ (by omega) rfl (by simp; omega)
  rw [List.nil_append] at key
  simp at key
  simp [key, fillU, adsOf]
/-! ### impl -/
def pl (n : Nat) : List Int := (List.range n).map fun k : Nat => (k : Int)
theorem pl_len (n : Nat) : (pl n).length = n := by simp [pl]
theorem pl_get {n i : Nat} (h : i < n) : (pl n)[i]? = some (i : Int) := by
  unfold pl
  rw [List.getElem?_map, List.getElem?_range h]
  rfl
theorem pl_snoc (n : Nat) : pl (n + 1) = pl n ++ [(n : Int)] := by simp [pl, List.range_succ]
theorem l230 (d : Nat) (m : Nat) (hb : m ≤ big) : ∀ (n i : Nat), n + i = m →
    clC [3] [2] (blk 0 (lp (evC (ev d) b230_1) (clean [3, 7, 8]) ⟨lookS [(3, .rf (.sl 3) none 0 i), (7, I m), (8, I i)], lookM [((.sl 3), some (.arr 2 1 ((pl i).map iC)))]⟩)) =
      some (.nm, ⟨lookS [(3, .rf (.sl 3) none 0 m)], lookM [((.sl 3), some (.arr 2 1 ((pl m).map iC)))]⟩) := by
  intro n
  induction n with
  | zero =>
    intro i hi
    have h0 : ¬ (i : Int) < (m : Int) := by omega
    have e : i = m := by omega
    subst e
    rw [lp_step]
    simp
  | succ n ih =>
    intro i hi
    have h0 : (i : Int) < (m : Int) := by omega
    have h0' : i < m := by omega
    have hw := wrap_nat (i := i) (by simp only [big] at hb; omega)
    have hb2 : i + 1 ≤ big := by omega
    have hl := pl_len i
    have ih' := ih (i + 1) (by omega)
    rw [pl_snoc] at ih'
    simp at ih'
    rw [lp_step]
    simp [h0, h0', hw, hb2, hl, ih']
theorem r230 (d : Nat) (R : List Int) (hb : R.length ≤ big) : ev (d + 1) 230 [.ro 1 (R.map iC)] = some (.ow 2 1 ((pl R.length).map iC), []) := by
  rw [s230 d _ rfl]
  have key := l230 d R.length hb R.length 0 (by omega)
  rw [show pl 0 = [] from rfl] at key
  simp at key
  simp [key, pl_len]
/-- the first number that has a property -/
def fk (p : Nat → Bool) : Nat → Nat → Int
  | 0, _ => -1
  | m + 1, k => ifb (p k) (k : Int) (fk p m (k + 1))
theorem fk_cases (p : Nat → Bool) : ∀ (m k : Nat), fk p m k = -1 ∨ ∃ j : Nat, fk p m k = (j : Int) ∧ k ≤ j ∧ j < k + m := by
  intro m
  induction m with
  | zero => intro k; exact .inl rfl
  | succ m ih =>
    intro k
    simp only [fk]
    cases p k
    · rcases ih (k + 1) with h | ⟨j, h1, h2, h3⟩
      · exact .inl h
      · exact .inr ⟨j, h1, by omega, by omega⟩
    · exact .inr ⟨k, rfl, by omega, by omega⟩
theorem l229 (d : Nat) (f : Nat) (vs : List LV) (m : Nat) (p : Nat → Bool) (hp : ∀ k, k < m → ev d f (I k :: vs.map (fun v => v)) = some (B (p k), [])) (x y z : List LV) (hvs : vs = [.rp x, .rp y, .rp z]) (hb : m ≤ big) : ∀ (n i : Nat), n + i = m →
    clC [] [4] (blk 0 (lp (evC (ev d) b229_1) (clean [0, 1, 7, 8]) ⟨lookS [(0, .ro 1 ((pl m).map iC)), (1, .cl f [.rp x, .rp y, .rp z]), (7, I m), (8, I i)], lookM []⟩)) =
      (if fk p n i < 0 then some (.nm, ⟨lookS [], lookM []⟩) else some (.rt, ⟨lookS [(4, I (fk p n i))], lookM []⟩)) := by
  intro n
  induction n with
  | zero =>
    intro i hi
    have h0 : ¬ (i : Int) < (m : Int) := by omega
    rw [lp_step]
    simp [h0, fk]
  | succ n ih =>
    intro i hi
    have hlt : i < m := by omega
    have h0 : (i : Int) < (m : Int) := by omega
    have hg := pl_get hlt
    have hl := pl_len m
    have hw := wrap_nat (i := i) (by simp only [big] at hb; omega)
    have hc := hp i hlt
    rw [hvs] at hc
    simp only [List.map_cons, List.map_nil] at hc
    have ih' := ih (i + 1) (by omega)
    simp only [Int.natCast_add, Int.cast_ofNat_Int] at ih'
    have hn : ¬ (i : Int) < 0 := by omega
    cases hk : p i
    · rw [hk] at hc
      have e : fk p (n + 1) i = fk p n (i + 1) := by simp [fk, hk]
      rw [lp_step, e]
      simp [h0, hg, hl, hc, hw, ih']
    · rw [hk] at hc
      have e : fk p (n + 1) i = (i : Int) := by simp [fk, hk]
      rw [lp_step, e]
      simp [h0, hg, hl, hc, hn]
theorem r229 (d f m : Nat) (p : Nat → Bool) (x y z : List LV) (hp : ∀ k : Nat, k < m → ev d f [I k, .rp x, .rp y, .rp z] = some (B (p k), [])) (hb : m ≤ big) : ev (d + 1) 229 [.ro 1 ((pl m).map iC), .cl f [.rp x, .rp y, .rp z]] = some (I (fk p m 0), []) := by
  rw [s229 d _ rfl]
  have key := l229 d f [.rp x, .rp y, .rp z] m p (fun k hk => by simpa using hp k hk) x y z rfl hb m 0 (by omega)
  rcases fk_cases p m 0 with h | ⟨j, h, _, _⟩
  · rw [h] at key ⊢
    simp at key
    simp [key, pl_len]
  · have hn : ¬ (j : Int) < 0 := by omega
    rw [h] at key ⊢
    rw [if_neg hn] at key
    simp at key
    simp [key, pl_len]
theorem r231 (d : Nat) (D : Dr) (hb : BdN D) (R : List Int) (hR : RingW D.pts R) (hRb : R.length ≤ big) (p : Nat) (x : Pt) (hp : D.pts[p]? = some x) (k : Nat) (hk : k < R.length) :
    ev (d + 4) 231 [I k, .rp (dV D), .rp [.ro 1 (R.map iC)], .rp [I p]] = some (B (onAt D.pts R x k), []) := by
  rw [s231 (d + 3) _ rfl]
  obtain ⟨k2, hk2⟩ : ∃ k2, k2 = (k + 1) % R.length := ⟨_, rfl⟩
  obtain ⟨y1, hy1⟩ := get_lt hk
  obtain ⟨y2, hy2⟩ := get_lt (l := R) (i := k2) (by rw [hk2]; exact Nat.mod_lt _ (by omega))
  obtain ⟨a1, a2⟩ := in_ring hb.pts (hR.inr y1 (List.mem_of_getElem? hy1))
  obtain ⟨b1, b2⟩ := in_ring hb.pts (hR.inr y2 (List.mem_of_getElem? hy2))
  obtain ⟨q1, hq1⟩ := get_lt a2
  obtain ⟨q2, hq2⟩ := get_lt b2
  have tm := tm_nat hk2
  simp only [Int.natCast_add, Int.cast_ofNat_Int] at tm
  simp only [big] at hRb
  have hw := wrap_nat (i := k) (by omega)
  have hne : ¬ R = [] := by intro e; rw [e] at hk; simp at hk
  have hon := r225 d q1 q2 x
  have e : onAt D.pts R x k = onB q1 q2 x := by
    unfold onAt
    rw [rn_get (Nat.mod_eq_of_lt hk).symm hy1, rn_get hk2 hy2, pn_get hq1, pn_get hq2]
  rw [e]
  simp [hw, hne, tm, hy1, hy2, a1, b1, hq1, hq2, hp, hon]
theorem r184 (d : Nat) (D : Dr) (hb : BdN D) (R : List Int) (hR : RingW D.pts R) (hRb : R.length ≤ big) (p : Nat) (x : Pt) (hp : D.pts[p]? = some x) :
    ev (d + 6) 184 [.ag (dV D), .ro 1 (R.map iC), I p] = some (I (fk (onAt D.pts R x) R.length 0), []) := by
  rw [s184 (d + 5) _ rfl]
  have c1 := r230 (d + 4) R hRb
  have c2 := r229 (d + 4) 231 R.length (onAt D.pts R x) (dV D) [.ro 1 (R.map iC)] [I p] (fun k hk => r231 d D hb R hR hRb p x hp k hk) hRb
  have ht : (pl R.length).take R.length = pl R.length := List.take_of_length_le (by rw [pl_len]; exact Nat.le_refl _)
  have ht2 : ((pl R.length).map iC).take R.length = (pl R.length).map iC := List.take_of_length_le (by rw [List.length_map, pl_len]; exact Nat.le_refl _)
  simp [c1, c2, pl_len, ht, ht2]
def hit2 (D : Dr) (i p : Nat) : Bool := !hasR (fr D.fcs i) p && (decide (0 ≤ fk (onAt D.pts (fr D.fcs i) (pn D.pts p)) (fr D.fcs i).length 0) && used D p i)
theorem jK_true (b : Nat → Bool) : ∀ m k, jK b m k true = true := by
  intro m
  induction m with
  | zero => intro k; rfl
  | succ m ih => intro k; rfl
theorem jK_fk {b o : Nat → Bool} {c : Bool} (h : ∀ k, b k = (c && o k)) : ∀ m k, jK b m k false = (c && decide (0 ≤ fk o m k)) := by
  intro m
  induction m with
  | zero => intro k; cases c <;> rfl
  | succ m ih =>
    intro k
    have e1 : jK b (m + 1) k false = jK b m (k + 1) (b k) := rfl
    rw [e1, h k]
    cases ho : o k
    · have e2 : fk o (m + 1) k = fk o m (k + 1) := by simp [fk, ho]
      rw [Bool.and_false, e2]
      exact ih (k + 1)
    · have e2 : fk o (m + 1) k = (k : Int) := by simp [fk, ho]
      rw [e2]
      cases c
      · simp only [Bool.false_and]
        rw [ih]
        rfl
      · simp only [Bool.true_and, jK_true]
        simp
theorem hit_same (D : Dr) (i p : Nat) : hit D i p = hit2 D i p := by
  unfold hit hit2
  rw [jK_fk (o := onAt D.pts (fr D.fcs i) (pn D.pts p)) (c := !hasR (fr D.fcs i) p && used D p i) (fun k => by unfold bt; rw [Bool.and_assoc])]
  cases hasR (fr D.fcs i) p <;> cases used D p i <;> simp
theorem l116_3 (d : Nat) (D : Dr) (hb : BdN D) (acc : List (Nat × Nat)) (hacc : acc.length + 1 ≤ big) (i p : Nat) (f : Fc) : ∀ (n o : Nat), n + o = D.fcs.length →
    clC [1, 3, 4, 5, 11, 12, 13, 20, 21] [2] (blk 4 (lp (evC (ev (d + 2)) b116_3) (clean [1, 3, 4, 5, 6, 11, 12, 13, 20, 21, 37, 38, 39]) ⟨lookS [(1, .bp (.sl 1) 0), (3, .rf (.sl 3) none 0 (acc).length), (4, I i), (5, .bp (.sl 5) 0), (6, I p), (11, .ro 2 (D.fcs.map fS)), (12, I D.fcs.length), (13, I i), (20, I D.pts.length), (21, I p), (37, .ro 2 (D.fcs.map fS)), (38, I D.fcs.length), (39, I o)], lookM [((.sl 1), some (.box (dV D))), ((.sl 3), some (.arr 33 1 (acc.map jC))), ((.sl 5), some (.box [T f.1, .ro 1 (f.2.map iC)]))]⟩)) =
      ifb (usF D.fcs p i n o) (some (.nm, ⟨lookS [(1, .bp (.sl 1) 0), (3, .rf (.sl 3) none 0 (acc ++ [(p, i)]).length), (4, I i), (5, .bp (.sl 5) 0), (11, .ro 2 (D.fcs.map fS)), (12, I D.fcs.length), (13, I i), (20, I D.pts.length), (21, I p)], lookM [((.sl 1), some (.box (dV D))), ((.sl 3), some (.arr 33 1 ((acc ++ [(p, i)]).map jC))), ((.sl 5), some (.box [T f.1, .ro 1 (f.2.map iC)]))]⟩)) (some (.nm, ⟨lookS [(1, .bp (.sl 1) 0), (3, .rf (.sl 3) none 0 (acc).length), (4, I i), (5, .bp (.sl 5) 0), (11, .ro 2 (D.fcs.map fS)), (12, I D.fcs.length), (13, I i), (20, I D.pts.length), (21, I p)], lookM [((.sl 1), some (.box (dV D))), ((.sl 3), some (.arr 33 1 (acc.map jC))), ((.sl 5), some (.box [T f.1, .ro 1 (f.2.map iC)]))]⟩)) := by
  intro n
  induction n with
  | zero =>
    intro o ho
    have h0 : ¬ (o : Int) < (D.fcs.length : Int) := by omega
    rw [lp_step]
    simp [h0, usF]
  | succ n ih =>
    intro o ho
    have hlt : o < D.fcs.length := by omega
    have h0 : (o : Int) < (D.fcs.length : Int) := by omega
    obtain ⟨g, hg⟩ := get_lt hlt
    have hfr : fr D.fcs o = g.2 := by unfold fr; rw [hg]; rfl
    have hw := wrap_nat (i := o) (by have := hb.fcs; simp only [big] at this; omega)
    have hc := r138 d g.2 (hb.ring g (List.mem_of_getElem? hg)) p
    have ih' := ih (o + 1) (by omega)
    simp only [Int.natCast_add, Int.cast_ofNat_Int] at ih'
    simp at ih'
    have hlow : low [[Cell.sc (.int .i64 (p : Int))], [Cell.sc (.int .i64 (i : Int))]] = some [iW (p : Int), iW (i : Int)] := rfl
    rw [lp_step]
    simp only [usF, hfr]
    by_cases hoi : (o : Int) = (i : Int)
    · have hoi' : o = i := by omega
      subst hoi'
      simp [h0, hg, hw, ih']
    have hoi' : ¬ o = i := by omega
    cases hh : hasR g.2 p
    · rw [hh] at hc
      simp [h0, hoi, hoi', hg, hc, hw, ih']
    · rw [hh] at hc
      simp [h0, hoi, hoi', hg, hc, hacc, hlow, fillU, adsOf, List.mapM_cons]
theorem l116_2 (d : Nat) (D : Dr) (hb : BdN D) (hr : ∀ f ∈ D.fcs, RingW D.pts f.2) (i : Nat) (f : Fc) (hf : D.fcs[i]? = some f) (hp48 : D.pts.length ≤ 48) : ∀ (n p : Nat) (acc r : List (Nat × Nat)), n + p = D.pts.length → acc ++ jP D i n p = r → acc.length + n ≤ 100000 →
    clC [1, 3, 11, 12, 13] [2] (blk 2 (lp (evC (ev (d + 6)) b116_2) (clean [1, 3, 4, 5, 11, 12, 13, 20, 21]) ⟨lookS [(1, .bp (.sl 1) 0), (3, .rf (.sl 3) none 0 (acc).length), (4, I i), (5, .bp (.sl 5) 0), (11, .ro 2 (D.fcs.map fS)), (12, I D.fcs.length), (13, I i), (20, I D.pts.length), (21, I p)], lookM [((.sl 1), some (.box (dV D))), ((.sl 3), some (.arr 33 1 (acc.map jC))), ((.sl 5), some (.box [T f.1, .ro 1 (f.2.map iC)]))]⟩)) =
      some (.nm, ⟨lookS [(1, .bp (.sl 1) 0), (3, .rf (.sl 3) none 0 r.length), (11, .ro 2 (D.fcs.map fS)), (12, I D.fcs.length), (13, I i)], lookM [((.sl 1), some (.box (dV D))), ((.sl 3), some (.arr 33 1 (r.map jC)))]⟩) := by
  intro n
  induction n with
  | zero =>
    intro p acc r hi hr2 ha
    have h0 : ¬ (p : Int) < (D.pts.length : Int) := by omega
    have e : acc = r := by simpa [jP] using hr2
    subst e
    rw [lp_step]
    simp [h0]
  | succ n ih =>
    intro p acc r hi hr2 ha
    have hlt : p < D.pts.length := by omega
    have h0 : (p : Int) < (D.pts.length : Int) := by omega
    obtain ⟨x, hx⟩ := get_lt hlt
    have hm := List.mem_of_getElem? hf
    have hw := wrap_nat (i := p) (by omega)
    have c1 := r138 (d + 4) f.2 (hb.ring f hm) p
    have c2 := r184 d D hb f.2 (hr f hm) (hb.ring f hm) p x hx
    have inn := l116_3 (d + 4) D hb acc (by simp only [big]; omega) i p f D.fcs.length 0 (by omega)
    have hfr : fr D.fcs i = f.2 := by unfold fr; rw [hf]; rfl
    have eh : hit D i p = (!hasR f.2 p && (decide (0 ≤ fk (onAt D.pts f.2 x) f.2.length 0) && usF D.fcs p i D.fcs.length 0)) := by rw [hit_same]; unfold hit2 used; rw [hfr, pn_get hx]
    have hr' := jP_at hr2
    rw [eh] at hr'
    rw [lp_step]
    cases h1 : hasR f.2 p
    case true =>
      rw [h1] at c1 hr'
      have ih' := ih (p + 1) acc r (by omega) hr' (by omega)
      simp only [Int.natCast_add, Int.cast_ofNat_Int] at ih'
      simp [h0, c1, hw, ih']
    rw [h1] at c1 hr'
    by_cases h2 : fk (onAt D.pts f.2 x) f.2.length 0 < 0
    · have h2' : ¬ 0 ≤ fk (onAt D.pts f.2 x) f.2.length 0 := by omega
      rw [decide_eq_false h2'] at hr'
      have ih' := ih (p + 1) acc r (by omega) hr' (by omega)
      simp only [Int.natCast_add, Int.cast_ofNat_Int] at ih'
      simp [h0, c1, c2, h2, hw, ih']
    have h2' : 0 ≤ fk (onAt D.pts f.2 x) f.2.length 0 := by omega
    rw [decide_eq_true h2'] at hr'
    cases h3 : usF D.fcs p i D.fcs.length 0
    · rw [h3] at inn hr'
      have ih' := ih (p + 1) acc r (by omega) hr' (by omega)
      simp only [Int.natCast_add, Int.cast_ofNat_Int] at ih'
      simp at inn
      simp [h0, c1, c2, h2, inn, hw, ih']
    · rw [h3] at inn hr'
      have ih' := ih (p + 1) (acc ++ [(p, i)]) r (by omega) hr' (by simp; omega)
      simp only [Int.natCast_add, Int.cast_ofNat_Int] at ih'
      simp at inn ih'
      simp [h0, c1, c2, h2, inn, hw, ih']
theorem l116 (d : Nat) (D : Dr) (hb : BdN D) (hr : ∀ f ∈ D.fcs, RingW D.pts f.2) (hp48 : D.pts.length ≤ 48) (hf24 : D.fcs.length ≤ 24) : ∀ (n i : Nat) (acc r : List (Nat × Nat)), n + i = D.fcs.length → acc ++ jF D n i = r → acc.length + 48 * n ≤ 50000 →
    clC [3] [2] (blk 0 (lp (evC (ev (d + 6)) b116_1) (clean [1, 3, 11, 12, 13]) ⟨lookS [(1, .bp (.sl 1) 0), (3, .rf (.sl 3) none 0 acc.length), (11, .ro 2 (D.fcs.map fS)), (12, I D.fcs.length), (13, I i)], lookM [((.sl 1), some (.box (dV D))), ((.sl 3), some (.arr 33 1 (acc.map jC)))]⟩)) =
      some (.nm, ⟨lookS [(3, .rf (.sl 3) none 0 r.length)], lookM [((.sl 3), some (.arr 33 1 (r.map jC)))]⟩) := by
  intro n
  induction n with
  | zero =>
    intro i acc r hi hr2 ha
    have h0 : ¬ (i : Int) < (D.fcs.length : Int) := by omega
    have e : acc = r := by simpa [jF] using hr2
    subst e
    rw [lp_step]
    simp [h0]
  | succ n ih =>
    intro i acc r hi hr2 ha
    have hlt : i < D.fcs.length := by omega
    have h0 : (i : Int) < (D.fcs.length : Int) := by omega
    obtain ⟨f, hf⟩ := get_lt hlt
    have hw := wrap_nat (i := i) (by omega)
    have hl := jP_len D i D.pts.length 0
    have inn := l116_2 d D hb hr i f hf hp48 D.pts.length 0 acc (acc ++ jP D i D.pts.length 0) (by omega) rfl (by omega)
    have ih' := ih (i + 1) (acc ++ jP D i D.pts.length 0) r (by omega) (by rw [List.append_assoc]; exact hr2) (by rw [List.length_append]; omega)
    simp only [Int.natCast_add, Int.cast_ofNat_Int] at ih'
    generalize acc ++ jP D i D.pts.length 0 = acc' at inn ih'
    simp at inn
    rw [lp_step]
    simp [h0, hf, inn, hw, ih']
theorem r116 (d : Nat) (D : Dr) (hb : BdN D) (ho : drOk D = true) : ev (d + 7) 116 [.ag (dV D)] = some (.ow 33 1 ((jF D D.fcs.length 0).map jC), []) := by
  rw [s116 (d + 6) _ rfl]
  obtain ⟨h1, h2⟩ := dr_small ho
  have key := l116 d D hb (drOk_ring ho) h1 h2 D.fcs.length 0 [] _ (by omega) rfl (by simp; omega)
  rw [List.nil_append] at key
  simp at key
  simp [key, fillU, adsOf]
end Go.Proofs.Ytojjkjbffihppaa.walkS
