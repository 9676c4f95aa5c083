/- Points that no face names are dropped: what is left is valid; no conditions. -/
import Derived.Test.YthnkioafikmmaaaWCln
namespace Go.Proofs.Ythnkioafikmmaaa.walkS
open Go Go.Proofs.Ythnkioafikmmaaa.Ev
set_option linter.unusedSimpArgs false
set_option linter.unusedVariables false
def us (D : Dr) (i : Nat) : Bool := used D (i : Int) (-1)
def kpF (D : Dr) : Nat → Nat → List Pt
  | 0, _ => []
  | n + 1, i => ifb (us D i) (pn D.pts i :: kpF D n (i + 1)) (kpF D n (i + 1))
def plF (D : Dr) : Nat → Nat → Nat → List Int
  | 0, _, _ => []
  | n + 1, i, c => ifb (us D i) ((c : Int) :: plF D n (i + 1) (c + 1)) (0 :: plF D n (i + 1) c)
theorem plF_len (D : Dr) : ∀ n i c, (plF D n i c).length = n := by
  intro n
  induction n with
  | zero => intro i c; rfl
  | succ n ih => intro i c; cases h : us D i <;> simp [plF, h, ih]
theorem kpF_len (D : Dr) : ∀ n i, (kpF D n i).length ≤ n := by
  intro n
  induction n with
  | zero => intro i; exact Nat.le_refl _
  | succ n ih =>
    intro i
    have := ih (i + 1)
    cases h : us D i <;> simp [kpF, h] <;> omega
theorem pk_at (D : Dr) : ∀ n i c j, j < n → us D (i + j) = true → ∃ m : Nat, (plF D n i c)[j]? = some ((c + m : Nat) : Int) ∧ (kpF D n i)[m]? = some (pn D.pts (i + j)) := by
  intro n
  induction n with
  | zero => intro i c j h; omega
  | succ n ih =>
    intro i c j h hu
    cases j with
    | zero =>
      simp only [Nat.add_zero] at hu ⊢
      exact ⟨0, by simp [plF, hu], by simp [kpF, hu]⟩
    | succ j =>
      have e : i + (j + 1) = i + 1 + j := by omega
      rw [e] at hu ⊢
      cases hi : us D i
      · obtain ⟨m, h1, h2⟩ := ih (i + 1) c j (by omega) hu
        exact ⟨m, by simp only [plF, hi, ifb_f, List.getElem?_cons_succ]; exact h1, by simp only [kpF, hi, ifb_f]; exact h2⟩
      · obtain ⟨m, h1, h2⟩ := ih (i + 1) (c + 1) j (by omega) hu
        refine ⟨m + 1, ?_, by simp only [kpF, hi, ifb_t, List.getElem?_cons_succ]; exact h2⟩
        simp only [plF, hi, ifb_t, List.getElem?_cons_succ, h1]
        congr 2
        omega
def pq (D : Dr) (x : Int) : Int := ((plF D D.pts.length 0 0)[x.toNat]?).getD 0
def kpD (D : Dr) : List Pt := kpF D D.pts.length 0
def keepD (D : Dr) : Dr := ⟨D.w, D.h, kpD D, D.fcs.map fun f => (f.1, f.2.map (pq D))⟩
theorem ixR_mem {R : List Int} {p : Int} {j : Nat} (hj : R[j]? = some p) : ∀ m k, k ≤ j → j < k + m → k + m ≤ R.length → 0 ≤ ixR R p m k := by
  intro m
  induction m with
  | zero => intro k h1 h2; omega
  | succ m ih =>
    intro k h1 h2 h3
    simp only [ixR]
    by_cases h : rn R k = p
    · rw [decide_eq_true h]; show (0 : Int) ≤ (k : Int); omega
    · rw [decide_eq_false h]
      have hkj : k ≠ j := fun e => h (by subst e; exact rn_get (Nat.mod_eq_of_lt (List.getElem?_eq_some_iff.1 hj).1).symm hj)
      exact ih (k + 1) (by omega) (by omega) (by omega)
theorem hasR_mem {R : List Int} {p : Int} (h : p ∈ R) : hasR R p = true := by
  obtain ⟨j, hj⟩ := List.getElem?_of_mem h
  have hlt := (List.getElem?_eq_some_iff.1 hj).1
  unfold hasR
  exact decide_eq_true (ixR_mem hj R.length 0 (by omega) (by omega) (by omega))
theorem usF_t {F : List Fc} {p k : Int} {j : Nat} (hj : hasR (fr F j) p = true) (hk : (j : Int) ≠ k) : ∀ m i, i ≤ j → j < i + m → usF F p k m i = true := by
  intro m
  induction m with
  | zero => intro i h1 h2; omega
  | succ m ih =>
    intro i h1 h2
    simp only [usF]
    by_cases h : i = j
    · subst h
      rw [decide_eq_false hk, hj]
      rfl
    · have := ih (i + 1) (by omega) (by omega)
      rw [this]
      cases (!decide ((i : Int) = k) && hasR (fr F i) p) <;> rfl
theorem us_mem {D : Dr} (hb : D.pts.length ≤ big) (hr : ∀ f ∈ D.fcs, RingW D.pts f.2) {f : Fc} (hf : f ∈ D.fcs) {x : Int} (hx : x ∈ f.2) : 0 ≤ x ∧ x.toNat < D.pts.length ∧ us D x.toNat = true := by
  obtain ⟨a, b⟩ := in_ring hb ((hr f hf).inr x hx)
  refine ⟨a, b, ?_⟩
  obtain ⟨j, hj⟩ := List.getElem?_of_mem hf
  have hlt := (List.getElem?_eq_some_iff.1 hj).1
  have e : ((x.toNat : Nat) : Int) = x := by omega
  unfold us used
  rw [e]
  refine usF_t (j := j) ?_ (by omega) D.fcs.length 0 (by omega) (by omega)
  have : fr D.fcs j = f.2 := by unfold fr; rw [hj]; rfl
  rw [this]
  exact hasR_mem hx
theorem pq_ok {D : Dr} {x : Int} (h1 : x.toNat < D.pts.length) (h2 : us D x.toNat = true) : ∃ m : Nat, pq D x = (m : Int) ∧ (kpD D)[m]? = some (pn D.pts x.toNat) := by
  obtain ⟨m, h3, h4⟩ := pk_at D D.pts.length 0 0 x.toNat h1 (by rwa [Nat.zero_add])
  rw [Nat.zero_add] at h4
  rw [Nat.zero_add] at h3
  exact ⟨m, by unfold pq; rw [h3]; rfl, h4⟩
theorem rg_keep {D : Dr} (hb : D.pts.length ≤ big) : ∀ (R : List Int) (acc : List Pt), (∀ x ∈ R, 0 ≤ x ∧ x.toNat < D.pts.length ∧ us D x.toNat = true) → rg (kpD D) (R.map (pq D)) acc = rg D.pts R acc := by
  have hkl : (kpD D).length ≤ D.pts.length := kpF_len D _ _
  simp only [big] at hb
  intro R
  induction R with
  | nil => intro acc _; rfl
  | cons x R ih =>
    intro acc h
    obtain ⟨a, b, c⟩ := h x (by simp)
    obtain ⟨m, h1, h2⟩ := pq_ok b c
    have hm := (List.getElem?_eq_some_iff.1 h2).1
    have w1 : W ((D.pts.length : Int) - 1) = (D.pts.length : Int) - 1 := IntWalk.i64_in _ (by omega)
    have w2 : W (((kpD D).length : Int) - 1) = ((kpD D).length : Int) - 1 := IntWalk.i64_in _ (by omega)
    have i1 : inR x 0 (W ((D.pts.length : Int) - 1)) = true := by
      rw [w1]
      simp only [inR, ← Bool.decide_and]
      exact decide_eq_true (by omega)
    have i2 : inR (m : Int) 0 (W (((kpD D).length : Int) - 1)) = true := by
      rw [w2]
      simp only [inR, ← Bool.decide_and]
      exact decide_eq_true (by omega)
    simp only [List.map_cons, rg, h1, i1, i2, ifb_t]
    rw [Int.toNat_natCast, pn_get h2]
    exact ih _ fun y hy => h y (by simp [hy])
theorem dupF_iff (P : List Pt) (p : Pt) : ∀ m j, dupF P p m j = false ↔ ∀ k, j ≤ k → k < j + m → p ≠ pn P k := by
  intro m
  induction m with
  | zero => intro j; simp only [dupF, true_iff]; intro k h1 h2; omega
  | succ m ih =>
    intro j
    simp only [dupF]
    by_cases h : p = pn P j
    · rw [decide_eq_true h]
      simp only [ifb_t, Bool.true_eq_false, false_iff]
      exact fun q => q j (Nat.le_refl _) (by omega) h
    · rw [decide_eq_false h]
      simp only [ifb_f]
      rw [ih]
      constructor
      · intro q k h1 h2
        by_cases hk : k = j
        · subst hk; exact h
        · exact q k (by omega) (by omega)
      · exact fun q k h1 h2 => q k (by omega) (by omega)
theorem pOk_iff (w h : Int) (P : List Pt) : ∀ m i, pOk w h P m i = true ↔ ∀ j, i ≤ j → j < i + m → (inR (pn P j).1 0 w && inR (pn P j).2 0 h) = true ∧ dupF P (pn P j) j 0 = false := by
  intro m
  induction m with
  | zero => intro i; simp only [pOk, true_iff]; intro k h1 h2; omega
  | succ m ih =>
    intro i
    simp only [pOk]
    cases hin : (inR (pn P i).1 0 w && inR (pn P i).2 0 h)
    · simp only [ifb_f, Bool.false_eq_true, false_iff]
      exact fun q => by have := (q i (Nat.le_refl _) (by omega)).1; rw [hin] at this; cases this
    · cases hd : dupF P (pn P i) i 0
      · simp only [ifb_t, ifb_f]
        rw [ih]
        constructor
        · intro q k h1 h2
          by_cases hk : k = i
          · subst hk; exact ⟨hin, hd⟩
          · exact q k (by omega) (by omega)
        · exact fun q k h1 h2 => q k (by omega) (by omega)
      · simp only [ifb_t, Bool.false_eq_true, false_iff]
        exact fun q => by have := (q i (Nat.le_refl _) (by omega)).2; rw [hd] at this; cases this
theorem kpF_sub (D : Dr) : ∀ n i, List.Sublist (kpF D n i) ((List.range' i n).map (pn D.pts)) := by
  intro n
  induction n with
  | zero => intro i; exact List.Sublist.refl _
  | succ n ih =>
    intro i
    rw [List.range'_succ, List.map_cons]
    cases h : us D i
    · simp only [kpF, h, ifb_f]; exact (ih (i + 1)).cons _
    · simp only [kpF, h, ifb_t]; exact (ih (i + 1)).cons_cons _
theorem pOk_keep {D : Dr} (h : pOk D.w D.h D.pts D.pts.length 0 = true) : pOk D.w D.h (kpD D) (kpD D).length 0 = true := by
  have q := (pOk_iff D.w D.h D.pts D.pts.length 0).1 h
  have sub := kpF_sub D D.pts.length 0
  have pw : ((List.range' 0 D.pts.length).map (pn D.pts)).Pairwise (· ≠ ·) := by
    rw [List.pairwise_map, List.pairwise_iff_getElem]
    intro a b ha hb hab
    simp only [List.length_range'] at ha hb
    simp only [List.getElem_range', Nat.zero_add, Nat.one_mul]
    exact fun e => (dupF_iff D.pts (pn D.pts b) b 0).1 (q b (by omega) (by omega)).2 a (by omega) (by omega) e.symm
  have pw2 := pw.sublist sub
  have mem : ∀ p ∈ kpD D, (inR p.1 0 D.w && inR p.2 0 D.h) = true := by
    intro p hp
    obtain ⟨j, hj, rfl⟩ := List.mem_map.1 (sub.subset hp)
    rw [List.mem_range'_1] at hj
    exact (q j (by omega) (by omega)).1
  refine (pOk_iff _ _ _ _ _).2 fun j _ hj => ?_
  obtain ⟨p, hp⟩ := get_lt (l := kpD D) (i := j) (by omega)
  rw [pn_get hp]
  refine ⟨mem p (List.mem_of_getElem? hp), (dupF_iff _ _ _ _).2 fun k _ hk => ?_⟩
  obtain ⟨r, hr⟩ := get_lt (l := kpD D) (i := k) (by omega)
  rw [pn_get hr]
  obtain ⟨j1, j2⟩ := List.getElem?_eq_some_iff.1 hp
  obtain ⟨k1, k2⟩ := List.getElem?_eq_some_iff.1 hr
  have := List.pairwise_iff_getElem.1 pw2 k j k1 j1 (by omega)
  rw [← j2, ← k2]
  exact fun e => this e.symm
theorem fOk_same {P P' : List Pt} {F F' : List Fc} : ∀ m i, (∀ k, i ≤ k → k < i + m → fcOk P F k = true → fcOk P' F' k = true) → fOk P F m i = true → fOk P' F' m i = true := by
  intro m
  induction m with
  | zero => intro i _ _; rfl
  | succ m ih =>
    intro i h1 h2
    simp only [fOk] at h2 ⊢
    cases hc : fcOk P F i <;> rw [hc] at h2
    · cases h2
    · rw [h1 i (Nat.le_refl _) (by omega) hc]
      exact ih (i + 1) (fun k a b => h1 k (by omega) (by omega)) h2
theorem drOk_keep {D : Dr} (hb : D.pts.length ≤ big) (h : drOk D = true) : drOk (keepD D) = true := by
  have hr := drOk_ring h
  simp only [drOk, Bool.and_eq_true, decide_eq_true_eq] at h ⊢
  obtain ⟨h1, h2, h3, h4, h5, h6⟩ := h
  have hkl : (kpD D).length ≤ D.pts.length := kpF_len D _ _
  have hfl : (keepD D).fcs.length = D.fcs.length := by simp [keepD]
  refine ⟨h1, h2, by show (kpD D).length ≤ 48; omega, pOk_keep h4, by rw [hfl]; exact h5, ?_⟩
  rw [hfl]
  refine fOk_same _ _ (fun k _ hk hc => ?_) h6
  obtain ⟨f, hf⟩ := get_lt (l := D.fcs) (i := k) (by omega)
  have hf' : (keepD D).fcs[k]? = some (f.1, f.2.map (pq D)) := by simp [keepD, hf]
  simp only [fcOk, hf, hf', Option.getD_some] at hc ⊢
  have ho : ordF (keepD D).fcs k = ordF D.fcs k := by
    cases k with
    | zero => rfl
    | succ k =>
      obtain ⟨g, hg⟩ := get_lt (l := D.fcs) (i := k) (by omega)
      have hg' : (keepD D).fcs[k]? = some (g.1, g.2.map (pq D)) := by simp [keepD, hg]
      simp only [ordF, hf, hf', hg, hg', Option.getD_some]
  have hR : ringOk (keepD D).pts (f.2.map (pq D)) = ringOk D.pts f.2 := by
    unfold ringOk
    show (match rg (kpD D) (f.2.map (pq D)) [] with | some r => polyOk r | none => false) = _
    rw [rg_keep hb f.2 [] fun x hx => us_mem hb hr (List.mem_of_getElem? hf) hx]
    cases rg D.pts f.2 [] <;> rfl
  rw [ho, hR]
  exact hc
end Go.Proofs.Ythnkioafikmmaaa.walkS
