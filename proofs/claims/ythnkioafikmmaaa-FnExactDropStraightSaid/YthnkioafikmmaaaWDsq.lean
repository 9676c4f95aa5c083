/- Straight points struck out of the rings, the smallest first: a valid drawing stays valid; no conditions. -/
import Derived.Test.YthnkioafikmmaaaWGh
import Derived.Test.YthnkioafikmmaaaWDuq
namespace Go.Proofs.Ythnkioafikmmaaa.walkS
open Go Go.Proofs.Ythnkioafikmmaaa.Ev
set_option linter.unusedSimpArgs false
set_option linter.unusedVariables false
/-- a ring without a number -/
def stR (p : Int) (R : List Int) : List Int := R.filter fun x => decide (x ≠ p)
/-- a drawing, a point struck out of its rings -/
def stk (D : Dr) (i : Nat) : Dr := ⟨D.w, D.h, D.pts, D.fcs.map fun f => (f.1, stR i f.2)⟩
theorem stR_none {p : Int} : ∀ {R : List Int}, (∀ j : Nat, R[j]? ≠ some p) → stR p R = R := by
  intro R h
  unfold stR
  rw [List.filter_eq_self]
  intro x hx
  obtain ⟨j, hj⟩ := List.getElem?_of_mem hx
  exact decide_eq_true fun e => h j (by rw [hj, e])
theorem stR_one {p : Int} : ∀ {R : List Int} {j : Nat}, R[j]? = some p → (∀ i, i ≠ j → R[i]? ≠ some p) → stR p R = R.eraseIdx j := by
  intro R
  induction R with
  | nil => intro j h _; simp at h
  | cons x R ih =>
    intro j h h1
    cases j with
    | zero =>
      have e : x = p := by simpa using h
      subst e
      have := stR_none (p := x) (R := R) fun j => by simpa using h1 (j + 1) (by omega)
      show (x :: R).filter _ = R
      rw [List.filter_cons_of_neg (by simp)]
      exact this
    | succ j =>
      have e : x ≠ p := fun e => h1 0 (by omega) (by simp [e])
      have := ih (j := j) (by simpa using h) fun i hi => by simpa using h1 (i + 1) (by omega)
      show (x :: R).filter _ = x :: R.eraseIdx j
      rw [List.filter_cons_of_pos (by simpa using e), ← this]
      rfl
theorem map_erase {α β : Type} (f : α → β) : ∀ (l : List α) (j : Nat), (l.eraseIdx j).map f = (l.map f).eraseIdx j := by
  intro l
  induction l with
  | nil => intro j; rfl
  | cons x l ih => intro j; cases j with
    | zero => rfl
    | succ j => simp [ih]
theorem stR_len (p : Int) (R : List Int) : (stR p R).length ≤ R.length := List.length_filter_le _ _
theorem ixR_at {R : List Int} {p : Int} : ∀ (m k : Nat) {j : Nat}, k + m ≤ R.length → ixR R p m k = (j : Int) → R[j]? = some p := by
  intro m
  induction m with
  | zero => intro k j _ h; simp only [ixR] at h; omega
  | succ m ih =>
    intro k j hk h
    simp only [ixR] at h
    by_cases hp : rn R k = p
    · rw [decide_eq_true hp, ifb_t] at h
      have : j = k := by omega
      subst this
      obtain ⟨x, hx⟩ := get_lt (l := R) (i := j) (by omega)
      rw [rn_get (Nat.mod_eq_of_lt (by omega)).symm hx] at hp
      rw [hx, hp]
    · rw [decide_eq_false hp, ifb_f] at h
      exact ih (k + 1) (by omega) h
theorem ixR_no {R : List Int} {p : Int} (h : ixR R p R.length 0 < 0) (j : Nat) : R[j]? ≠ some p := fun e => by
  have hj := (List.getElem?_eq_some_iff.1 e).1
  have := ixR_mem (R := R) (p := p) e R.length 0 (by omega) (by omega) (by omega)
  omega
theorem sOut_each {P : List Pt} {F : List Fc} {p : Nat} : ∀ (m i : Nat) (b b' : Bool), sOut P F p m i b = some b' → ∀ j, i ≤ j → j < i + m → ∃ b1 b2, sIn P (fr F j) p (fr F j).length 0 b1 = some b2 := by
  intro m
  induction m with
  | zero => intro i b b' _ j h1 h2; omega
  | succ m ih =>
    intro i b b' h j h1 h2
    simp only [sOut] at h
    cases hs : sIn P (fr F i) p (fr F i).length 0 b with
    | none => rw [hs] at h; cases h
    | some c =>
      rw [hs] at h
      by_cases hj : j = i
      · subst hj; exact ⟨b, c, hs⟩
      · exact ih (i + 1) c b' h j (by omega) (by omega)
theorem spSt_at {D : Dr} (hr : ∀ f ∈ D.fcs, RingW D.pts f.2) {p : Nat} (h : spSt D p = true) {f : Fc} (hf : f ∈ D.fcs) : ixR f.2 p f.2.length 0 < 0 ∨ stAt D.pts f.2 p (ixR f.2 p f.2.length 0).toNat = true := by
  unfold spSt at h
  cases hs : sOut D.pts D.fcs p D.fcs.length 0 false with
  | none => rw [hs] at h; cases h
  | some b =>
    obtain ⟨j, hj⟩ := List.getElem?_of_mem hf
    have hjl := (List.getElem?_eq_some_iff.1 hj).1
    obtain ⟨b1, b2, h2⟩ := sOut_each _ _ _ _ hs j (by omega) (by omega)
    have hfr : fr D.fcs j = f.2 := by unfold fr; rw [hj]; rfl
    rw [hfr, sIn_ix (hr f hf) _ _ _ (by omega)] at h2
    by_cases hn : ixR f.2 p f.2.length 0 < 0
    · exact .inl hn
    · rw [if_neg hn] at h2
      cases hst : stAt D.pts f.2 p (ixR f.2 p f.2.length 0).toNat
      · rw [hst] at h2; cases h2
      · exact .inr rfl
theorem rg_of {P : List Pt} : ∀ (l : List Int) (acc : List Pt), (∀ x ∈ l, inR x 0 (W (P.length - 1)) = true) → rg P l acc = some (acc ++ l.map (fun x => pn P x.toNat)) := by
  intro l
  induction l with
  | nil => intro acc _; simp [rg]
  | cons x l ih =>
    intro acc h
    simp only [rg, h x (by simp), ifb_t]
    rw [ih _ fun y hy => h y (by simp [hy])]
    simp
theorem pt_rn {P : List Pt} {R : List Int} (hn : 0 < R.length) (i : Nat) : pt (R.map fun x => pn P x.toNat) i = pn P (rn R i).toNat := by
  obtain ⟨x, hx⟩ := get_lt (l := R) (i := i % R.length) (Nat.mod_lt _ hn)
  unfold pt rn
  rw [List.length_map, List.getElem?_map, hx]
  rfl
theorem ring_drop {P : List Pt} {R : List Int} {p j : Nat} (h : ringOk P R = true) (hj : R[j]? = some (p : Int)) (hs : stAt P R p j = true) : ringOk P (R.eraseIdx j) = true := by
  have hjl := (List.getElem?_eq_some_iff.1 hj).1
  unfold ringOk at h
  cases hr : rg P R [] with
  | none => rw [hr] at h; cases h
  | some r =>
    rw [hr] at h
    obtain ⟨e, hin⟩ := rg_spec hr
    rw [List.nil_append] at e
    have hl : r.length = R.length := by rw [e, List.length_map]
    obtain ⟨h1, ok, hsi, _⟩ := poly_iff.1 h
    have hpt : ∀ i, pt r i = pn P (rn R i).toNat := fun i => by rw [e]; exact pt_rn (by omega) i
    have hrj : rn R j = (p : Int) := rn_get (Nat.mod_eq_of_lt hjl).symm hj
    simp only [stAt, Bool.and_eq_true, decide_eq_true_eq] at hs
    have hok := pt_ok ok (by omega)
    have e1 : pt r (j + r.length - 1 + 1) = pt r j := by rw [show j + r.length - 1 + 1 = j + r.length by omega]; exact pt_per _
    have e2 : pt r (j + r.length - 1 + 2) = pt r (j + 1) := by rw [show j + r.length - 1 + 2 = j + 1 + r.length by omega]; exact pt_per _
    have hb := hsi.bad (j + r.length - 1)
    have hb2 := hsi.bad j
    rw [e1, e2] at hb
    unfold Geo.Bad at hb hb2
    have hc : Geo.crs (pt r (j + r.length - 1)) (pt r j) (pt r (j + 1)) = 0 := by
      rw [← crs_eq (hok _) (hok _) (hok _), ← sd_zero, hpt, hpt, hpt, hrj, hl]
      simpa using hs.2
    have hB := Geo.btw_of hc (fun q => hb (.inl q)) (fun q => hb2 (.inl q)) (fun q => hb (.inr (.inl q))) (fun q => hb (.inr (.inr q)))
    have := poly_drop h (by omega) hB
    unfold ringOk
    rw [rg_of _ _ fun x hx => hin x (List.mem_of_mem_eraseIdx hx), List.nil_append]
    have e3 : (R.eraseIdx j).map (fun x => pn P x.toNat) = r.eraseIdx j := by rw [e, map_erase]
    rw [e3]
    exact this
theorem drOk_stk {D : Dr} (h : drOk D = true) {p : Nat} (hs : spSt D p = true) : drOk (stk D p) = true := by
  have hr := drOk_ring h
  simp only [drOk, Bool.and_eq_true, decide_eq_true_eq] at h ⊢
  obtain ⟨h1, h2, h3, h4, h5, h6⟩ := h
  have hfl : (stk D p).fcs.length = D.fcs.length := by simp [stk]
  refine ⟨h1, h2, h3, h4, by rw [hfl]; exact h5, ?_⟩
  rw [hfl]
  refine fOk_same _ _ (fun k _ hk hc => ?_) h6
  obtain ⟨f, hf⟩ := get_lt (l := D.fcs) (i := k) (by omega)
  have hf' : (stk D p).fcs[k]? = some (f.1, stR p f.2) := by simp [stk, hf]
  simp only [fcOk, hf, hf', Option.getD_some] at hc ⊢
  have ho : ordF (stk D p).fcs k = ordF D.fcs k := by
    cases k with
    | zero => rfl
    | succ k =>
      obtain ⟨g, hg⟩ := get_lt (l := D.fcs) (i := k) (by omega)
      have hg' : (stk D p).fcs[k]? = some (g.1, stR p g.2) := by simp [stk, hg]
      simp only [ordF, hf, hf', hg, hg', Option.getD_some]
  have hm := List.mem_of_getElem? hf
  have hR : ringOk D.pts f.2 = true → ringOk (stk D p).pts (stR p f.2) = true := by
    intro hk
    show ringOk D.pts (stR p f.2) = true
    rcases spSt_at hr hs hm with hn | hst
    · rw [stR_none fun j => ixR_no hn j]; exact hk
    · rcases ixR_cases f.2 p f.2.length 0 with hx | ⟨j, hx, _, hj⟩
      · rw [stR_none fun j => ixR_no (by omega) j]; exact hk
      · rw [hx, Int.toNat_natCast] at hst
        have hat := ixR_at _ _ (by omega) hx
        rw [stR_one hat fun i hi e => by
          rcases Nat.lt_or_gt_of_ne hi with q | q
          · exact (hr f hm).one i j _ q e hat
          · exact (hr f hm).one j i _ q hat e]
        exact ring_drop hk hat hst
  rw [ho]
  cases ha : nameOk f.1 <;> rw [ha] at hc
  · cases hc
  cases hb : ordF D.fcs k <;> rw [hb] at hc
  · cases hc
  simp only [ifb_t] at hc ⊢
  exact hR hc
theorem stk_b {D : Dr} (hb : BdN D) (p : Nat) : BdN (stk D p) := by
  refine ⟨⟨hb.pts, by simpa [stk] using hb.fcs, fun f hf => ?_⟩, fun f hf => ?_⟩
  · obtain ⟨g, hg, rfl⟩ := List.mem_map.1 hf
    have := hb.ring g hg
    have := stR_len p g.2
    show (stR p g.2).length ≤ big
    omega
  · obtain ⟨g, hg, rfl⟩ := List.mem_map.1 hf
    exact hb.name g hg
/-! ### one after another -/
inductive DsR : Dr → Nat → Dr → Prop
  | done {D i} (h : D.pts.length ≤ i) : DsR D i D
  | skip {D i T} (h : i < D.pts.length) (hs : spSt D i = false) (ht : DsR D (i + 1) T) : DsR D i T
  | strike {D i T} (h : i < D.pts.length) (hs : spSt D i = true) (ht : DsR (stk D i) 0 T) : DsR D i T
def szR : List Fc → Nat
  | [] => 0
  | f :: l => f.2.length + szR l
theorem sIn_true {P : List Pt} {R : List Int} {p : Nat} (h : ∀ j : Nat, R[j]? ≠ some (p : Int)) : ∀ (m k : Nat) (b b' : Bool), k + m ≤ R.length → sIn P R p m k b = some b' → b' = b := by
  intro m
  induction m with
  | zero => intro k b b' _ h; simpa [sIn] using h.symm
  | succ m ih =>
    intro k b b' hk hs
    obtain ⟨x, hx⟩ := get_lt (l := R) (i := k) (by omega)
    have e : rn R k ≠ (p : Int) := by
      rw [rn_get (Nat.mod_eq_of_lt (by omega)).symm hx]
      exact fun e => h k (by rw [hx, e])
    simp only [sIn, e, decide_false, ifb_f] at hs
    exact ih _ _ _ (by omega) hs
theorem spSt_used {D : Dr} {p : Nat} (h : spSt D p = true) : ∃ f ∈ D.fcs, ∃ j : Nat, f.2[j]? = some (p : Int) := by
  refine Classical.byContradiction fun hn => ?_
  have key : ∀ (m i : Nat) (b : Bool), i + m = D.fcs.length → sOut D.pts D.fcs p m i false = some b → b = false := by
    intro m
    induction m with
    | zero => intro i b _ h; simpa [sOut] using h.symm
    | succ m ih =>
      intro i b hi h
      simp only [sOut] at h
      obtain ⟨f, hf⟩ := get_lt (l := D.fcs) (i := i) (by omega)
      have hfr : fr D.fcs i = f.2 := by unfold fr; rw [hf]; rfl
      rw [hfr] at h
      cases hs : sIn D.pts f.2 p f.2.length 0 false with
      | none => rw [hs] at h; cases h
      | some c =>
        have := sIn_true (R := f.2) (p := p) (fun j e => hn ⟨f, List.mem_of_getElem? hf, j, e⟩) _ _ _ _ (by omega) hs
        subst this
        rw [hs] at h
        exact ih _ _ (by omega) h
  unfold spSt at h
  cases hs : sOut D.pts D.fcs p D.fcs.length 0 false with
  | none => rw [hs] at h; cases h
  | some b =>
    have := key _ _ _ (by omega) hs
    subst this
    rw [hs] at h
    cases h
theorem szR_le (p : Int) : ∀ F : List Fc, szR (F.map fun f => (f.1, stR p f.2)) ≤ szR F := by
  intro F
  induction F with
  | nil => exact Nat.le_refl _
  | cons f F ih => have := stR_len p f.2; simp only [List.map_cons, szR]; omega
theorem szR_lt {p : Int} : ∀ {F : List Fc} {f : Fc} {j : Nat}, f ∈ F → f.2[j]? = some p → szR (F.map fun f => (f.1, stR p f.2)) < szR F := by
  intro F
  induction F with
  | nil => intro f j h; simp at h
  | cons g F ih =>
    intro f j hf hj
    simp only [List.map_cons, szR]
    rcases List.mem_cons.1 hf with rfl | hf
    · have h1 := szR_le p F
      have h2 : (stR p f.2).length < f.2.length := by
        refine Nat.lt_of_le_of_ne (stR_len p f.2) fun e => ?_
        have := List.length_filter_eq_length_iff.1 e p (List.mem_of_getElem? hj)
        simp at this
      omega
    · have h1 := ih hf hj
      have h2 := stR_len p g.2
      omega
theorem DsR_ex : ∀ (m : Nat) (D : Dr) (i : Nat), szR D.fcs * (D.pts.length + 1) + (D.pts.length - i) ≤ m → ∃ T, DsR D i T := by
  intro m
  induction m with
  | zero => intro D i h; exact ⟨D, .done (by omega)⟩
  | succ m ih =>
    intro D i h
    by_cases hi : i < D.pts.length
    case neg => exact ⟨D, .done (by omega)⟩
    cases hs : spSt D i
    · obtain ⟨T, hT⟩ := ih D (i + 1) (by omega)
      exact ⟨T, .skip hi hs hT⟩
    · obtain ⟨f, hf, j, hj⟩ := spSt_used hs
      have hlt := szR_lt hf hj
      obtain ⟨T, hT⟩ := ih (stk D i) 0 (by
        show szR (D.fcs.map _) * (D.pts.length + 1) + (D.pts.length - 0) ≤ m
        have := Nat.mul_le_mul_right (D.pts.length + 1) hlt
        rw [Nat.succ_mul] at this
        omega)
      exact ⟨T, .strike hi hs hT⟩
noncomputable def dsD (D : Dr) : Dr := Classical.choose (DsR_ex _ D 0 (Nat.le_refl _))
theorem dsD_R (D : Dr) : DsR D 0 (dsD D) := Classical.choose_spec (DsR_ex _ D 0 (Nat.le_refl _))
theorem DsR.ok {D : Dr} {i : Nat} {T : Dr} (h : DsR D i T) (ho : drOk D = true) (hb : BdN D) : drOk T = true ∧ BdN T := by
  induction h with
  | done _ => exact ⟨ho, hb⟩
  | skip _ _ _ ih => exact ih ho hb
  | strike _ hs _ ih => exact ih (drOk_stk ho hs) (stk_b hb _)
theorem DsR.fcs {D : Dr} {i : Nat} {T : Dr} (h : DsR D i T) (hn : D.fcs ≠ []) : T.fcs ≠ [] := by
  induction h with
  | done _ => exact hn
  | skip _ _ _ ih => exact ih hn
  | strike _ hs _ ih => exact ih (by simpa [stk] using hn)
/-- the smallest straight point first -/
inductive DsI : Dr → Dr → Prop
  | done {D} (h : whN (spSt D) D.pts.length 0 = []) : DsI D D
  | step {D T} {x : Nat} {t : List Int} (h : whN (spSt D) D.pts.length 0 = (x : Int) :: t) (hx : x < D.pts.length) (hs : spSt D x = true) (ht : DsI (stk D x) T) : DsI D T
theorem whN_none {q : Nat → Bool} : ∀ (m i : Nat), (∀ j, i ≤ j → j < i + m → q j = false) → whN q m i = [] := by
  intro m
  induction m with
  | zero => intro i _; rfl
  | succ m ih => intro i h; simp only [whN, h i (by omega) (by omega), ifb_f]; exact ih _ fun j h1 h2 => h j (by omega) (by omega)
theorem whN_first {q : Nat → Bool} {i : Nat} (hq : q i = true) : ∀ (m k : Nat), k ≤ i → i < k + m → (∀ j, k ≤ j → j < i → q j = false) → ∃ t, whN q m k = (i : Int) :: t := by
  intro m
  induction m with
  | zero => intro k h1 h2; omega
  | succ m ih =>
    intro k h1 h2 h3
    by_cases hk : k = i
    · subst hk; simp only [whN, hq, ifb_t]; exact ⟨_, rfl⟩
    · simp only [whN, h3 k (by omega) (by omega), ifb_f]
      exact ih _ (by omega) (by omega) fun j a b => h3 j (by omega) b
theorem DsR.im {D : Dr} {i : Nat} {T : Dr} (h : DsR D i T) : (∀ j, j < i → spSt D j = false) → DsI D T := by
  induction h with
  | done h => intro hj; exact .done (whN_none _ _ fun j _ h2 => hj j (by omega))
  | @skip D i T h hs ht ih =>
    intro hj
    refine ih fun j hj' => ?_
    by_cases e : j = i
    · subst e; exact hs
    · exact hj j (by omega)
  | @strike D i T h hs ht ih =>
    intro hj
    obtain ⟨t, ht'⟩ := whN_first hs D.pts.length 0 (by omega) (by omega) fun j _ b => hj j b
    exact .step ht' h hs (ih fun j hj => by omega)
theorem dsD_I (D : Dr) : DsI D (dsD D) := (dsD_R D).im fun j hj => by omega
end Go.Proofs.Ythnkioafikmmaaa.walkS
