/- Straight points of a drawing; no conditions. -/
import Derived.Test.YthnkioafikmmaaaGreatWVd
namespace Go.Proofs.YthnkioafikmmaaaGreat.walkS
open Go Go.Proofs.YthnkioafikmmaaaGreat.Ev
set_option linter.unusedSimpArgs false
set_option linter.unusedVariables false
/-! ### a ring names no corner twice -/
theorem onB_self (a b : Pt) : onB a b a = true := by
  have h0 : crs a b a = 0 := by
    unfold crs
    have e1 : W (a.2 - a.2) = 0 := by rw [Int.sub_self]; decide
    have e2 : W (a.1 - a.1) = 0 := by rw [Int.sub_self]; decide
    rw [e1, e2, Int.mul_zero, Int.mul_zero]
    decide
  have h1 : sd a b a = 0 := by unfold sd; rw [h0]; decide
  have h2 : ∀ x y : Int, inR x (mnI x y) (mxI x y) = true := by
    intro x y
    unfold inR mnI mxI
    split <;> split <;> simp <;> omega
  unfold onB
  rw [h1, h2, h2]
  rfl
theorem inOk_all {l : List Pt} {i : Nat} : ∀ (m j : Nat), inOk l i m j = true → ∀ k, j ≤ k → k < j + m → (k + 1) % l.length = i ∨ touB (pt l i) (pt l (i + 1)) (pt l k) (pt l (k + 1)) = false := by
  intro m
  induction m with
  | zero => intro j _ k h1 h2; omega
  | succ m ih =>
    intro j h k h1 h2
    by_cases hk : k = j
    · subst hk
      by_cases hm : (k + 1) % l.length = i
      · exact .inl hm
      · right
        simp only [inOk, hm, decide_false, ifb_f] at h
        cases ht : touB (pt l i) (pt l (i + 1)) (pt l k) (pt l (k + 1))
        · rfl
        · rw [ht] at h; cases h
    · refine ih (j + 1) ?_ k (by omega) (by omega)
      simp only [inOk] at h
      cases hm : decide ((j + 1) % l.length = i) <;> rw [hm] at h
      · cases ht : touB (pt l i) (pt l (i + 1)) (pt l j) (pt l (j + 1)) <;> rw [ht] at h
        · exact h
        · cases h
      · exact h
theorem oOk_all {l : List Pt} : ∀ (m i : Nat), oOk l m i = true → ∀ k, i ≤ k → k < i + m → badAt (pt l k) (pt l (k + 1)) (pt l (k + 2)) = false ∧ inOk l k (l.length - (k + 2)) (k + 2) = true := by
  intro m
  induction m with
  | zero => intro i _ k h1 h2; omega
  | succ m ih =>
    intro i h k h1 h2
    simp only [oOk] at h
    cases hb : badAt (pt l i) (pt l (i + 1)) (pt l (i + 2)) <;> rw [hb] at h
    · cases hi : inOk l i (l.length - (i + 2)) (i + 2) <;> rw [hi] at h
      · cases h
      · by_cases hk : k = i
        · subst hk; exact ⟨hb, hi⟩
        · exact ih (i + 1) h k (by omega) (by omega)
    · cases h
theorem badAt_eq (a c : Pt) : badAt a a c = true := by simp [badAt]
theorem poly_nodup {l : List Pt} (h : polyOk l = true) {i k : Nat} {x : Pt} (hik : i < k) (hi : l[i]? = some x) (hk : l[k]? = some x) : False := by
  have hkl : k < l.length := (List.getElem?_eq_some_iff.1 hk).1
  simp only [polyOk, Bool.and_eq_true] at h
  obtain ⟨_, _, _, ho, _⟩ := h
  have all := oOk_all _ _ ho
  have pi : pt l i = x := pt_get (Nat.mod_eq_of_lt (by omega)).symm hi
  have pk : pt l k = x := pt_get (Nat.mod_eq_of_lt hkl).symm hk
  by_cases h1 : k = i + 1
  · have := (all i (by omega) (by omega)).1
    rw [← h1, pi, pk, badAt_eq] at this
    cases this
  · rcases inOk_all _ _ (all i (by omega) (by omega)).2 k (by omega) (by omega) with h2 | h2
    · have hn : k + 1 = l.length := by
        by_cases hlt : k + 1 < l.length
        · rw [Nat.mod_eq_of_lt hlt] at h2; omega
        · omega
      have h0 : i = 0 := by rw [hn, Nat.mod_self] at h2; omega
      have := (all k (by omega) (by omega)).1
      have pn' : pt l (k + 1) = x := pt_get (k := 0) (by rw [hn, Nat.mod_self]) (by rw [← h0]; exact hi)
      rw [pk, pn', badAt_eq] at this
      cases this
    · rw [pi, pk] at h2
      simp [touB, onB_self] at h2
theorem rg_spec {P : List Pt} : ∀ {l : List Int} {acc r : List Pt}, rg P l acc = some r → r = acc ++ l.map (fun x => pn P x.toNat) ∧ ∀ x ∈ l, inR x 0 (W (P.length - 1)) = true := by
  intro l
  induction l with
  | nil => intro acc r h; simp only [rg, Option.some.injEq] at h; subst h; simp
  | cons x l ih =>
    intro acc r h
    simp only [rg] at h
    cases hx : inR x 0 (W (P.length - 1)) <;> rw [hx] at h
    · cases h
    · obtain ⟨h1, h2⟩ := ih h
      refine ⟨by rw [h1]; simp, fun y hy => ?_⟩
      rcases List.mem_cons.1 hy with rfl | hy
      · exact hx
      · exact h2 y hy
theorem fOk_all {P : List Pt} {F : List Fc} : ∀ (m i : Nat), fOk P F m i = true → ∀ k, i ≤ k → k < i + m → fcOk P F k = true := by
  intro m
  induction m with
  | zero => intro i _ k h1 h2; omega
  | succ m ih =>
    intro i h k h1 h2
    simp only [fOk] at h
    cases hb : fcOk P F i <;> rw [hb] at h
    · cases h
    · by_cases hk : k = i
      · subst hk; exact hb
      · exact ih (i + 1) h k (by omega) (by omega)
/-- what a valid drawing's rings are -/
structure RingW (P : List Pt) (R : List Int) : Prop where
  inr : ∀ x ∈ R, inR x 0 (W (P.length - 1)) = true
  one : ∀ (i k : Nat) (x : Int), i < k → R[i]? = some x → R[k]? = some x → False
  pos : 3 ≤ R.length
  top : R.length ≤ 24
theorem drOk_ring {D : Dr} (h : drOk D = true) : ∀ f ∈ D.fcs, RingW D.pts f.2 := by
  intro f hf
  simp only [drOk, Bool.and_eq_true] at h
  obtain ⟨_, _, _, _, _, ho⟩ := h
  obtain ⟨k, hk⟩ := List.getElem?_of_mem hf
  have hkl : k < D.fcs.length := (List.getElem?_eq_some_iff.1 hk).1
  have := fOk_all _ _ ho k (by omega) (by omega)
  simp only [fcOk, hk, Option.getD_some] at this
  cases h1 : nameOk f.1 <;> rw [h1] at this
  · cases this
  cases h2 : ordF D.fcs k <;> rw [h2] at this
  · cases this
  simp only [ifb_t, ringOk] at this
  cases h3 : rg D.pts f.2 [] with
  | none => rw [h3] at this; cases this
  | some r =>
    rw [h3] at this
    obtain ⟨e, h4⟩ := rg_spec h3
    rw [List.nil_append] at e
    have hl : r.length = f.2.length := by rw [e, List.length_map]
    have hp := this
    simp only [polyOk, Bool.and_eq_true, decide_eq_true_eq] at hp
    refine ⟨h4, fun i k x hik hi hk => ?_, by omega, by omega⟩
    exact poly_nodup (x := pn D.pts x.toNat) this hik (by rw [e, List.getElem?_map, hi]; rfl) (by rw [e, List.getElem?_map, hk]; rfl)
/-! ### straight -/
def rn (R : List Int) (k : Nat) : Int := (R[k % R.length]?).getD 0
theorem rn_get {R : List Int} {i k : Nat} {x : Int} (h : k = i % R.length) (hx : R[k]? = some x) : rn R i = x := by
  unfold rn
  rw [← h, hx]
  rfl
/-- is the corner at place k of a ring straight? -/
def stAt (P : List Pt) (R : List Int) (p : Nat) (k : Nat) : Bool := decide (3 < R.length) && decide (sd (pn P (rn R (k + R.length - 1)).toNat) (pn P p) (pn P (rn R (k + 1)).toNat) = 0)
def sIn (P : List Pt) (R : List Int) (p : Nat) : Nat → Nat → Bool → Option Bool
  | 0, _, b => some b
  | m + 1, k, b => ifb (decide (rn R k = (p : Int))) (ifb (stAt P R p k) (sIn P R p m (k + 1) true) none) (sIn P R p m (k + 1) b)
def fr (F : List Fc) (i : Nat) : List Int := ((F[i]?).getD (.empty, [])).2
def sOut (P : List Pt) (F : List Fc) (p : Nat) : Nat → Nat → Bool → Option Bool
  | 0, _, b => some b
  | m + 1, i, b => match sIn P (fr F i) p (fr F i).length 0 b with | some b' => sOut P F p m (i + 1) b' | none => none
def spSt (D : Dr) (p : Nat) : Bool := (sOut D.pts D.fcs p D.fcs.length 0 false).getD false
/-- the first place of a number in a ring -/
def ixR (R : List Int) (p : Int) : Nat → Nat → Int
  | 0, _ => -1
  | m + 1, k => ifb (decide (rn R k = p)) (k : Int) (ixR R p m (k + 1))
theorem ixR_cases (R : List Int) (p : Int) : ∀ (m k : Nat), ixR R p m k = -1 ∨ ∃ j : Nat, ixR R p m k = (j : Int) ∧ k ≤ j ∧ j < k + m := by
  intro m
  induction m with
  | zero => intro k; exact .inl rfl
  | succ m ih =>
    intro k
    simp only [ixR]
    cases decide (rn R k = p)
    · rcases ih (k + 1) with h | ⟨j, h1, h2, h3⟩
      · exact .inl h
      · exact .inr ⟨j, h1, by omega, by omega⟩
    · exact .inr ⟨k, rfl, by omega, by omega⟩
theorem sIn_none {P : List Pt} {R : List Int} {p : Nat} : ∀ (m k : Nat) (b : Bool), (∀ j, k ≤ j → j < k + m → rn R j ≠ (p : Int)) → sIn P R p m k b = some b := by
  intro m
  induction m with
  | zero => intro k b _; rfl
  | succ m ih =>
    intro k b h
    simp only [sIn, h k (by omega) (by omega), decide_false, ifb_f]
    exact ih (k + 1) b fun j h1 h2 => h j (by omega) (by omega)
theorem sIn_ix {P : List Pt} {R : List Int} {p : Nat} (hR : RingW P R) : ∀ (m k : Nat) (b : Bool), m + k = R.length → sIn P R p m k b = (if ixR R p m k < 0 then some b else ifb (stAt P R p (ixR R p m k).toNat) (some true) none) := by
  intro m
  induction m with
  | zero => intro k b _; simp [sIn, ixR]
  | succ m ih =>
    intro k b hk
    by_cases hp : rn R k = (p : Int)
    · have h0 : ¬ (k : Int) < 0 := by omega
      have e1 : ixR R (p : Int) (m + 1) k = (k : Int) := by simp [ixR, hp]
      have e2 : sIn P R p (m + 1) k b = ifb (stAt P R p k) (sIn P R p m (k + 1) true) none := by simp [sIn, hp]
      have hn : sIn P R p m (k + 1) true = some true := sIn_none m (k + 1) true fun j h1 h2 e => by
        obtain ⟨x, hx⟩ := get_lt (l := R) (i := k) (by omega)
        obtain ⟨y, hy⟩ := get_lt (l := R) (i := j) (by omega)
        have ex : rn R k = x := rn_get (Nat.mod_eq_of_lt (by omega)).symm hx
        have ey : rn R j = y := rn_get (Nat.mod_eq_of_lt (by omega)).symm hy
        exact hR.one k j x (by omega) hx (by rw [hy]; congr 1; rw [← ey, e, ← hp, ex])
      rw [e1, e2, hn, if_neg h0, Int.toNat_natCast]
    · have e1 : ixR R (p : Int) (m + 1) k = ixR R (p : Int) m (k + 1) := by simp [ixR, hp]
      have e2 : sIn P R p (m + 1) k b = sIn P R p m (k + 1) b := by simp [sIn, hp]
      rw [e1, e2]
      exact ih (k + 1) b (by omega)
def iOut (P : List Pt) (F : List Fc) (p : Nat) : Nat → Nat → Bool → Bool → Bool × Bool
  | 0, _, b, s => (b, s)
  | m + 1, j, b, s => if ixR (fr F j) p (fr F j).length 0 < 0 then iOut P F p m (j + 1) b s else iOut P F p m (j + 1) true (s && stAt P (fr F j) p (ixR (fr F j) p (fr F j).length 0).toNat)
theorem iOut_false {P : List Pt} {F : List Fc} {p : Nat} : ∀ (m j : Nat) (b : Bool), (iOut P F p m j b false).2 = false := by
  intro m
  induction m with
  | zero => intro j b; rfl
  | succ m ih =>
    intro j b
    simp only [iOut, Bool.false_and]
    split
    · exact ih _ _
    · exact ih _ _
theorem out_same {P : List Pt} {F : List Fc} {p : Nat} (hr : ∀ f ∈ F, RingW P f.2) : ∀ (m j : Nat) (b : Bool), m + j = F.length → (sOut P F p m j b).getD false = ((iOut P F p m j b true).1 && (iOut P F p m j b true).2) := by
  intro m
  induction m with
  | zero => intro j b _; simp [sOut, iOut]
  | succ m ih =>
    intro j b hj
    obtain ⟨f, hf⟩ := get_lt (l := F) (i := j) (by omega)
    have hfr : fr F j = f.2 := by unfold fr; rw [hf]; rfl
    simp only [sOut, iOut, hfr]
    rw [sIn_ix (hr f (List.mem_of_getElem? hf)) _ _ _ (by omega)]
    by_cases h1 : ixR f.2 p f.2.length 0 < 0
    · simp only [h1, if_true]
      exact ih (j + 1) b (by omega)
    · simp only [h1, if_false, Bool.true_and]
      cases stAt P f.2 p (ixR f.2 p f.2.length 0).toNat
      · simp [iOut_false]
      · exact ih (j + 1) true (by omega)
def imSt (D : Dr) (p : Nat) : Bool := (iOut D.pts D.fcs p D.fcs.length 0 false true).1 && (iOut D.pts D.fcs p D.fcs.length 0 false true).2
theorem st_same {D : Dr} (hr : ∀ f ∈ D.fcs, RingW D.pts f.2) (p : Nat) : spSt D p = imSt D p := out_same hr _ _ _ (by omega)
/-- the numbers from i on that have a property -/
def whN (p : Nat → Bool) : Nat → Nat → List Int
  | 0, _ => []
  | m + 1, i => ifb (p i) ((i : Int) :: whN p m (i + 1)) (whN p m (i + 1))
theorem whN_len (p : Nat → Bool) : ∀ m i, (whN p m i).length ≤ m := by
  intro m
  induction m with
  | zero => intro i; exact Nat.le_refl _
  | succ m ih =>
    intro i
    have := ih (i + 1)
    cases h : p i <;> simp [whN, h] <;> omega
theorem whN_at {p : Nat → Bool} {m i : Nat} {acc r : List Int} (h : acc ++ whN p (m + 1) i = r) : ifb (p i) (acc ++ [(i : Int)]) acc ++ whN p m (i + 1) = r := by
  rw [← h]
  cases hp : p i <;> simp [whN, hp]
theorem whN_same {p q : Nat → Bool} (h : ∀ i, p i = q i) : ∀ m i, whN p m i = whN q m i := by
  intro m
  induction m with
  | zero => intro i; rfl
  | succ m ih => intro i; simp only [whN, h i, ih]
/-- what is answered: the numbers (none: nil) and the code -/
def strOf (D : Dr) : LV × Int := ifb (drOk D) (.ow 2 1 ((whN (spSt D) D.pts.length 0).map iC), 0) (.nl, 1)
end Go.Proofs.YthnkioafikmmaaaGreat.walkS
