/- The row UsableArea; no conditions. -/
import Derived.Test.YtejffoibihbnnaaWLct
import Derived.Test.YtejffoibihbnnaaWRow3
import Derived.Test.YtejffoibihbnnaaWSc
namespace Go.Proofs.Ytejffoibihbnnaa.walkS
open Go Go.Proofs.Ytejffoibihbnnaa.Ev
set_option linter.unusedSimpArgs false
set_option linter.unusedVariables false
/-! ### the plain law -/
def sumP (h : Int → Int → Int) : List Int → Int
  | x :: y :: t => h x y + sumP h (y :: t)
  | _ => 0
def dd : List Int → List Int
  | x :: y :: t => ifb (decide (x = y)) (dd (y :: t)) (x :: dd (y :: t))
  | l => l
theorem dd_head : ∀ (t : List Int) (x : Int), ∃ s, dd (x :: t) = x :: s := by
  intro t
  induction t with
  | nil => intro x; exact ⟨[], rfl⟩
  | cons y t ih =>
    intro x
    simp only [dd]
    by_cases h : x = y
    · rw [decide_eq_true h, h]; exact ih y
    · rw [decide_eq_false h]; exact ⟨_, rfl⟩
theorem sumP_dd {h : Int → Int → Int} (h0 : ∀ x, h x x = 0) : ∀ l : List Int, sumP h (dd l) = sumP h l := by
  intro l
  induction l with
  | nil => rfl
  | cons x t ih =>
    cases t with
    | nil => rfl
    | cons y t =>
      simp only [dd, sumP]
      by_cases e : x = y
      · rw [decide_eq_true e]
        simp only [ifb_t]
        rw [ih, e, h0]; omega
      · rw [decide_eq_false e]
        simp only [ifb_f]
        obtain ⟨s, hs⟩ := dd_head t y
        rw [hs] at ih ⊢
        simp only [sumP] at ih ⊢
        rw [ih]
theorem dd_mem {z : Int} : ∀ {l : List Int}, z ∈ dd l ↔ z ∈ l := by
  intro l
  induction l with
  | nil => simp [dd]
  | cons x t ih =>
    cases t with
    | nil => simp [dd]
    | cons y t =>
      simp only [dd]
      by_cases e : x = y
      · rw [decide_eq_true e]
        simp only [ifb_t]
        rw [ih, e]; simp
      · rw [decide_eq_false e]
        simp only [ifb_f, List.mem_cons] at ih ⊢
        rw [ih]
theorem dd_pw : ∀ {l : List Int}, l.Pairwise (· ≤ ·) → (dd l).Pairwise (fun x y => x ≤ y ∧ x ≠ y) := by
  intro l
  induction l with
  | nil => intro _; exact List.Pairwise.nil
  | cons x t ih =>
    intro h
    cases t with
    | nil => simp [dd]
    | cons y t =>
      obtain ⟨h1, h2⟩ := List.pairwise_cons.1 h
      simp only [dd]
      by_cases e : x = y
      · rw [decide_eq_true e]
        exact ih h2
      · rw [decide_eq_false e]
        simp only [ifb_f]
        refine List.pairwise_cons.2 ⟨fun z hz => ?_, ih h2⟩
        have hz := dd_mem.1 hz
        have q1 := h1 z hz
        have q2 := h1 y (by simp)
        refine ⟨q1, fun q => ?_⟩
        rcases List.mem_cons.1 hz with r | r
        · omega
        · have := (List.pairwise_cons.1 h2).1 z r; omega
theorem sumP_law {h : Int → Int → Int} (h0 : ∀ x, h x x = 0) {a l : List Int} (ha : a.Pairwise (· < ·)) (hm : ∀ z, z ∈ a ↔ z ∈ l) : sumP h (sortZ l) = sumP h a := by
  rw [← sumP_dd h0, strict_ext (le := fun x y : Int => x ≤ y) (fun _ _ h h' => Int.le_antisymm h h') (dd_pw (sortZ_pw l)) (ha.imp fun {x y} h => ⟨by omega, by omega⟩) fun z => by rw [dd_mem, sortZ_mem, hm]]
theorem sumP_congr {h h' : Int → Int → Int} {p : Int → Prop} (e : ∀ x y, p x → p y → x ≤ y → h x y = h' x y) : ∀ {l : List Int}, (∀ z ∈ l, p z) → l.Pairwise (· ≤ ·) → sumP h l = sumP h' l := by
  intro l
  induction l with
  | nil => intro _ _; rfl
  | cons x t ih =>
    intro hp hs
    cases t with
    | nil => rfl
    | cons y t =>
      obtain ⟨h1, h2⟩ := List.pairwise_cons.1 hs
      simp only [sumP]
      rw [e x y (hp x (by simp)) (hp y (by simp)) (h1 y (by simp)), ih (fun z hz => hp z (by simp [hz])) h2]
theorem sumP_zero {h : Int → Int → Int} (e : ∀ x y, h x y = 0) : ∀ l : List Int, sumP h l = 0 := by
  intro l
  induction l with
  | nil => rfl
  | cons x t ih =>
    cases t with
    | nil => rfl
    | cons y t => simp only [sumP]; rw [e, ih]; rfl
theorem sumP_bd {h : Int → Int → Int} {p : Int → Prop} {c : Int} (e : ∀ x y, p x → p y → x ≤ y → 0 ≤ h x y ∧ h x y ≤ c) (hc : 0 ≤ c) : ∀ {l : List Int}, (∀ z ∈ l, p z) → l.Pairwise (· ≤ ·) → 0 ≤ sumP h l ∧ sumP h l ≤ l.length * c := by
  intro l
  induction l with
  | nil => intro _ _; simp [sumP]
  | cons x t ih =>
    intro hp hs
    cases t with
    | nil => simp [sumP]; omega
    | cons y t =>
      obtain ⟨h1, h2⟩ := List.pairwise_cons.1 hs
      obtain ⟨q1, q2⟩ := e x y (hp x (by simp)) (hp y (by simp)) (h1 y (by simp))
      obtain ⟨q3, q4⟩ := ih (fun z hz => hp z (by simp [hz])) h2
      simp only [sumP]
      have : (((x :: y :: t).length : Nat) : Int) * c = c + ((y :: t).length : Nat) * c := by
        rw [show (((x :: y :: t).length : Nat) : Int) = ((y :: t).length : Nat) + 1 by simp]
        rw [Int.add_mul]; omega
      omega
def area (g : Bx → Bool) (x x' y y' : Int) : Int := ifb (g (x, y, x' - x, y' - y)) ((x' - x) * (y' - y)) 0
def rowA (g : Bx → Bool) (ys : List Int) (x x' : Int) : Int := sumP (area g x x') ys
def allA (g : Bx → Bool) (xs ys : List Int) : Int := sumP (rowA g ys) xs
theorem area_y (g : Bx → Bool) (x x' y : Int) : area g x x' y y = 0 := by
  unfold area
  rw [Int.sub_self, Int.mul_zero]
  cases g (x, y, x' - x, 0) <;> rfl
theorem area_x (g : Bx → Bool) (x y y' : Int) : area g x x y y' = 0 := by
  unfold area
  rw [Int.sub_self, Int.zero_mul]
  cases g (x, y, 0, y' - y) <;> rfl
theorem allA_law (g : Bx → Bool) {a l b m : List Int} (ha : a.Pairwise (· < ·)) (hb : b.Pairwise (· < ·)) (hm : ∀ z, z ∈ a ↔ z ∈ l) (hn : ∀ z, z ∈ b ↔ z ∈ m) : allA g (sortZ l) (sortZ m) = allA g a b := by
  unfold allA
  rw [sumP_law (fun x => sumP_zero (fun y y' => area_x g x y y') _) ha hm]
  congr 1
  funext x x'
  exact sumP_law (area_y g x x') hb hn
theorem area_bd {g : Bx → Bool} {x x' y y' : Int} (hx : 0 ≤ x ∧ x ≤ 20000) (hx' : 0 ≤ x' ∧ x' ≤ 20000) (hy : 0 ≤ y ∧ y ≤ 20000) (hy' : 0 ≤ y' ∧ y' ≤ 20000) (h1 : x ≤ x') (h2 : y ≤ y') : 0 ≤ area g x x' y y' ∧ area g x x' y y' ≤ 400000000 := by
  have := ar_bd (w := x' - x) (l := y' - y) (by omega) (by omega)
  have h3 : 0 ≤ (x' - x) * (y' - y) := Int.mul_nonneg (by omega) (by omega)
  unfold area
  cases g (x, y, x' - x, y' - y)
  · simp only [ifb_f]; omega
  · simp only [ifb_t]; omega
theorem rowA_bd {g : Bx → Bool} {ys : List Int} (hY : smX ys) (hs : ys.Pairwise (· ≤ ·)) {x x' : Int} (hx : 0 ≤ x ∧ x ≤ 20000) (hx' : 0 ≤ x' ∧ x' ≤ 20000) (h1 : x ≤ x') : 0 ≤ rowA g ys x x' ∧ rowA g ys x x' ≤ ys.length * 400000000 :=
  sumP_bd (p := fun z => 0 ≤ z ∧ z ≤ 20000) (fun y y' hy hy' h2 => area_bd hx hx' hy hy' h1 h2) (by omega) hY hs
theorem pw_le {l : List Int} (h : l.Pairwise (· < ·)) : l.Pairwise (· ≤ ·) := h.imp fun h => by omega
def ndI (df : List Bx) (q : Bx) : Bool := !df.any fun c => comOk c q
theorem ndI_same {L : Lf} (h : LcB L) {x x' y y' : Int} (hx : 0 ≤ x ∧ x ≤ 20000) (hx' : 0 ≤ x' ∧ x' ≤ 20000) (hy : 0 ≤ y ∧ y ≤ 20000) (hy' : 0 ≤ y' ∧ y' ≤ 20000) (h1 : x ≤ x') (h2 : y ≤ y') : area (ndI L.df) x x' y y' = area (clr L.df) x x' y y' := by
  by_cases e1 : x = x'
  · subst e1; rw [area_x, area_x]
  by_cases e2 : y = y'
  · subst e2; rw [area_y, area_y]
  unfold area
  have hw := h.w
  have hl := h.l
  have sq : smallB (x, y, x' - x, y' - y) := ⟨by simp only; omega, by simp only; omega, by simp only; omega, by simp only; omega⟩
  have e : ndI L.df (x, y, x' - x, y' - y) = clr L.df (x, y, x' - x, y' - y) := by
    have f1 : (L.df.any fun b => comOk b (x, y, x' - x, y' - y)) = L.df.any fun b => meetB (x, y, x' - x, y' - y) b := by
      have : ∀ {l : List Bx}, (∀ b ∈ l, b ∈ L.df) → (l.any fun b => comOk b (x, y, x' - x, y' - y)) = l.any fun b => meetB (x, y, x' - x, y' - y) b := by
        intro l
        induction l with
        | nil => intro _; rfl
        | cons c t ih =>
          intro hs
          rw [List.any_cons, List.any_cons, ih fun b hb => hs b (by simp [hb]), meet_same (by have := h.d c (hs c (by simp)); refine ⟨?_, ?_, ?_, ?_⟩ <;> omega) sq]
      exact this fun b hb => hb
    have f2 : clW L.df (x, y, x' - x, y' - y) = clr L.df (x, y, x' - x, y' - y) := clW_clr (fun c hc => wrap_sm (by have := h.d c hc; omega)) (fun c hc => wrap_sm (by have := h.d c hc; omega)) (wrap_sm (by simp only; omega)) (wrap_sm (by simp only; omega))
    rw [← f2]
    unfold ndI clW
    rw [f1, List.all_eq_not_any_not]
    simp
  rw [e]
theorem allA_same {L : Lf} (h : LcB L) {xs ys : List Int} (hX : smX xs) (hY : smX ys) (sx : xs.Pairwise (· ≤ ·)) (sy : ys.Pairwise (· ≤ ·)) : allA (ndI L.df) xs ys = allA (clr L.df) xs ys :=
  sumP_congr (p := fun z => 0 ≤ z ∧ z ≤ 20000) (fun x x' hx hx' h1 => sumP_congr (p := fun z => 0 ≤ z ∧ z ≤ 20000) (fun y y' hy hy' h2 => ndI_same h hx hx' hy hy' h1 h2) hY sy) hX sx
theorem sum_drop {h : Int → Int → Int} {l : List Int} {i : Nat} {x y : Int} (e1 : l[i]? = some x) (e2 : l[i + 1]? = some y) : sumP h (l.drop i) = h x y + sumP h (l.drop (i + 1)) := by
  rw [drop_get e1, drop_get e2]
  rfl
theorem sum_end {h : Int → Int → Int} {l : List Int} {i : Nat} (e : ¬ i + 1 < l.length) : sumP h (l.drop i) = 0 := by
  by_cases h1 : i < l.length
  · obtain ⟨x, hx⟩ := get_lt h1
    rw [drop_get hx, List.drop_eq_nil_of_le (by omega)]; rfl
  · rw [List.drop_eq_nil_of_le (by omega)]; rfl
theorem pw_at {l : List Int} (hs : l.Pairwise (· ≤ ·)) {i : Nat} {x y : Int} (e1 : l[i]? = some x) (e2 : l[i + 1]? = some y) : x ≤ y := by
  obtain ⟨h1, rfl⟩ := List.getElem?_eq_some_iff.1 e1
  obtain ⟨h2, rfl⟩ := List.getElem?_eq_some_iff.1 e2
  exact List.pairwise_iff_getElem.1 hs i (i + 1) h1 h2 (by omega)
set_option maxHeartbeats 2000000 in
theorem l159_2 (d : Nat) (L : Lf) (h : LcB L) (xs ys : List Int) (hX : smX xs) (hY : smX ys) (sx : xs.Pairwise (· ≤ ·)) (sy : ys.Pairwise (· ≤ ·)) (lx : xs.length ≤ 100) (ly : ys.length ≤ 100) (i : Nat) (x x' : Int) (ex : xs[i]? = some x) (ex' : xs[i + 1]? = some x') : ∀ (n k : Nat) (acc r : Int), ys.length ≤ n + k → 0 ≤ acc → acc + (ys.length - k) * 400000000 ≤ 2000000000000 → acc + sumP (area (clr L.df) x x') (ys.drop k) = r →
    clC [0, 3, 4, 5, 6] [2] (blk 2 (lp (evC (ev (d + 2)) b159_2) (clean [0, 3, 4, 5, 6, 7]) ⟨lookS [(0, .rp (lV L)), (3, .rf (.sl 3) none 0 xs.length), (4, .rf (.sl 4) none 0 ys.length), (5, I acc), (6, I ((i : Int) + 1)), (7, I ((k : Int) + 1))], lookM [((.sl 3), some (.arr 2 1 (xs.map iC))), ((.sl 4), some (.arr 2 1 (ys.map iC)))]⟩)) =
      some (.nm, ⟨lookS [(0, .rp (lV L)), (3, .rf (.sl 3) none 0 xs.length), (4, .rf (.sl 4) none 0 ys.length), (5, I r), (6, I ((i : Int) + 1))], lookM [((.sl 3), some (.arr 2 1 (xs.map iC))), ((.sl 4), some (.arr 2 1 (ys.map iC)))]⟩) := by
  have bx := hX x (List.mem_of_getElem? ex)
  have bx' := hX x' (List.mem_of_getElem? ex')
  have hxx := pw_at sx ex ex'
  have i1 := (List.getElem?_eq_some_iff.1 ex').1
  have i2 : (i : Int) + 1 < (xs.length : Int) := by omega
  have i3 : (i : Int) < (xs.length : Int) := by omega
  have wi : IntKind.i64.wrap (i : Int) = (i : Int) := wrap_sm (by omega)
  have i4 : (0 : Int) ≤ (i : Int) + 1 := by omega
  have i5 : ((i : Int) + 1).toNat = i + 1 := by omega
  have hn := h.n
  intro n
  induction n with
  | zero =>
    intro k acc r hk ha hb hr
    have h0 : ¬ (k : Int) + 1 < (ys.length : Int) := by omega
    rw [sum_end (by omega)] at hr
    have e : acc = r := by omega
    subst e
    rw [lp_step]
    simp [h0]
  | succ n ih =>
    intro k acc r hk ha hb hr
    by_cases hlt : k + 1 < ys.length
    case neg =>
      have h0 : ¬ (k : Int) + 1 < (ys.length : Int) := by omega
      rw [sum_end (by omega)] at hr
      have e : acc = r := by omega
      subst e
      rw [lp_step]
      simp [h0]
    have h0 : (k : Int) + 1 < (ys.length : Int) := by omega
    have h1 : (k : Int) < (ys.length : Int) := by omega
    have h2 : (0 : Int) ≤ (k : Int) + 1 := by omega
    have h3 : ((k : Int) + 1).toNat = k + 1 := by omega
    obtain ⟨y', hy'⟩ := get_lt hlt
    obtain ⟨y, hy⟩ := get_lt (l := ys) (i := k) (by omega)
    have b1 := hY y (List.mem_of_getElem? hy)
    have b2 := hY y' (List.mem_of_getElem? hy')
    have hyy := pw_at sy hy hy'
    have wk : IntKind.i64.wrap (k : Int) = (k : Int) := wrap_sm (by omega)
    have wk2 : IntKind.i64.wrap ((k : Int) + 1 + 1) = (k : Int) + 1 + 1 := wrap_sm (by omega)
    have w1 : IntKind.i64.wrap (x' - x) = x' - x := wrap_sm (by omega)
    have w2 : IntKind.i64.wrap (y' - y) = y' - y := wrap_sm (by omega)
    have a1 := ar_bd (w := x' - x) (l := y' - y) (by omega) (by omega)
    have w3 : IntKind.i64.wrap ((x' - x) * (y' - y)) = (x' - x) * (y' - y) := wrap_sm (by omega)
    have w4 : IntKind.i64.wrap (acc + (x' - x) * (y' - y)) = acc + (x' - x) * (y' - y) := wrap_sm (by omega)
    have a2 := area_bd (g := clr L.df) bx bx' b1 b2 hxx hyy
    rw [sum_drop hy hy'] at hr
    have ih' := ih (k + 1) (acc + area (clr L.df) x x' y y') r (by omega) (by omega) (by omega) (by omega)
    simp only [Int.natCast_add, Int.cast_ofNat_Int] at ih'
    unfold area at ih'
    have c := r173 d L (x, y, x' - x, y' - y) (by simp only [big]; omega)
    rw [clW_clr (fun c hc => wrap_sm (by have := h.d c hc; have := h.w; omega)) (fun c hc => wrap_sm (by have := h.d c hc; have := h.l; omega)) (wrap_sm (by simp only; omega)) (wrap_sm (by simp only; omega))] at c
    rw [lp_step]
    cases g1 : clr L.df (x, y, x' - x, y' - y)
    · rw [g1] at c ih'
      simp only [ifb_f, Int.add_zero] at ih'
      simp [bV] at c
      simp [h0, h1, h2, h3, hy, hy', ex, ex', i2, i3, i4, i5, wi, wk, wk2, w1, w2, w3, w4, c, ih']
    · rw [g1] at c ih'
      simp only [ifb_t] at ih'
      simp [bV] at c
      simp [h0, h1, h2, h3, hy, hy', ex, ex', i2, i3, i4, i5, wi, wk, wk2, w1, w2, w3, w4, c, ih']
set_option maxHeartbeats 2000000 in
theorem l159_1 (d : Nat) (L : Lf) (h : LcB L) (xs ys : List Int) (hX : smX xs) (hY : smX ys) (sx : xs.Pairwise (· ≤ ·)) (sy : ys.Pairwise (· ≤ ·)) (lx : xs.length ≤ 20) (ly : ys.length ≤ 20) : ∀ (n i : Nat) (acc r : Int), xs.length ≤ n + i → 0 ≤ acc → acc + (xs.length - i) * 40000000000 ≤ 1000000000000 → acc + sumP (rowA (clr L.df) ys) (xs.drop i) = r →
    clC [5] [2] (blk 0 (lp (evC (ev (d + 2)) b159_1) (clean [0, 3, 4, 5, 6]) ⟨lookS [(0, .rp (lV L)), (3, .rf (.sl 3) none 0 xs.length), (4, .rf (.sl 4) none 0 ys.length), (5, I acc), (6, I ((i : Int) + 1))], lookM [((.sl 3), some (.arr 2 1 (xs.map iC))), ((.sl 4), some (.arr 2 1 (ys.map iC)))]⟩)) =
      some (.nm, ⟨lookS [(5, I r)], lookM []⟩) := by
  intro n
  induction n with
  | zero =>
    intro i acc r hi ha hb hr
    have h0 : ¬ (i : Int) + 1 < (xs.length : Int) := by omega
    rw [sum_end (by omega)] at hr
    have e : acc = r := by omega
    subst e
    rw [lp_step]
    simp [h0]
  | succ n ih =>
    intro i acc r hi ha hb hr
    by_cases hlt : i + 1 < xs.length
    case neg =>
      have h0 : ¬ (i : Int) + 1 < (xs.length : Int) := by omega
      rw [sum_end (by omega)] at hr
      have e : acc = r := by omega
      subst e
      rw [lp_step]
      simp [h0]
    have h0 : (i : Int) + 1 < (xs.length : Int) := by omega
    obtain ⟨x', hx'⟩ := get_lt hlt
    obtain ⟨x, hx⟩ := get_lt (l := xs) (i := i) (by omega)
    have b1 := hX x (List.mem_of_getElem? hx)
    have b2 := hX x' (List.mem_of_getElem? hx')
    have hxx := pw_at sx hx hx'
    have wi : IntKind.i64.wrap (i : Int) = (i : Int) := wrap_sm (by omega)
    have wi2 : IntKind.i64.wrap ((i : Int) + 1 + 1) = (i : Int) + 1 + 1 := wrap_sm (by omega)
    have a2 := rowA_bd (g := clr L.df) hY sy b1 b2 hxx
    have key := l159_2 d L h xs ys hX hY sx sy (by omega) (by omega) i x x' hx hx' ys.length 0 acc _ (by omega) ha (by simp only [Int.natCast_zero]; omega) rfl
    rw [List.drop_zero, show sumP (area (clr L.df) x x') ys = rowA (clr L.df) ys x x' from rfl] at key
    rw [sum_drop hx hx'] at hr
    have ih' := ih (i + 1) (acc + rowA (clr L.df) ys x x') r (by omega) (by omega) (by omega) (by omega)
    generalize rowA (clr L.df) ys x x' = q at key ih'
    simp only [Int.natCast_add, Int.cast_ofNat_Int] at ih' key
    try simp at key
    rw [lp_step]
    simp [h0, wi, wi2, key, ih']
theorem okL_six {L : Lf} (h : okL L = true) : L.df.length ≤ 6 := by
  simp only [okL, Bool.and_eq_true, decide_eq_true_eq, List.all_eq_true] at h
  exact h.2.2.2.2.2.2.1
def usaOf (L : Lf) : Int × Int := ifb (okL L) (allA (clr L.df) (lcX L) (lcY L), 0) (0, 1)
set_option maxHeartbeats 1000000 in
theorem r159 (d : Nat) (L : Lf) (h : LcB L) (h6 : L.df.length ≤ 6) : ev (d + 3) 159 [.rp (lV L)] = some (I (allA (clr L.df) (lcX L) (lcY L)), []) := by
  rw [s159 (d + 2) _ rfl]
  have hw := h.w
  have hl := h.l
  have w1 : ∀ c ∈ L.df, IntKind.i64.wrap (c.1 + c.2.2.1) = c.1 + c.2.2.1 := fun c hc => wrap_sm (by have := h.d c hc; omega)
  have w2 : ∀ c ∈ L.df, IntKind.i64.wrap (c.2.1 + c.2.2.2) = c.2.1 + c.2.2.2 := fun c hc => wrap_sm (by have := h.d c hc; omega)
  have c1 := r171 d L h.n w1
  have c2 := r172 d L h.n w2
  have lx := xsF_len (fun c : Bx => c.1) (fun c : Bx => c.1 + c.2.2.1) L.df [0, L.wd]
  have ly := xsF_len (fun c : Bx => c.2.1) (fun c : Bx => c.2.1 + c.2.2.2) L.df [0, L.ln]
  simp only [List.length_cons, List.length_nil] at lx ly
  have key := l159_1 d L h (lcX L) (lcY L) (lcX_sm h) (lcY_sm h) (pw_le (lcX_pw h)) (pw_le (lcY_pw h)) (by unfold lcX; omega) (by unfold lcY; omega) (lcX L).length 0 0 _ (by omega) (by omega) (by have q : (lcX L).length ≤ 14 := (by unfold lcX; omega); simp only [Int.natCast_zero]; omega) rfl
  rw [List.drop_zero, Int.zero_add, show sumP (rowA (clr L.df) (lcY L)) (lcX L) = allA (clr L.df) (lcX L) (lcY L) from rfl] at key
  change ev _ _ _ = some (.ow _ 1 ((lcX L).map iC), []) at c1
  change ev _ _ _ = some (.ow _ 1 ((lcY L).map iC), []) at c2
  generalize allA (clr L.df) (lcX L) (lcY L) = q at key ⊢
  generalize lcX L = xs at c1 key
  generalize lcY L = ys at c2 key
  simp at key
  simp [c1, c2, key]
theorem r64 (d : Nat) (L : Lf) (hb : L.df.length ≤ big) (h1 : L.id.size ≤ big) (h2 : L.fl.size ≤ big) : ev (d + 6) 64 [.ag (lV L)] = some (.tu [I (usaOf L).1, I (usaOf L).2], []) := by
  rw [s64 (d + 5) _ rfl]
  have c1 := r74 (d + 1) L hb h1 h2
  unfold usaOf
  cases h0 : okL L
  · rw [h0] at c1
    simp [c1]
  rw [h0] at c1
  have c2 := r159 (d + 2) L (okL_LcB h0) (okL_six h0)
  generalize allA (clr L.df) (lcX L) (lcY L) = q at c2 ⊢
  simp [c1, c2]
theorem rc160 (d : Nat) (q b : Bx) : ev (d + 3) 160 [.ag (bV b), .rp (bV q)] = some (B (comOk b q), []) := by
  rw [s160 (d + 2) _ rfl]
  simp [r81 d b q]
def lnX (df : List Bx) : List Int := df.flatMap fun c => [c.1, c.1 + c.2.2.1]
def lnY (df : List Bx) : List Int := df.flatMap fun c => [c.2.1, c.2.1 + c.2.2.2]
theorem lnX_len (df : List Bx) : (lnX df).length = 2 * df.length := by
  unfold lnX
  induction df with
  | nil => rfl
  | cons c t ih => rw [List.flatMap_cons, List.length_append, ih]; simp; omega
theorem lnY_len (df : List Bx) : (lnY df).length = 2 * df.length := by
  unfold lnY
  induction df with
  | nil => rfl
  | cons c t ih => rw [List.flatMap_cons, List.length_append, ih]; simp; omega
theorem lnX_mem {df : List Bx} {z : Int} : z ∈ lnX df ↔ ∃ c ∈ df, z = c.1 ∨ z = c.1 + c.2.2.1 := by
  unfold lnX
  simp [List.mem_flatMap]
theorem lnY_mem {df : List Bx} {z : Int} : z ∈ lnY df ↔ ∃ c ∈ df, z = c.2.1 ∨ z = c.2.1 + c.2.2.2 := by
  unfold lnY
  simp [List.mem_flatMap]
set_option maxHeartbeats 1000000 in
theorem l65_1 (d : Nat) (L : Lf) (h : LcB L) : ∀ (n i : Nat) (A C rA rC : List Int), n + i = L.df.length → A.length = 2 * i + 2 → C.length = 2 * i + 2 → A ++ lnX (L.df.drop i) = rA → C ++ lnY (L.df.drop i) = rC →
    clC [1, 4, 5] [2, 3] (blk 0 (lp (evC (ev d) b65_1) (clean [1, 4, 5, 22, 23, 24]) ⟨lookS [(1, .bp (.sl 1) 0), (4, .rf (.sl 4) none 0 A.length), (5, .rf (.sl 5) none 0 C.length), (22, .ro 4 (L.df.map bC)), (23, I L.df.length), (24, I i)], lookM [((.sl 1), some (.box (lV L))), ((.sl 4), some (.arr 2 1 (A.map iC))), ((.sl 5), some (.arr 2 1 (C.map iC)))]⟩)) =
      some (.nm, ⟨lookS [(1, .bp (.sl 1) 0), (4, .rf (.sl 4) none 0 rA.length), (5, .rf (.sl 5) none 0 rC.length)], lookM [((.sl 1), some (.box (lV L))), ((.sl 4), some (.arr 2 1 (rA.map iC))), ((.sl 5), some (.arr 2 1 (rC.map iC)))]⟩) := by
  have hn := h.n
  have hwd := h.w
  have hln := h.l
  intro n
  induction n with
  | zero =>
    intro i A C rA rC hi a1 a2 h1 h2
    have h0 : ¬ (i : Int) < (L.df.length : Int) := by omega
    rw [List.drop_eq_nil_of_le (by omega)] at h1 h2
    simp only [lnX, lnY, List.flatMap_nil, List.append_nil] at h1 h2
    subst h1 h2
    rw [lp_step]
    simp [h0]
  | succ n ih =>
    intro i A C rA rC hi a1 a2 h1 h2
    have hlt : i < L.df.length := by omega
    have h0 : (i : Int) < (L.df.length : Int) := by omega
    obtain ⟨c, hc⟩ := get_lt hlt
    have hd := h.d c (List.mem_of_getElem? hc)
    have hw := wrap_nat (i := i) (by omega)
    have w1 : IntKind.i64.wrap (c.1 + c.2.2.1) = c.1 + c.2.2.1 := wrap_sm (by omega)
    have w2 : IntKind.i64.wrap (c.2.1 + c.2.2.2) = c.2.1 + c.2.2.2 := wrap_sm (by omega)
    have b1 : A.length + 2 ≤ big := by simp only [big]; omega
    have b2 : C.length + 2 ≤ big := by simp only [big]; omega
    have b3 : A.length + 1 + 1 ≤ big := b1
    have b4 : C.length + 1 + 1 ≤ big := b2
    rw [drop_get hc] at h1 h2
    simp only [lnX, lnY, List.flatMap_cons] at h1 h2
    have ih' := ih (i + 1) (A ++ [c.1, c.1 + c.2.2.1]) (C ++ [c.2.1, c.2.1 + c.2.2.2]) rA rC (by omega) (by simp; omega) (by simp; omega) (by rw [List.append_assoc]; exact h1) (by rw [List.append_assoc]; exact h2)
    simp only [Int.natCast_add, Int.cast_ofNat_Int] at ih'
    simp at ih'
    rw [lp_step]
    simp [h0, hc, hw, w1, w2, b1, b2, b3, b4, ih']
set_option maxHeartbeats 2000000 in
theorem l65_3 (d : Nat) (L : Lf) (h : LcB L) (xs ys : List Int) (hX : smX xs) (hY : smX ys) (sx : xs.Pairwise (· ≤ ·)) (sy : ys.Pairwise (· ≤ ·)) (lx : xs.length ≤ 100) (ly : ys.length ≤ 100) (i : Nat) (x x' : Int) (ex : xs[i]? = some x) (ex' : xs[i + 1]? = some x') : ∀ (n k : Nat) (acc r : Int), ys.length ≤ n + k → 0 ≤ acc → acc + (ys.length - k) * 400000000 ≤ 2000000000000 → acc + sumP (area (ndI L.df) x x') (ys.drop k) = r →
    clC [1, 4, 5, 8, 9] [2, 3] (blk 4 (lp (evC (ev (d + 5)) b65_3) (clean [1, 4, 5, 8, 9, 10]) ⟨lookS [(1, .bp (.sl 1) 0), (4, .rf (.sl 4) none 0 xs.length), (5, .rf (.sl 5) none 0 ys.length), (8, I acc), (9, I ((i : Int) + 1)), (10, I ((k : Int) + 1))], lookM [((.sl 1), some (.box (lV L))), ((.sl 4), some (.arr 2 1 (xs.map iC))), ((.sl 5), some (.arr 2 1 (ys.map iC)))]⟩)) =
      some (.nm, ⟨lookS [(1, .bp (.sl 1) 0), (4, .rf (.sl 4) none 0 xs.length), (5, .rf (.sl 5) none 0 ys.length), (8, I r), (9, I ((i : Int) + 1))], lookM [((.sl 1), some (.box (lV L))), ((.sl 4), some (.arr 2 1 (xs.map iC))), ((.sl 5), some (.arr 2 1 (ys.map iC)))]⟩) := by
  have bx := hX x (List.mem_of_getElem? ex)
  have bx' := hX x' (List.mem_of_getElem? ex')
  have hxx := pw_at sx ex ex'
  have i1 := (List.getElem?_eq_some_iff.1 ex').1
  have i2 : (i : Int) + 1 < (xs.length : Int) := by omega
  have i3 : (i : Int) < (xs.length : Int) := by omega
  have wi : IntKind.i64.wrap (i : Int) = (i : Int) := wrap_sm (by omega)
  have i4 : (0 : Int) ≤ (i : Int) + 1 := by omega
  have i5 : ((i : Int) + 1).toNat = i + 1 := by omega
  have hn := h.n
  intro n
  induction n with
  | zero =>
    intro k acc r hk ha hb hr
    have h0 : ¬ (k : Int) + 1 < (ys.length : Int) := by omega
    rw [sum_end (by omega)] at hr
    have e : acc = r := by omega
    subst e
    rw [lp_step]
    simp [h0]
  | succ n ih =>
    intro k acc r hk ha hb hr
    by_cases hlt : k + 1 < ys.length
    case neg =>
      have h0 : ¬ (k : Int) + 1 < (ys.length : Int) := by omega
      rw [sum_end (by omega)] at hr
      have e : acc = r := by omega
      subst e
      rw [lp_step]
      simp [h0]
    have h0 : (k : Int) + 1 < (ys.length : Int) := by omega
    have h1 : (k : Int) < (ys.length : Int) := by omega
    have h2 : (0 : Int) ≤ (k : Int) + 1 := by omega
    have h3 : ((k : Int) + 1).toNat = k + 1 := by omega
    obtain ⟨y', hy'⟩ := get_lt hlt
    obtain ⟨y, hy⟩ := get_lt (l := ys) (i := k) (by omega)
    have b1 := hY y (List.mem_of_getElem? hy)
    have b2 := hY y' (List.mem_of_getElem? hy')
    have hyy := pw_at sy hy hy'
    have wk : IntKind.i64.wrap (k : Int) = (k : Int) := wrap_sm (by omega)
    have wk2 : IntKind.i64.wrap ((k : Int) + 1 + 1) = (k : Int) + 1 + 1 := wrap_sm (by omega)
    have w1 : IntKind.i64.wrap (x' - x) = x' - x := wrap_sm (by omega)
    have w2 : IntKind.i64.wrap (y' - y) = y' - y := wrap_sm (by omega)
    have a1 := ar_bd (w := x' - x) (l := y' - y) (by omega) (by omega)
    have w3 : IntKind.i64.wrap ((x' - x) * (y' - y)) = (x' - x) * (y' - y) := wrap_sm (by omega)
    have w4 : IntKind.i64.wrap (acc + (x' - x) * (y' - y)) = acc + (x' - x) * (y' - y) := wrap_sm (by omega)
    have a2 := area_bd (g := ndI L.df) bx bx' b1 b2 hxx hyy
    rw [sum_drop hy hy'] at hr
    have ih' := ih (k + 1) (acc + area (ndI L.df) x x' y y') r (by omega) (by omega) (by omega) (by omega)
    simp only [Int.natCast_add, Int.cast_ofNat_Int] at ih'
    unfold area at ih'
    have c := r79 (d + 3) 160 (bV (x, y, x' - x, y' - y)) (fun c => comOk c (x, y, x' - x, y' - y)) (fun c => rc160 d (x, y, x' - x, y' - y) c) L.df (by simp only [big]; omega)
    rw [show (L.df.any fun c => comOk c (x, y, x' - x, y' - y)) = !ndI L.df (x, y, x' - x, y' - y) by unfold ndI; rw [Bool.not_not]] at c
    rw [lp_step]
    cases g1 : ndI L.df (x, y, x' - x, y' - y)
    · rw [g1] at c ih'
      simp only [ifb_f, Int.add_zero] at ih'
      simp [bV] at c
      simp [h0, h1, h2, h3, hy, hy', ex, ex', i2, i3, i4, i5, wi, wk, wk2, w1, w2, w3, w4, c, ih']
    · rw [g1] at c ih'
      simp only [ifb_t] at ih'
      simp [bV] at c
      simp [h0, h1, h2, h3, hy, hy', ex, ex', i2, i3, i4, i5, wi, wk, wk2, w1, w2, w3, w4, c, ih']
set_option maxHeartbeats 2000000 in
theorem l65_2 (d : Nat) (L : Lf) (h : LcB L) (xs ys : List Int) (hX : smX xs) (hY : smX ys) (sx : xs.Pairwise (· ≤ ·)) (sy : ys.Pairwise (· ≤ ·)) (lx : xs.length ≤ 20) (ly : ys.length ≤ 20) : ∀ (n i : Nat) (acc r : Int), xs.length ≤ n + i → 0 ≤ acc → acc + (xs.length - i) * 40000000000 ≤ 1000000000000 → acc + sumP (rowA (ndI L.df) ys) (xs.drop i) = r →
    clC [8] [2, 3] (blk 2 (lp (evC (ev (d + 5)) b65_2) (clean [1, 4, 5, 8, 9]) ⟨lookS [(1, .bp (.sl 1) 0), (4, .rf (.sl 4) none 0 xs.length), (5, .rf (.sl 5) none 0 ys.length), (8, I acc), (9, I ((i : Int) + 1))], lookM [((.sl 1), some (.box (lV L))), ((.sl 4), some (.arr 2 1 (xs.map iC))), ((.sl 5), some (.arr 2 1 (ys.map iC)))]⟩)) =
      some (.nm, ⟨lookS [(8, I r)], lookM []⟩) := by
  intro n
  induction n with
  | zero =>
    intro i acc r hi ha hb hr
    have h0 : ¬ (i : Int) + 1 < (xs.length : Int) := by omega
    rw [sum_end (by omega)] at hr
    have e : acc = r := by omega
    subst e
    rw [lp_step]
    simp [h0]
  | succ n ih =>
    intro i acc r hi ha hb hr
    by_cases hlt : i + 1 < xs.length
    case neg =>
      have h0 : ¬ (i : Int) + 1 < (xs.length : Int) := by omega
      rw [sum_end (by omega)] at hr
      have e : acc = r := by omega
      subst e
      rw [lp_step]
      simp [h0]
    have h0 : (i : Int) + 1 < (xs.length : Int) := by omega
    obtain ⟨x', hx'⟩ := get_lt hlt
    obtain ⟨x, hx⟩ := get_lt (l := xs) (i := i) (by omega)
    have b1 := hX x (List.mem_of_getElem? hx)
    have b2 := hX x' (List.mem_of_getElem? hx')
    have hxx := pw_at sx hx hx'
    have wi : IntKind.i64.wrap (i : Int) = (i : Int) := wrap_sm (by omega)
    have wi2 : IntKind.i64.wrap ((i : Int) + 1 + 1) = (i : Int) + 1 + 1 := wrap_sm (by omega)
    have a2 := rowA_bd (g := ndI L.df) hY sy b1 b2 hxx
    have key := l65_3 d L h xs ys hX hY sx sy (by omega) (by omega) i x x' hx hx' ys.length 0 acc _ (by omega) ha (by simp only [Int.natCast_zero]; omega) rfl
    rw [List.drop_zero, show sumP (area (ndI L.df) x x') ys = rowA (ndI L.df) ys x x' from rfl] at key
    rw [sum_drop hx hx'] at hr
    have ih' := ih (i + 1) (acc + rowA (ndI L.df) ys x x') r (by omega) (by omega) (by omega) (by omega)
    generalize rowA (ndI L.df) ys x x' = q at key ih'
    simp only [Int.natCast_add, Int.cast_ofNat_Int] at ih' key
    try simp at key
    rw [lp_step]
    simp [h0, wi, wi2, key, ih']
theorem p118 (d : Nat) (zs : List Int) (h : zs.length ≤ big) : ev d (wrN + 118) [.ow 2 1 (zs.map iC)] = some (.tu [], [.ow 2 1 ((sortZ zs).map iC)]) := by
  rw [q118W]
  exact prim_sortI _ zs h
theorem lnA_sm {L : Lf} (h : LcB L) : smX (sortZ ([0, L.wd] ++ lnX L.df)) := fun z hz => by
  have hw := h.w
  have hz := sortZ_mem.1 hz
  rcases List.mem_append.1 hz with q | q
  · simp at q; omega
  · obtain ⟨c, hc, e⟩ := lnX_mem.1 q; have := h.d c hc; omega
theorem lnB_sm {L : Lf} (h : LcB L) : smX (sortZ ([0, L.ln] ++ lnY L.df)) := fun z hz => by
  have hw := h.l
  have hz := sortZ_mem.1 hz
  rcases List.mem_append.1 hz with q | q
  · simp at q; omega
  · obtain ⟨c, hc, e⟩ := lnY_mem.1 q; have := h.d c hc; omega
theorem usa_law {L : Lf} (h : LcB L) : allA (ndI L.df) (sortZ ([0, L.wd] ++ lnX L.df)) (sortZ ([0, L.ln] ++ lnY L.df)) = allA (clr L.df) (lcX L) (lcY L) := by
  rw [allA_same h (lnA_sm h) (lnB_sm h) (sortZ_pw _) (sortZ_pw _)]
  refine allA_law _ (lcX_pw h) (lcY_pw h) (fun z => ?_) (fun z => ?_)
  · rw [lcX_mem, List.mem_append, lnX_mem]; simp [or_assoc]
  · rw [lcY_mem, List.mem_append, lnY_mem]; simp [or_assoc]
set_option maxHeartbeats 1000000 in
theorem r65 (d : Nat) (L : Lf) (hb : L.df.length ≤ big) (h1 : L.id.size ≤ big) (h2 : L.fl.size ≤ big) : ev (d + 7) 65 [.ag (lV L)] = some (.tu [I (usaOf L).1, I (usaOf L).2], []) := by
  rw [s65 (d + 6) _ rfl]
  have c1 := r78 d L hb h1 h2
  unfold usaOf
  cases h0 : okL L
  · rw [h0] at c1
    simp [c1]
  rw [h0] at c1
  have h := okL_LcB h0
  have h6 := okL_six h0
  have k1 := l65_1 (d + 6) L h L.df.length 0 [0, L.wd] [0, L.ln] ([0, L.wd] ++ lnX L.df) ([0, L.ln] ++ lnY L.df) (by omega) rfl rfl (by rw [List.drop_zero]) (by rw [List.drop_zero])
  have e1 : ([0, L.wd] ++ lnX L.df).length ≤ 14 := by rw [List.length_append, lnX_len]; simp; omega
  have e2 : ([0, L.ln] ++ lnY L.df).length ≤ 14 := by rw [List.length_append, lnY_len]; simp; omega
  have s1' := sortZ_len ([0, L.wd] ++ lnX L.df)
  have s2' := sortZ_len ([0, L.ln] ++ lnY L.df)
  have c2 := p118 (d + 6) ([0, L.wd] ++ lnX L.df) (by simp only [big]; omega)
  have c3 := p118 (d + 6) ([0, L.ln] ++ lnY L.df) (by simp only [big]; omega)
  have k2 := l65_2 (d + 1) L h _ _ (lnA_sm h) (lnB_sm h) (sortZ_pw _) (sortZ_pw _) (by omega) (by omega) (sortZ ([0, L.wd] ++ lnX L.df)).length 0 0 _ (by omega) (by omega) (by simp only [Int.natCast_zero]; omega) rfl
  rw [List.drop_zero, Int.zero_add, show sumP (rowA (ndI L.df) (sortZ ([0, L.ln] ++ lnY L.df))) (sortZ ([0, L.wd] ++ lnX L.df)) = allA (ndI L.df) (sortZ ([0, L.wd] ++ lnX L.df)) (sortZ ([0, L.ln] ++ lnY L.df)) from rfl, usa_law h] at k2
  generalize allA (clr L.df) (lcX L) (lcY L) = q at k2 ⊢
  generalize [0, L.wd] ++ lnX L.df = A at k1 c2 k2 s1'
  generalize [0, L.ln] ++ lnY L.df = C at k1 c3 k2 s2'
  generalize sortZ A = A' at c2 k2 s1'
  generalize sortZ C = C' at c3 k2 s2'
  simp at k1
  simp [s1', s2'] at k2
  simp [c1, k1, c2, c3, k2, s1', s2']
set_option maxHeartbeats 1000000 in
theorem r13 (d : Nat) (L : Lf) (w : WfL L) {x : LV} (hx : SV 4 (L.df.map bC) x) : ev (d + 8) 13 [.ag (lA L x)] = some (B true, []) := by
  rw [s13 (d + 7) _ rfl]
  obtain ⟨k, hk, hs⟩ := r15 (d + 5) L 1048576 hx
  by_cases h : k < 0
  · rcases hx with rfl | ⟨rfl, _⟩ <;> simp [hk, h]
  obtain ⟨b1, b2, b3, _⟩ := szL_bounds (by omega) w (hs (by omega))
  have t1 := r17 (d + 4) L b1 hx
  have g1 := r64 (d + 1) L b1 b2 b3
  have g2 := r65 d L b1 b2 b3
  have q1 := r20 (d + 4) L b1
  generalize usaOf L = r at g1 g2
  obtain ⟨p, q⟩ := r
  rcases hx with rfl | ⟨rfl, _⟩ <;> simp [hk, h, t1, g1, g2, q1]
end Go.Proofs.Ytejffoibihbnnaa.walkS
