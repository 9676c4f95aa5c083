/- Polygons turned and moved; the row PlacedPolygon; no conditions. -/
import Derived.Test.YthnkioafikmmaaaGreatWSh
import Derived.Test.YthnkioafikmmaaaGreatWHd
import Derived.Test.YthnkioafikmmaaaGreatWPlb
import Derived.Test.YthnkioafikmmaaaGreatWMp
import Derived.Test.YthnkioafikmmaaaGreatWRcl
namespace Go.Proofs.YthnkioafikmmaaaGreat.walkS
open Go Go.Proofs.YthnkioafikmmaaaGreat.Ev
set_option linter.unusedSimpArgs false
set_option linter.unusedVariables false
/-- a quarter turn -/
def qtP (p : Pt) : Pt := (-p.2, p.1)
def rotP : Nat → Pt → Pt
  | 0, p => p
  | k + 1, p => rotP k (qtP p)
def mrP (u : Nat) (p : Pt) : Pt := if 3 < u then (-p.1, p.2) else p
def trP (u : Nat) (p : Pt) : Pt := rotP (u % 4) (mrP u p)
def inB (p : Pt) : Prop := (-20000 ≤ p.1 ∧ p.1 ≤ 20000) ∧ -20000 ≤ p.2 ∧ p.2 ≤ 20000
theorem qt_in {p : Pt} (h : inB p) : inB (qtP p) := by
  unfold inB qtP at *
  omega
theorem rot_in : ∀ (k : Nat) {p : Pt}, inB p → inB (rotP k p) := by
  intro k
  induction k with
  | zero => intro p h; exact h
  | succ k ih => intro p h; exact ih (qt_in h)
theorem mr_in {u : Nat} {p : Pt} (h : inB p) : inB (mrP u p) := by
  unfold mrP
  split
  · unfold inB at *
    simp only
    omega
  · exact h
theorem tr_in {u : Nat} {p : Pt} (h : inB p) : inB (trP u p) := rot_in _ (mr_in h)
theorem okP_in {p : Pt} (h : okP p = true) : inB p := by
  unfold okP inR at h
  simp only [Bool.and_eq_true, decide_eq_true_eq] at h
  unfold inB
  omega
/-- a ring the other way round, its first place kept -/
def bkL {α : Type} : List α → List α
  | [] => []
  | a :: t => a :: t.reverse
theorem bk_len {α : Type} (l : List α) : (bkL l).length = l.length := by cases l <;> simp [bkL]
theorem bk_map {α β : Type} (f : α → β) (l : List α) : bkL (l.map f) = (bkL l).map f := by cases l <;> simp [bkL]
theorem bk_get {α : Type} {l : List α} {i : Nat} (hi : i < l.length) : (bkL l)[i]? = l[(l.length - i) % l.length]? := by
  cases l with
  | nil => simp at hi
  | cons a t =>
    cases i with
    | zero => simp [bkL]
    | succ i =>
      simp only [List.length_cons] at hi
      have e : (t.length + 1 - (i + 1)) % (t.length + 1) = t.length - 1 - i + 1 := by
        rw [Nat.mod_eq_of_lt (by omega)]
        omega
      simp only [bkL, List.getElem?_cons_succ, List.length_cons]
      rw [e, List.getElem?_cons_succ, List.getElem?_reverse (by omega)]
theorem bk_mem {α : Type} {l : List α} {x : α} (h : x ∈ bkL l) : x ∈ l := by
  cases l with
  | nil => exact h
  | cons a t => simpa [bkL] using h
def dirL {α : Type} (u : Nat) (l : List α) : List α := if 3 < u then bkL l else l
theorem dir_len {α : Type} (u : Nat) (l : List α) : (dirL u l).length = l.length := by unfold dirL; split <;> simp [bk_len]
def bdS (a : Pt × Pt) (q : Pt) : Pt × Pt := ((mnI a.1.1 q.1, mnI a.1.2 q.2), (mxI a.2.1 q.1, mxI a.2.2 q.2))
def bdL (l : List Pt) : Pt × Pt := match l with | [] => ((0, 0), (0, 0)) | p :: t => t.foldl bdS (p, p)
theorem mn_self (a : Int) : mnI a a = a := by simp [mnI]
theorem mx_self (a : Int) : mxI a a = a := by simp [mxI]
theorem bdS_self (p : Pt) : bdS (p, p) p = (p, p) := by simp [bdS, mn_self, mx_self]
theorem bd_in : ∀ (l : List Pt) (a : Pt × Pt), (∀ p ∈ l, inB p) → inB a.1 → inB (l.foldl bdS a).1 := by
  intro l
  induction l with
  | nil => intro a _ h; exact h
  | cons q l ih =>
    intro a h ha
    refine ih _ (fun p hp => h p (by simp [hp])) ?_
    have hq := h q (by simp)
    unfold inB bdS mnI at *
    simp only
    refine ⟨⟨?_, ?_⟩, ?_, ?_⟩ <;> split <;> omega
theorem bdL_in {l : List Pt} (h : ∀ p ∈ l, inB p) : inB (bdL l).1 := by
  cases l with
  | nil => unfold bdL inB; simp
  | cons p t => exact bd_in t _ (fun q hq => h q (by simp [hq])) (h p (by simp))
def shP (dx dy : Int) (p : Pt) : Pt := (p.1 + dx, p.2 + dy)
def tuM (u : Nat) (l : List Pt) : List Pt := (dirL u l).map (trP u)
def tuL (u : Nat) (l : List Pt) : List Pt := (tuM u l).map (shP (-(bdL (tuM u l)).1.1) (-(bdL (tuM u l)).1.2))
theorem tuM_in {u : Nat} {l : List Pt} (h : ∀ p ∈ l, inB p) : ∀ p ∈ tuM u l, inB p := by
  intro p hp
  unfold tuM dirL at hp
  obtain ⟨q, hq, rfl⟩ := List.mem_map.1 hp
  refine tr_in (h q ?_)
  split at hq
  · exact bk_mem hq
  · exact hq
def inC (p : Pt) : Prop := (-40000 ≤ p.1 ∧ p.1 ≤ 40000) ∧ -40000 ≤ p.2 ∧ p.2 ≤ 40000
theorem tuL_in {u : Nat} {l : List Pt} (h : ∀ p ∈ l, inB p) : ∀ p ∈ tuL u l, inC p := by
  intro p hp
  have hb := bdL_in (tuM_in (u := u) h)
  unfold tuL at hp
  obtain ⟨q, hq, rfl⟩ := List.mem_map.1 hp
  have := tuM_in h q hq
  unfold inB inC shP at *
  simp only
  omega
theorem l37 (d : Nat) : ∀ (k : Nat) (p : Pt), k ≤ 3 → inB p →
    clC [2, 4] [4] (blk 0 (lp (evC (ev d) b37_1) (clean [2, 4, 5]) ⟨lookS [(2, .bp (.sl 2) 0), (4, .bp (.sl 4) 0), (5, I k)], lookM [((.sl 2), some (.box [I p.1, I p.2])), ((.sl 4), some (.box [I 0, I 0]))]⟩)) = some (.nm, ⟨lookS [(2, .bp (.sl 2) 0), (4, .bp (.sl 4) 0)], lookM [((.sl 2), some (.box [I (rotP k p).1, I (rotP k p).2])), ((.sl 4), some (.box [I 0, I 0]))]⟩) := by
  intro k
  induction k with
  | zero =>
    intro p _ _
    rw [lp_step]
    simp [rotP]
  | succ k ih =>
    intro p hk hp
    have ih' := ih (qtP p) (by omega) (qt_in hp)
    have hp' := hp
    unfold inB at hp'
    have w1 : IntKind.i64.wrap (-p.2) = -p.2 := IntWalk.i64_in _ (by omega)
    have w2 : IntKind.i64.wrap ((k : Int) + 1 - 1) = (k : Int) := by rw [Int.add_sub_cancel]; exact IntWalk.i64_in _ (by omega)
    have w3 : IntKind.i64.wrap (k : Int) = (k : Int) := IntWalk.i64_in _ (by omega)
    have h0 : (0 : Int) < (k : Int) + 1 := by omega
    simp [qtP] at ih'
    rw [lp_step]
    simp [h0, w1, w2, w3, rotP, qtP, ih']
theorem l42 (d : Nat) : ∀ (k : Nat) (p : Pt), k ≤ 3 → inB p →
    clC [2, 4] [4] (blk 0 (lp (evC (ev d) b42_1) (clean [2, 4, 5]) ⟨lookS [(2, .bp (.sl 2) 0), (4, .bp (.sl 4) 0), (5, I k)], lookM [((.sl 2), some (.box [I p.1, I p.2])), ((.sl 4), some (.box [I 0, I 0]))]⟩)) = some (.nm, ⟨lookS [(2, .bp (.sl 2) 0), (4, .bp (.sl 4) 0)], lookM [((.sl 2), some (.box [I (rotP k p).1, I (rotP k p).2])), ((.sl 4), some (.box [I 0, I 0]))]⟩) := by
  intro k
  induction k with
  | zero =>
    intro p _ _
    rw [lp_step]
    simp [rotP]
  | succ k ih =>
    intro p hk hp
    have ih' := ih (qtP p) (by omega) (qt_in hp)
    have hp' := hp
    unfold inB at hp'
    have w1 : IntKind.i64.wrap (-p.2) = -p.2 := IntWalk.i64_in _ (by omega)
    have w2 : IntKind.i64.wrap ((k : Int) + 1 - 1) = (k : Int) := by rw [Int.add_sub_cancel]; exact IntWalk.i64_in _ (by omega)
    have w3 : IntKind.i64.wrap (k : Int) = (k : Int) := IntWalk.i64_in _ (by omega)
    have h0 : (0 : Int) < (k : Int) + 1 := by omega
    simp [qtP] at ih'
    rw [lp_step]
    simp [h0, w1, w2, w3, rotP, qtP, ih']
theorem tm_four (u : Nat) : IntKind.i64.wrap ((u : Int).tmod 4) = ((u % 4 : Nat) : Int) := by
  rw [Int.tmod_eq_emod_of_nonneg (by omega), IntWalk.i64_in _ (by omega)]
  omega
theorem tm_four' (u : Nat) : (u : Int).tmod 4 = ((u % 4 : Nat) : Int) := by
  rw [Int.tmod_eq_emod_of_nonneg (by omega)]
  omega
theorem r37 (d : Nat) (p : Pt) (u : Nat) (hu : u ≤ 7) (hp : inB p) : ev (d + 1) 37 [.ag [I p.1, I p.2], I u] = some (.ag [I (trP u p).1, I (trP u p).2], []) := by
  rw [s37 d _ rfl]
  have e1 := tm_four u
  have e2 := tm_four' u
  have key := l37 d (u % 4) (mrP u p) (by omega) (mr_in hp)
  have hp' := hp
  unfold inB at hp'
  have w1 : IntKind.i64.wrap (-p.1) = -p.1 := IntWalk.i64_in _ (by omega)
  by_cases h : 3 < u
  · have h4 : (4 : Int) ≤ (u : Int) := by omega
    have em : mrP u p = (-p.1, p.2) := if_pos h
    unfold trP
    rw [em] at key ⊢
    simp at key
    simp [h4, w1, e1, e2, key]
  · have h4 : ¬ (4 : Int) ≤ (u : Int) := by omega
    have em : mrP u p = p := if_neg h
    unfold trP
    rw [em] at key ⊢
    simp at key
    simp [h4, e1, e2, key]
theorem r42 (d : Nat) (p : Pt) (u : Nat) (hu : u ≤ 7) (hp : inB p) : ev (d + 2) 42 [.ag [I p.1, I p.2], I u] = some (.ag [I (trP u p).1, I (trP u p).2], []) := by
  rw [s42 (d + 1) _ rfl]
  have e1 := tm_four u
  have e2 := tm_four' u
  have key := l42 (d + 1) (u % 4) (mrP u p) (by omega) (mr_in hp)
  have hp' := hp
  unfold inB at hp'
  have c1 := r40 d (u : Int) 0 7
  have c2 := r40 d p.1 (-20000) 20000
  have c3 := r40 d p.2 (-20000) 20000
  have i1 : inR (u : Int) 0 7 = true := by unfold inR; simp; omega
  have i2 : inR p.1 (-20000) 20000 = true := by unfold inR; simp; omega
  have i3 : inR p.2 (-20000) 20000 = true := by unfold inR; simp; omega
  rw [i1] at c1
  rw [i2] at c2
  rw [i3] at c3
  have w1 : IntKind.i64.wrap (-p.1) = -p.1 := IntWalk.i64_in _ (by omega)
  by_cases h : 3 < u
  · have h4 : (3 : Int) < (u : Int) := by omega
    have em : mrP u p = (-p.1, p.2) := if_pos h
    unfold trP
    rw [em] at key ⊢
    simp at key
    simp [c1, c2, c3, h4, w1, e1, e2, key]
  · have h4 : ¬ (3 : Int) < (u : Int) := by omega
    have em : mrP u p = p := if_neg h
    unfold trP
    rw [em] at key ⊢
    simp at key
    simp [c1, c2, c3, h4, e1, e2, key]
/-! ### a slice's rest turned about -/
section
variable {α : Type} [Inhabited α]
/-- behind i swaps -/
def rvI (t : List α) (i : Nat) : List α := (List.range t.length).map fun k => if k < i ∨ t.length ≤ k + i then t.reverse.getD k default else t.getD k default
theorem rv_get {t : List α} {i k : Nat} (hk : k < t.length) : (rvI t i)[k]? = some (if k < i ∨ t.length ≤ k + i then t.reverse.getD k default else t.getD k default) := by
  unfold rvI
  rw [List.getElem?_map, List.getElem?_range hk]
  rfl
theorem rv_len (t : List α) (i : Nat) : (rvI t i).length = t.length := by unfold rvI; simp
theorem getD_at {t : List α} {k : Nat} {x : α} (h : t[k]? = some x) : t.getD k default = x := by rw [List.getD_eq_getElem?_getD, h]; rfl
theorem rv_zero (t : List α) : rvI t 0 = t := by
  apply List.ext_getElem?
  intro k
  by_cases hk : k < t.length
  · rw [rv_get hk, if_neg (by omega)]
    obtain ⟨x, hx⟩ := get_lt hk
    rw [getD_at hx, hx]
  · rw [List.getElem?_eq_none (by rw [rv_len]; omega), List.getElem?_eq_none (by omega)]
theorem rv_end {t : List α} {i : Nat} (h : t.length ≤ 2 * i + 1) : rvI t i = t.reverse := by
  apply List.ext_getElem?
  intro k
  by_cases hk : k < t.length
  · rw [rv_get hk]
    obtain ⟨x, hx⟩ := get_lt (l := t.reverse) (i := k) (by rw [List.length_reverse]; exact hk)
    by_cases hc : k < i ∨ t.length ≤ k + i
    · rw [if_pos hc, getD_at hx, hx]
    · rw [if_neg hc]
      have hx2 := hx
      rw [List.getElem?_reverse hk, show t.length - 1 - k = k by omega] at hx2
      rw [getD_at hx2, hx]
  · rw [List.getElem?_eq_none (by rw [rv_len]; omega), List.getElem?_eq_none (by rw [List.length_reverse]; omega)]
theorem rv_step {t : List α} {i : Nat} {x y : α} (h : 2 * i + 1 < t.length) (hx : t[i]? = some x) (hy : t[t.length - 1 - i]? = some y) : ((rvI t i).set i y).set (t.length - 1 - i) x = rvI t (i + 1) := by
  apply List.ext_getElem?
  intro k
  by_cases hk : k < t.length
  · rw [rv_get hk]
    by_cases h1 : k = t.length - 1 - i
    · subst h1
      rw [List.getElem?_set_self (by rw [List.length_set, rv_len]; omega), if_pos (by omega)]
      congr 1
      symm
      refine getD_at ?_
      rw [List.getElem?_reverse (by omega), show t.length - 1 - (t.length - 1 - i) = i by omega, hx]
    · rw [List.getElem?_set_ne (by omega)]
      by_cases h2 : k = i
      · subst h2
        rw [List.getElem?_set_self (by rw [rv_len]; omega), if_pos (by omega)]
        congr 1
        symm
        refine getD_at ?_
        rw [List.getElem?_reverse (by omega), hy]
      · rw [List.getElem?_set_ne (by omega), rv_get hk]
        congr 1
        by_cases hc : k < i ∨ t.length ≤ k + i
        · rw [if_pos hc, if_pos (by omega)]
        · rw [if_neg hc, if_neg (by omega)]
  · rw [List.getElem?_eq_none (by rw [List.length_set, List.length_set, rv_len]; omega), List.getElem?_eq_none (by rw [rv_len]; omega)]
/-- rows, the first of them kept -/
def rvR (f : α → List Cell) (a : α) (t : List α) (i : Nat) : List (List Cell) := f a :: (rvI t i).map f
theorem rvR_len (f : α → List Cell) (a : α) (t : List α) (i : Nat) : (rvR f a t i).length = t.length + 1 := by simp [rvR, rv_len]
theorem rvR_zero (f : α → List Cell) (a : α) (t : List α) : rvR f a t 0 = f a :: t.map f := by unfold rvR; rw [rv_zero]
theorem rvR_end {f : α → List Cell} {a : α} {t : List α} {i : Nat} (h : t.length ≤ 2 * i + 1) : rvR f a t i = f a :: (t.map f).reverse := by unfold rvR; rw [rv_end h, List.map_reverse]
theorem rvR_get {f : α → List Cell} {a x : α} {t : List α} {i k : Nat} (h1 : i ≤ k) (h2 : k + i < t.length) (hx : t[k]? = some x) : (rvR f a t i)[1 + k]? = some (f x) := by
  unfold rvR
  rw [Nat.add_comm, List.getElem?_cons_succ, List.getElem?_map, rv_get (by omega), if_neg (by omega), getD_at hx]
  rfl
theorem rvR_step {f : α → List Cell} {a x y : α} {t : List α} {i : Nat} (h : 2 * i + 1 < t.length) (hx : t[i]? = some x) (hy : t[t.length - 1 - i]? = some y) : ((rvR f a t i).set (1 + i) (f y)).set (1 + (t.length - 1 - i)) (f x) = rvR f a t (i + 1) := by
  unfold rvR
  rw [Nat.add_comm 1, Nat.add_comm 1, List.set_cons_succ, List.set_cons_succ, ← List.map_set, ← List.map_set, rv_step h hx hy]
end
theorem l43 (d : Nat) (a : Int) (t : List Int) (ht : t.length ≤ 1000) : ∀ (n i : Nat), n + 2 * i = t.length →
    clC [100000] [100000] (blk 0 (lp (evC (ev d) b43_1) (clean [0, 2, 3, 100000]) ⟨lookS [(0, .rf (.sl 0) none 1 t.length), (2, I i), (3, I ((t.length : Int) - 1 - (i : Int))), (100000, .rf (.sl 0) none 0 (t.length + 1))], lookM [((.sl 0), some (.arr 2 1 (rvR iC a t i)))]⟩)) =
      some (.nm, ⟨lookS [(100000, .rf (.sl 100000) none 0 (t.length + 1))], lookM [((.sl 100000), some (.arr 2 1 (iC a :: (t.map iC).reverse)))]⟩) := by
  intro n
  induction n using Nat.strongRecOn with
  | _ n ih =>
    intro i hi
    by_cases h : 2 * i + 1 < t.length
    · obtain ⟨x, hx⟩ := get_lt (show i < t.length by omega)
      obtain ⟨y, hy⟩ := get_lt (show t.length - 1 - i < t.length by omega)
      have h0 : (i : Int) < (t.length : Int) - 1 - (i : Int) := by omega
      have ih' := ih (n - 2) (by omega) (i + 1) (by omega)
      have g1 := rvR_get (f := iC) (a := a) (i := i) (Nat.le_refl i) (by omega) hx
      have g2 := rvR_get (f := iC) (a := a) (i := i) (show i ≤ t.length - 1 - i by omega) (by omega) hy
      have g3 := rvR_step (f := iC) (a := a) h hx hy
      have hl := rvR_len iC a t i
      have hw := wrap_nat (i := i) (by omega)
      have nj : ((t.length : Int) - 1 - (i : Int)).toNat = t.length - 1 - i := by omega
      have pj : (0 : Int) ≤ (t.length : Int) - 1 - (i : Int) := by omega
      have li : (i : Int) < (t.length : Int) := by omega
      have hne : ¬ 1 + i = 1 + (t.length - 1 - i) := by omega
      have g4 : ∀ v, ((rvR iC a t i).set (1 + i) v)[1 + (t.length - 1 - i)]? = some (iC y) := fun v => by rw [List.getElem?_set_ne hne]; exact g2
      rw [← g3] at ih'
      have hlj : t.length - 1 - i < t.length := by omega
      generalize rvR iC a t i = R at g1 g2 g4 hl ih' ⊢
      have hJ : (t.length : Int) - 1 - (i : Int) = ((t.length - 1 - i : Nat) : Int) := by omega
      have hJ2 : (t.length : Int) - 1 - ((i + 1 : Nat) : Int) = ((t.length - 1 - i : Nat) : Int) - 1 := by omega
      rw [hJ2] at ih'
      rw [hJ] at h0 ⊢
      have wj : IntKind.i64.wrap (((t.length - 1 - i : Nat) : Int) - 1) = ((t.length - 1 - i : Nat) : Int) - 1 := IntWalk.i64_in _ (by omega)
      have lj : ((t.length - 1 - i : Nat) : Int) < (t.length : Int) := by omega
      clear nj pj hJ hJ2
      generalize hj : t.length - 1 - i = j at g2 g4 ih' wj lj h0 hlj ⊢
      simp at ih' g1 g2 g4
      rw [lp_step]
      simp [h0, g1, g2, g4, hl, hw, wj, lj, li, ih']
    · have h0 : ¬ (i : Int) < (t.length : Int) - 1 - (i : Int) := by omega
      have e := rvR_end (f := iC) (a := a) (t := t) (i := i) (by omega)
      rw [e, lp_step]
      simp [h0]
set_option maxRecDepth 1000000 in
theorem rv43 (d : Nat) (a : Int) (t : List Int) (ht : t.length ≤ 1000) : ev (d + 1) (puN + 43) [.sc (.int .i64 1), .ow 2 1 (iC a :: t.map iC)] = some (.tu [], [.ow 2 1 ((a :: t.reverse).map iC)]) := by
  rw [List.map_cons, List.map_reverse]
  rw [p43 d startV_one rfl]
  have key := l43 d a t ht t.length 0 (by omega)
  rw [rvR_zero] at key
  have w1 : IntKind.i64.wrap ((t.length : Int) - 1) = (t.length : Int) - 1 := IntWalk.i64_in _ (by omega)
  simp at key
  simp [w1, key]
/-- a face's polygon, placed -/
def plL (u : Nat) (x y : Int) (l : List Pt) : List Pt := (tuL u l).map (shP x y)
def fpL (D : Dr) (k : Nat) : List Pt := match rg D.pts (frg D.fcs k) [] with | some r => r | none => []
def ppO (Q : Pi) (p : Pl) : Option (List Pt) × Int := ifb (okPi Q && okG p) (ifb (decide (p.1 < (Q.vs.length : Int))) (ifb (polyOk (plL p.2.2.2.2.toNat p.2.2.1 p.2.2.2.1 (fpL Q.d p.1.toNat))) (some (plL p.2.2.2.2.toNat p.2.2.1 p.2.2.2.1 (fpL Q.d p.1.toNat)), 0) (none, 6)) (none, 2)) (none, 1)
def oP (x : Option (List Pt)) : LV := match x with | some l => .ow 72 2 (l.map pC) | none => .nl
theorem poly_in {l : List Pt} (h : polyOk l = true) : l ≠ [] ∧ l.length ≤ 24 ∧ ∀ p ∈ l, inB p := by
  simp only [polyOk, Bool.and_eq_true, decide_eq_true_eq] at h
  obtain ⟨h1, h2, h3, _⟩ := h
  exact ⟨fun e => by rw [e] at h1; simp at h1, h2, fun p hp => okP_in (List.all_eq_true.1 h3 p hp)⟩
theorem pl_len (u : Nat) (x y : Int) (l : List Pt) : (plL u x y l).length = l.length := by
  unfold plL tuL tuM
  rw [List.length_map, List.length_map, List.length_map, dir_len]
theorem okG_at {p : Pl} (h : okG p = true) : (0 ≤ p.1 ∧ p.1 ≤ 23) ∧ (0 ≤ p.2.2.1 ∧ p.2.2.1 ≤ 20000) ∧ (0 ≤ p.2.2.2.1 ∧ p.2.2.2.1 ≤ 20000) ∧ 0 ≤ p.2.2.2.2 ∧ p.2.2.2.2 ≤ 7 := by
  unfold okG inR at h
  simp only [Bool.and_eq_true, decide_eq_true_eq] at h
  omega
theorem okPi_lenT {Q : Pi} (h : okPi Q = true) : drOk Q.d = true ∧ Q.vs.length = Q.d.fcs.length := by
  simp only [okPi, Bool.and_eq_true, decide_eq_true_eq] at h
  exact ⟨h.1, h.2.1⟩
/-- what is known of the face that is placed -/
theorem face_at {Q : Pi} {p : Pl} (h : okPi Q = true) (hg : okG p = true) (hk : p.1 < (Q.vs.length : Int)) : ∃ f, Q.d.fcs[p.1.toNat]? = some f ∧ rg Q.d.pts f.2 [] = some (fpL Q.d p.1.toNat) ∧ polyOk (fpL Q.d p.1.toNat) = true := by
  obtain ⟨ho, hl⟩ := okPi_lenT h
  obtain ⟨⟨g1, g2⟩, _⟩ := okG_at hg
  obtain ⟨f, hf⟩ := get_lt (show p.1.toNat < Q.d.fcs.length by omega)
  obtain ⟨r, hr, hp⟩ := dr_face ho hf
  have e : fpL Q.d p.1.toNat = r := by
    unfold fpL frg
    rw [hf]
    simp only [Option.getD_some, hr]
  exact ⟨f, hf, by rw [e]; exact hr, by rw [e]; exact hp⟩
end Go.Proofs.YthnkioafikmmaaaGreat.walkS
