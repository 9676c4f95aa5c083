/- Polygons turned and moved; the row PlacedPolygon; no conditions. -/
import Derived.Test.YthnkioafikmmaaaWSh
import Derived.Test.YthnkioafikmmaaaWHd
import Derived.Test.YthnkioafikmmaaaWPlb
import Derived.Test.YthnkioafikmmaaaWMp
import Derived.Test.YthnkioafikmmaaaWRcl
namespace Go.Proofs.Ythnkioafikmmaaa.walkS
open Go Go.Proofs.Ythnkioafikmmaaa.Ev
set_option linter.unusedSimpArgs false
set_option linter.unusedVariables false
/-- a quarter turn -/
def qtP (p : Pt) : Pt := (-p.2, p.1)
def rotP : Nat → Pt → Pt
  | 0, p => p
  | k + 1, p => rotP k (qtP p)
def mrP (u : Nat) (p : Pt) : Pt := if 3 < u then (-p.1, p.2) else p
def trP (u : Nat) (p : Pt) : Pt := rotP (u % 4) (mrP u p)
def inB (p : Pt) : Prop := (-20000 ≤ p.1 ∧ p.1 ≤ 20000) ∧ -20000 ≤ p.2 ∧ p.2 ≤ 20000
theorem qt_in {p : Pt} (h : inB p) : inB (qtP p) := by
  unfold inB qtP at *
  omega
theorem rot_in : ∀ (k : Nat) {p : Pt}, inB p → inB (rotP k p) := by
  intro k
  induction k with
  | zero => intro p h; exact h
  | succ k ih => intro p h; exact ih (qt_in h)
theorem mr_in {u : Nat} {p : Pt} (h : inB p) : inB (mrP u p) := by
  unfold mrP
  split
  · unfold inB at *
    simp only
    omega
  · exact h
theorem tr_in {u : Nat} {p : Pt} (h : inB p) : inB (trP u p) := rot_in _ (mr_in h)
theorem okP_in {p : Pt} (h : okP p = true) : inB p := by
  unfold okP inR at h
  simp only [Bool.and_eq_true, decide_eq_true_eq] at h
  unfold inB
  omega
/-- a ring the other way round, its first place kept -/
def bkL {α : Type} : List α → List α
  | [] => []
  | a :: t => a :: t.reverse
theorem bk_len {α : Type} (l : List α) : (bkL l).length = l.length := by cases l <;> simp [bkL]
theorem bk_map {α β : Type} (f : α → β) (l : List α) : bkL (l.map f) = (bkL l).map f := by cases l <;> simp [bkL]
theorem bk_get {α : Type} {l : List α} {i : Nat} (hi : i < l.length) : (bkL l)[i]? = l[(l.length - i) % l.length]? := by
  cases l with
  | nil => simp at hi
  | cons a t =>
    cases i with
    | zero => simp [bkL]
    | succ i =>
      simp only [List.length_cons] at hi
      have e : (t.length + 1 - (i + 1)) % (t.length + 1) = t.length - 1 - i + 1 := by
        rw [Nat.mod_eq_of_lt (by omega)]
        omega
      simp only [bkL, List.getElem?_cons_succ, List.length_cons]
      rw [e, List.getElem?_cons_succ, List.getElem?_reverse (by omega)]
theorem bk_mem {α : Type} {l : List α} {x : α} (h : x ∈ bkL l) : x ∈ l := by
  cases l with
  | nil => exact h
  | cons a t => simpa [bkL] using h
def dirL {α : Type} (u : Nat) (l : List α) : List α := if 3 < u then bkL l else l
theorem dir_len {α : Type} (u : Nat) (l : List α) : (dirL u l).length = l.length := by unfold dirL; split <;> simp [bk_len]
def bdS (a : Pt × Pt) (q : Pt) : Pt × Pt := ((mnI a.1.1 q.1, mnI a.1.2 q.2), (mxI a.2.1 q.1, mxI a.2.2 q.2))
def bdL (l : List Pt) : Pt × Pt := match l with | [] => ((0, 0), (0, 0)) | p :: t => t.foldl bdS (p, p)
theorem mn_self (a : Int) : mnI a a = a := by simp [mnI]
theorem mx_self (a : Int) : mxI a a = a := by simp [mxI]
theorem bdS_self (p : Pt) : bdS (p, p) p = (p, p) := by simp [bdS, mn_self, mx_self]
theorem bd_in : ∀ (l : List Pt) (a : Pt × Pt), (∀ p ∈ l, inB p) → inB a.1 → inB (l.foldl bdS a).1 := by
  intro l
  induction l with
  | nil => intro a _ h; exact h
  | cons q l ih =>
    intro a h ha
    refine ih _ (fun p hp => h p (by simp [hp])) ?_
    have hq := h q (by simp)
    unfold inB bdS mnI at *
    simp only
    refine ⟨⟨?_, ?_⟩, ?_, ?_⟩ <;> split <;> omega
theorem bdL_in {l : List Pt} (h : ∀ p ∈ l, inB p) : inB (bdL l).1 := by
  cases l with
  | nil => unfold bdL inB; simp
  | cons p t => exact bd_in t _ (fun q hq => h q (by simp [hq])) (h p (by simp))
def shP (dx dy : Int) (p : Pt) : Pt := (p.1 + dx, p.2 + dy)
def tuM (u : Nat) (l : List Pt) : List Pt := (dirL u l).map (trP u)
def tuL (u : Nat) (l : List Pt) : List Pt := (tuM u l).map (shP (-(bdL (tuM u l)).1.1) (-(bdL (tuM u l)).1.2))
theorem tuM_in {u : Nat} {l : List Pt} (h : ∀ p ∈ l, inB p) : ∀ p ∈ tuM u l, inB p := by
  intro p hp
  unfold tuM dirL at hp
  obtain ⟨q, hq, rfl⟩ := List.mem_map.1 hp
  refine tr_in (h q ?_)
  split at hq
  · exact bk_mem hq
  · exact hq
def inC (p : Pt) : Prop := (-40000 ≤ p.1 ∧ p.1 ≤ 40000) ∧ -40000 ≤ p.2 ∧ p.2 ≤ 40000
theorem tuL_in {u : Nat} {l : List Pt} (h : ∀ p ∈ l, inB p) : ∀ p ∈ tuL u l, inC p := by
  intro p hp
  have hb := bdL_in (tuM_in (u := u) h)
  unfold tuL at hp
  obtain ⟨q, hq, rfl⟩ := List.mem_map.1 hp
  have := tuM_in h q hq
  unfold inB inC shP at *
  simp only
  omega
theorem l195 (d : Nat) : ∀ (k : Nat) (p : Pt), k ≤ 3 → inB p →
    clC [2, 4] [4] (blk 0 (lp (evC (ev d) b195_1) (clean [2, 4, 5]) ⟨lookS [(2, .bp (.sl 2) 0), (4, .bp (.sl 4) 0), (5, I k)], lookM [((.sl 2), some (.box [I p.1, I p.2])), ((.sl 4), some (.box [I 0, I 0]))]⟩)) = some (.nm, ⟨lookS [(2, .bp (.sl 2) 0), (4, .bp (.sl 4) 0)], lookM [((.sl 2), some (.box [I (rotP k p).1, I (rotP k p).2])), ((.sl 4), some (.box [I 0, I 0]))]⟩) := by
  intro k
  induction k with
  | zero =>
    intro p _ _
    rw [lp_step]
    simp [rotP]
  | succ k ih =>
    intro p hk hp
    have ih' := ih (qtP p) (by omega) (qt_in hp)
    have hp' := hp
    unfold inB at hp'
    have w1 : IntKind.i64.wrap (-p.2) = -p.2 := IntWalk.i64_in _ (by omega)
    have w2 : IntKind.i64.wrap ((k : Int) + 1 - 1) = (k : Int) := by rw [Int.add_sub_cancel]; exact IntWalk.i64_in _ (by omega)
    have w3 : IntKind.i64.wrap (k : Int) = (k : Int) := IntWalk.i64_in _ (by omega)
    have h0 : (0 : Int) < (k : Int) + 1 := by omega
    simp [qtP] at ih'
    rw [lp_step]
    simp [h0, w1, w2, w3, rotP, qtP, ih']
theorem l199 (d : Nat) : ∀ (k : Nat) (p : Pt), k ≤ 3 → inB p →
    clC [2, 4] [4] (blk 0 (lp (evC (ev d) b199_1) (clean [2, 4, 5]) ⟨lookS [(2, .bp (.sl 2) 0), (4, .bp (.sl 4) 0), (5, I k)], lookM [((.sl 2), some (.box [I p.1, I p.2])), ((.sl 4), some (.box [I 0, I 0]))]⟩)) = some (.nm, ⟨lookS [(2, .bp (.sl 2) 0), (4, .bp (.sl 4) 0)], lookM [((.sl 2), some (.box [I (rotP k p).1, I (rotP k p).2])), ((.sl 4), some (.box [I 0, I 0]))]⟩) := by
  intro k
  induction k with
  | zero =>
    intro p _ _
    rw [lp_step]
    simp [rotP]
  | succ k ih =>
    intro p hk hp
    have ih' := ih (qtP p) (by omega) (qt_in hp)
    have hp' := hp
    unfold inB at hp'
    have w1 : IntKind.i64.wrap (-p.2) = -p.2 := IntWalk.i64_in _ (by omega)
    have w2 : IntKind.i64.wrap ((k : Int) + 1 - 1) = (k : Int) := by rw [Int.add_sub_cancel]; exact IntWalk.i64_in _ (by omega)
    have w3 : IntKind.i64.wrap (k : Int) = (k : Int) := IntWalk.i64_in _ (by omega)
    have h0 : (0 : Int) < (k : Int) + 1 := by omega
    simp [qtP] at ih'
    rw [lp_step]
    simp [h0, w1, w2, w3, rotP, qtP, ih']
theorem tm_four (u : Nat) : IntKind.i64.wrap ((u : Int).tmod 4) = ((u % 4 : Nat) : Int) := by
  rw [Int.tmod_eq_emod_of_nonneg (by omega), IntWalk.i64_in _ (by omega)]
  omega
theorem tm_four' (u : Nat) : (u : Int).tmod 4 = ((u % 4 : Nat) : Int) := by
  rw [Int.tmod_eq_emod_of_nonneg (by omega)]
  omega
theorem r195 (d : Nat) (p : Pt) (u : Nat) (hu : u ≤ 7) (hp : inB p) : ev (d + 1) 195 [.ag [I p.1, I p.2], I u] = some (.ag [I (trP u p).1, I (trP u p).2], []) := by
  rw [s195 d _ rfl]
  have e1 := tm_four u
  have e2 := tm_four' u
  have key := l195 d (u % 4) (mrP u p) (by omega) (mr_in hp)
  have hp' := hp
  unfold inB at hp'
  have w1 : IntKind.i64.wrap (-p.1) = -p.1 := IntWalk.i64_in _ (by omega)
  by_cases h : 3 < u
  · have h4 : (4 : Int) ≤ (u : Int) := by omega
    have em : mrP u p = (-p.1, p.2) := if_pos h
    unfold trP
    rw [em] at key ⊢
    simp at key
    simp [h4, w1, e1, e2, key]
  · have h4 : ¬ (4 : Int) ≤ (u : Int) := by omega
    have em : mrP u p = p := if_neg h
    unfold trP
    rw [em] at key ⊢
    simp at key
    simp [h4, e1, e2, key]
theorem r199 (d : Nat) (p : Pt) (u : Nat) (hu : u ≤ 7) (hp : inB p) : ev (d + 2) 199 [.ag [I p.1, I p.2], I u] = some (.ag [I (trP u p).1, I (trP u p).2], []) := by
  rw [s199 (d + 1) _ rfl]
  have e1 := tm_four u
  have e2 := tm_four' u
  have key := l199 (d + 1) (u % 4) (mrP u p) (by omega) (mr_in hp)
  have hp' := hp
  unfold inB at hp'
  have c1 := r124 d (u : Int) 0 7
  have c2 := r124 d p.1 (-20000) 20000
  have c3 := r124 d p.2 (-20000) 20000
  have i1 : inR (u : Int) 0 7 = true := by unfold inR; simp; omega
  have i2 : inR p.1 (-20000) 20000 = true := by unfold inR; simp; omega
  have i3 : inR p.2 (-20000) 20000 = true := by unfold inR; simp; omega
  rw [i1] at c1
  rw [i2] at c2
  rw [i3] at c3
  have w1 : IntKind.i64.wrap (-p.1) = -p.1 := IntWalk.i64_in _ (by omega)
  by_cases h : 3 < u
  · have h4 : (3 : Int) < (u : Int) := by omega
    have em : mrP u p = (-p.1, p.2) := if_pos h
    unfold trP
    rw [em] at key ⊢
    simp at key
    simp [c1, c2, c3, h4, w1, e1, e2, key]
  · have h4 : ¬ (3 : Int) < (u : Int) := by omega
    have em : mrP u p = p := if_neg h
    unfold trP
    rw [em] at key ⊢
    simp at key
    simp [c1, c2, c3, h4, e1, e2, key]
theorem l136 (d : Nat) (l : List Pt) (hl : l.length ≤ 1000) (dx dy : Int) (hi : ∀ p ∈ l, inC p) (hx : -40000 ≤ dx ∧ dx ≤ 40000) (hy : -40000 ≤ dy ∧ dy ≤ 40000) : ∀ (n i : Nat) (acc r : List Pt), n + i = l.length → acc.length = i → acc ++ (l.drop i).map (shP dx dy) = r →
    clC [7] [6] (blk 0 (lp (evC (ev d) b136_1) (clean [1, 2, 7, 11, 12, 13]) ⟨lookS [(1, I dx), (2, I dy), (7, .rf (.sl 7) none 0 acc.length), (11, .ro 2 (l.map pC)), (12, I l.length), (13, I i)], lookM [((.sl 7), some (.arr 112 2 (acc.map pC)))]⟩)) = some (.nm, ⟨lookS [(7, .rf (.sl 7) none 0 r.length)], lookM [((.sl 7), some (.arr 112 2 (r.map pC)))]⟩) := by
  intro n
  induction n with
  | zero =>
    intro i acc r hn ha hr
    have h0 : ¬ (i : Int) < (l.length : Int) := by omega
    rw [List.drop_eq_nil_of_le (by omega), List.map_nil, List.append_nil] at hr
    subst hr
    rw [lp_step]
    simp [h0]
  | succ n ih =>
    intro i acc r hn ha hr
    have hlt : i < l.length := by omega
    have h0 : (i : Int) < (l.length : Int) := by omega
    obtain ⟨q, hq⟩ := get_lt hlt
    have hb := hi q (List.mem_of_getElem? hq)
    unfold inC at hb
    have w1 : IntKind.i64.wrap (q.1 + dx) = q.1 + dx := IntWalk.i64_in _ (by omega)
    have w2 : IntKind.i64.wrap (q.2 + dy) = q.2 + dy := IntWalk.i64_in _ (by omega)
    have hw := wrap_nat (i := i) (by omega)
    have hbg : acc.length + 1 ≤ big := by simp only [big]; omega
    rw [drop_get hq, List.map_cons] at hr
    have ih' := ih (i + 1) (acc ++ [shP dx dy q]) r (by omega) (by simp; omega) (by rw [List.append_assoc]; exact hr)
    simp [shP] at ih'
    rw [lp_step]
    simp [h0, hq, w1, w2, hw, hbg, ih']
theorem r136 (d : Nat) (l : List Pt) (hl : l.length ≤ 1000) (dx dy : Int) (hi : ∀ p ∈ l, inC p) (hx : -40000 ≤ dx ∧ dx ≤ 40000) (hy : -40000 ≤ dy ∧ dy ≤ 40000) : ev (d + 1) 136 [.ro 2 (l.map pC), I dx, I dy] = some (.ow 112 2 ((l.map (shP dx dy)).map pC), []) := by
  rw [s136 d _ rfl]
  have key := l136 d l hl dx dy hi hx hy l.length 0 [] (l.map (shP dx dy)) (by omega) rfl (by rw [List.drop_zero]; rfl)
  generalize l.map (shP dx dy) = R at key ⊢
  simp at key
  simp [key]
theorem l129 (d : Nat) (l : List Pt) (hl : l.length ≤ 1000) (dx dy : Int) (hi : ∀ p ∈ l, inC p) (hx : -40000 ≤ dx ∧ dx ≤ 40000) (hy : -40000 ≤ dy ∧ dy ≤ 40000) : ∀ (n i : Nat) (acc r : List Pt), n + i = l.length → acc.length = i → acc ++ (l.drop i).map (shP dx dy) = r →
    clC [7] [6] (blk 0 (lp (evC (ev d) b129_1) (clean [0, 1, 2, 7, 8]) ⟨lookS [(0, .ro 2 (l.map pC)), (1, I dx), (2, I dy), (7, .rf (.sl 7) none 0 acc.length), (8, I i)], lookM [((.sl 7), some (.arr 112 2 (acc.map pC)))]⟩)) = some (.nm, ⟨lookS [(7, .rf (.sl 7) none 0 r.length)], lookM [((.sl 7), some (.arr 112 2 (r.map pC)))]⟩) := by
  intro n
  induction n with
  | zero =>
    intro i acc r hn ha hr
    have h0 : ¬ (i : Int) < (l.length : Int) := by omega
    rw [List.drop_eq_nil_of_le (by omega), List.map_nil, List.append_nil] at hr
    subst hr
    rw [lp_step]
    simp [h0]
  | succ n ih =>
    intro i acc r hn ha hr
    have hlt : i < l.length := by omega
    have h0 : (i : Int) < (l.length : Int) := by omega
    obtain ⟨q, hq⟩ := get_lt hlt
    have hb := hi q (List.mem_of_getElem? hq)
    unfold inC at hb
    have w1 : IntKind.i64.wrap (q.1 + dx) = q.1 + dx := IntWalk.i64_in _ (by omega)
    have w2 : IntKind.i64.wrap (q.2 + dy) = q.2 + dy := IntWalk.i64_in _ (by omega)
    have hw := wrap_nat (i := i) (by omega)
    have hbg : acc.length + 1 ≤ big := by simp only [big]; omega
    rw [drop_get hq, List.map_cons] at hr
    have ih' := ih (i + 1) (acc ++ [shP dx dy q]) r (by omega) (by simp; omega) (by rw [List.append_assoc]; exact hr)
    simp [shP] at ih'
    rw [lp_step]
    simp [h0, hq, w1, w2, hw, hbg, ih']
theorem r129 (d : Nat) (l : List Pt) (hl : l.length ≤ 1000) (dx dy : Int) (hi : ∀ p ∈ l, inC p) (hx : -40000 ≤ dx ∧ dx ≤ 40000) (hy : -40000 ≤ dy ∧ dy ≤ 40000) : ev (d + 1) 129 [.ro 2 (l.map pC), I dx, I dy] = some (.ow 112 2 ((l.map (shP dx dy)).map pC), []) := by
  rw [s129 d _ rfl]
  have key := l129 d l hl dx dy hi hx hy l.length 0 [] (l.map (shP dx dy)) (by omega) rfl (by rw [List.drop_zero]; rfl)
  generalize l.map (shP dx dy) = R at key ⊢
  simp at key
  simp [key]
theorem l186 (d : Nat) (l : List Pt) (hl : l.length ≤ 1000) : ∀ (n i : Nat) (c : Pt × Pt), n + i = l.length →
    clC [2, 3, 4, 5] [2, 3] (blk 0 (lp (evC (ev d) b186_1) (clean [2, 3, 4, 5, 14, 15, 16]) ⟨lookS [(2, .bp (.sl 2) 0), (3, .bp (.sl 3) 0), (4, .bp (.sl 4) 0), (5, .bp (.sl 5) 0), (14, .ro 2 (l.map pC)), (15, I l.length), (16, I i)], lookM [((.sl 2), some (.box [I 0, I 0])), ((.sl 3), some (.box [I 0, I 0])), ((.sl 4), some (.box [I c.1.1, I c.1.2])), ((.sl 5), some (.box [I c.2.1, I c.2.2]))]⟩)) = some (.nm, ⟨lookS [(2, .bp (.sl 2) 0), (3, .bp (.sl 3) 0), (4, .bp (.sl 4) 0), (5, .bp (.sl 5) 0)], lookM [((.sl 2), some (.box [I 0, I 0])), ((.sl 3), some (.box [I 0, I 0])), ((.sl 4), some (.box [I ((l.drop i).foldl bdS c).1.1, I ((l.drop i).foldl bdS c).1.2])), ((.sl 5), some (.box [I ((l.drop i).foldl bdS c).2.1, I ((l.drop i).foldl bdS c).2.2]))]⟩) := by
  intro n
  induction n with
  | zero =>
    intro i c hn
    have h0 : ¬ (i : Int) < (l.length : Int) := by omega
    rw [List.drop_eq_nil_of_le (by omega), lp_step]
    simp [h0]
  | succ n ih =>
    intro i c hn
    have hlt : i < l.length := by omega
    have h0 : (i : Int) < (l.length : Int) := by omega
    obtain ⟨q, hq⟩ := get_lt hlt
    have hw := wrap_nat (i := i) (by omega)
    have ih' := ih (i + 1) (bdS c q) (by omega)
    rw [drop_get hq, List.foldl_cons]
    generalize List.foldl bdS (bdS c q) (l.drop (i + 1)) = R at ih' ⊢
    simp [bdS, mnI, mxI] at ih'
    rw [lp_step]
    simp [h0, hq, hw, ih']
theorem r186 (d : Nat) (l : List Pt) (hl : l.length ≤ 1000) (hz : l ≠ []) : ev (d + 1) 186 [.ro 2 (l.map pC)] = some (.tu [.ag [I (bdL l).1.1, I (bdL l).1.2], .ag [I (bdL l).2.1, I (bdL l).2.2]], []) := by
  rw [s186 d _ rfl]
  cases l with
  | nil => exact absurd rfl hz
  | cons p t =>
    have key := l186 d (p :: t) hl (p :: t).length 0 (p, p) (by omega)
    rw [List.drop_zero, List.foldl_cons, bdS_self] at key
    have e : List.foldl bdS (p, p) t = bdL (p :: t) := rfl
    rw [e] at key
    generalize bdL (p :: t) = R at key ⊢
    simp at key
    simp [key]
theorem l179 (d : Nat) (l : List Pt) (hl : l.length ≤ 1000) : ∀ (n i : Nat) (c : Pt × Pt), n + i = l.length →
    clC [2, 3, 4, 5] [2, 3] (blk 0 (lp (evC (ev (d + 1)) b179_1) (clean [0, 2, 3, 4, 5, 6]) ⟨lookS [(0, .ro 2 (l.map pC)), (2, .bp (.sl 2) 0), (3, .bp (.sl 3) 0), (4, .bp (.sl 4) 0), (5, .bp (.sl 5) 0), (6, I i)], lookM [((.sl 2), some (.box [I 0, I 0])), ((.sl 3), some (.box [I 0, I 0])), ((.sl 4), some (.box [I c.1.1, I c.1.2])), ((.sl 5), some (.box [I c.2.1, I c.2.2]))]⟩)) = some (.nm, ⟨lookS [(2, .bp (.sl 2) 0), (3, .bp (.sl 3) 0), (4, .bp (.sl 4) 0), (5, .bp (.sl 5) 0)], lookM [((.sl 2), some (.box [I 0, I 0])), ((.sl 3), some (.box [I 0, I 0])), ((.sl 4), some (.box [I ((l.drop i).foldl bdS c).1.1, I ((l.drop i).foldl bdS c).1.2])), ((.sl 5), some (.box [I ((l.drop i).foldl bdS c).2.1, I ((l.drop i).foldl bdS c).2.2]))]⟩) := by
  intro n
  induction n with
  | zero =>
    intro i c hn
    have h0 : ¬ (i : Int) < (l.length : Int) := by omega
    rw [List.drop_eq_nil_of_le (by omega), lp_step]
    simp [h0]
  | succ n ih =>
    intro i c hn
    have hlt : i < l.length := by omega
    have h0 : (i : Int) < (l.length : Int) := by omega
    obtain ⟨q, hq⟩ := get_lt hlt
    have hw := wrap_nat (i := i) (by omega)
    have m1 := r171 d c.1.1 q.1
    have m2 := r171 d c.1.2 q.2
    have m3 := r169 d c.2.1 q.1
    have m4 := r169 d c.2.2 q.2
    have ih' := ih (i + 1) (bdS c q) (by omega)
    rw [drop_get hq, List.foldl_cons]
    generalize List.foldl bdS (bdS c q) (l.drop (i + 1)) = R at ih' ⊢
    simp [bdS] at ih'
    rw [lp_step]
    simp [h0, hq, hw, m1, m2, m3, m4, ih']
theorem r179 (d : Nat) (l : List Pt) (hl : l.length ≤ 1000) (hz : l ≠ []) : ev (d + 2) 179 [.ro 2 (l.map pC)] = some (.tu [.ag [I (bdL l).1.1, I (bdL l).1.2], .ag [I (bdL l).2.1, I (bdL l).2.2]], []) := by
  rw [s179 (d + 1) _ rfl]
  cases l with
  | nil => exact absurd rfl hz
  | cons p t =>
    have key := l179 d (p :: t) hl t.length 1 (p, p) (by simp)
    have e : List.foldl bdS (p, p) ((p :: t).drop 1) = bdL (p :: t) := rfl
    rw [e] at key
    generalize bdL (p :: t) = R at key ⊢
    simp at key
    simp [key]
theorem l130 (d : Nat) (l : List Pt) (hl : l.length ≤ 1000) (u : Nat) (hu : u ≤ 7) (hi : ∀ p ∈ l, inB p) : ∀ (n i : Nat) (acc r : List Pt), n + i = l.length → acc.length = i → acc ++ ((dirL u l).drop i).map (trP u) = r →
    clC [5] [4] (blk 0 (lp (evC (ev (d + 1)) b130_1) (clean [0, 1, 5, 6]) ⟨lookS [(0, .ro 2 (l.map pC)), (1, I u), (5, .rf (.sl 5) none 0 acc.length), (6, I i)], lookM [((.sl 5), some (.arr 112 2 (acc.map pC)))]⟩)) = some (.nm, ⟨lookS [(5, .rf (.sl 5) none 0 r.length)], lookM [((.sl 5), some (.arr 112 2 (r.map pC)))]⟩) := by
  intro n
  induction n with
  | zero =>
    intro i acc r hn ha hr
    have h0 : ¬ (i : Int) < (l.length : Int) := by omega
    rw [List.drop_eq_nil_of_le (by rw [dir_len]; omega), List.map_nil, List.append_nil] at hr
    subst hr
    rw [lp_step]
    simp [h0]
  | succ n ih =>
    intro i acc r hn ha hr
    have hlt : i < l.length := by omega
    have h0 : (i : Int) < (l.length : Int) := by omega
    have hw := wrap_nat (i := i) (by omega)
    have hbg : acc.length + 1 ≤ big := by simp only [big]; omega
    obtain ⟨q, hq⟩ := get_lt (show i < (dirL u l).length by rw [dir_len]; exact hlt)
    rw [drop_get hq, List.map_cons] at hr
    have ih' := ih (i + 1) (acc ++ [trP u q]) r (by omega) (by simp; omega) (by rw [List.append_assoc]; exact hr)
    simp at ih'
    by_cases h : 3 < u
    · have h4 : (4 : Int) ≤ (u : Int) := by omega
      have e : dirL u l = bkL l := if_pos h
      rw [e, bk_get hlt] at hq
      have p1 := r195 d q u hu (hi q (List.mem_of_getElem? hq))
      have w1 : IntKind.i64.wrap ((l.length : Int) - (i : Int)) = ((l.length - i : Nat) : Int) := by rw [IntWalk.i64_in _ (by omega)]; omega
      have w2 : (((l.length - i : Nat) : Int).tmod (l.length : Int)) = (((l.length - i) % l.length : Nat) : Int) := by
        rw [Int.tmod_eq_emod_of_nonneg (by omega)]
        rfl
      have w3 : ¬ (l.length : Int) = 0 ∧ ¬ l = [] := ⟨by omega, fun e => by rw [e] at hlt; simp at hlt⟩
      have hm : (l.length - i) % l.length < l.length := Nat.mod_lt _ (by omega)
      generalize (l.length - i) % l.length = m at hq w2 hm
      rw [lp_step]
      simp [h0, h4, hq, w1, w2, w3, hw, hbg, p1, ih']
    · have h4 : ¬ (4 : Int) ≤ (u : Int) := by omega
      have e : dirL u l = l := if_neg h
      rw [e] at hq
      have p1 := r195 d q u hu (hi q (List.mem_of_getElem? hq))
      rw [lp_step]
      simp [h0, h4, hq, hw, hbg, p1, ih']
theorem r130 (d : Nat) (l : List Pt) (hl : l.length ≤ 1000) (hz : l ≠ []) (u : Nat) (hu : u ≤ 7) (hi : ∀ p ∈ l, inB p) : ev (d + 3) 130 [.ro 2 (l.map pC), I u] = some (.ow 112 2 ((tuL u l).map pC), []) := by
  rw [s130 (d + 2) _ rfl]
  have key := l130 (d + 1) l hl u hu hi l.length 0 [] (tuM u l) (by omega) rfl (by rw [List.drop_zero]; rfl)
  have hM := tuM_in (u := u) hi
  have hlen : (tuM u l).length = l.length := by unfold tuM; rw [List.length_map, dir_len]
  have hb := bdL_in hM
  unfold tuL
  generalize tuM u l = M at key hM hlen hb ⊢
  have hMz : M ≠ [] := fun q => hz (List.eq_nil_of_length_eq_zero (by rw [← hlen, q]; rfl))
  have p1 := r179 d M (by omega) hMz
  unfold inB at hb
  have p2 := r129 (d + 1) M (by omega) (-(bdL M).1.1) (-(bdL M).1.2) (fun p hp => by have := hM p hp; unfold inB at this; unfold inC; omega) (by omega) (by omega)
  have w1 : IntKind.i64.wrap (-(bdL M).1.1) = -(bdL M).1.1 := IntWalk.i64_in _ (by omega)
  have w2 : IntKind.i64.wrap (-(bdL M).1.2) = -(bdL M).1.2 := IntWalk.i64_in _ (by omega)
  simp at key
  simp [key, p1, w1, w2, p2]
theorem l137 (d : Nat) (l : List Pt) (hl : l.length ≤ 1000) (u : Nat) (hu : u ≤ 7) (hi : ∀ p ∈ l, inB p) : ∀ (n i : Nat) (acc r : List Pt), n + i = l.length → acc.length = i → acc ++ (l.drop i).map (trP u) = r →
    clC [1, 5] [4] (blk 0 (lp (evC (ev (d + 2)) b137_1) (clean [1, 5, 11, 12, 13]) ⟨lookS [(1, I u), (5, .rf (.sl 5) none 0 acc.length), (11, .ro 2 (l.map pC)), (12, I l.length), (13, I i)], lookM [((.sl 5), some (.arr 112 2 (acc.map pC)))]⟩)) = some (.nm, ⟨lookS [(1, I u), (5, .rf (.sl 5) none 0 r.length)], lookM [((.sl 5), some (.arr 112 2 (r.map pC)))]⟩) := by
  intro n
  induction n with
  | zero =>
    intro i acc r hn ha hr
    have h0 : ¬ (i : Int) < (l.length : Int) := by omega
    rw [List.drop_eq_nil_of_le (by omega), List.map_nil, List.append_nil] at hr
    subst hr
    rw [lp_step]
    simp [h0]
  | succ n ih =>
    intro i acc r hn ha hr
    have hlt : i < l.length := by omega
    have h0 : (i : Int) < (l.length : Int) := by omega
    obtain ⟨q, hq⟩ := get_lt hlt
    have hw := wrap_nat (i := i) (by omega)
    have hbg : acc.length + 1 ≤ big := by simp only [big]; omega
    have p1 := r199 d q u hu (hi q (List.mem_of_getElem? hq))
    rw [drop_get hq, List.map_cons] at hr
    have ih' := ih (i + 1) (acc ++ [trP u q]) r (by omega) (by simp; omega) (by rw [List.append_assoc]; exact hr)
    simp at ih'
    rw [lp_step]
    simp [h0, hq, hw, hbg, p1, ih']
/-! ### a slice's rest turned about -/
section
variable {α : Type} [Inhabited α]
/-- behind i swaps -/
def rvI (t : List α) (i : Nat) : List α := (List.range t.length).map fun k => if k < i ∨ t.length ≤ k + i then t.reverse.getD k default else t.getD k default
theorem rv_get {t : List α} {i k : Nat} (hk : k < t.length) : (rvI t i)[k]? = some (if k < i ∨ t.length ≤ k + i then t.reverse.getD k default else t.getD k default) := by
  unfold rvI
  rw [List.getElem?_map, List.getElem?_range hk]
  rfl
theorem rv_len (t : List α) (i : Nat) : (rvI t i).length = t.length := by unfold rvI; simp
theorem getD_at {t : List α} {k : Nat} {x : α} (h : t[k]? = some x) : t.getD k default = x := by rw [List.getD_eq_getElem?_getD, h]; rfl
theorem rv_zero (t : List α) : rvI t 0 = t := by
  apply List.ext_getElem?
  intro k
  by_cases hk : k < t.length
  · rw [rv_get hk, if_neg (by omega)]
    obtain ⟨x, hx⟩ := get_lt hk
    rw [getD_at hx, hx]
  · rw [List.getElem?_eq_none (by rw [rv_len]; omega), List.getElem?_eq_none (by omega)]
theorem rv_end {t : List α} {i : Nat} (h : t.length ≤ 2 * i + 1) : rvI t i = t.reverse := by
  apply List.ext_getElem?
  intro k
  by_cases hk : k < t.length
  · rw [rv_get hk]
    obtain ⟨x, hx⟩ := get_lt (l := t.reverse) (i := k) (by rw [List.length_reverse]; exact hk)
    by_cases hc : k < i ∨ t.length ≤ k + i
    · rw [if_pos hc, getD_at hx, hx]
    · rw [if_neg hc]
      have hx2 := hx
      rw [List.getElem?_reverse hk, show t.length - 1 - k = k by omega] at hx2
      rw [getD_at hx2, hx]
  · rw [List.getElem?_eq_none (by rw [rv_len]; omega), List.getElem?_eq_none (by rw [List.length_reverse]; omega)]
theorem rv_step {t : List α} {i : Nat} {x y : α} (h : 2 * i + 1 < t.length) (hx : t[i]? = some x) (hy : t[t.length - 1 - i]? = some y) : ((rvI t i).set i y).set (t.length - 1 - i) x = rvI t (i + 1) := by
  apply List.ext_getElem?
  intro k
  by_cases hk : k < t.length
  · rw [rv_get hk]
    by_cases h1 : k = t.length - 1 - i
    · subst h1
      rw [List.getElem?_set_self (by rw [List.length_set, rv_len]; omega), if_pos (by omega)]
      congr 1
      symm
      refine getD_at ?_
      rw [List.getElem?_reverse (by omega), show t.length - 1 - (t.length - 1 - i) = i by omega, hx]
    · rw [List.getElem?_set_ne (by omega)]
      by_cases h2 : k = i
      · subst h2
        rw [List.getElem?_set_self (by rw [rv_len]; omega), if_pos (by omega)]
        congr 1
        symm
        refine getD_at ?_
        rw [List.getElem?_reverse (by omega), hy]
      · rw [List.getElem?_set_ne (by omega), rv_get hk]
        congr 1
        by_cases hc : k < i ∨ t.length ≤ k + i
        · rw [if_pos hc, if_pos (by omega)]
        · rw [if_neg hc, if_neg (by omega)]
  · rw [List.getElem?_eq_none (by rw [List.length_set, List.length_set, rv_len]; omega), List.getElem?_eq_none (by rw [rv_len]; omega)]
/-- rows, the first of them kept -/
def rvR (f : α → List Cell) (a : α) (t : List α) (i : Nat) : List (List Cell) := f a :: (rvI t i).map f
theorem rvR_len (f : α → List Cell) (a : α) (t : List α) (i : Nat) : (rvR f a t i).length = t.length + 1 := by simp [rvR, rv_len]
theorem rvR_zero (f : α → List Cell) (a : α) (t : List α) : rvR f a t 0 = f a :: t.map f := by unfold rvR; rw [rv_zero]
theorem rvR_end {f : α → List Cell} {a : α} {t : List α} {i : Nat} (h : t.length ≤ 2 * i + 1) : rvR f a t i = f a :: (t.map f).reverse := by unfold rvR; rw [rv_end h, List.map_reverse]
theorem rvR_get {f : α → List Cell} {a x : α} {t : List α} {i k : Nat} (h1 : i ≤ k) (h2 : k + i < t.length) (hx : t[k]? = some x) : (rvR f a t i)[1 + k]? = some (f x) := by
  unfold rvR
  rw [Nat.add_comm, List.getElem?_cons_succ, List.getElem?_map, rv_get (by omega), if_neg (by omega), getD_at hx]
  rfl
theorem rvR_step {f : α → List Cell} {a x y : α} {t : List α} {i : Nat} (h : 2 * i + 1 < t.length) (hx : t[i]? = some x) (hy : t[t.length - 1 - i]? = some y) : ((rvR f a t i).set (1 + i) (f y)).set (1 + (t.length - 1 - i)) (f x) = rvR f a t (i + 1) := by
  unfold rvR
  rw [Nat.add_comm 1, Nat.add_comm 1, List.set_cons_succ, List.set_cons_succ, ← List.map_set, ← List.map_set, rv_step h hx hy]
end
theorem l200 (d : Nat) (a : Pt) (t : List Pt) (ht : t.length ≤ 1000) : ∀ (n i : Nat), n + 2 * i = t.length →
    clC [100000] [100000] (blk 0 (lp (evC (ev d) b200_1) (clean [0, 2, 3, 100000]) ⟨lookS [(0, .rf (.sl 0) none 1 t.length), (2, I i), (3, I ((t.length : Int) - 1 - (i : Int))), (100000, .rf (.sl 0) none 0 (t.length + 1))], lookM [((.sl 0), some (.arr 112 2 (rvR pC a t i)))]⟩)) =
      some (.nm, ⟨lookS [(100000, .rf (.sl 100000) none 0 (t.length + 1))], lookM [((.sl 100000), some (.arr 112 2 (pC a :: (t.map pC).reverse)))]⟩) := by
  intro n
  induction n using Nat.strongRecOn with
  | _ n ih =>
    intro i hi
    by_cases h : 2 * i + 1 < t.length
    · obtain ⟨x, hx⟩ := get_lt (show i < t.length by omega)
      obtain ⟨y, hy⟩ := get_lt (show t.length - 1 - i < t.length by omega)
      have h0 : (i : Int) < (t.length : Int) - 1 - (i : Int) := by omega
      have ih' := ih (n - 2) (by omega) (i + 1) (by omega)
      have g1 := rvR_get (f := pC) (a := a) (i := i) (Nat.le_refl i) (by omega) hx
      have g2 := rvR_get (f := pC) (a := a) (i := i) (show i ≤ t.length - 1 - i by omega) (by omega) hy
      have g3 := rvR_step (f := pC) (a := a) h hx hy
      have hl := rvR_len pC a t i
      have hw := wrap_nat (i := i) (by omega)
      have nj : ((t.length : Int) - 1 - (i : Int)).toNat = t.length - 1 - i := by omega
      have pj : (0 : Int) ≤ (t.length : Int) - 1 - (i : Int) := by omega
      have li : (i : Int) < (t.length : Int) := by omega
      have hne : ¬ 1 + i = 1 + (t.length - 1 - i) := by omega
      have g4 : ∀ v, ((rvR pC a t i).set (1 + i) v)[1 + (t.length - 1 - i)]? = some (pC y) := fun v => by rw [List.getElem?_set_ne hne]; exact g2
      rw [← g3] at ih'
      have hlj : t.length - 1 - i < t.length := by omega
      generalize rvR pC a t i = R at g1 g2 g4 hl ih' ⊢
      have hJ : (t.length : Int) - 1 - (i : Int) = ((t.length - 1 - i : Nat) : Int) := by omega
      have hJ2 : (t.length : Int) - 1 - ((i + 1 : Nat) : Int) = ((t.length - 1 - i : Nat) : Int) - 1 := by omega
      rw [hJ2] at ih'
      rw [hJ] at h0 ⊢
      have wj : IntKind.i64.wrap (((t.length - 1 - i : Nat) : Int) - 1) = ((t.length - 1 - i : Nat) : Int) - 1 := IntWalk.i64_in _ (by omega)
      have lj : ((t.length - 1 - i : Nat) : Int) < (t.length : Int) := by omega
      clear nj pj hJ hJ2
      generalize hj : t.length - 1 - i = j at g2 g4 ih' wj lj h0 hlj ⊢
      simp at ih' g1 g2 g4
      rw [lp_step]
      simp [h0, g1, g2, g4, hl, hw, wj, lj, li, ih']
    · have h0 : ¬ (i : Int) < (t.length : Int) - 1 - (i : Int) := by omega
      have e := rvR_end (f := pC) (a := a) (t := t) (i := i) (by omega)
      rw [e, lp_step]
      simp [h0]
set_option maxRecDepth 1000000 in
theorem rv200 (d : Nat) (a : Pt) (t : List Pt) (ht : t.length ≤ 1000) : ev (d + 1) (puN + 200) [.sc (.int .i64 1), .ow 112 2 (pC a :: t.map pC)] = some (.tu [], [.ow 112 2 ((a :: t.reverse).map pC)]) := by
  rw [List.map_cons, List.map_reverse]
  rw [p200 d startV_one rfl]
  have key := l200 d a t ht t.length 0 (by omega)
  rw [rvR_zero] at key
  have w1 : IntKind.i64.wrap ((t.length : Int) - 1) = (t.length : Int) - 1 := IntWalk.i64_in _ (by omega)
  simp at key
  simp [w1, key]
theorem r137 (d : Nat) (l : List Pt) (hl : l.length ≤ 1000) (hz : l ≠ []) (u : Nat) (hu : u ≤ 7) (hi : ∀ p ∈ l, inB p) : ev (d + 4) 137 [.ro 2 (l.map pC), I u] = some (.ow 112 2 ((tuL u l).map pC), []) := by
  rw [s137 (d + 3) _ rfl]
  have key := l137 (d + 1) l hl u hu hi l.length 0 [] (l.map (trP u)) (by omega) rfl (by rw [List.drop_zero]; rfl)
  have hM := tuM_in (u := u) hi
  have hb := bdL_in hM
  unfold inB at hb
  have w1 : IntKind.i64.wrap (-(bdL (tuM u l)).1.1) = -(bdL (tuM u l)).1.1 := IntWalk.i64_in _ (by omega)
  have w2 : IntKind.i64.wrap (-(bdL (tuM u l)).1.2) = -(bdL (tuM u l)).1.2 := IntWalk.i64_in _ (by omega)
  have hlen : (tuM u l).length = l.length := by unfold tuM; rw [List.length_map, dir_len]
  have hMz : tuM u l ≠ [] := fun q => hz (List.eq_nil_of_length_eq_zero (by rw [← hlen, q]; rfl))
  have p1 := r186 (d + 2) (tuM u l) (by omega) hMz
  have p2 := r136 (d + 2) (tuM u l) (by omega) (-(bdL (tuM u l)).1.1) (-(bdL (tuM u l)).1.2) (fun p hp => by have := hM p hp; unfold inB at this; unfold inC; omega) (by omega) (by omega)
  by_cases h : 3 < u
  · have h4 : (3 : Int) < (u : Int) := by omega
    have e : tuM u l = bkL (l.map (trP u)) := by unfold tuM dirL; rw [if_pos h, bk_map]
    unfold tuL
    rw [e] at p1 p2 w1 w2 ⊢
    have hll : (l.map (trP u)).length = l.length := List.length_map _
    generalize l.map (trP u) = M at key p1 p2 w1 w2 hll ⊢
    cases M with
    | nil => exact absurd (List.eq_nil_of_length_eq_zero (by rw [← hll]; rfl)) hz
    | cons a t =>
      have p3 := rv200 (d + 2) a t (by simp at hll; omega)
      have h1 : 1 + t.length = t.length + 1 := by omega
      simp only [bkL] at p1 p2 w1 w2 ⊢
      generalize bdL (a :: t.reverse) = R at p1 p2 w1 w2 ⊢
      generalize (a :: t.reverse).map (shP (-R.1.1) (-R.1.2)) = Z at p2 ⊢
      obtain ⟨T', hT⟩ : ∃ T', T' = a :: t.reverse := ⟨_, rfl⟩
      have hTl : T'.length = t.length + 1 := by rw [hT]; simp
      have hTk : List.take (t.length + 1) (List.map pC T') = List.map pC T' := List.take_of_length_le (by rw [List.length_map, hTl]; exact Nat.le_refl _)
      rw [← hT] at p1 p2 p3
      simp at key
      simp [key, h4, h1, p3, p1, w1, w2, p2, hTl, hTk]
  · have h4 : ¬ (3 : Int) < (u : Int) := by omega
    have e : tuM u l = l.map (trP u) := by unfold tuM dirL; rw [if_neg h]
    unfold tuL
    rw [e] at p1 p2 w1 w2 ⊢
    generalize l.map (trP u) = M at key p1 p2 w1 w2 ⊢
    generalize bdL M = R at p1 p2 w1 w2 ⊢
    generalize M.map (shP (-R.1.1) (-R.1.2)) = Z at p2 ⊢
    simp at key
    simp [key, h4, p1, w1, w2, p2]
/-- a face's polygon, placed -/
def plL (u : Nat) (x y : Int) (l : List Pt) : List Pt := (tuL u l).map (shP x y)
def fpL (D : Dr) (k : Nat) : List Pt := match rg D.pts (frg D.fcs k) [] with | some r => r | none => []
def ppO (Q : Pi) (p : Pl) : Option (List Pt) × Int := ifb (okPi Q && okG p) (ifb (decide (p.1 < (Q.vs.length : Int))) (ifb (polyOk (plL p.2.2.2.2.toNat p.2.2.1 p.2.2.2.1 (fpL Q.d p.1.toNat))) (some (plL p.2.2.2.2.toNat p.2.2.1 p.2.2.2.1 (fpL Q.d p.1.toNat)), 0) (none, 6)) (none, 2)) (none, 1)
def oP (x : Option (List Pt)) : LV := match x with | some l => .ow 112 2 (l.map pC) | none => .nl
theorem poly_in {l : List Pt} (h : polyOk l = true) : l ≠ [] ∧ l.length ≤ 24 ∧ ∀ p ∈ l, inB p := by
  simp only [polyOk, Bool.and_eq_true, decide_eq_true_eq] at h
  obtain ⟨h1, h2, h3, _⟩ := h
  exact ⟨fun e => by rw [e] at h1; simp at h1, h2, fun p hp => okP_in (List.all_eq_true.1 h3 p hp)⟩
theorem pl_len (u : Nat) (x y : Int) (l : List Pt) : (plL u x y l).length = l.length := by
  unfold plL tuL tuM
  rw [List.length_map, List.length_map, List.length_map, dir_len]
theorem okG_at {p : Pl} (h : okG p = true) : (0 ≤ p.1 ∧ p.1 ≤ 23) ∧ (0 ≤ p.2.2.1 ∧ p.2.2.1 ≤ 20000) ∧ (0 ≤ p.2.2.2.1 ∧ p.2.2.2.1 ≤ 20000) ∧ 0 ≤ p.2.2.2.2 ∧ p.2.2.2.2 ≤ 7 := by
  unfold okG inR at h
  simp only [Bool.and_eq_true, decide_eq_true_eq] at h
  omega
theorem okPi_lenT {Q : Pi} (h : okPi Q = true) : drOk Q.d = true ∧ Q.vs.length = Q.d.fcs.length := by
  simp only [okPi, Bool.and_eq_true, decide_eq_true_eq] at h
  exact ⟨h.1, h.2.1⟩
/-- what is known of the face that is placed -/
theorem face_at {Q : Pi} {p : Pl} (h : okPi Q = true) (hg : okG p = true) (hk : p.1 < (Q.vs.length : Int)) : ∃ f, Q.d.fcs[p.1.toNat]? = some f ∧ rg Q.d.pts f.2 [] = some (fpL Q.d p.1.toNat) ∧ polyOk (fpL Q.d p.1.toNat) = true := by
  obtain ⟨ho, hl⟩ := okPi_lenT h
  obtain ⟨⟨g1, g2⟩, _⟩ := okG_at hg
  obtain ⟨f, hf⟩ := get_lt (show p.1.toNat < Q.d.fcs.length by omega)
  obtain ⟨r, hr, hp⟩ := dr_face ho hf
  have e : fpL Q.d p.1.toNat = r := by
    unfold fpL frg
    rw [hf]
    simp only [Option.getD_some, hr]
  exact ⟨f, hf, by rw [e]; exact hr, by rw [e]; exact hp⟩
theorem r62 (d : Nat) (Q : Pi) (hb : BdN Q.d) (p : Pl) (h : okPi Q = true) (hg : okG p = true) (hk : p.1 < (Q.vs.length : Int)) : ev (d + 5) 62 [.ag (qV Q), .ag (gV p)] = some (.ow 112 2 ((plL p.2.2.2.2.toNat p.2.2.1 p.2.2.2.1 (fpL Q.d p.1.toNat)).map pC), []) := by
  rw [s62 (d + 4) _ rfl]
  obtain ⟨f, hf, hr, hp⟩ := face_at h hg hk
  obtain ⟨g1, g2, g3, g4⟩ := okG_at hg
  obtain ⟨z1, z2, z3⟩ := poly_in hp
  have p1 := r91 (d + 1) Q.d hb p.1.toNat f _ hf hr
  have p2 := r137 d (fpL Q.d p.1.toNat) (by omega) z1 p.2.2.2.2.toNat (by omega) z3
  have hlen : (tuL p.2.2.2.2.toNat (fpL Q.d p.1.toNat)).length ≤ 1000 := by
    unfold tuL tuM
    rw [List.length_map, List.length_map, dir_len]
    omega
  have p3 := r136 (d + 3) (tuL p.2.2.2.2.toNat (fpL Q.d p.1.toNat)) hlen p.2.2.1 p.2.2.2.1 (tuL_in z3) (by omega) (by omega)
  have e1 : ((p.1.toNat : Nat) : Int) = p.1 := by omega
  have e2 : ((p.2.2.2.2.toNat : Nat) : Int) = p.2.2.2.2 := by omega
  rw [e1] at p1
  rw [e2] at p2
  unfold plL
  generalize tuL p.2.2.2.2.toNat (fpL Q.d p.1.toNat) = Z at p2 p3 ⊢
  generalize fpL Q.d p.1.toNat = Y at p1 p2
  generalize Z.map (shP p.2.2.1 p.2.2.2.1) = X at p3 ⊢
  simp [p1, p2, p3]
theorem r58 (d : Nat) (Q : Pi) (hb : BdN Q.d) (p : Pl) (h : okPi Q = true) (hg : okG p = true) (hk : p.1 < (Q.vs.length : Int)) : ev (d + 4) 58 [.rp (qV Q), .rp (gV p)] = some (.ow 112 2 ((plL p.2.2.2.2.toNat p.2.2.1 p.2.2.2.1 (fpL Q.d p.1.toNat)).map pC), []) := by
  rw [s58 (d + 3) _ rfl]
  obtain ⟨f, hf, hr, hp⟩ := face_at h hg hk
  obtain ⟨g1, g2, g3, g4⟩ := okG_at hg
  obtain ⟨z1, z2, z3⟩ := poly_in hp
  have p1 := r88 d Q.d [.ro 3 (Q.vs.map vC)] hb p.1.toNat f _ hf hr
  have p2 := r130 d (fpL Q.d p.1.toNat) (by omega) z1 p.2.2.2.2.toNat (by omega) z3
  have hlen : (tuL p.2.2.2.2.toNat (fpL Q.d p.1.toNat)).length ≤ 1000 := by
    unfold tuL tuM
    rw [List.length_map, List.length_map, dir_len]
    omega
  have p3 := r129 (d + 2) (tuL p.2.2.2.2.toNat (fpL Q.d p.1.toNat)) hlen p.2.2.1 p.2.2.2.1 (tuL_in z3) (by omega) (by omega)
  have e1 : ((p.1.toNat : Nat) : Int) = p.1 := by omega
  have e2 : ((p.2.2.2.2.toNat : Nat) : Int) = p.2.2.2.2 := by omega
  rw [e1] at p1
  rw [e2] at p2
  unfold plL
  generalize tuL p.2.2.2.2.toNat (fpL Q.d p.1.toNat) = Z at p2 p3 ⊢
  generalize fpL Q.d p.1.toNat = Y at p1 p2
  generalize Z.map (shP p.2.2.1 p.2.2.2.1) = X at p3 ⊢
  simp [p1, p2, p3]
theorem r14 (d : Nat) (Q : Pi) (hb : BdN Q.d) (hv : Q.vs.length ≤ big) (p : Pl) : ev (d + 9) 14 [.ag (qV Q), .ag (gV p)] = some (.tu [oP (ppO Q p).1, I (ppO Q p).2], []) := by
  rw [s14 (d + 8) _ rfl]
  have c1 := r60 d Q hb hv
  have c2 := r61 (d + 5) p
  unfold ppO
  cases h1 : okPi Q
  · rw [h1] at c1
    simp [c1, oP]
  rw [h1] at c1
  cases h2 : okG p
  · rw [h2] at c2
    simp [c1, c2, oP]
  rw [h2] at c2
  by_cases hk : p.1 < (Q.vs.length : Int)
  · have hk2 : ¬ (Q.vs.length : Int) ≤ p.1 := by omega
    have c3 := r62 (d + 3) Q hb p h1 h2 hk
    have hpl := pl_len p.2.2.2.2.toNat p.2.2.1 p.2.2.2.1 (fpL Q.d p.1.toNat)
    obtain ⟨f, _, _, hp⟩ := face_at h1 h2 hk
    obtain ⟨_, z2, _⟩ := poly_in hp
    generalize plL p.2.2.2.2.toNat p.2.2.1 p.2.2.2.1 (fpL Q.d p.1.toNat) = Z at c3 hpl ⊢
    have c4 := r63 (d + 3) Z (by simp only [big]; omega)
    cases h3 : polyOk Z <;> rw [h3] at c4 <;> simp [c1, c2, c3, c4, hk, hk2, oP]
  · have hk2 : (Q.vs.length : Int) ≤ p.1 := by omega
    simp [c1, c2, hk, hk2, oP]
theorem r11 (d : Nat) (Q : Pi) (hb : BdN Q.d) (hv : Q.vs.length ≤ big) (p : Pl) : ev (d + 8) 11 [.ag (qV Q), .ag (gV p)] = some (.tu [oP (ppO Q p).1, I (ppO Q p).2], []) := by
  rw [s11 (d + 7) _ rfl]
  have c1 := r55 d Q hb hv
  have c2 := r56 (d + 4) p
  unfold ppO
  cases h1 : okPi Q
  · rw [h1] at c1
    simp [c1, oP]
  rw [h1] at c1
  cases h2 : okG p
  · rw [h2] at c2
    simp [c1, c2, oP]
  rw [h2] at c2
  have c5 := r57 (d + 5) Q.d [.ro 3 (Q.vs.map vC)] p.1
  obtain ⟨ho, hl⟩ := okPi_lenT h1
  obtain ⟨g1, _⟩ := okG_at h2
  have hin : inR p.1 0 (W ((Q.d.fcs.length : Int) - 1)) = decide (p.1 < (Q.vs.length : Int)) := by
    simp only [big] at hv
    rw [W, IntWalk.i64_in _ (by omega)]
    unfold inR
    by_cases q : p.1 < (Q.vs.length : Int)
    · have q1 : p.1 ≤ (Q.d.fcs.length : Int) - 1 := by omega
      simp [q, q1, g1.1]
    · have q1 : ¬ p.1 ≤ (Q.d.fcs.length : Int) - 1 := by omega
      simp [q, q1]
  rw [hin] at c5
  by_cases hk : p.1 < (Q.vs.length : Int)
  · have c3 := r58 (d + 3) Q hb p h1 h2 hk
    have hpl := pl_len p.2.2.2.2.toNat p.2.2.1 p.2.2.2.1 (fpL Q.d p.1.toNat)
    obtain ⟨f, _, _, hp⟩ := face_at h1 h2 hk
    obtain ⟨_, z2, _⟩ := poly_in hp
    generalize plL p.2.2.2.2.toNat p.2.2.1 p.2.2.2.1 (fpL Q.d p.1.toNat) = Z at c3 hpl ⊢
    have c4 := r59 (d + 2) Z (by simp only [big]; omega)
    simp only [hk, decide_true] at c5
    cases h3 : polyOk Z <;> rw [h3] at c4 <;> simp [c1, c2, c3, c4, c5, hk, oP]
  · simp only [hk, decide_false] at c5
    simp [c1, c2, c5, hk, oP]
set_option maxHeartbeats 2000000 in
theorem r3 (d : Nat) (p : Pin) {x y z : LV} (w : WfP p x y z) (g : Pl) : ev (d + 10) 3 [.ag (pA p x y z), .ag (gV g)] = some (B true, []) := by
  rw [s3 (d + 9) _ rfl]
  obtain ⟨k1, h1, s1⟩ := r10 (d + 4) p w 1048576 (by omega)
  obtain ⟨bx, ex⟩ := SV.sv w.x
  obtain ⟨by', ey⟩ := SV.sv w.y
  obtain ⟨bz, ez⟩ := SV.sv w.z
  by_cases g1 : k1 < 0
  · subst ex ey ez
    simp [h1, g1]
  obtain ⟨q1, bp⟩ := s1 (by omega)
  have t1 := r12 (d + 4) p.w p.h p.pts p.fcs p.vs bp.pts bp.fcs (fun q hq => ⟨bp.ring q hq, (w.face q hq).nil⟩) bp.vs w.x w.y w.z
  have t2 := r13 (d + 8) g.1 g.2.1 g.2.2.1 g.2.2.2.1 g.2.2.2.2
  have f1 := r11 (d + 1) (pOf p) bp.n bp.vs g
  have f2 := r14 d (pOf p) bp.n bp.vs g
  have e1 := r16 (d + 4) (pOf p) bp.d bp.vs
  obtain ⟨km, ps, rows, vrs, hps, hrows, hvrs, hm⟩ := v17' (pOf p) bp.d bp.vs
  have hm := hm (d + 4)
  have hkm : ¬ (km : Int) < 0 := by omega
  have n1 : p.fcs.length = (p.fcs.map (·.1)).length := by simp
  have hbd : ∀ ws, (ppO (pOf p) g).1 = some ws → ws.length ≤ 24 := fun ws hws => by
    unfold ppO at hws
    generalize hZ : plL g.2.2.2.2.toNat g.2.2.1 g.2.2.2.1 (fpL (pOf p).d g.1.toNat) = Z at hws
    cases h1 : (okPi (pOf p) && okG g) <;> rw [h1] at hws <;> simp only [ifb_t, ifb_f] at hws
    · cases hws
    · cases h2 : decide (g.1 < ((pOf p).vs.length : Int)) <;> rw [h2] at hws <;> simp only [ifb_t, ifb_f] at hws
      · cases hws
      · cases h3 : polyOk Z <;> rw [h3] at hws <;> simp only [ifb_t, ifb_f] at hws
        · cases hws
        · cases hws
          exact (poly_in h3).2.1
  generalize ppO (pOf p) g = oc at f1 f2 hbd
  obtain ⟨o, c⟩ := oc
  simp only [pOf, qV, qO] at f1 f2 e1 hm hps hrows hvrs
  generalize p.fcs.map (·.1) = lp at t1 f1 f2 e1 n1 hm hrows
  cases o with
  | none =>
    have q2 := r15n (d + 8)
    have q3 := v18'n (d + 8) 1
    have q4 := r19n (d + 8) 1
    simp [oP] at q3 q4 f1 f2
    subst ex ey ez
    cases bx <;> cases by' <;> cases bz <;> simp only [svV] at h1 t1 ⊢ <;> simp [h1, g1, t1, t2, f1, f2, e1, q2, q3, q4, hm, hkm, hps, hrows, hvrs, n1]
  | some ws =>
    have hw2 := hbd ws rfl
    have q2 := r15 (d + 7) ws (by simp only [big]; omega)
    have q3 := v18' (d + 8) ws 1 (by omega)
    have q4 := r19 (d + 8) ws.length 1 (by omega)
    have q5 : ¬ (1 : Int) + 2 * (ws.length : Int) < 0 := by omega
    simp [oP] at q3 q4 f1 f2
    subst ex ey ez
    cases bx <;> cases by' <;> cases bz <;> simp only [svV] at h1 t1 ⊢ <;> simp [h1, g1, t1, t2, f1, f2, e1, q2, q3, q4, q5, hm, hkm, hps, hrows, hvrs, n1, markL_len]
end Go.Proofs.Ythnkioafikmmaaa.walkS
