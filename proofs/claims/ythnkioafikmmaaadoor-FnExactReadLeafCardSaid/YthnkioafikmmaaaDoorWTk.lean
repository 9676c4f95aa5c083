/- Lists of numbers as texts and back; no conditions. -/
import Derived.Test.YthnkioafikmmaaaDoorWTl
namespace Go.Proofs.YthnkioafikmmaaaDoor.walkS
open Go Go.Proofs.YthnkioafikmmaaaDoor.Ev
set_option linter.unusedSimpArgs false
set_option linter.unusedVariables false
open Go.Lib
abbrev mxN : Int := 1000000000000
theorem inR_w {x : Int} (h : inR x (-1000000000000) 1000000000000 = true) : -1000000000000 ≤ x ∧ x ≤ 1000000000000 := by
  unfold inR at h
  simpa only [Bool.and_eq_true, decide_eq_true_eq] using h
theorem emp_app (x : ByteArray) : (⟨#[]⟩ : ByteArray) ++ x = x := by
  apply ba_ext
  rw [ba_app]
  rfl
theorem sz44 : (⟨#[44]⟩ : ByteArray).size = 1 := rfl
theorem take_snoc {α : Type} {l : List α} {i : Nat} {x : α} (h : l[i]? = some x) : l.take (i + 1) = l.take i ++ [x] := by rw [List.take_add_one, h]; rfl
theorem lsB_size {l : List Int} (hl : l.length ≤ 64) (hw : ∀ x ∈ l, inR x (-1000000000000) 1000000000000 = true) : (joinB (l.map decB) comma).size ≤ 64 * 21 := by
  have h := joinB_size (B := 20) (sep := comma) (l.map decB) (by
    intro y hy
    obtain ⟨x, hx, rfl⟩ := List.mem_map.1 hy
    have := inR_w (hw x hx)
    exact decB_size (by omega) (by omega))
  have hc : comma.size = 1 := rfl
  rw [List.length_map, hc] at h
  omega
theorem l38 (d : Nat) (l : List Int) (hl : l.length ≤ 64) (hw : ∀ x ∈ l, inR x (-1000000000000) 1000000000000 = true) : ∀ (n i : Nat), n + i = l.length →
    clC [0] [2] (blk 0 (lp (evC (ev (d + 1)) b38_1) (clean [0, 11, 12, 13]) ⟨lookS [(0, .ro 1 (l.map iC)), (11, .ro 1 (l.map iC)), (12, I l.length), (13, I i)], lookM []⟩)) = some (.nm, ⟨lookS [(0, .ro 1 (l.map iC))], lookM []⟩) := by
  intro n
  induction n with
  | zero =>
    intro i hi
    have h0 : ¬ (i : Int) < (l.length : Int) := by omega
    rw [lp_step]
    simp [h0]
  | succ n ih =>
    intro i hi
    have hlt : i < l.length := by omega
    have h0 : (i : Int) < (l.length : Int) := by omega
    obtain ⟨x, hx⟩ := get_lt hlt
    have p1 := r63 d x (-1000000000000) 1000000000000
    rw [hw x (List.mem_of_getElem? hx)] at p1
    have hi1 := wrap_nat (i := i) (by omega)
    have ih' := ih (i + 1) (by omega)
    simp at ih'
    rw [lp_step]
    simp [h0, hx, p1, hi1, ih']
theorem l38_2 (d : Nat) (l : List Int) (hl : l.length ≤ 64) (hw : ∀ x ∈ l, inR x (-1000000000000) 1000000000000 = true) : ∀ (n i : Nat) (acc r : List ByteArray), n + i = l.length → acc.length = i → acc ++ (l.drop i).map decB = r →
    clC [5] [2] (blk 2 (lp (evC (ev (d + 1)) b38_2) (clean [5, 25, 26, 27]) ⟨lookS [(5, .rf (.sl 5) none 0 acc.length), (25, .ro 1 (l.map iC)), (26, I l.length), (27, I i)], lookM [(.sl 5, some (.arr 9 1 (acc.map sC)))]⟩)) =
      some (.nm, ⟨lookS [(5, .rf (.sl 5) none 0 r.length)], lookM [(.sl 5, some (.arr 9 1 (r.map sC)))]⟩) := by
  intro n
  induction n with
  | zero =>
    intro i acc r hi ha hr
    have h0 : ¬ (i : Int) < (l.length : Int) := by omega
    rw [List.drop_eq_nil_of_le (by omega), List.map_nil, List.append_nil] at hr
    subst hr
    rw [lp_step]
    simp [h0]
  | succ n ih =>
    intro i acc r hi ha hr
    have hlt : i < l.length := by omega
    have h0 : (i : Int) < (l.length : Int) := by omega
    obtain ⟨x, hx⟩ := get_lt hlt
    have hin := inR_w (hw x (List.mem_of_getElem? hx))
    have p1 := r34 d x (by omega) (by omega)
    have hb : acc.length + 1 ≤ big := by simp only [big]; omega
    have hi1 := wrap_nat (i := i) (by omega)
    rw [drop_get hx, List.map_cons] at hr
    have ih' := ih (i + 1) (acc ++ [decB x]) r (by omega) (by simp; omega) (by rw [List.append_assoc]; exact hr)
    simp at ih'
    rw [lp_step]
    simp [h0, hx, p1, hb, hi1, ih']
theorem r38 (d : Nat) (l : List Int) (hl : l.length ≤ 64) (hw : ∀ x ∈ l, inR x (-1000000000000) 1000000000000 = true) : ev (d + 3) 38 [.ro 1 (l.map iC)] = some (T (lsB l), []) := by
  rw [s38 (d + 2) _ rfl]
  have k1 := l38 (d + 1) l hl hw l.length 0 (by omega)
  have c0 : ¬ (64 : Int) < (l.length : Int) := by omega
  simp at k1
  unfold lsB
  by_cases h : l = []
  · subst h
    simp at k1
    simp [k1]
  · rw [if_neg h]
    have hs := lsB_size hl hw
    obtain ⟨R, hR⟩ : ∃ R, R = l.map decB := ⟨_, rfl⟩
    have hRl : R.length = l.length := by rw [hR, List.length_map]
    have k2 := l38_2 (d + 1) l hl hw l.length 0 [] R (by omega) rfl (by rw [List.drop_zero, hR]; rfl)
    rw [← hR] at hs ⊢
    have hz : ¬ (l.length : Int) = 0 := by
      intro q
      exact h (List.eq_nil_of_length_eq_zero (by omega))
    have p2 := p45 (d + 2) R comma (by simp only [big]; omega) (by simp only [big]; omega)
    simp at k2
    simp [comma] at p2
    simp [c0, h, hz, k1, k2, p2, comma]
/-- the numbers of some texts, if all are numbers in their range -/
def rlF : List ByteArray → Option (List Int)
  | [] => some []
  | x :: xs => if (rdN x).2 = true ∧ inR (rdN x).1 (-1000000000000) 1000000000000 = true then (rlF xs).map ((rdN x).1 :: ·) else none
theorem rlF_len : ∀ {xs : List ByteArray} {r : List Int}, rlF xs = some r → r.length = xs.length := by
  intro xs
  induction xs with
  | nil => intro r h; cases h; rfl
  | cons x xs ih =>
    intro r h
    rw [rlF] at h
    split at h
    case isFalse => cases h
    obtain ⟨y, hy, rfl⟩ := Option.map_eq_some_iff.1 h
    simp [ih hy]
def rlO (s : ByteArray) : Option (List Int) := if (splitL s comma).length ≤ 64 then rlF (splitL s comma) else none
def oLn (r : Option (List Int)) : LV × Bool := match r with | some r => (.ow 2 1 (r.map iC), true) | none => (.nl, false)
def rlE {α : Type} (x : Option (List Int)) (A : List Int → α) (B : α) : α := match x with | some r => A r | none => B
theorem rlE_s {α : Type} (r : List Int) (A : List Int → α) (B : α) : rlE (some r) A B = A r := rfl
theorem rlE_n {α : Type} (A : List Int → α) (B : α) : rlE none A B = B := rfl
attribute [simp] rlE_s rlE_n
theorem rlE_map {α : Type} (x : Option (List Int)) (c : Int) (A : List Int → α) (B : α) : rlE (x.map (c :: ·)) A B = rlE x (fun r => A (c :: r)) B := by cases x <;> rfl
theorem l51 (d : Nat) (xs : List ByteArray) (hl : xs.length ≤ 2000000) (hz : ∀ x ∈ xs, x.size ≤ big) : ∀ (n i : Nat) (acc : List Int), n + i = xs.length → acc.length = i →
    clC [4] [2, 3] (blk 0 (lp (evC (ev (d + 3)) b51_1) (clean [4, 13, 14, 15]) ⟨lookS [(4, .rf (.sl 4) none 0 acc.length), (13, .rf (.sl 13) none 0 xs.length), (14, I xs.length), (15, I i)], lookM [(.sl 4, some (.arr 2 1 (acc.map iC))), (.sl 13, some (.arr 9 1 (xs.map sC)))]⟩)) =
      rlE (rlF (xs.drop i)) (fun r => some (.nm, ⟨lookS [(4, .rf (.sl 4) none 0 (acc ++ r).length)], lookM [(.sl 4, some (.arr 2 1 ((acc ++ r).map iC)))]⟩)) (some (.rt, ⟨lookS [(2, .nl), (3, B false)], lookM []⟩)) := by
  intro n
  induction n with
  | zero =>
    intro i acc hi ha
    have h0 : ¬ (i : Int) < (xs.length : Int) := by omega
    rw [List.drop_eq_nil_of_le (by omega), lp_step]
    simp [h0, rlF]
  | succ n ih =>
    intro i acc hi ha
    have hlt : i < xs.length := by omega
    have h0 : (i : Int) < (xs.length : Int) := by omega
    obtain ⟨x, hx⟩ := get_lt hlt
    have p1 := r49 d x (hz x (List.mem_of_getElem? hx))
    have p2 := r63 (d + 2) (rdN x).1 (-1000000000000) 1000000000000
    have hb : acc.length + 1 ≤ big := by simp only [big]; omega
    have hi1 := wrap_nat (i := i) (by omega)
    have ih' := ih (i + 1) (acc ++ [(rdN x).1]) (by omega) (by simp; omega)
    rw [drop_get hx, rlF]
    generalize rdN x = v at *
    obtain ⟨v1, v2⟩ := v
    simp only at p1 p2 ih' ⊢
    rw [lp_step]
    cases v2
    · rw [if_neg (by simp)]
      simp [h0, hx, p1]
    cases hin : inR v1 (-1000000000000) 1000000000000
    · rw [hin] at p2
      rw [if_neg (by simp)]
      simp [h0, hx, p1, p2]
    · rw [hin] at p2
      rw [if_pos (by simp), rlE_map]
      simp at ih'
      simp [h0, hx, p1, p2, hb, hi1, ih']
theorem l50 (d : Nat) (xs : List ByteArray) (hl : xs.length ≤ 2000000) (hz : ∀ x ∈ xs, x.size ≤ big) : ∀ (n i : Nat) (acc : List Int), n + i = xs.length → acc.length = i →
    clC [5] [2, 3] (blk 0 (lp (evC (ev (d + 2)) b50_1) (clean [4, 5, 6]) ⟨lookS [(4, .rf (.sl 4) none 0 xs.length), (5, .rf (.sl 5) none 0 acc.length), (6, I i)], lookM [(.sl 4, some (.arr 9 1 (xs.map sC))), (.sl 5, some (.arr 2 1 (acc.map iC)))]⟩)) =
      rlE (rlF (xs.drop i)) (fun r => some (.nm, ⟨lookS [(5, .rf (.sl 5) none 0 (acc ++ r).length)], lookM [(.sl 5, some (.arr 2 1 ((acc ++ r).map iC)))]⟩)) (some (.rt, ⟨lookS [(2, .nl), (3, B false)], lookM []⟩)) := by
  intro n
  induction n with
  | zero =>
    intro i acc hi ha
    have h0 : ¬ (i : Int) < (xs.length : Int) := by omega
    rw [List.drop_eq_nil_of_le (by omega), lp_step]
    simp [h0, rlF]
  | succ n ih =>
    intro i acc hi ha
    have hlt : i < xs.length := by omega
    have h0 : (i : Int) < (xs.length : Int) := by omega
    obtain ⟨x, hx⟩ := get_lt hlt
    have p1 := r79 d x (hz x (List.mem_of_getElem? hx))
    have p2 := r58 (d + 1) (rdN x).1 (-1000000000000) 1000000000000
    have hb : acc.length + 1 ≤ big := by simp only [big]; omega
    have hi1 := wrap_nat (i := i) (by omega)
    have ih' := ih (i + 1) (acc ++ [(rdN x).1]) (by omega) (by simp; omega)
    rw [drop_get hx, rlF]
    generalize rdN x = v at *
    obtain ⟨v1, v2⟩ := v
    simp only at p1 p2 ih' ⊢
    rw [lp_step]
    cases v2
    · rw [if_neg (by simp)]
      simp [h0, hx, p1]
    cases hin : inR v1 (-1000000000000) 1000000000000
    · rw [hin] at p2
      rw [if_neg (by simp)]
      simp [h0, hx, p1, p2]
    · rw [hin] at p2
      rw [if_pos (by simp), rlE_map]
      simp at ih'
      simp [h0, hx, p1, p2, hb, hi1, ih']
theorem r51d (d : Nat) : ev (d + 1) 51 [T ⟨#[45]⟩] = some (.tu [.nl, B true], []) := by
  rw [s51 d _ rfl]
  simp
theorem r50d (d : Nat) : ev (d + 1) 50 [T ⟨#[45]⟩] = some (.tu [.ow 2 1 [], B true], []) := by
  rw [s50 d _ rfl]
  simp
theorem spl_len (s : ByteArray) (c : UInt8) : (splitL s ⟨#[c]⟩).length ≤ s.size + 1 := by
  rw [splitL_eq, List.length_map, size_list]
  generalize s.data.toList = l
  induction l with
  | nil => simp [spL]
  | cons b l ih =>
    by_cases e : b = c
    · subst e
      rw [spL_same]
      simp only [List.length_cons]
      omega
    · obtain ⟨x, t, ht⟩ : ∃ x t, spL c l = x :: t := by
        cases hs : spL c l with
        | nil => exact absurd hs (spL_ne _ _)
        | cons x t => exact ⟨x, t, rfl⟩
      rw [spL_other e ht]
      rw [ht] at ih
      simp only [List.length_cons] at ih ⊢
      omega
theorem r51 (d : Nat) (s : ByteArray) (hs : s.size ≤ 1048576) (hd : s ≠ ⟨#[45]⟩) : ev (d + 4) 51 [T s] = some (.tu [(oLn (rlO s)).1, B (oLn (rlO s)).2], []) := by
  rw [s51 (d + 3) _ rfl]
  have p1 := p48 (d + 3) s 44 (by omega)
  have hz := pcs_size s 44
  have hl := spl_len s 44
  unfold rlO
  generalize splitL s ⟨#[44]⟩ = xs at p1 hz hl ⊢
  have key := l51 d xs (by omega) (fun x hx => by have := hz x hx; simp only [big]; omega) xs.length 0 [] (by omega) rfl
  rw [List.drop_zero] at key
  cases hr : rlF xs with
  | none =>
    rw [hr] at key
    have e : (if xs.length ≤ 64 then (none : Option (List Int)) else none) = none := by split <;> rfl
    simp at key
    simp [hd, p1, key, e, oLn]
  | some r =>
    rw [hr] at key
    have hlen := rlF_len hr
    simp at key
    by_cases h : xs.length ≤ 64
    · have c : ¬ (64 : Int) < (r.length : Int) := by omega
      rw [if_pos h]
      simp [hd, p1, key, c, oLn]
    · have c : (64 : Int) < (r.length : Int) := by omega
      rw [if_neg h]
      simp [hd, p1, key, c, oLn]
theorem r50 (d : Nat) (s : ByteArray) (hs : s.size ≤ 1048576) (hd : s ≠ ⟨#[45]⟩) : ev (d + 4) 50 [T s] = some (.tu [(oLn (rlO s)).1, B (oLn (rlO s)).2], []) := by
  rw [s50 (d + 3) _ rfl]
  have p1 := r78 (d + 2) s 44 (by omega)
  have hz := pcs_size s 44
  have hl := spl_len s 44
  unfold rlO
  generalize splitL s ⟨#[44]⟩ = xs at p1 hz hl ⊢
  have key := l50 (d + 1) xs (by omega) (fun x hx => by have := hz x hx; simp only [big]; omega) xs.length 0 [] (by omega) rfl
  rw [List.drop_zero] at key
  simp at p1
  by_cases h : xs.length ≤ 64
  · have c : ¬ (64 : Int) < (xs.length : Int) := by omega
    rw [if_pos h]
    cases hr : rlF xs with
    | none =>
      rw [hr] at key
      simp at key
      simp [hd, p1, key, c, oLn]
    | some r =>
      rw [hr] at key
      simp at key
      simp [hd, p1, key, c, oLn]
  · have c : (64 : Int) < (xs.length : Int) := by omega
    rw [if_neg h]
    simp [hd, p1, c, oLn]
end Go.Proofs.YthnkioafikmmaaaDoor.walkS
