/- Is a drawing valid whose list of faces is nil; no conditions. -/
import Derived.Test.YthnkioafikmmaaaGreatWVd
namespace Go.Proofs.YthnkioafikmmaaaGreat.walkS
open Go Go.Proofs.YthnkioafikmmaaaGreat.Ev
set_option linter.unusedSimpArgs false
set_option linter.unusedVariables false
abbrev dRn (D : Dr) (rest : List LV) : List LV := I D.w :: I D.h :: .ro 2 (D.pts.map pC) :: .nl :: rest
abbrev dVn (D : Dr) : List LV := dA D (.ro 2 (D.pts.map pC)) .nl
theorem ln101_2 (d : Nat) (D : Dr) (rest : List LV) (hb : D.pts.length ≤ big) (i : Nat) (hi : i < D.pts.length) (p : Pt) (hp : D.pts[i]? = some p) : ∀ (n j : Nat), n + j = i →
    clC [0, 3] [2] (blk 2 (lp (evC (ev (d + 1)) b101_2) (clean [0, 3, 4]) ⟨lookS [(0, .rp (dRn D rest)), (3, I i), (4, I j)], lookM []⟩)) =
      ifb (dupF D.pts p n j) (some (.rt, ⟨lookS [(2, B false)], lookM []⟩)) (some (.nm, ⟨lookS [(0, .rp (dRn D rest)), (3, I i)], lookM []⟩)) := by
  intro n
  induction n with
  | zero =>
    intro j hj
    have h0 : ¬ (j : Int) < (i : Int) := by omega
    rw [lp_step]
    simp [h0, dupF]
  | succ n ih =>
    intro j hj
    have h0 : (j : Int) < (i : Int) := by omega
    obtain ⟨q, hq⟩ := get_lt (l := D.pts) (i := j) (by omega)
    have hw := wrap_nat (i := j) (by simp [big] at hb; omega)
    have ih' := ih (j + 1) (by omega)
    rw [lp_step]
    simp only [dupF, pn_get hq]
    by_cases hpq : p = q
    · subst hpq
      simp [h0, hp, hq]
    · try simp at ih'
      simp [h0, hp, hq, hpq, eqq_ne hpq, hw, ih']
theorem ln101 (d : Nat) (D : Dr) (rest : List LV) (hb : D.pts.length ≤ big) : ∀ (n i : Nat), n + i = D.pts.length →
    clC [] [2] (blk 0 (lp (evC (ev (d + 1)) b101_1) (clean [0, 3]) ⟨lookS [(0, .rp (dRn D rest)), (3, I i)], lookM []⟩)) =
      ifb (pOk D.w D.h D.pts n i) (some (.nm, ⟨lookS [], lookM []⟩)) (some (.rt, ⟨lookS [(2, B false)], lookM []⟩)) := by
  intro n
  induction n with
  | zero =>
    intro i hi
    have h0 : ¬ (i : Int) < (D.pts.length : Int) := by omega
    rw [lp_step]
    simp [h0, pOk]
  | succ n ih =>
    intro i hi
    have hlt : i < D.pts.length := by omega
    have h0 : (i : Int) < (D.pts.length : Int) := by omega
    obtain ⟨p, hp⟩ := get_lt hlt
    have hw := wrap_nat (i := i) (by simp [big] at hb; omega)
    have c1 := r71 d p.1 0 D.w
    have c2 := r71 d p.2 0 D.h
    have inn := ln101_2 d D rest hb i hlt p hp i 0 (by omega)
    have ih' := ih (i + 1) (by omega)
    rw [lp_step]
    simp only [pOk, pn_get hp]
    cases h1 : inR p.1 0 D.w
    · rw [h1] at c1
      simp [h0, hp, c1]
    rw [h1] at c1
    cases h2 : inR p.2 0 D.h
    · rw [h2] at c2
      simp [h0, hp, c1, c2]
    rw [h2] at c2
    cases h3 : dupF D.pts p i 0
    · rw [h3] at inn
      try simp at inn ih'
      try simp at ih'
      simp [h0, hp, c1, c2, hw, inn, ih']
    · rw [h3] at inn
      try simp at inn
      simp [h0, hp, c1, c2, inn]
theorem rn101 (d : Nat) (D : Dr) (rest : List LV) (hb : D.pts.length ≤ big) : ev (d + 2) 101 [.rp (dRn D rest)] = some (B (decide (D.pts.length ≤ 48) && pOk D.w D.h D.pts D.pts.length 0), []) := by
  rw [s101 (d + 1) _ rfl]
  have key := ln101 d D rest hb D.pts.length 0 (by omega)
  by_cases h1 : D.pts.length ≤ 48
  · have h1' : ¬ (48 : Int) < (D.pts.length : Int) := by omega
    cases h : pOk D.w D.h D.pts D.pts.length 0 <;> rw [h] at key <;> simp at key <;> simp [h1, h1', key]
  · have h1' : (48 : Int) < (D.pts.length : Int) := by omega
    simp [h1, h1']
theorem ln66 (d : Nat) (D : Dr) (hb : D.pts.length ≤ big) : ∀ (n i : Nat), n + i = D.pts.length →
    clC [1] [2] (blk 0 (lp (evC (ev (d + 3)) b66_1) (clean [1, 32, 33, 34]) ⟨lookS [(1, .bp (.sl 1) 0), (32, .ro 2 (D.pts.map pC)), (33, I D.pts.length), (34, I i)], lookM [((.sl 1), some (.box (dVn D)))]⟩)) =
      ifb (pOk D.w D.h D.pts n i) (some (.nm, ⟨lookS [(1, .bp (.sl 1) 0)], lookM [((.sl 1), some (.box (dVn D)))]⟩)) (some (.rt, ⟨lookS [(2, B false)], lookM []⟩)) := by
  intro n
  induction n with
  | zero =>
    intro i hi
    have h0 : ¬ (i : Int) < (D.pts.length : Int) := by omega
    rw [lp_step]
    simp [h0, pOk]
  | succ n ih =>
    intro i hi
    have hlt : i < D.pts.length := by omega
    have h0 : (i : Int) < (D.pts.length : Int) := by omega
    obtain ⟨p, hp⟩ := get_lt hlt
    have hw := wrap_nat (i := i) (by simp [big] at hb; omega)
    have c1 := r40 (d + 2) p.1 0 D.w
    have c2 := r40 (d + 2) p.2 0 D.h
    have hle : i ≤ D.pts.length := by omega
    have c3 := r106 (d + 1) (D.pts.take i) (by rw [List.length_take]; omega) p
    have e3 : dupF (D.pts.take i) p (D.pts.take i).length 0 = dupF D.pts p i 0 := by
      have el : (D.pts.take i).length = i := by rw [List.length_take]; omega
      rw [el, ← ix_dup (P := D.pts.take i) (L := D.pts.take i) i 0 fun k _ _ => rfl]
      exact ix_dup i 0 fun k _ h2 => by unfold pn; rw [List.getElem?_take_of_lt (by omega)]
    rw [e3] at c3
    have ih' := ih (i + 1) (by omega)
    rw [lp_step]
    simp only [pOk, pn_get hp]
    cases h1 : inR p.1 0 D.w
    · rw [h1] at c1
      simp [h0, hp, c1]
    rw [h1] at c1
    cases h2 : inR p.2 0 D.h
    · rw [h2] at c2
      simp [h0, hp, c1, c2]
    rw [h2] at c2
    cases h3 : dupF D.pts p i 0
    · rw [h3] at c3
      try simp at c3 ih'
      try simp at ih'
      simp [h0, hp, c1, c2, hle, c3, hw, ih']
    · rw [h3] at c3
      try simp at c3
      simp [h0, hp, c1, c2, hle, c3]
theorem rn63 (d : Nat) (D : Dr) (rest : List LV) (hb : D.pts.length ≤ big) (hF : D.fcs = []) : ev (d + 6) 63 [.rp (dRn D rest)] = some (B (drOk D), []) := by
  rw [s63 (d + 5) _ rfl]
  have c1 := r71 (d + 4) D.w 10 20000
  have c2 := r71 (d + 4) D.h 10 20000
  have c3 := rn101 (d + 3) D rest hb
  unfold drOk
  rw [hF]
  cases h1 : inR D.w 10 20000
  · rw [h1] at c1
    simp [c1]
  rw [h1] at c1
  cases h2 : inR D.h 10 20000
  · rw [h2] at c2
    simp [c1, c2]
  rw [h2] at c2
  cases h3 : decide (D.pts.length ≤ 48)
  · rw [h3] at c3
    try simp only [Bool.false_and] at c3
    simp [c1, c2, c3]
  rw [h3] at c3
  cases h4 : pOk D.w D.h D.pts D.pts.length 0
  · rw [h4] at c3
    try simp only [Bool.true_and] at c3
    simp [c1, c2, c3]
  rw [h4] at c3
  try simp only [Bool.true_and] at c3
  simp [c1, c2, c3, fOk]
  rw [lp_step]
  simp
theorem rn66 (d : Nat) (D : Dr) (hb : D.pts.length ≤ big) (hF : D.fcs = []) : ev (d + 6) 66 [.ag (dVn D)] = some (B (drOk D), []) := by
  rw [s66 (d + 5) _ rfl]
  have c1 := r40 (d + 4) D.w 10 20000
  have c2 := r40 (d + 4) D.h 10 20000
  have c3 := ln66 (d + 2) D hb D.pts.length 0 (by omega)
  unfold drOk
  rw [hF]
  cases h1 : inR D.w 10 20000
  · rw [h1] at c1
    simp [c1]
  rw [h1] at c1
  cases h2 : inR D.h 10 20000
  · rw [h2] at c2
    simp [c1, c2]
  rw [h2] at c2
  by_cases h3 : D.pts.length ≤ 48
  case neg =>
    have h3' : (48 : Int) < (D.pts.length : Int) := by omega
    simp [c1, c2, h3, h3']
  have h3' : ¬ (48 : Int) < (D.pts.length : Int) := by omega
  cases h4 : pOk D.w D.h D.pts D.pts.length 0
  · rw [h4] at c3
    simp at c3
    simp [c1, c2, c3, h3, h3']
  rw [h4] at c3
  simp at c3
  simp [c1, c2, c3, h3, h3', fOk]
  rw [lp_step]
  simp
end Go.Proofs.YthnkioafikmmaaaGreat.walkS
