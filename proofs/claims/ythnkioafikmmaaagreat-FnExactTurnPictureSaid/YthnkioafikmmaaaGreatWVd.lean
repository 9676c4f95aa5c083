/- ValidDrawing; no conditions. -/
import Derived.Test.YthnkioafikmmaaaGreatWDrw
import Derived.Test.YthnkioafikmmaaaGreatWValid
namespace Go.Proofs.YthnkioafikmmaaaGreat.walkS
open Go Go.Proofs.YthnkioafikmmaaaGreat.Ev
set_option linter.unusedSimpArgs false
set_option linter.unusedVariables false
def ordF (F : List Fc) : Nat → Bool
  | 0 => true
  | k + 1 => less ((F[k]?).getD (.empty, [])).1 ((F[k + 1]?).getD (.empty, [])).1
def ringOk (P : List Pt) (l : List Int) : Bool := match rg P l [] with | some r => polyOk r | none => false
def fcOk (P : List Pt) (F : List Fc) (i : Nat) : Bool := ifb (nameOk ((F[i]?).getD (.empty, [])).1) (ifb (ordF F i) (ringOk P ((F[i]?).getD (.empty, [])).2) false) false
def fOk (P : List Pt) (F : List Fc) : Nat → Nat → Bool
  | 0, _ => true
  | m + 1, i => ifb (fcOk P F i) (fOk P F m (i + 1)) false
def drOk (D : Dr) : Bool := inR D.w 10 20000 && (inR D.h 10 20000 && (decide (D.pts.length ≤ 48) && (pOk D.w D.h D.pts D.pts.length 0 && (decide (D.fcs.length ≤ 24) && fOk D.pts D.fcs D.fcs.length 0))))
structure BdN (D : Dr) : Prop extends BdD D where
  name : ∀ f ∈ D.fcs, f.1.size ≤ big
theorem l63 (d : Nat) (D : Dr) (rest : List LV) (hb : BdN D) : ∀ (n i : Nat), n + i = D.fcs.length →
    clC [] [2] (blk 0 (lp (evC (ev (d + 5)) b63_1) (clean [0, 3]) ⟨lookS [(0, .rp (dR D rest)), (3, I i)], lookM []⟩)) =
      ifb (fOk D.pts D.fcs n i) (some (.nm, ⟨lookS [], lookM []⟩)) (some (.rt, ⟨lookS [(2, B false)], lookM []⟩)) := by
  intro n
  induction n with
  | zero =>
    intro i hi
    have h0 : ¬ (i : Int) < (D.fcs.length : Int) := by omega
    rw [lp_step]
    simp [h0, fOk]
  | succ n ih =>
    intro i hi
    have hlt : i < D.fcs.length := by omega
    have h0 : (i : Int) < (D.fcs.length : Int) := by omega
    obtain ⟨f, hf⟩ := get_lt hlt
    have hmem := List.mem_of_getElem? hf
    have hw := wrap_nat (i := i) (by have := hb.fcs; simp only [big] at this; omega)
    have c1 := r102 (d + 3) f.1 (hb.name f hmem)
    have c2 := r103 (d + 3) D rest f.2 (hb.ring f hmem) hb.pts
    have ih' := ih (i + 1) (by omega)
    have c3 : ∀ r, rg D.pts f.2 [] = some r → ev (d + 5) 104 [.ro 2 (r.map pC)] = some (B (polyOk r), []) := fun r hr => r104 d r (by rw [rg_len hr]; simpa using hb.ring f hmem)
    have hsz := hb.fcs
    simp only [big] at hsz
    rw [lp_step]
    have hfo : fOk D.pts D.fcs (n + 1) i = ifb (fcOk D.pts D.fcs i) (fOk D.pts D.fcs n (i + 1)) false := rfl
    rw [hfo]
    have hfc : fcOk D.pts D.fcs i = ifb (nameOk f.1) (ifb (ordF D.fcs i) (ringOk D.pts f.2) false) false := by unfold fcOk; rw [hf]; rfl
    rw [hfc]
    cases h1 : nameOk f.1
    · rw [h1] at c1
      simp [h0, hf, c1]
    rw [h1] at c1
    cases i with
    | zero =>
      have hx0 : D.fcs[0] = f := (List.getElem?_eq_some_iff.1 hf).2
      have hne : 0 < D.fcs.length := hlt
      simp only [ordF]
      unfold ringOk
      cases h2 : rg D.pts f.2 [] with
      | none =>
        rw [h2] at c2
        simp only [rgV] at c2
        simp [hne, hx0, c1, c2]
      | some r =>
        rw [h2] at c2
        simp only [rgV] at c2
        have c3 := c3 r h2
        cases h3 : polyOk r
        · rw [h3] at c3
          simp [hne, hx0, c1, c2, c3, h3]
        · rw [h3] at c3
          try simp at hw ih'
          try simp at ih'
          simp [hne, hx0, c1, c2, c3, h3, hw, ih']
    | succ k =>
      obtain ⟨g, hg⟩ := get_lt (l := D.fcs) (i := k) (by omega)
      have hpos : (0 : Int) < (k : Int) + 1 := by omega
      have hpos2 : (0 : Int) ≤ (k : Int) + 1 := by omega
      have h0' : (k : Int) + 1 < (D.fcs.length : Int) := by omega
      have ht : ((k : Int) + 1).toNat = k + 1 := by omega
      have hk : IntKind.i64.wrap (k : Int) = (k : Int) := IntWalk.i64_in _ (by omega)
      have hw2 : IntKind.i64.wrap ((k : Int) + 1 + 1) = (k : Int) + 1 + 1 := IntWalk.i64_in _ (by omega)
      have e2 : ((k + 1 + 1 : Nat) : Int) = (k : Int) + 1 + 1 := by omega
      have ho : ordF D.fcs (k + 1) = less g.1 f.1 := by simp only [ordF, hf, hg, Option.getD_some]
      rw [ho]
      cases hc : less g.1 f.1
      · simp only [less] at hc
        simp [h0', hpos, hpos2, ht, hf, c1, hk, hg, hc]
      · simp only [less] at hc
        unfold ringOk
        cases h2 : rg D.pts f.2 [] with
        | none =>
          rw [h2] at c2
          simp only [rgV] at c2
          simp [h0', hpos, hpos2, ht, hf, c1, hk, hg, hc, c2]
        | some r =>
          rw [h2] at c2
          simp only [rgV] at c2
          have c3 := c3 r h2
          cases h3 : polyOk r
          · rw [h3] at c3
            simp [h0', hpos, hpos2, ht, hf, c1, hk, hg, hc, c2, c3, h3]
          · rw [h3] at c3
            rw [e2] at ih'
            simp [h0', hpos, hpos2, ht, hf, c1, hk, hg, hc, c2, c3, h3, hw2]
            exact ih'
theorem l66_2 (d : Nat) (D : Dr) (hb : BdN D) : ∀ (n i : Nat), n + i = D.fcs.length →
    clC [] [2] (blk 2 (lp (evC (ev (d + 5)) b66_2) (clean [1, 63, 64, 65]) ⟨lookS [(1, .bp (.sl 1) 0), (63, .ro 2 (D.fcs.map fS)), (64, I D.fcs.length), (65, I i)], lookM [((.sl 1), some (.box (dV D)))]⟩)) =
      ifb (fOk D.pts D.fcs n i) (some (.nm, ⟨lookS [], lookM []⟩)) (some (.rt, ⟨lookS [(2, B false)], lookM []⟩)) := by
  intro n
  induction n with
  | zero =>
    intro i hi
    have h0 : ¬ (i : Int) < (D.fcs.length : Int) := by omega
    rw [lp_step]
    simp [h0, fOk]
  | succ n ih =>
    intro i hi
    have hlt : i < D.fcs.length := by omega
    have h0 : (i : Int) < (D.fcs.length : Int) := by omega
    obtain ⟨f, hf⟩ := get_lt hlt
    have hmem := List.mem_of_getElem? hf
    have hw := wrap_nat (i := i) (by have := hb.fcs; simp only [big] at this; omega)
    have c1 := r107 (d + 4) f.1 (hb.name f hmem)
    have c2 := r108 (d + 3) D.pts f.2 (hb.ring f hmem) hb.pts
    have ih' := ih (i + 1) (by omega)
    have c3 : ∀ r, rg D.pts f.2 [] = some r → ev (d + 5) 109 [.ro 2 (r.map pC)] = some (B (polyOk r), []) := fun r hr => r109 d r (by rw [rg_len hr]; simpa using hb.ring f hmem)
    have hsz := hb.fcs
    simp only [big] at hsz
    rw [lp_step]
    have hfo : fOk D.pts D.fcs (n + 1) i = ifb (fcOk D.pts D.fcs i) (fOk D.pts D.fcs n (i + 1)) false := rfl
    rw [hfo]
    have hfc : fcOk D.pts D.fcs i = ifb (nameOk f.1) (ifb (ordF D.fcs i) (ringOk D.pts f.2) false) false := by unfold fcOk; rw [hf]; rfl
    rw [hfc]
    cases h1 : nameOk f.1
    · rw [h1] at c1
      simp [h0, hf, c1]
    rw [h1] at c1
    cases i with
    | zero =>
      have hx0 : D.fcs[0] = f := (List.getElem?_eq_some_iff.1 hf).2
      have hne : 0 < D.fcs.length := hlt
      simp only [ordF]
      unfold ringOk
      cases h2 : rg D.pts f.2 [] with
      | none =>
        rw [h2] at c2
        simp only [rgV] at c2
        simp [hne, hx0, c1, c2]
      | some r =>
        rw [h2] at c2
        simp only [rgV] at c2
        have c3 := c3 r h2
        cases h3 : polyOk r
        · rw [h3] at c3
          simp [hne, hx0, c1, c2, c3, h3]
        · rw [h3] at c3
          try simp at hw ih'
          try simp at ih'
          simp [hne, hx0, c1, c2, c3, h3, hw, ih']
    | succ k =>
      obtain ⟨g, hg⟩ := get_lt (l := D.fcs) (i := k) (by omega)
      have hpos : (0 : Int) < (k : Int) + 1 := by omega
      have hpos2 : (0 : Int) ≤ (k : Int) + 1 := by omega
      have h0' : (k : Int) + 1 < (D.fcs.length : Int) := by omega
      have ht : ((k : Int) + 1).toNat = k + 1 := by omega
      have hk : IntKind.i64.wrap (k : Int) = (k : Int) := IntWalk.i64_in _ (by omega)
      have hw2 : IntKind.i64.wrap ((k : Int) + 1 + 1) = (k : Int) + 1 + 1 := IntWalk.i64_in _ (by omega)
      have e2 : ((k + 1 + 1 : Nat) : Int) = (k : Int) + 1 + 1 := by omega
      have ho : ordF D.fcs (k + 1) = less g.1 f.1 := by simp only [ordF, hf, hg, Option.getD_some]
      rw [ho]
      cases hc : less g.1 f.1
      · simp only [less] at hc
        simp [h0', hpos, hpos2, ht, hf, c1, hk, hg, hc]
      · simp only [less] at hc
        unfold ringOk
        cases h2 : rg D.pts f.2 [] with
        | none =>
          rw [h2] at c2
          simp only [rgV] at c2
          simp [h0', hpos, hpos2, ht, hf, c1, hk, hg, hc, c2]
        | some r =>
          rw [h2] at c2
          simp only [rgV] at c2
          have c3 := c3 r h2
          cases h3 : polyOk r
          · rw [h3] at c3
            simp [h0', hpos, hpos2, ht, hf, c1, hk, hg, hc, c2, c3, h3]
          · rw [h3] at c3
            rw [e2] at ih'
            simp [h0', hpos, hpos2, ht, hf, c1, hk, hg, hc, c2, c3, h3, hw2]
            exact ih'
theorem r63 (d : Nat) (D : Dr) (rest : List LV) (hb : BdN D) : ev (d + 6) 63 [.rp (dR D rest)] = some (B (drOk D), []) := by
  rw [s63 (d + 5) _ rfl]
  have c1 := r71 (d + 4) D.w 10 20000
  have c2 := r71 (d + 4) D.h 10 20000
  have c3 := r101 (d + 3) D rest hb.pts
  have key := l63 d D rest hb D.fcs.length 0 (by omega)
  unfold drOk
  cases h1 : inR D.w 10 20000
  · rw [h1] at c1
    simp [c1]
  rw [h1] at c1
  cases h2 : inR D.h 10 20000
  · rw [h2] at c2
    simp [c1, c2]
  rw [h2] at c2
  cases h3 : decide (D.pts.length ≤ 48)
  · rw [h3] at c3
    try simp only [Bool.false_and] at c3
    simp [c1, c2, c3]
  rw [h3] at c3
  cases h4 : pOk D.w D.h D.pts D.pts.length 0
  · rw [h4] at c3
    try simp only [Bool.true_and] at c3
    simp [c1, c2, c3]
  rw [h4] at c3
  try simp only [Bool.true_and] at c3
  by_cases h5 : D.fcs.length ≤ 24
  · have h5' : ¬ (24 : Int) < (D.fcs.length : Int) := by omega
    cases h6 : fOk D.pts D.fcs D.fcs.length 0
    · rw [h6] at key
      simp at key
      simp [c1, c2, c3, h5, h5', key]
    · rw [h6] at key
      simp at key
      simp [c1, c2, c3, h5, h5', key]
  · have h5' : (24 : Int) < (D.fcs.length : Int) := by omega
    simp [c1, c2, c3, h5, h5']
theorem r66 (d : Nat) (D : Dr) (hb : BdN D) : ev (d + 6) 66 [.ag (dV D)] = some (B (drOk D), []) := by
  rw [s66 (d + 5) _ rfl]
  have c1 := r40 (d + 4) D.w 10 20000
  have c2 := r40 (d + 4) D.h 10 20000
  have c3 := l66 (d + 2) D hb.pts D.pts.length 0 (by omega)
  have key := l66_2 d D hb D.fcs.length 0 (by omega)
  unfold drOk
  cases h1 : inR D.w 10 20000
  · rw [h1] at c1
    simp [c1]
  rw [h1] at c1
  cases h2 : inR D.h 10 20000
  · rw [h2] at c2
    simp [c1, c2]
  rw [h2] at c2
  by_cases h3 : D.pts.length ≤ 48
  case neg =>
    have h3' : (48 : Int) < (D.pts.length : Int) := by omega
    simp [c1, c2, h3, h3']
  have h3' : ¬ (48 : Int) < (D.pts.length : Int) := by omega
  by_cases h5 : D.fcs.length ≤ 24
  case neg =>
    have h5' : (24 : Int) < (D.fcs.length : Int) := by omega
    simp [c1, c2, h3, h3', h5, h5']
  have h5' : ¬ (24 : Int) < (D.fcs.length : Int) := by omega
  cases h4 : pOk D.w D.h D.pts D.pts.length 0
  · rw [h4] at c3
    simp at c3
    simp [c1, c2, c3, h3, h3', h5, h5']
  rw [h4] at c3
  cases h6 : fOk D.pts D.fcs D.fcs.length 0
  · rw [h6] at key
    simp at c3 key
    simp [c1, c2, c3, h3, h3', h5, h5', key]
  · rw [h6] at key
    simp at c3 key
    simp [c1, c2, c3, h3, h3', h5, h5', key]
end Go.Proofs.YthnkioafikmmaaaGreat.walkS
