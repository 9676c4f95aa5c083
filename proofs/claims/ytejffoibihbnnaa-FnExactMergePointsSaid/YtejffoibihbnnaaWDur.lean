/- DropUnused: its rings and faces; no conditions. -/
import Derived.Test.YtejffoibihbnnaaWDun
namespace Go.Proofs.Ytejffoibihbnnaa.walkS
open Go Go.Proofs.Ytejffoibihbnnaa.Ev
set_option linter.unusedSimpArgs false
set_option linter.unusedVariables false
theorem r212 (d : Nat) (R : List Int) (hb : R.length ≤ big) (one : ∀ (i k : Nat) (x : Int), i < k → R[i]? = some x → R[k]? = some x → False) : ev (d + 1) 212 [.ro 1 (R.map iC)] = some (.ow 2 1 (R.map iC), []) := by
  have key : ∀ (n i : Nat) (acc : List Int), n + i = R.length → acc ++ R.drop i = R → acc.length = i →
      clC [3] [2] (blk 0 (lp (evC (ev d) b212_1) (clean [0, 3, 4]) ⟨lookS [(0, .ro 1 (R.map iC)), (3, .rf (.sl 3) none 0 acc.length), (4, I i)], lookM [((.sl 3), some (.arr 2 1 (acc.map iC)))]⟩)) =
        some (.nm, ⟨lookS [(3, .rf (.sl 3) none 0 R.length)], lookM [((.sl 3), some (.arr 2 1 (R.map iC)))]⟩) := by
    intro n
    induction n with
    | zero =>
      intro i acc hi hr ha
      have h0 : ¬ (i : Int) < (R.length : Int) := by omega
      rw [List.drop_eq_nil_of_le (by omega), List.append_nil] at hr
      rw [lp_step, hr]
      simp [h0]
    | succ n ih =>
      intro i acc hi hr ha
      have hlt : i < R.length := by omega
      have h0 : (i : Int) < (R.length : Int) := by omega
      obtain ⟨x, hx⟩ := get_lt hlt
      have hw := wrap_nat (i := i) (by simp only [big] at hb; omega)
      have hb2 : acc.length + 1 ≤ big := by omega
      have ih' := ih (i + 1) (acc ++ [x]) (by omega) (by rw [List.append_assoc]; rw [drop_get hx] at hr; exact hr) (by simp; omega)
      simp only [Int.natCast_add, Int.cast_ofNat_Int] at ih'
      simp at ih'
      rw [lp_step]
      by_cases i0 : i = 0
      · subst i0
        have w1 : IntKind.i64.wrap 1 = 1 := by decide
        have e : acc = [] := List.eq_nil_of_length_eq_zero ha
        subst e
        have hx0 : R[0] = x := (List.getElem?_eq_some_iff.1 hx).2
        have hb1 : 1 ≤ big := by simp [big]
        simp at ih' h0
        simp [h0, hx, hx0, hw, w1, hb1]
        exact ih'
      · obtain ⟨k, hk⟩ : ∃ k, i = k + 1 := ⟨i - 1, by omega⟩
        obtain ⟨y, hy⟩ := get_lt (l := acc) (i := k) (by omega)
        have hyR : R[k]? = some y := by rw [← hr, List.getElem?_append_left (by omega)]; exact hy
        have hne : ¬ y = x := fun e => one k i x (by omega) (by rw [hyR, e]) hx
        have hn0 : ¬ (acc.length : Int) = 0 := by omega
        have hn1 : ¬ acc = [] := fun e => by rw [e] at ha; simp at ha; omega
        have hw2 : IntKind.i64.wrap ((acc.length : Int) - 1) = (k : Int) := by rw [show (acc.length : Int) - 1 = (k : Int) by omega]; exact wrap_in (by simp only [big] at hb; omega)
        have hka : (k : Int) < (acc.length : Int) := by omega
        simp [h0, hx, hw, hb2, hn0, hn1, hw2, hka, hy, hne, ih']
  have k0 := key R.length 0 [] (by omega) rfl rfl
  rw [s212 d _ rfl]
  have fin : clC [3] [2] (blk 2 (lp (evC (ev d) b212_2) (clean [3]) ⟨lookS [(3, .rf (.sl 3) none 0 R.length)], lookM [((.sl 3), some (.arr 2 1 (R.map iC)))]⟩)) = some (.nm, ⟨lookS [(3, .rf (.sl 3) none 0 R.length)], lookM [((.sl 3), some (.arr 2 1 (R.map iC)))]⟩) := by
    rw [lp_step]
    by_cases h1 : 1 < R.length
    · have h1' : (1 : Int) < (R.length : Int) := by omega
      have hp' : (0 : Int) < (R.length : Int) := by omega
      have hp : 0 < R.length := by omega
      obtain ⟨x, hx⟩ := get_lt (l := R) (i := 0) (by omega)
      obtain ⟨y, hy⟩ := get_lt (l := R) (i := R.length - 1) (by omega)
      have hx0 : R[0] = x := (List.getElem?_eq_some_iff.1 hx).2
      have hne : ¬ x = y := fun e => one 0 (R.length - 1) x (by omega) hx (by rw [hy, e])
      have hw2 : IntKind.i64.wrap ((R.length : Int) - 1) = ((R.length - 1 : Nat) : Int) := by rw [show (R.length : Int) - 1 = ((R.length - 1 : Nat) : Int) by omega]; exact wrap_in (by simp only [big] at hb; omega)
      have hlt : ((R.length - 1 : Nat) : Int) < (R.length : Int) := by omega
      generalize R.length - 1 = q at hy hw2 hlt
      try simp at hx hy
      simp [h1', hp, hp', hx, hx0, hw2, hlt, hy, hne]
    · have h1' : ¬ (1 : Int) < (R.length : Int) := by omega
      simp [h1']
  simp at k0
  simp [k0, fin]
set_option maxHeartbeats 1000000
theorem l130R0 (d : Nat) (D : Dr) (rest : List LV) (S : List Int) (hSl : S.length = D.pts.length) (hb : BdN D) (Q : List Int) (hQl : Q.length = D.pts.length) (P : List Pt) (i : Nat) (f : Fc) (hf : D.fcs[i]? = some f) (FA : List Fc) (hS : ∀ x ∈ f.2, S[x.toNat]? = some x) (hq : ∀ x ∈ f.2, 0 ≤ x ∧ x.toNat < D.pts.length ∧ Q[x.toNat]? = some (pq D x)) : ∀ (n j : Nat) (acc r : List Int), n + j = f.2.length → acc ++ (f.2.drop j).map (pq D) = r → acc.length = j →
    clC [0, 1, 4, 5, 6, 8, 9] [4] (blk 4 (lp (evC (ev (d + 1)) b130_3) (clean [0, 1, 4, 5, 6, 8, 9, 10]) ⟨lookS [(0, .rp (dR D rest)), (1, .ro 1 (S.map iC)), (4, .bp (.sl 4) 0), (5, .bp (.sl 5) 0), (6, .rf (.sl 6) none 0 D.pts.length), (8, I i), (9, .rf (.sl 9) none 0 acc.length), (10, I j)], lookM [((.sl 4), some (.box z4)), ((.sl 5), some (.box [I D.w, I D.h, .rf (.ce 5 2) none 0 P.length, .nl])), ((.sl 6), some (.arr 2 1 (Q.map iC))), ((.sl 9), some (.arr 2 1 (acc.map iC))), ((.ce 5 2), some (.arr 159 2 (P.map pC)))]⟩)) =
      some (.nm, ⟨lookS [(0, .rp (dR D rest)), (1, .ro 1 (S.map iC)), (4, .bp (.sl 4) 0), (5, .bp (.sl 5) 0), (6, .rf (.sl 6) none 0 D.pts.length), (8, I i), (9, .rf (.sl 9) none 0 r.length)], lookM [((.sl 4), some (.box z4)), ((.sl 5), some (.box [I D.w, I D.h, .rf (.ce 5 2) none 0 P.length, .nl])), ((.sl 6), some (.arr 2 1 (Q.map iC))), ((.sl 9), some (.arr 2 1 (r.map iC))), ((.ce 5 2), some (.arr 159 2 (P.map pC)))]⟩) := by
  intro n
  induction n with
  | zero =>
    intro j acc r hj hr ha
    have h0 : ¬ (j : Int) < (f.2.length : Int) := by omega
    have hi0 := (List.getElem?_eq_some_iff.1 hf).1
    have hi1 : (i : Int) < (D.fcs.length : Int) := by omega
    rw [List.drop_eq_nil_of_le (by omega), List.map_nil, List.append_nil] at hr
    subst hr
    rw [lp_step]
    simp [h0, hf, hi1]
  | succ n ih =>
    intro j acc r hj hr ha
    have hlt : j < f.2.length := by omega
    have h0 : (j : Int) < (f.2.length : Int) := by omega
    have hi0 := (List.getElem?_eq_some_iff.1 hf).1
    have hi1 : (i : Int) < (D.fcs.length : Int) := by omega
    have hfb := hb.ring f (List.mem_of_getElem? hf)
    obtain ⟨x, hx⟩ := get_lt hlt
    obtain ⟨x0, x1, x2⟩ := hq x (List.mem_of_getElem? hx)
    have x3 : x < (D.pts.length : Int) := by omega
    have x4 : x < (Q.length : Int) := by omega
    have x5 : x.toNat < Q.length := by omega
    have x8 : Q[x.toNat] = pq D x := (List.getElem?_eq_some_iff.1 x2).2
    have hw := wrap_nat (i := j) (by simp only [big] at hfb; omega)
    have hb2 : acc.length + 1 ≤ big := by omega
    have hSx := hS x (List.mem_of_getElem? hx)
    have x6 : x < (S.length : Int) := by omega
    have x7 : x.toNat < S.length := by omega
    have x9 : S[x.toNat] = x := (List.getElem?_eq_some_iff.1 hSx).2
    have ih' := ih (j + 1) (acc ++ [pq D x]) r (by omega) (by rw [drop_get hx] at hr; rw [List.append_assoc]; exact hr) (by simp; omega)
    simp only [Int.natCast_add, Int.cast_ofNat_Int] at ih'
    simp at ih'
    rw [lp_step]
    simp [h0, hf, hi1, hx, x0, x2, x3, x4, x5, x8, hQl, hw, hb2, ih', hSx, x6, x7, x9, hSl]
theorem l130RA (d : Nat) (D : Dr) (rest : List LV) (S : List Int) (hSl : S.length = D.pts.length) (hb : BdN D) (Q : List Int) (hQl : Q.length = D.pts.length) (P : List Pt) (i : Nat) (f : Fc) (hf : D.fcs[i]? = some f) (FA : List Fc) (hS : ∀ x ∈ f.2, S[x.toNat]? = some x) (hq : ∀ x ∈ f.2, 0 ≤ x ∧ x.toNat < D.pts.length ∧ Q[x.toNat]? = some (pq D x)) : ∀ (n j : Nat) (acc r : List Int), n + j = f.2.length → acc ++ (f.2.drop j).map (pq D) = r → acc.length = j →
    clC [0, 1, 4, 5, 6, 8, 9] [4] (blk 4 (lp (evC (ev (d + 1)) b130_3) (clean [0, 1, 4, 5, 6, 8, 9, 10]) ⟨lookS [(0, .rp (dR D rest)), (1, .ro 1 (S.map iC)), (4, .bp (.sl 4) 0), (5, .bp (.sl 5) 0), (6, .rf (.sl 6) none 0 D.pts.length), (8, I i), (9, .rf (.sl 9) none 0 acc.length), (10, I j)], lookM [((.sl 4), some (.box z4)), ((.sl 5), some (.box [I D.w, I D.h, .rf (.ce 5 2) none 0 P.length, .rf (.ce 5 3) none 0 FA.length])), ((.sl 6), some (.arr 2 1 (Q.map iC))), ((.sl 9), some (.arr 2 1 (acc.map iC))), ((.ce 5 2), some (.arr 159 2 (P.map pC))), ((.ce 5 3), some (.arr 127 2 (FA.map fC)))]⟩)) =
      some (.nm, ⟨lookS [(0, .rp (dR D rest)), (1, .ro 1 (S.map iC)), (4, .bp (.sl 4) 0), (5, .bp (.sl 5) 0), (6, .rf (.sl 6) none 0 D.pts.length), (8, I i), (9, .rf (.sl 9) none 0 r.length)], lookM [((.sl 4), some (.box z4)), ((.sl 5), some (.box [I D.w, I D.h, .rf (.ce 5 2) none 0 P.length, .rf (.ce 5 3) none 0 FA.length])), ((.sl 6), some (.arr 2 1 (Q.map iC))), ((.sl 9), some (.arr 2 1 (r.map iC))), ((.ce 5 2), some (.arr 159 2 (P.map pC))), ((.ce 5 3), some (.arr 127 2 (FA.map fC)))]⟩) := by
  intro n
  induction n with
  | zero =>
    intro j acc r hj hr ha
    have h0 : ¬ (j : Int) < (f.2.length : Int) := by omega
    have hi0 := (List.getElem?_eq_some_iff.1 hf).1
    have hi1 : (i : Int) < (D.fcs.length : Int) := by omega
    rw [List.drop_eq_nil_of_le (by omega), List.map_nil, List.append_nil] at hr
    subst hr
    rw [lp_step]
    simp [h0, hf, hi1]
  | succ n ih =>
    intro j acc r hj hr ha
    have hlt : j < f.2.length := by omega
    have h0 : (j : Int) < (f.2.length : Int) := by omega
    have hi0 := (List.getElem?_eq_some_iff.1 hf).1
    have hi1 : (i : Int) < (D.fcs.length : Int) := by omega
    have hfb := hb.ring f (List.mem_of_getElem? hf)
    obtain ⟨x, hx⟩ := get_lt hlt
    obtain ⟨x0, x1, x2⟩ := hq x (List.mem_of_getElem? hx)
    have x3 : x < (D.pts.length : Int) := by omega
    have x4 : x < (Q.length : Int) := by omega
    have x5 : x.toNat < Q.length := by omega
    have x8 : Q[x.toNat] = pq D x := (List.getElem?_eq_some_iff.1 x2).2
    have hw := wrap_nat (i := j) (by simp only [big] at hfb; omega)
    have hb2 : acc.length + 1 ≤ big := by omega
    have hSx := hS x (List.mem_of_getElem? hx)
    have x6 : x < (S.length : Int) := by omega
    have x7 : x.toNat < S.length := by omega
    have x9 : S[x.toNat] = x := (List.getElem?_eq_some_iff.1 hSx).2
    have ih' := ih (j + 1) (acc ++ [pq D x]) r (by omega) (by rw [drop_get hx] at hr; rw [List.append_assoc]; exact hr) (by simp; omega)
    simp only [Int.natCast_add, Int.cast_ofNat_Int] at ih'
    simp at ih'
    rw [lp_step]
    simp [h0, hf, hi1, hx, x0, x2, x3, x4, x5, x8, hQl, hw, hb2, ih', hSx, x6, x7, x9, hSl]
def kf (D : Dr) (f : Fc) : Fc := (f.1, f.2.map (pq D))
theorem l130F (d : Nat) (D : Dr) (rest : List LV) (S : List Int) (hSl : S.length = D.pts.length) (hb : BdN D) (Q : List Int) (hQl : Q.length = D.pts.length) (P : List Pt) (hSa : ∀ f ∈ D.fcs, ∀ x ∈ f.2, S[x.toNat]? = some x) (hone : ∀ f ∈ D.fcs, ∀ (i k : Nat) (x : Int), i < k → (f.2.map (pq D))[i]? = some x → (f.2.map (pq D))[k]? = some x → False) (hqa : ∀ f ∈ D.fcs, ∀ x ∈ f.2, 0 ≤ x ∧ x.toNat < D.pts.length ∧ Q[x.toNat]? = some (pq D x)) : ∀ (n i : Nat) (acc r : List Fc), n + i = D.fcs.length → acc ++ (D.fcs.drop i).map (kf D) = r → acc.length = i → acc ≠ [] →
    clC [4, 5] [4] (blk 2 (lp (evC (ev (d + 1)) b130_2) (clean [0, 1, 4, 5, 6, 8]) ⟨lookS [(0, .rp (dR D rest)), (1, .ro 1 (S.map iC)), (4, .bp (.sl 4) 0), (5, .bp (.sl 5) 0), (6, .rf (.sl 6) none 0 D.pts.length), (8, I i)], lookM [((.sl 4), some (.box z4)), ((.sl 5), some (.box [I D.w, I D.h, .rf (.ce 5 2) none 0 P.length, .rf (.ce 5 3) none 0 acc.length])), ((.sl 6), some (.arr 2 1 (Q.map iC))), ((.ce 5 2), some (.arr 159 2 (P.map pC))), ((.ce 5 3), some (.arr 127 2 (acc.map fC)))]⟩)) =
      some (.nm, ⟨lookS [(4, .bp (.sl 4) 0), (5, .bp (.sl 5) 0)], lookM [((.sl 4), some (.box z4)), ((.sl 5), some (.box [I D.w, I D.h, .rf (.ce 5 2) none 0 P.length, .rf (.ce 5 3) none 0 r.length])), ((.ce 5 2), some (.arr 159 2 (P.map pC))), ((.ce 5 3), some (.arr 127 2 (r.map fC)))]⟩) := by
  intro n
  induction n with
  | zero =>
    intro i acc r hi hr ha hne
    have h0 : ¬ (i : Int) < (D.fcs.length : Int) := by omega
    rw [List.drop_eq_nil_of_le (by omega), List.map_nil, List.append_nil] at hr
    subst hr
    rw [lp_step]
    simp [h0]
  | succ n ih =>
    intro i acc r hi hr ha hne
    have hlt : i < D.fcs.length := by omega
    have h0 : (i : Int) < (D.fcs.length : Int) := by omega
    have hfb := hb.fcs
    obtain ⟨f, hf⟩ := get_lt hlt
    have hm := List.mem_of_getElem? hf
    have hrb := hb.ring f hm
    obtain ⟨R, hR⟩ : ∃ R, R = f.2.map (pq D) := ⟨_, rfl⟩
    have hrl : R.length ≤ big := by rw [hR, List.length_map]; exact hrb
    have hw := wrap_nat (i := i) (by simp only [big] at hfb; omega)
    have hb2 : acc.length + 1 ≤ big := by omega
    have key := l130RA d D rest S hSl hb Q hQl P i f hf acc (hSa f hm) (hqa f hm) f.2.length 0 [] R (by omega) (by rw [hR]; rfl) rfl
    simp at key
    have c := r212 d R hrl (by rw [hR]; exact hone f hm)
    have ih' := ih (i + 1) (acc ++ [(f.1, R)]) r (by omega) (by rw [drop_get hf] at hr; rw [List.append_assoc, hR]; exact hr) (by simp; omega) (by simp)
    simp only [Int.natCast_add, Int.cast_ofNat_Int] at ih'
    simp at ih'
    rw [lp_step]
    simp [h0, hf, key, hrl, hw, hb2, fillU, adsOf, List.mapM_cons, ih', c]
end Go.Proofs.Ytejffoibihbnnaa.walkS
