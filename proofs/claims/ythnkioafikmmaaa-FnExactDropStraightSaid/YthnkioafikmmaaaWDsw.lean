/- DropStraight: its loops; no conditions. -/
import Derived.Test.YthnkioafikmmaaaWDsq
import Derived.Test.YthnkioafikmmaaaWSnr
namespace Go.Proofs.Ythnkioafikmmaaa.walkS
open Go Go.Proofs.Ythnkioafikmmaaa.Ev
set_option linter.unusedSimpArgs false
set_option linter.unusedVariables false
set_option maxHeartbeats 1000000
/-- the faces, the first i of them struck -/
def mxF (p : Int) (F : List Fc) (i : Nat) : List Fc := (F.take i).map (fun f => (f.1, stR p f.2)) ++ F.drop i
section
variable {p : Int} {F : List Fc} {i : Nat} {f : Fc}
theorem mxF_len : (mxF p F i).length = F.length := by unfold mxF; rw [List.length_append, List.length_map, List.length_take, List.length_drop]; omega
theorem mxF_zero : mxF p F 0 = F := by simp [mxF]
theorem mxF_end : mxF p F F.length = F.map fun f => (f.1, stR p f.2) := by simp [mxF]
theorem mxF_get (h : F[i]? = some f) : (mxF p F i)[i]? = some f := by
  have hi : i < F.length := (List.getElem?_eq_some_iff.1 h).1
  unfold mxF
  rw [List.getElem?_append_right (by simp; omega), List.length_map, List.length_take, Nat.min_eq_left (by omega), Nat.sub_self]
  simp [h]
theorem mxF_set (h : F[i]? = some f) : (mxF p F i).set i (f.1, stR p f.2) = mxF p F (i + 1) := by
  have hi : i < F.length := (List.getElem?_eq_some_iff.1 h).1
  unfold mxF
  rw [List.set_append_right _ _ (by simp; omega), List.length_map, List.length_take, Nat.min_eq_left (by omega), Nat.sub_self, drop_get h, List.set_cons_zero, List.take_add_one, h]
  simp
theorem mxF_same (h : F[i]? = some f) (hs : stR p f.2 = f.2) : mxF p F (i + 1) = mxF p F i := by
  rw [← mxF_set h]
  have e : (f.1, stR p f.2) = f := by rw [hs]
  rw [e]
  have hi : i < (mxF p F i).length := by rw [mxF_len]; exact (List.getElem?_eq_some_iff.1 h).1
  have hg := mxF_get (p := p) h
  rw [List.getElem?_eq_getElem hi, Option.some.injEq] at hg
  rw [← hg, List.set_getElem_self]
end
theorem stR_step {p x : Int} {R : List Int} {k : Nat} {acc r : List Int} (hx : R[k]? = some x) (h : acc ++ stR p (R.drop k) = r) : (if x = p then acc else acc ++ [x]) ++ stR p (R.drop (k + 1)) = r := by
  rw [← h, drop_get hx]
  unfold stR
  by_cases e : x = p
  · rw [if_pos e, List.filter_cons_of_neg (by simp [e])]
  · rw [if_neg e, List.filter_cons_of_pos (by simp [e])]
    simp
theorem l21_3 (d : Nat) (D : Dr) (F : List Fc) (p i : Nat) (f : Fc) (hf : F[i]? = some f) (hb : f.2.length ≤ big) : ∀ (n k : Nat) (acc r : List Int), n + k = f.2.length → acc ++ stR p (f.2.drop k) = r → acc.length ≤ k →
    clC [2, 4, 5, 6, 7] [2, 3] (blk 4 (lp (evC (ev d) b21_3) (clean [2, 4, 5, 6, 7, 8]) ⟨lookS [(2, .bp (.sl 2) 0), (4, .bp (.sl 4) 0), (5, I p), (6, I i), (7, .rf (.sl 7) none 0 acc.length), (8, I k)], lookM [((.sl 2), some (.box z4)), ((.sl 4), some (.box [I D.w, I D.h, .rf (.ce 4 2) none 0 D.pts.length, .rf (.ce 4 3) none 0 F.length])), ((.sl 7), some (.arr 2 1 (acc.map iC))), ((.ce 4 2), some (.arr 112 2 (D.pts.map pC))), ((.ce 4 3), some (.arr 118 2 (F.map fC)))]⟩)) =
      some (.nm, ⟨lookS [(2, .bp (.sl 2) 0), (4, .bp (.sl 4) 0), (5, I p), (6, I i), (7, .rf (.sl 7) none 0 r.length)], lookM [((.sl 2), some (.box z4)), ((.sl 4), some (.box [I D.w, I D.h, .rf (.ce 4 2) none 0 D.pts.length, .rf (.ce 4 3) none 0 F.length])), ((.sl 7), some (.arr 2 1 (r.map iC))), ((.ce 4 2), some (.arr 112 2 (D.pts.map pC))), ((.ce 4 3), some (.arr 118 2 (F.map fC)))]⟩) := by
  have hil : i < F.length := (List.getElem?_eq_some_iff.1 hf).1
  have hi2 : (i : Int) < (F.length : Int) := by omega
  intro n
  induction n with
  | zero =>
    intro k acc r hk hr ha
    have h0 : ¬ (k : Int) < (f.2.length : Int) := by omega
    rw [List.drop_eq_nil_of_le (by omega)] at hr
    have e : acc = r := by simpa [stR] using hr
    subst e
    rw [lp_step]
    simp [h0, hf, hi2]
  | succ n ih =>
    intro k acc r hk hr ha
    have hlt : k < f.2.length := by omega
    have h0 : (k : Int) < (f.2.length : Int) := by omega
    obtain ⟨x, hx⟩ := get_lt hlt
    have hw := wrap_nat (i := k) (by simp only [big] at hb; omega)
    have hr' := stR_step hx hr
    have hb2 : acc.length + 1 ≤ big := by omega
    rw [lp_step]
    by_cases hq : x = (p : Int)
    · rw [if_pos hq] at hr'
      have ih' := ih (k + 1) acc r (by omega) hr' (by omega)
      simp only [Int.natCast_add, Int.cast_ofNat_Int] at ih'
      simp [h0, hf, hi2, hx, hq, hw, ih']
    · rw [if_neg hq] at hr'
      have ih' := ih (k + 1) (acc ++ [x]) r (by omega) hr' (by simp; omega)
      simp only [Int.natCast_add, Int.cast_ofNat_Int] at ih'
      simp at ih'
      simp [h0, hf, hi2, hx, hq, hw, hb2, ih']
theorem l21_2 (d : Nat) (D : Dr) (hb : BdN D) (p : Nat) : ∀ (n i : Nat), n + i = D.fcs.length →
    clC [2, 4] [2, 3] (blk 2 (lp (evC (ev d) b21_2) (clean [2, 4, 5, 6]) ⟨lookS [(2, .bp (.sl 2) 0), (4, .bp (.sl 4) 0), (5, I p), (6, I i)], lookM [((.sl 2), some (.box z4)), ((.sl 4), some (.box [I D.w, I D.h, .rf (.ce 4 2) none 0 D.pts.length, .rf (.ce 4 3) none 0 D.fcs.length])), ((.ce 4 2), some (.arr 112 2 (D.pts.map pC))), ((.ce 4 3), some (.arr 118 2 ((mxF p D.fcs i).map fC)))]⟩)) =
      some (.nm, ⟨lookS [(2, .bp (.sl 2) 0), (4, .bp (.sl 4) 0)], lookM [((.sl 2), some (.box z4)), ((.sl 4), some (.box [I D.w, I D.h, .rf (.ce 4 2) none 0 D.pts.length, .rf (.ce 4 3) none 0 D.fcs.length])), ((.ce 4 2), some (.arr 112 2 (D.pts.map pC))), ((.ce 4 3), some (.arr 118 2 ((stk D p).fcs.map fC)))]⟩) := by
  intro n
  induction n with
  | zero =>
    intro i hi
    have h0 : ¬ (i : Int) < (D.fcs.length : Int) := by omega
    have e : mxF p D.fcs i = (stk D p).fcs := by rw [show i = D.fcs.length by omega, mxF_end]; rfl
    rw [lp_step, e]
    simp [h0]
  | succ n ih =>
    intro i hi
    have hlt : i < D.fcs.length := by omega
    have h0 : (i : Int) < (D.fcs.length : Int) := by omega
    obtain ⟨f, hf⟩ := get_lt hlt
    have hR := hb.ring f (List.mem_of_getElem? hf)
    have hg := mxF_get (p := p) hf
    have hgm : ((mxF p D.fcs i).map fC)[i]? = some (fC f) := by rw [List.getElem?_map, hg]; rfl
    have hw := wrap_nat (i := i) (by have := hb.fcs; simp only [big] at this; omega)
    have inn := l21_3 d D (mxF p D.fcs i) p i f hg hR f.2.length 0 [] (stR p f.2) (by omega) (by simp) (by simp)
    have hs := mxF_set (p := p) hf
    have em : (mxF p D.fcs (i + 1)).map fC = ((mxF p D.fcs i).map fC).set i (fC (f.1, stR p f.2)) := by rw [← hs, List.map_set]
    have ih' := ih (i + 1) (by omega)
    rw [em] at ih'
    have hl := mxF_len (p := p) (F := D.fcs) (i := i)
    simp only [Int.natCast_add, Int.cast_ofNat_Int] at ih'
    rw [hl] at inn
    generalize (mxF p D.fcs i).map fC = FR at inn ih' hgm ⊢
    have hFl : i < FR.length := (List.getElem?_eq_some_iff.1 hgm).1
    have hsm : ∀ a, (FR.set i a)[i]? = some a := fun a => List.getElem?_set_self hFl
    simp at inn
    rw [lp_step]
    simp [h0, hgm, hsm, inn, hw, ih']
theorem stk_w (D : Dr) (p : Nat) : (stk D p).w = D.w := rfl
theorem stk_h (D : Dr) (p : Nat) : (stk D p).h = D.h := rfl
theorem stk_p (D : Dr) (p : Nat) : (stk D p).pts = D.pts := rfl
theorem stk_l (D : Dr) (p : Nat) : (stk D p).fcs.length = D.fcs.length := by simp [stk]
theorem l21 (d : Nat) {D : Dr} {i : Nat} {T : Dr} (h : DsR D i T) : drOk D = true → BdN D →
    clC [2, 4] [2, 3] (blk 0 (lp (evC (ev (d + 3)) b21_1) (clean [2, 4, 5]) ⟨lookS [(2, .bp (.sl 2) 0), (4, .bp (.sl 4) 0), (5, I i)], lookM [((.sl 2), some (.box z4)), ((.sl 4), some (.box [I D.w, I D.h, .rf (.ce 4 2) none 0 D.pts.length, .rf (.ce 4 3) none 0 D.fcs.length])), ((.ce 4 2), some (.arr 112 2 (D.pts.map pC))), ((.ce 4 3), some (.arr 118 2 (D.fcs.map fC)))]⟩)) =
      some (.nm, ⟨lookS [(2, .bp (.sl 2) 0), (4, .bp (.sl 4) 0)], lookM [((.sl 2), some (.box z4)), ((.sl 4), some (.box [I T.w, I T.h, .rf (.ce 4 2) none 0 T.pts.length, .rf (.ce 4 3) none 0 T.fcs.length])), ((.ce 4 2), some (.arr 112 2 (T.pts.map pC))), ((.ce 4 3), some (.arr 118 2 (T.fcs.map fC)))]⟩) := by
  induction h with
  | @done D i h =>
    intro ho hb
    have h0 : ¬ (i : Int) < (D.pts.length : Int) := by omega
    rw [lp_step]
    simp [h0]
  | @skip D i T h hs ht ih =>
    intro ho hb
    have h0 : (i : Int) < (D.pts.length : Int) := by omega
    have hw := wrap_nat (i := i) (by have := hb.pts; simp only [big] at this; omega)
    have hc := r69 d D [] hb i h (drOk_ring ho)
    rw [hs] at hc
    have ih' := ih ho hb
    simp only [Int.natCast_add, Int.cast_ofNat_Int] at ih'
    rw [lp_step]
    simp [h0, hc, hw, ih']
  | @strike D i T h hs ht ih =>
    intro ho hb
    have h0 : (i : Int) < (D.pts.length : Int) := by omega
    have hc := r69 d D [] hb i h (drOk_ring ho)
    rw [hs] at hc
    have inn := l21_2 (d + 3) D hb i D.fcs.length 0 (by omega)
    rw [mxF_zero] at inn
    have ih' := ih (drOk_stk ho hs) (stk_b hb _)
    rw [stk_w, stk_h, stk_p, stk_l] at ih'
    simp at ih' inn
    have w0 : IntKind.i64.wrap 0 = 0 := by decide
    rw [lp_step]
    simp [h0, hc, inn, w0, ih']
theorem known_iC (l : List Int) : known (l.map iC) = true := by
  unfold known
  simp [iC]
theorem p76 (d e : Nat) (R : List Int) (k : Nat) (h : k < R.length) : ev d (mvN + 76) [.ow e 1 (R.map iC), I k, I ((k : Int) + 1)] = some (.ow e 1 ((R.eraseIdx k).map iC), [.un]) := by
  have p := prim_deleteI e k (k + 1) (R.map iC) (by omega) (by simp; omega) (known_iC R)
  rw [show ((k + 1 : Nat) : Int) = (k : Int) + 1 by omega] at p
  rw [q76M, p, List.eraseIdx_eq_take_drop_succ, List.map_append, List.map_take, List.map_drop]
theorem l23_2 (d : Nat) (D : Dr) (hb : BdN D) (hr : ∀ f ∈ D.fcs, RingW D.pts f.2) (p : Nat) (t : List Int) : ∀ (n i : Nat), n + i = D.fcs.length →
    clC [2, 4] [2, 3] (blk 2 (lp (evC (ev (d + 1)) b23_2) (clean [2, 4, 5, 25, 26, 27]) ⟨lookS [(2, .bp (.sl 2) 0), (4, .bp (.sl 4) 0), (5, .rf (.sl 5) none 0 (t.length + 1)), (25, .rf (.sl 25) none 0 D.fcs.length), (26, I D.fcs.length), (27, I i)], lookM [((.sl 2), some (.box z4)), ((.sl 4), some (.box [I D.w, I D.h, .rf (.ce 4 2) none 0 D.pts.length, .rf (.sl 25) none 0 D.fcs.length])), ((.sl 5), some (.arr 2 1 (iC p :: t.map iC))), ((.sl 25), some (.arr 118 2 ((mxF p D.fcs i).map fC))), ((.ce 4 2), some (.arr 112 2 (D.pts.map pC)))]⟩)) =
      some (.nm, ⟨lookS [(2, .bp (.sl 2) 0), (4, .bp (.sl 4) 0)], lookM [((.sl 2), some (.box z4)), ((.sl 4), some (.box [I D.w, I D.h, .rf (.ce 4 2) none 0 D.pts.length, .rf (.ce 4 3) none 0 D.fcs.length])), ((.ce 4 2), some (.arr 112 2 (D.pts.map pC))), ((.ce 4 3), some (.arr 118 2 ((stk D p).fcs.map fC)))]⟩) := by
  intro n
  induction n with
  | zero =>
    intro i hi
    have h0 : ¬ (i : Int) < (D.fcs.length : Int) := by omega
    have e : mxF p D.fcs i = (stk D p).fcs := by rw [show i = D.fcs.length by omega, mxF_end]; rfl
    rw [lp_step, e]
    simp [h0]
  | succ n ih =>
    intro i hi
    have hlt : i < D.fcs.length := by omega
    have h0 : (i : Int) < (D.fcs.length : Int) := by omega
    obtain ⟨⟨nm, R⟩, hf⟩ := get_lt hlt
    have hm := List.mem_of_getElem? hf
    have hR : R.length ≤ big := hb.ring _ hm
    have hRW : RingW D.pts R := hr _ hm
    have hg := mxF_get (p := p) hf
    have hgm : ((mxF p D.fcs i).map fC)[i]? = some (fC (nm, R)) := by rw [List.getElem?_map, hg]; rfl
    have hw := wrap_nat (i := i) (by have := hb.fcs; simp only [big] at this; omega)
    have hix := r75 d R hR (p : Int)
    have ih' := ih (i + 1) (by omega)
    have hl := mxF_len (p := p) (F := D.fcs) (i := i)
    simp only [Int.natCast_add, Int.cast_ofNat_Int] at ih'
    rcases ixR_cases R p R.length 0 with hx | ⟨k, hx, _, hk⟩
    · have hno : stR (p : Int) R = R := stR_none fun j => ixR_no (R := R) (p := (p : Int)) (by rw [hx]; omega) j
      rw [mxF_same hf hno] at ih'
      rw [hx] at hix
      rw [lp_step]
      simp [h0, hgm, hl, hix, hw, ih']
    · have hat := ixR_at _ _ (by omega) hx
      have hst : stR p R = R.eraseIdx k := stR_one hat fun j hj e => by
        rcases Nat.lt_or_gt_of_ne hj with q | q
        · exact hRW.one j k _ q e hat
        · exact hRW.one k j _ q hat e
      have hdel := p76 (d + 1) 2 R k (by omega)
      rw [← hst] at hdel
      have hs := mxF_set (p := p) hf
      have em : (mxF p D.fcs (i + 1)).map fC = ((mxF p D.fcs i).map fC).set i (fC (nm, stR p R)) := by rw [← hs, List.map_set]
      rw [em] at ih'
      generalize hFR : (mxF p D.fcs i).map fC = FR at ih' hgm ⊢
      have hFl : i < FR.length := (List.getElem?_eq_some_iff.1 hgm).1
      have hFL : FR.length = D.fcs.length := by rw [← hFR, List.length_map, hl]
      have hsm : ∀ a, (FR.set i a)[i]? = some a := fun a => List.getElem?_set_self hFl
      rw [hx] at hix
      have hw2 : IntKind.i64.wrap ((k : Int) + 1) = (k : Int) + 1 := IntWalk.i64_in _ (by simp only [big] at hR; omega)
      have hk0 : (0 : Int) ≤ (k : Int) := by omega
      rw [lp_step]
      simp [h0, hgm, hsm, hFL, hix, hk0, hw2, hdel, hw, ih']
theorem l23 (d : Nat) {D T : Dr} (h : DsI D T) : drOk D = true → BdN D → D.fcs ≠ [] →
    clC [2, 3] [2, 3] (blk 0 (lp (evC (ev (d + 7)) b23_1) (clean [2, 4]) ⟨lookS [(2, .bp (.sl 2) 0), (4, .bp (.sl 4) 0)], lookM [((.sl 2), some (.box z4)), ((.sl 4), some (.box [I D.w, I D.h, .rf (.ce 4 2) none 0 D.pts.length, .rf (.ce 4 3) none 0 D.fcs.length])), ((.ce 4 2), some (.arr 112 2 (D.pts.map pC))), ((.ce 4 3), some (.arr 118 2 (D.fcs.map fC)))]⟩)) =
      some (.rt, ⟨lookS [(2, .bp (.sl 2) 0), (3, I 0)], lookM [((.sl 2), some (.box [I T.w, I T.h, .rf (.ce 2 2) none 0 T.pts.length, .rf (.ce 2 3) none 0 T.fcs.length])), ((.ce 2 2), some (.arr 112 2 (T.pts.map pC))), ((.ce 2 3), some (.arr 118 2 (T.fcs.map fC)))]⟩) := by
  induction h with
  | @done D h =>
    intro ho hb hF
    have c2 := r73 (d + 4) D hb (drOk_ring ho)
    have c3 := m74' d D hb hF
    unfold ckd at c3
    rw [ho, fO_ne hF] at c3
    rw [h] at c2
    simp at c2 c3
    rw [lp_step]
    simp [c2, c3]
  | @step D T x t h hx hs ht ih =>
    intro ho hb hF
    have c2 := r73 (d + 4) D hb (drOk_ring ho)
    rw [h] at c2
    have inn := l23_2 (d + 6) D hb (drOk_ring ho) x t D.fcs.length 0 (by omega)
    rw [mxF_zero] at inn
    have ih' := ih (drOk_stk ho hs) (stk_b hb _) (by simpa [stk] using hF)
    rw [stk_w, stk_h, stk_p, stk_l] at ih'
    simp at c2 inn
    have h1 : ¬ ((t.length : Int) + 1 = 0) := by omega
    rw [lp_step]
    simp [c2, h1, inn, ih']
/-! ### without faces -/
theorem sOut_nil {P : List Pt} {p : Nat} : sOut P [] p 0 0 false = some false := rfl
theorem spSt_nil {D : Dr} (hF : D.fcs = []) (p : Nat) : spSt D p = false := by unfold spSt; rw [hF]; rfl
theorem DsR_nil {D : Dr} {i : Nat} {T : Dr} (h : DsR D i T) (hF : D.fcs = []) : T = D := by
  induction h with
  | done _ => rfl
  | skip _ _ _ ih => exact ih hF
  | strike _ hs _ _ => rw [spSt_nil hF] at hs; cases hs
theorem rn69 (d : Nat) (D : Dr) (rest : List LV) (p : Nat) : ev (d + 3) 69 [.rp (dRn D rest), I p] = some (B false, []) := by
  rw [s69 (d + 2) _ rfl]
  simp
  rw [lp_step]
  simp
theorem ln73_2 (d : Nat) (D : Dr) (p : Nat) :
    clC [1, 3, 4, 5, 6, 14, 15] [2] (blk 2 (lp (evC (ev (d + 2)) b73_2) (clean [1, 3, 4, 5, 6, 14, 15, 19, 20, 21]) ⟨lookS [(1, .bp (.sl 1) 0), (3, .rf (.sl 3) none 0 0), (4, I p), (5, B false), (6, B true), (14, I D.pts.length), (15, I p), (19, .nl), (20, I 0), (21, I 0)], lookM [((.sl 1), some (.box (dVn D))), ((.sl 3), some (.arr 2 1 []))]⟩)) =
      some (.nm, ⟨lookS [(1, .bp (.sl 1) 0), (3, .rf (.sl 3) none 0 0), (4, I p), (5, B false), (6, B true), (14, I D.pts.length), (15, I p)], lookM [((.sl 1), some (.box (dVn D))), ((.sl 3), some (.arr 2 1 []))]⟩) := by
  rw [lp_step]
  simp
theorem ln73 (d : Nat) (D : Dr) (hb : D.pts.length ≤ big) : ∀ (n i : Nat), n + i = D.pts.length →
    clC [3] [2] (blk 0 (lp (evC (ev (d + 2)) b73_1) (clean [1, 3, 14, 15]) ⟨lookS [(1, .bp (.sl 1) 0), (3, .rf (.sl 3) none 0 0), (14, I D.pts.length), (15, I i)], lookM [((.sl 1), some (.box (dVn D))), ((.sl 3), some (.arr 2 1 []))]⟩)) =
      some (.nm, ⟨lookS [(3, .rf (.sl 3) none 0 0)], lookM [((.sl 3), some (.arr 2 1 []))]⟩) := by
  intro n
  induction n with
  | zero =>
    intro i hi
    have h0 : ¬ (i : Int) < (D.pts.length : Int) := by omega
    rw [lp_step]
    simp [h0]
  | succ n ih =>
    intro i hi
    have h0 : (i : Int) < (D.pts.length : Int) := by omega
    have hw := wrap_nat (i := i) (by simp only [big] at hb; omega)
    have inn := ln73_2 d D i
    have ih' := ih (i + 1) (by omega)
    simp only [Int.natCast_add, Int.cast_ofNat_Int] at ih'
    rw [lp_step]
    simp [h0, inn, hw, ih']
theorem rn73 (d : Nat) (D : Dr) (hb : D.pts.length ≤ big) : ev (d + 3) 73 [.ag (dVn D)] = some (.ow 2 1 [], []) := by
  rw [s73 (d + 2) _ rfl]
  have key := ln73 d D hb D.pts.length 0 (by omega)
  simp at key
  simp [key]
theorem ln21 (d : Nat) (D : Dr) (hb : D.pts.length ≤ big) : ∀ (n i : Nat), n + i = D.pts.length →
    clC [2, 4] [2, 3] (blk 0 (lp (evC (ev (d + 3)) b21_1) (clean [2, 4, 5]) ⟨lookS [(2, .bp (.sl 2) 0), (4, .bp (.sl 4) 0), (5, I i)], lookM [((.sl 2), some (.box z4)), ((.sl 4), some (.box [I D.w, I D.h, .rf (.ce 4 2) none 0 D.pts.length, .nl])), ((.ce 4 2), some (.arr 112 2 (D.pts.map pC)))]⟩)) =
      some (.nm, ⟨lookS [(2, .bp (.sl 2) 0), (4, .bp (.sl 4) 0)], lookM [((.sl 2), some (.box z4)), ((.sl 4), some (.box [I D.w, I D.h, .rf (.ce 4 2) none 0 D.pts.length, .nl])), ((.ce 4 2), some (.arr 112 2 (D.pts.map pC)))]⟩) := by
  intro n
  induction n with
  | zero =>
    intro i hi
    have h0 : ¬ (i : Int) < (D.pts.length : Int) := by omega
    rw [lp_step]
    simp [h0]
  | succ n ih =>
    intro i hi
    have h0 : (i : Int) < (D.pts.length : Int) := by omega
    have hw := wrap_nat (i := i) (by simp only [big] at hb; omega)
    have hc := rn69 d D [] i
    have ih' := ih (i + 1) (by omega)
    simp only [Int.natCast_add, Int.cast_ofNat_Int] at ih'
    rw [lp_step]
    simp [h0, hc, hw, ih']
/-! ### the answers -/
noncomputable def dsOf (D : Dr) : Option Dr × Int := ifb (drOk D) (some (dsD D), 0) (none, 1)
theorem dsD_nil {D : Dr} (hF : D.fcs = []) : dsD D = D := DsR_nil (dsD_R D) hF
theorem r23 (d : Nat) (D : Dr) (hb : BdN D) : ev (d + 8) 23 [.ag (dV D)] = some (.tu [oD (dsOf D).1, I (dsOf D).2], []) := by
  rw [s23 (d + 7) _ rfl]
  have c1 := r71 (d + 1) D hb
  unfold dsOf
  cases ho : drOk D
  · rw [ho] at c1
    simp [c1, oD]
  rw [ho] at c1
  have c2 := r72 (d + 5) D hb.toBdD
  simp only [ifb_t]
  by_cases hF : D.fcs = []
  · have c3 := m74'n d D hb hF
    have c4 := rn73 (d + 4) D hb.pts
    have fe : fO D.fcs = .nl := by rw [hF]; rfl
    unfold ckd at c3
    rw [ho] at c3
    rw [dsD_nil hF]
    rw [fe] at c2 c3
    try simp at c2
    try simp at c3
    try simp at c4
    simp [c1, c2]
    rw [lp_step]
    simp [c3, c4, oD, fe]
  · have key := l23 d (dsD_I D) ho hb hF
    have hT := (dsD_R D).fcs hF
    rw [fO_ne hF] at c2
    have fe := fO_ne hT
    generalize dsD D = T at *
    try simp at c2
    try simp at key
    simp [c1, c2, key, oD, fe]
theorem r21 (d : Nat) (D : Dr) (hb : BdN D) : ev (d + 8) 21 [.ag (dV D)] = some (.tu [oD (dsOf D).1, I (dsOf D).2], []) := by
  rw [s21 (d + 7) _ rfl]
  have c1 := r67 (d + 1) D [] hb
  unfold dsOf
  cases ho : drOk D
  · rw [ho] at c1
    simp [c1, oD]
  rw [ho] at c1
  have c2 := r68 (d + 5) D [] hb.toBdD
  simp only [ifb_t]
  by_cases hF : D.fcs = []
  · have key := ln21 (d + 4) D hb.pts D.pts.length 0 (by omega)
    have fe : fO D.fcs = .nl := by rw [hF]; rfl
    rw [dsD_nil hF]
    rw [fe] at c2
    try simp at c2
    try simp at key
    simp [c1, c2, key, oD, fe]
  · have key := l21 (d + 4) (dsD_R D) ho hb
    have hT := (dsD_R D).fcs hF
    rw [fO_ne hF] at c2
    have fe := fO_ne hT
    generalize dsD D = T at *
    try simp at c2
    try simp at key
    simp [c1, c2, key, oD, fe]
end Go.Proofs.Ythnkioafikmmaaa.walkS
