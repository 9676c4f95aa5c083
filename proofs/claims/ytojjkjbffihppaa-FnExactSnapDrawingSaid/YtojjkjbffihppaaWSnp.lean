/- Drawings snapped to their border; no conditions. -/
import Derived.Test.YtojjkjbffihppaaWCp
import Derived.Test.YtojjkjbffihppaaWVdn
namespace Go.Proofs.Ytojjkjbffihppaa.walkS
open Go Go.Proofs.Ytojjkjbffihppaa.Ev
set_option linter.unusedSimpArgs false
set_option linter.unusedVariables false
def sn (x side u : Int) : Int := if x ≤ u then 0 else if W (side - x) ≤ u then side else x
theorem r133 (d : Nat) (x side u : Int) : ev (d + 1) 133 [I x, I side, I u] = some (I (sn x side u), []) := by
  rw [s133 d _ rfl]
  unfold sn W
  by_cases h1 : x ≤ u
  · simp [h1]
  · by_cases h2 : IntKind.i64.wrap (side - x) ≤ u <;> simp [h1, h2]
theorem r129 (d : Nat) (x side u : Int) : ev (d + 1) 129 [I x, I side, I u] = some (I (sn x side u), []) := by
  rw [s129 d _ rfl]
  unfold sn W
  by_cases h1 : x ≤ u
  · simp [h1]
  · by_cases h2 : IntKind.i64.wrap (side - x) ≤ u <;> simp [h1, h2]
def snP (D : Dr) (u : Int) (p : Pt) : Pt := (sn p.1 D.w u, sn p.2 D.h u)
def tolc (D : Dr) (u : Int) : Int := ifb (drOk D) (ifb (inR u 0 200) 0 2) 1
theorem r131 (d : Nat) (D : Dr) (hb : BdN D) (u : Int) : ev (d + 7) 131 [.ag (dV D), I u] = some (I (tolc D u), []) := by
  rw [s131 (d + 6) _ rfl]
  have c1 := r104 d D hb
  have c2 := r105 (d + 5) u 0 200
  unfold tolc
  cases h1 : drOk D
  · rw [h1] at c1
    simp [c1]
  rw [h1] at c1
  cases h2 : inR u 0 200 <;> rw [h2] at c2 <;> simp [c1, c2]
theorem r127 (d : Nat) (D : Dr) (rest : List LV) (hb : BdN D) (u : Int) : ev (d + 7) 127 [.rp (dR D rest), I u] = some (I (tolc D u), []) := by
  rw [s127 (d + 6) _ rfl]
  have c1 := r96 d D rest hb
  have c2 := r97 (d + 5) u 0 200
  unfold tolc
  cases h1 : drOk D
  · rw [h1] at c1
    simp [c1]
  rw [h1] at c1
  cases h2 : inR u 0 200 <;> rw [h2] at c2 <;> simp [c1, c2]
theorem l57 (d : Nat) (D : Dr) (u : Int) (hb : D.pts.length ≤ big) (nf : Nat) (FR : List (List Cell)) : ∀ (n i : Nat) (acc R : List Pt), n + i = D.pts.length → acc.length = i → R = acc ++ D.pts.drop i → acc = (D.pts.take i).map (snP D u) →
    clC [4, 7] [4, 5] (blk 0 (lp (evC (ev (d + 1)) b57_1) (clean [1, 2, 4, 7, 20, 21, 22]) ⟨lookS [(1, I u), (2, .bp (.sl 2) 0), (4, .bp (.sl 4) 0), (7, .bp (.sl 7) 0), (20, .rf (.sl 20) none 0 D.pts.length), (21, I D.pts.length), (22, I i)], lookM [((.sl 2), some (.box (dV D))), ((.sl 4), some (.box z4)), ((.sl 7), some (.box [I D.w, I D.h, .rf (.sl 20) none 0 D.pts.length, .rf (.ce 7 3) none 0 nf])), ((.sl 20), some (.arr 127 2 (R.map pC))), ((.ce 7 3), some (.arr 158 2 FR))]⟩)) =
      some (.nm, ⟨lookS [(4, .bp (.sl 4) 0), (7, .bp (.sl 7) 0)], lookM [((.sl 4), some (.box z4)), ((.sl 7), some (.box [I D.w, I D.h, .rf (.ce 7 2) none 0 D.pts.length, .rf (.ce 7 3) none 0 nf])), ((.ce 7 2), some (.arr 127 2 ((D.pts.map (snP D u)).map pC))), ((.ce 7 3), some (.arr 158 2 FR))]⟩) := by
  intro n
  induction n with
  | zero =>
    intro i acc R hi ha hR hacc
    have h0 : ¬ (i : Int) < (D.pts.length : Int) := by omega
    rw [List.drop_eq_nil_of_le (by omega), List.append_nil] at hR
    have e : acc = D.pts.map (snP D u) := by rw [hacc, List.take_of_length_le (by omega)]
    subst hR
    rw [lp_step, e]
    simp [h0]
  | succ n ih =>
    intro i acc R hi ha hR hacc
    have hlt : i < D.pts.length := by omega
    have h0 : (i : Int) < (D.pts.length : Int) := by omega
    obtain ⟨q, hx⟩ := get_lt hlt
    have hw := wrap_nat (i := i) (by simp only [big] at hb; omega)
    have hg : R[i]? = some q := by
      rw [hR, List.getElem?_append_right (by omega), ha, Nat.sub_self, List.getElem?_drop]
      simpa using hx
    have hl : R.length = D.pts.length := by rw [hR, List.length_append, List.length_drop]; omega
    have hl2 : (i : Int) < (R.length : Int) := by omega
    have hs : R.set i (snP D u q) = (acc ++ [snP D u q]) ++ D.pts.drop (i + 1) := by
      rw [hR, List.set_append_right _ _ (by omega), ha, Nat.sub_self, drop_get hx, List.set_cons_zero, List.append_assoc]
      rfl
    have hacc' : acc ++ [snP D u q] = (D.pts.take (i + 1)).map (snP D u) := by rw [hacc, List.take_add_one, hx, List.map_append]; rfl
    have ih' := ih (i + 1) (acc ++ [snP D u q]) (R.set i (snP D u q)) (by omega) (by simp; omega) hs hacc'
    have hgm : (R.map pC)[i]? = some (pC q) := by rw [List.getElem?_map, hg]; rfl
    have hsm : ∀ a, ((R.map pC).set i a)[i]? = some a := fun a => List.getElem?_set_self (by rw [List.length_map]; omega)
    have c1 := r133 d q.1 D.w u
    have c2 := r133 d q.2 D.h u
    have em : (R.set i (snP D u q)).map pC = (R.map pC).set i [.sc (.int .i64 (sn q.1 D.w u)), .sc (.int .i64 (sn q.2 D.h u))] := by rw [List.map_set]; rfl
    rw [em] at ih'
    simp only [Int.natCast_add, Int.cast_ofNat_Int] at ih'
    rw [lp_step]
    simp [h0, hg, hgm, hsm, hl, hl2, c1, c2, hw, ih']
theorem l56 (d : Nat) (D : Dr) (u : Int) (hb : D.pts.length ≤ big) (nf : Nat) (FR : List (List Cell)) : ∀ (n i : Nat) (acc R : List Pt), n + i = D.pts.length → acc.length = i → R = acc ++ D.pts.drop i → acc = (D.pts.take i).map (snP D u) →
    clC [4, 7] [4, 5] (blk 0 (lp (evC (ev (d + 1)) b56_1) (clean [1, 2, 4, 7, 8]) ⟨lookS [(1, I u), (2, .bp (.sl 2) 0), (4, .bp (.sl 4) 0), (7, .bp (.sl 7) 0), (8, I i)], lookM [((.sl 2), some (.box (dV D))), ((.sl 4), some (.box z4)), ((.sl 7), some (.box [I D.w, I D.h, .rf (.ce 7 2) none 0 D.pts.length, .rf (.ce 7 3) none 0 nf])), ((.ce 7 2), some (.arr 127 2 (R.map pC))), ((.ce 7 3), some (.arr 158 2 FR))]⟩)) =
      some (.nm, ⟨lookS [(4, .bp (.sl 4) 0), (7, .bp (.sl 7) 0)], lookM [((.sl 4), some (.box z4)), ((.sl 7), some (.box [I D.w, I D.h, .rf (.ce 7 2) none 0 D.pts.length, .rf (.ce 7 3) none 0 nf])), ((.ce 7 2), some (.arr 127 2 ((D.pts.map (snP D u)).map pC))), ((.ce 7 3), some (.arr 158 2 FR))]⟩) := by
  intro n
  induction n with
  | zero =>
    intro i acc R hi ha hR hacc
    have h0 : ¬ (i : Int) < (D.pts.length : Int) := by omega
    rw [List.drop_eq_nil_of_le (by omega), List.append_nil] at hR
    have e : acc = D.pts.map (snP D u) := by rw [hacc, List.take_of_length_le (by omega)]
    subst hR
    rw [lp_step, e]
    simp [h0]
  | succ n ih =>
    intro i acc R hi ha hR hacc
    have hlt : i < D.pts.length := by omega
    have h0 : (i : Int) < (D.pts.length : Int) := by omega
    obtain ⟨q, hx⟩ := get_lt hlt
    have hw := wrap_nat (i := i) (by simp only [big] at hb; omega)
    have hg : R[i]? = some q := by
      rw [hR, List.getElem?_append_right (by omega), ha, Nat.sub_self, List.getElem?_drop]
      simpa using hx
    have hl : R.length = D.pts.length := by rw [hR, List.length_append, List.length_drop]; omega
    have hl2 : (i : Int) < (R.length : Int) := by omega
    have hs : R.set i (snP D u q) = (acc ++ [snP D u q]) ++ D.pts.drop (i + 1) := by
      rw [hR, List.set_append_right _ _ (by omega), ha, Nat.sub_self, drop_get hx, List.set_cons_zero, List.append_assoc]
      rfl
    have hacc' : acc ++ [snP D u q] = (D.pts.take (i + 1)).map (snP D u) := by rw [hacc, List.take_add_one, hx, List.map_append]; rfl
    have ih' := ih (i + 1) (acc ++ [snP D u q]) (R.set i (snP D u q)) (by omega) (by simp; omega) hs hacc'
    have hgm : (R.map pC)[i]? = some (pC q) := by rw [List.getElem?_map, hg]; rfl
    have hsm : ∀ a, ((R.map pC).set i a)[i]? = some a := fun a => List.getElem?_set_self (by rw [List.length_map]; omega)
    have c1 := r129 d q.1 D.w u
    have c2 := r129 d q.2 D.h u
    have em : (R.set i (snP D u q)).map pC = (R.map pC).set i [.sc (.int .i64 (sn q.1 D.w u)), .sc (.int .i64 (sn q.2 D.h u))] := by rw [List.map_set]; rfl
    rw [em] at ih'
    simp only [Int.natCast_add, Int.cast_ofNat_Int] at ih'
    rw [lp_step]
    simp [h0, hg, hgm, hsm, hl, hl2, c1, c2, hw, ih']
theorem l57n (d : Nat) (D : Dr) (u : Int) (hb : D.pts.length ≤ big) : ∀ (n i : Nat) (acc R : List Pt), n + i = D.pts.length → acc.length = i → R = acc ++ D.pts.drop i → acc = (D.pts.take i).map (snP D u) →
    clC [4, 7] [4, 5] (blk 0 (lp (evC (ev (d + 1)) b57_1) (clean [1, 2, 4, 7, 20, 21, 22]) ⟨lookS [(1, I u), (2, .bp (.sl 2) 0), (4, .bp (.sl 4) 0), (7, .bp (.sl 7) 0), (20, .rf (.sl 20) none 0 D.pts.length), (21, I D.pts.length), (22, I i)], lookM [((.sl 2), some (.box (dV D))), ((.sl 4), some (.box z4)), ((.sl 7), some (.box [I D.w, I D.h, .rf (.sl 20) none 0 D.pts.length, .nl])), ((.sl 20), some (.arr 127 2 (R.map pC)))]⟩)) =
      some (.nm, ⟨lookS [(4, .bp (.sl 4) 0), (7, .bp (.sl 7) 0)], lookM [((.sl 4), some (.box z4)), ((.sl 7), some (.box [I D.w, I D.h, .rf (.ce 7 2) none 0 D.pts.length, .nl])), ((.ce 7 2), some (.arr 127 2 ((D.pts.map (snP D u)).map pC)))]⟩) := by
  intro n
  induction n with
  | zero =>
    intro i acc R hi ha hR hacc
    have h0 : ¬ (i : Int) < (D.pts.length : Int) := by omega
    rw [List.drop_eq_nil_of_le (by omega), List.append_nil] at hR
    have e : acc = D.pts.map (snP D u) := by rw [hacc, List.take_of_length_le (by omega)]
    subst hR
    rw [lp_step, e]
    simp [h0]
  | succ n ih =>
    intro i acc R hi ha hR hacc
    have hlt : i < D.pts.length := by omega
    have h0 : (i : Int) < (D.pts.length : Int) := by omega
    obtain ⟨q, hx⟩ := get_lt hlt
    have hw := wrap_nat (i := i) (by simp only [big] at hb; omega)
    have hg : R[i]? = some q := by
      rw [hR, List.getElem?_append_right (by omega), ha, Nat.sub_self, List.getElem?_drop]
      simpa using hx
    have hl : R.length = D.pts.length := by rw [hR, List.length_append, List.length_drop]; omega
    have hl2 : (i : Int) < (R.length : Int) := by omega
    have hs : R.set i (snP D u q) = (acc ++ [snP D u q]) ++ D.pts.drop (i + 1) := by
      rw [hR, List.set_append_right _ _ (by omega), ha, Nat.sub_self, drop_get hx, List.set_cons_zero, List.append_assoc]
      rfl
    have hacc' : acc ++ [snP D u q] = (D.pts.take (i + 1)).map (snP D u) := by rw [hacc, List.take_add_one, hx, List.map_append]; rfl
    have ih' := ih (i + 1) (acc ++ [snP D u q]) (R.set i (snP D u q)) (by omega) (by simp; omega) hs hacc'
    have hgm : (R.map pC)[i]? = some (pC q) := by rw [List.getElem?_map, hg]; rfl
    have hsm : ∀ a, ((R.map pC).set i a)[i]? = some a := fun a => List.getElem?_set_self (by rw [List.length_map]; omega)
    have c1 := r133 d q.1 D.w u
    have c2 := r133 d q.2 D.h u
    have em : (R.set i (snP D u q)).map pC = (R.map pC).set i [.sc (.int .i64 (sn q.1 D.w u)), .sc (.int .i64 (sn q.2 D.h u))] := by rw [List.map_set]; rfl
    rw [em] at ih'
    simp only [Int.natCast_add, Int.cast_ofNat_Int] at ih'
    rw [lp_step]
    simp [h0, hg, hgm, hsm, hl, hl2, c1, c2, hw, ih']
theorem l56n (d : Nat) (D : Dr) (u : Int) (hb : D.pts.length ≤ big) : ∀ (n i : Nat) (acc R : List Pt), n + i = D.pts.length → acc.length = i → R = acc ++ D.pts.drop i → acc = (D.pts.take i).map (snP D u) →
    clC [4, 7] [4, 5] (blk 0 (lp (evC (ev (d + 1)) b56_1) (clean [1, 2, 4, 7, 8]) ⟨lookS [(1, I u), (2, .bp (.sl 2) 0), (4, .bp (.sl 4) 0), (7, .bp (.sl 7) 0), (8, I i)], lookM [((.sl 2), some (.box (dV D))), ((.sl 4), some (.box z4)), ((.sl 7), some (.box [I D.w, I D.h, .rf (.ce 7 2) none 0 D.pts.length, .nl])), ((.ce 7 2), some (.arr 127 2 (R.map pC)))]⟩)) =
      some (.nm, ⟨lookS [(4, .bp (.sl 4) 0), (7, .bp (.sl 7) 0)], lookM [((.sl 4), some (.box z4)), ((.sl 7), some (.box [I D.w, I D.h, .rf (.ce 7 2) none 0 D.pts.length, .nl])), ((.ce 7 2), some (.arr 127 2 ((D.pts.map (snP D u)).map pC)))]⟩) := by
  intro n
  induction n with
  | zero =>
    intro i acc R hi ha hR hacc
    have h0 : ¬ (i : Int) < (D.pts.length : Int) := by omega
    rw [List.drop_eq_nil_of_le (by omega), List.append_nil] at hR
    have e : acc = D.pts.map (snP D u) := by rw [hacc, List.take_of_length_le (by omega)]
    subst hR
    rw [lp_step, e]
    simp [h0]
  | succ n ih =>
    intro i acc R hi ha hR hacc
    have hlt : i < D.pts.length := by omega
    have h0 : (i : Int) < (D.pts.length : Int) := by omega
    obtain ⟨q, hx⟩ := get_lt hlt
    have hw := wrap_nat (i := i) (by simp only [big] at hb; omega)
    have hg : R[i]? = some q := by
      rw [hR, List.getElem?_append_right (by omega), ha, Nat.sub_self, List.getElem?_drop]
      simpa using hx
    have hl : R.length = D.pts.length := by rw [hR, List.length_append, List.length_drop]; omega
    have hl2 : (i : Int) < (R.length : Int) := by omega
    have hs : R.set i (snP D u q) = (acc ++ [snP D u q]) ++ D.pts.drop (i + 1) := by
      rw [hR, List.set_append_right _ _ (by omega), ha, Nat.sub_self, drop_get hx, List.set_cons_zero, List.append_assoc]
      rfl
    have hacc' : acc ++ [snP D u q] = (D.pts.take (i + 1)).map (snP D u) := by rw [hacc, List.take_add_one, hx, List.map_append]; rfl
    have ih' := ih (i + 1) (acc ++ [snP D u q]) (R.set i (snP D u q)) (by omega) (by simp; omega) hs hacc'
    have hgm : (R.map pC)[i]? = some (pC q) := by rw [List.getElem?_map, hg]; rfl
    have hsm : ∀ a, ((R.map pC).set i a)[i]? = some a := fun a => List.getElem?_set_self (by rw [List.length_map]; omega)
    have c1 := r129 d q.1 D.w u
    have c2 := r129 d q.2 D.h u
    have em : (R.set i (snP D u q)).map pC = (R.map pC).set i [.sc (.int .i64 (sn q.1 D.w u)), .sc (.int .i64 (sn q.2 D.h u))] := by rw [List.map_set]; rfl
    rw [em] at ih'
    simp only [Int.natCast_add, Int.cast_ofNat_Int] at ih'
    rw [lp_step]
    simp [h0, hg, hgm, hsm, hl, hl2, c1, c2, hw, ih']
set_option maxRecDepth 100000 in
theorem m134' (d : Nat) (D : Dr) (hb : BdN D) (hF : D.fcs ≠ []) : ev (d + 7) (mvN + 134) [.ag (dA D (.ow 127 2 (D.pts.map pC)) (.ow 158 2 (D.fcs.map fC)))] = some (.tu [(ckd D).1, I (ckd D).2], [.un]) := by
  rw [m134 (d + 6) (start_dm D _ _ _) rfl]
  have c := r104 d D hb
  unfold ckd
  rw [fO_ne hF]
  cases h : drOk D <;> rw [h] at c <;> simp [c]
set_option maxRecDepth 100000 in
theorem m134'n (d : Nat) (D : Dr) (hb : BdN D) (hF : D.fcs = []) : ev (d + 7) (mvN + 134) [.ag (dA D (.ow 127 2 (D.pts.map pC)) .nl)] = some (.tu [(ckd D).1, I (ckd D).2], [.un]) := by
  rw [m134 (d + 6) (start_dmn D _) rfl]
  have c := rn104 d D hb.pts hF
  unfold ckd
  rw [hF]
  cases h : drOk D <;> rw [h] at c <;> simp [c, fO]
set_option maxRecDepth 100000 in
theorem m130' (d : Nat) (D : Dr) (hb : BdN D) (hF : D.fcs ≠ []) : ev (d + 7) (mvN + 130) [.ag (dA D (.ow 127 2 (D.pts.map pC)) (.ow 158 2 (D.fcs.map fC)))] = some (.tu [(ckd D).1, I (ckd D).2], [.un]) := by
  rw [m130 (d + 6) (start_dm D _ _ _) rfl]
  have c := r96 d D [] hb
  unfold ckd
  rw [fO_ne hF]
  cases h : drOk D <;> rw [h] at c <;> simp [c]
set_option maxRecDepth 100000 in
theorem m130'n (d : Nat) (D : Dr) (hb : BdN D) (hF : D.fcs = []) : ev (d + 7) (mvN + 130) [.ag (dA D (.ow 127 2 (D.pts.map pC)) .nl)] = some (.tu [(ckd D).1, I (ckd D).2], [.un]) := by
  rw [m130 (d + 6) (start_dmn D _) rfl]
  have c := rn96 d D [] hb.pts hF
  unfold ckd
  rw [hF]
  cases h : drOk D <;> rw [h] at c <;> simp [c, fO]
end Go.Proofs.Ytojjkjbffihppaa.walkS
