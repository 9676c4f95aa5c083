/- TurnPicture: its loops; no conditions. -/
import Derived.Test.YthnkioafikmmaaaGreatWTu
namespace Go.Proofs.YthnkioafikmmaaaGreat.walkS
open Go Go.Proofs.YthnkioafikmmaaaGreat.Ev
set_option linter.unusedSimpArgs false
set_option linter.unusedVariables false
set_option maxHeartbeats 2000000
/-- a point turned, back into the panel -/
def tpP (u : Nat) (F p : Pt) : Pt := (W ((trP u p).1 - mnI F.1 0), W ((trP u p).2 - mnI F.2 0))
def tpR (u : Nat) (R : List Int) : List Int := if 3 < u then (match R with | [] => [] | a :: t => a :: t.reverse) else R
def tpF (u : Nat) (f : Fc) : Fc := (f.1, tpR u f.2)
def tpG (u : Nat) (g : Int) : Int := ((if 3 < u then 180 - g else g) + 90 * (u : Int)) % 180
def tpV (u : Nat) (v : Vn) : Vn := (v.1, v.2.1, tpG u v.2.2)
def tpQ (Q : Pi) (u : Nat) : Pi := ⟨⟨if u % 2 = 1 then Q.d.h else Q.d.w, if u % 2 = 1 then Q.d.w else Q.d.h, Q.d.pts.map (tpP u (trP u (Q.d.w, Q.d.h))), Q.d.fcs.map (tpF u)⟩, Q.vs.map (tpV u)⟩
theorem mnI_comm (a b : Int) : mnI a b = mnI b a := by unfold mnI; split <;> split <;> omega
/-- a list, its first i changed -/
def gxL {α : Type} (g : α → α) (F : List α) (i : Nat) : List α := (F.take i).map g ++ F.drop i
section
variable {α : Type} {g : α → α} {F : List α} {i : Nat} {f : α}
theorem gxL_len : (gxL g F i).length = F.length := by unfold gxL; rw [List.length_append, List.length_map, List.length_take, List.length_drop]; omega
theorem gxL_zero : gxL g F 0 = F := by simp [gxL]
theorem gxL_end : gxL g F F.length = F.map g := by simp [gxL]
theorem gxL_get (h : F[i]? = some f) : (gxL g F i)[i]? = some f := by
  have hi : i < F.length := (List.getElem?_eq_some_iff.1 h).1
  unfold gxL
  rw [List.getElem?_append_right (by simp; omega), List.length_map, List.length_take, Nat.min_eq_left (by omega), Nat.sub_self]
  simp [h]
theorem gxL_set (h : F[i]? = some f) : (gxL g F i).set i (g f) = gxL g F (i + 1) := by
  have hi : i < F.length := (List.getElem?_eq_some_iff.1 h).1
  unfold gxL
  rw [List.set_append_right _ _ (by simp; omega), List.length_map, List.length_take, Nat.min_eq_left (by omega), Nat.sub_self, drop_get h, List.set_cons_zero, List.take_add_one, h]
  simp
theorem gxL_same (h : F[i]? = some f) (hs : g f = f) : gxL g F (i + 1) = gxL g F i := by
  rw [← gxL_set h, hs]
  have hi : i < (gxL g F i).length := by rw [gxL_len]; exact (List.getElem?_eq_some_iff.1 h).1
  have hg := gxL_get (g := g) h
  rw [List.getElem?_eq_getElem hi, Option.some.injEq] at hg
  rw [← hg, List.set_getElem_self]
end
theorem tg_tm (u : Nat) (x : Int) (hx : 0 ≤ x) : x.tmod 180 = x % 180 := Int.tmod_eq_emod_of_nonneg hx
theorem r44 (d : Nat) (g : Int) (u : Nat) (hg : 0 ≤ g ∧ g ≤ 179) (hu : u ≤ 7) : ev (d + 2) 44 [I g, I u] = some (.tu [I (tpG u g), I 0], []) := by
  rw [s44 (d + 1) _ rfl]
  have c1 := r40 d g 0 179
  have c2 := r40 d (u : Int) 0 7
  have i1 : inR g 0 179 = true := by unfold inR; simp; omega
  have i2 : inR (u : Int) 0 7 = true := by unfold inR; simp; omega
  rw [i1] at c1
  rw [i2] at c2
  have w1 : IntKind.i64.wrap (180 - g) = 180 - g := IntWalk.i64_in _ (by omega)
  have w2 : IntKind.i64.wrap (90 * (u : Int)) = 90 * (u : Int) := IntWalk.i64_in _ (by omega)
  unfold tpG
  by_cases h : 3 < u
  · have h4 : (3 : Int) < (u : Int) := by omega
    have w3 : IntKind.i64.wrap (180 - g + 90 * (u : Int)) = 180 - g + 90 * (u : Int) := IntWalk.i64_in _ (by omega)
    have e := tg_tm u (180 - g + 90 * (u : Int)) (by omega)
    have w4 : IntKind.i64.wrap ((180 - g + 90 * (u : Int)) % 180) = (180 - g + 90 * (u : Int)) % 180 := IntWalk.i64_in _ (by omega)
    rw [if_pos h]
    simp [c1, c2, h4, w1, w2, w3, e, w4]
  · have h4 : ¬ (3 : Int) < (u : Int) := by omega
    have w3 : IntKind.i64.wrap (g + 90 * (u : Int)) = g + 90 * (u : Int) := IntWalk.i64_in _ (by omega)
    have e := tg_tm u (g + 90 * (u : Int)) (by omega)
    have w4 : IntKind.i64.wrap ((g + 90 * (u : Int)) % 180) = (g + 90 * (u : Int)) % 180 := IntWalk.i64_in _ (by omega)
    rw [if_neg h]
    simp [c1, c2, h4, w1, w2, w3, e, w4]
theorem r39 (d : Nat) (g : Int) (u : Nat) (hg : 0 ≤ g ∧ g ≤ 179) (hu : u ≤ 7) : ev (d + 1) 39 [I g, I u] = some (I (tpG u g), []) := by
  rw [s39 d _ rfl]
  have w1 : IntKind.i64.wrap (180 - g) = 180 - g := IntWalk.i64_in _ (by omega)
  have w2 : IntKind.i64.wrap (90 * (u : Int)) = 90 * (u : Int) := IntWalk.i64_in _ (by omega)
  unfold tpG
  by_cases h : 3 < u
  · have h4 : (4 : Int) ≤ (u : Int) := by omega
    have w3 : IntKind.i64.wrap (180 - g + 90 * (u : Int)) = 180 - g + 90 * (u : Int) := IntWalk.i64_in _ (by omega)
    have e := tg_tm u (180 - g + 90 * (u : Int)) (by omega)
    have w4 : IntKind.i64.wrap ((180 - g + 90 * (u : Int)) % 180) = (180 - g + 90 * (u : Int)) % 180 := IntWalk.i64_in _ (by omega)
    rw [if_pos h]
    simp [h4, w1, w2, w3, e, w4]
  · have h4 : ¬ (4 : Int) ≤ (u : Int) := by omega
    have w3 : IntKind.i64.wrap (g + 90 * (u : Int)) = g + 90 * (u : Int) := IntWalk.i64_in _ (by omega)
    have e := tg_tm u (g + 90 * (u : Int)) (by omega)
    have w4 : IntKind.i64.wrap ((g + 90 * (u : Int)) % 180) = (g + 90 * (u : Int)) % 180 := IntWalk.i64_in _ (by omega)
    rw [if_neg h]
    simp [h4, w1, w2, w3, e, w4]
theorem l16 (d : Nat) (Q : Pi) (u : Nat) (hu : u ≤ 7) (F : Pt) (hi : ∀ p ∈ Q.d.pts, inB p) (Pz : List Pt) (hPz : Q.d.pts.map (tpP u F) = Pz) (hb : Q.d.pts.length ≤ big) (w h : Int) (nf : Nat) (FR : List (List Cell)) (nv : Nat) (VR : List (List Cell)) : ∀ (n i : Nat) (acc R : List Pt), n + i = Q.d.pts.length → acc.length = i → R = acc ++ Q.d.pts.drop i → acc = (Q.d.pts.take i).map (tpP u F) →
    clC [1, 4, 6, 7] [4, 5] (blk 1 (lp (evC (ev (d + 2)) b16_1) (clean [1, 4, 6, 7, 8, 41, 42, 43]) ⟨lookS [(1, I u), (4, .bp (.sl 4) 0), (6, .bp (.sl 6) 0), (7, .bp (.sl 6) 0), (8, .bp (.sl 8) 0), (41, .rf (.sl 41) none 0 Q.d.pts.length), (42, I Q.d.pts.length), (43, I i)], lookM [((.sl 4), some (.box z5)), ((.sl 6), some (.box [I w, I h, .rf (.sl 41) none 0 Q.d.pts.length, .rf (.ce 6 3) none 0 nf, .rf (.ce 6 4) none 0 nv])), ((.sl 8), some (.box [I F.1, I F.2])), ((.sl 41), some (.arr 72 2 (R.map pC))), ((.ce 6 3), some (.arr 77 2 FR)), ((.ce 6 4), some (.arr 61 3 VR))]⟩)) =
      some (.nm, ⟨lookS [(1, I u), (4, .bp (.sl 4) 0), (6, .bp (.sl 6) 0), (7, .bp (.sl 6) 0)], lookM [((.sl 4), some (.box z5)), ((.sl 6), some (.box [I w, I h, .rf (.ce 6 2) none 0 Q.d.pts.length, .rf (.ce 6 3) none 0 nf, .rf (.ce 6 4) none 0 nv])), ((.ce 6 2), some (.arr 72 2 (Pz.map pC))), ((.ce 6 3), some (.arr 77 2 FR)), ((.ce 6 4), some (.arr 61 3 VR))]⟩) := by
  intro n
  induction n with
  | zero =>
    intro i acc R hi' ha hR hacc
    have h0 : ¬ (i : Int) < (Q.d.pts.length : Int) := by omega
    rw [List.drop_eq_nil_of_le (by omega), List.append_nil] at hR
    have e : acc = Pz := by rw [hacc, List.take_of_length_le (by omega), hPz]
    subst hR
    rw [lp_step, e]
    simp [h0]
  | succ n ih =>
    intro i acc R hi' ha hR hacc
    have hlt : i < Q.d.pts.length := by omega
    have h0 : (i : Int) < (Q.d.pts.length : Int) := by omega
    obtain ⟨q, hx⟩ := get_lt hlt
    have hw := wrap_nat (i := i) (by simp only [big] at hb; omega)
    have hg : R[i]? = some q := by
      rw [hR, List.getElem?_append_right (by omega), ha, Nat.sub_self, List.getElem?_drop]
      simpa using hx
    have hl : R.length = Q.d.pts.length := by rw [hR, List.length_append, List.length_drop]; omega
    have hl2 : (i : Int) < (R.length : Int) := by omega
    have hs : R.set i (tpP u F q) = (acc ++ [tpP u F q]) ++ Q.d.pts.drop (i + 1) := by
      rw [hR, List.set_append_right _ _ (by omega), ha, Nat.sub_self, drop_get hx, List.set_cons_zero, List.append_assoc]
      rfl
    have hacc' : acc ++ [tpP u F q] = (Q.d.pts.take (i + 1)).map (tpP u F) := by rw [hacc, List.take_add_one, hx, List.map_append]; rfl
    have ih' := ih (i + 1) (acc ++ [tpP u F q]) (R.set i (tpP u F q)) (by omega) (by simp; omega) hs hacc'
    have hgm : (R.map pC)[i]? = some (pC q) := by rw [List.getElem?_map, hg]; rfl
    have hsm : ∀ a, ((R.map pC).set i a)[i]? = some a := fun a => List.getElem?_set_self (by rw [List.length_map]; omega)
    have c1 := r42 d q u hu (hi q (List.mem_of_getElem? hx))
    have em : (R.set i (tpP u F q)).map pC = (R.map pC).set i [.sc (.int .i64 (IntKind.i64.wrap ((trP u q).1 - mnI F.1 0))), .sc (.int .i64 (IntKind.i64.wrap ((trP u q).2 - mnI F.2 0)))] := by rw [List.map_set]; rfl
    rw [em] at ih'
    simp only [mnI, Int.natCast_add, Int.cast_ofNat_Int] at ih'
    rw [lp_step]
    simp [h0, hg, hgm, hsm, hl, hl2, c1, hw, ih']
theorem l15 (d : Nat) (Q : Pi) (u : Nat) (hu : u ≤ 7) (F : Pt) (hi : ∀ p ∈ Q.d.pts, inB p) (Pz : List Pt) (hPz : Q.d.pts.map (tpP u F) = Pz) (hb : Q.d.pts.length ≤ big) (w h : Int) (nf : Nat) (FR : List (List Cell)) (nv : Nat) (VR : List (List Cell)) : ∀ (n i : Nat) (acc R : List Pt), n + i = Q.d.pts.length → acc.length = i → R = acc ++ Q.d.pts.drop i → acc = (Q.d.pts.take i).map (tpP u F) →
    clC [1, 2, 4, 6] [4, 5] (blk 0 (lp (evC (ev (d + 2)) b15_1) (clean [1, 2, 4, 6, 7, 8]) ⟨lookS [(1, I u), (2, .bp (.sl 2) 0), (4, .bp (.sl 4) 0), (6, .bp (.sl 6) 0), (7, .bp (.sl 7) 0), (8, I i)], lookM [((.sl 2), some (.box (qV Q))), ((.sl 4), some (.box z5)), ((.sl 6), some (.box [I w, I h, .rf (.ce 6 2) none 0 Q.d.pts.length, .rf (.ce 6 3) none 0 nf, .rf (.ce 6 4) none 0 nv])), ((.sl 7), some (.box [I F.1, I F.2])), ((.ce 6 2), some (.arr 72 2 (R.map pC))), ((.ce 6 3), some (.arr 77 2 FR)), ((.ce 6 4), some (.arr 61 3 VR))]⟩)) =
      some (.nm, ⟨lookS [(1, I u), (2, .bp (.sl 2) 0), (4, .bp (.sl 4) 0), (6, .bp (.sl 6) 0)], lookM [((.sl 2), some (.box (qV Q))), ((.sl 4), some (.box z5)), ((.sl 6), some (.box [I w, I h, .rf (.ce 6 2) none 0 Q.d.pts.length, .rf (.ce 6 3) none 0 nf, .rf (.ce 6 4) none 0 nv])), ((.ce 6 2), some (.arr 72 2 (Pz.map pC))), ((.ce 6 3), some (.arr 77 2 FR)), ((.ce 6 4), some (.arr 61 3 VR))]⟩) := by
  intro n
  induction n with
  | zero =>
    intro i acc R hi' ha hR hacc
    have h0 : ¬ (i : Int) < (Q.d.pts.length : Int) := by omega
    rw [List.drop_eq_nil_of_le (by omega), List.append_nil] at hR
    have e : acc = Pz := by rw [hacc, List.take_of_length_le (by omega), hPz]
    subst hR
    rw [lp_step, e]
    simp [h0]
  | succ n ih =>
    intro i acc R hi' ha hR hacc
    have hlt : i < Q.d.pts.length := by omega
    have h0 : (i : Int) < (Q.d.pts.length : Int) := by omega
    obtain ⟨q, hx⟩ := get_lt hlt
    have hw := wrap_nat (i := i) (by simp only [big] at hb; omega)
    have hg : R[i]? = some q := by
      rw [hR, List.getElem?_append_right (by omega), ha, Nat.sub_self, List.getElem?_drop]
      simpa using hx
    have hl : R.length = Q.d.pts.length := by rw [hR, List.length_append, List.length_drop]; omega
    have hl2 : (i : Int) < (R.length : Int) := by omega
    have hs : R.set i (tpP u F q) = (acc ++ [tpP u F q]) ++ Q.d.pts.drop (i + 1) := by
      rw [hR, List.set_append_right _ _ (by omega), ha, Nat.sub_self, drop_get hx, List.set_cons_zero, List.append_assoc]
      rfl
    have hacc' : acc ++ [tpP u F q] = (Q.d.pts.take (i + 1)).map (tpP u F) := by rw [hacc, List.take_add_one, hx, List.map_append]; rfl
    have ih' := ih (i + 1) (acc ++ [tpP u F q]) (R.set i (tpP u F q)) (by omega) (by simp; omega) hs hacc'
    have hgm : (R.map pC)[i]? = some (pC q) := by rw [List.getElem?_map, hg]; rfl
    have hsm : ∀ a, ((R.map pC).set i a)[i]? = some a := fun a => List.getElem?_set_self (by rw [List.length_map]; omega)
    have c1 := r37 (d + 1) q u hu (hi q (List.mem_of_getElem? hx))
    have m1 := r38 (d + 1) 0 F.1
    have m2 := r38 (d + 1) 0 F.2
    rw [mnI_comm] at m1 m2
    have em : (R.set i (tpP u F q)).map pC = (R.map pC).set i [.sc (.int .i64 (IntKind.i64.wrap ((trP u q).1 - mnI F.1 0))), .sc (.int .i64 (IntKind.i64.wrap ((trP u q).2 - mnI F.2 0)))] := by rw [List.map_set]; rfl
    rw [em] at ih'
    simp only [Int.natCast_add, Int.cast_ofNat_Int] at ih'
    rw [lp_step]
    simp [h0, hg, hgm, hsm, hl, hl2, c1, m1, m2, hw, ih']
theorem l16n (d : Nat) (Q : Pi) (u : Nat) (hu : u ≤ 7) (F : Pt) (hi : ∀ p ∈ Q.d.pts, inB p) (Pz : List Pt) (hPz : Q.d.pts.map (tpP u F) = Pz) (hb : Q.d.pts.length ≤ big) (w h : Int) (nv : Nat) (VR : List (List Cell)) : ∀ (n i : Nat) (acc R : List Pt), n + i = Q.d.pts.length → acc.length = i → R = acc ++ Q.d.pts.drop i → acc = (Q.d.pts.take i).map (tpP u F) →
    clC [1, 4, 6, 7] [4, 5] (blk 1 (lp (evC (ev (d + 2)) b16_1) (clean [1, 4, 6, 7, 8, 41, 42, 43]) ⟨lookS [(1, I u), (4, .bp (.sl 4) 0), (6, .bp (.sl 6) 0), (7, .bp (.sl 6) 0), (8, .bp (.sl 8) 0), (41, .rf (.sl 41) none 0 Q.d.pts.length), (42, I Q.d.pts.length), (43, I i)], lookM [((.sl 4), some (.box z5)), ((.sl 6), some (.box [I w, I h, .rf (.sl 41) none 0 Q.d.pts.length, .nl, .rf (.ce 6 4) none 0 nv])), ((.sl 8), some (.box [I F.1, I F.2])), ((.sl 41), some (.arr 72 2 (R.map pC))), ((.ce 6 4), some (.arr 61 3 VR))]⟩)) =
      some (.nm, ⟨lookS [(1, I u), (4, .bp (.sl 4) 0), (6, .bp (.sl 6) 0), (7, .bp (.sl 6) 0)], lookM [((.sl 4), some (.box z5)), ((.sl 6), some (.box [I w, I h, .rf (.ce 6 2) none 0 Q.d.pts.length, .nl, .rf (.ce 6 4) none 0 nv])), ((.ce 6 2), some (.arr 72 2 (Pz.map pC))), ((.ce 6 4), some (.arr 61 3 VR))]⟩) := by
  intro n
  induction n with
  | zero =>
    intro i acc R hi' ha hR hacc
    have h0 : ¬ (i : Int) < (Q.d.pts.length : Int) := by omega
    rw [List.drop_eq_nil_of_le (by omega), List.append_nil] at hR
    have e : acc = Pz := by rw [hacc, List.take_of_length_le (by omega), hPz]
    subst hR
    rw [lp_step, e]
    simp [h0]
  | succ n ih =>
    intro i acc R hi' ha hR hacc
    have hlt : i < Q.d.pts.length := by omega
    have h0 : (i : Int) < (Q.d.pts.length : Int) := by omega
    obtain ⟨q, hx⟩ := get_lt hlt
    have hw := wrap_nat (i := i) (by simp only [big] at hb; omega)
    have hg : R[i]? = some q := by
      rw [hR, List.getElem?_append_right (by omega), ha, Nat.sub_self, List.getElem?_drop]
      simpa using hx
    have hl : R.length = Q.d.pts.length := by rw [hR, List.length_append, List.length_drop]; omega
    have hl2 : (i : Int) < (R.length : Int) := by omega
    have hs : R.set i (tpP u F q) = (acc ++ [tpP u F q]) ++ Q.d.pts.drop (i + 1) := by
      rw [hR, List.set_append_right _ _ (by omega), ha, Nat.sub_self, drop_get hx, List.set_cons_zero, List.append_assoc]
      rfl
    have hacc' : acc ++ [tpP u F q] = (Q.d.pts.take (i + 1)).map (tpP u F) := by rw [hacc, List.take_add_one, hx, List.map_append]; rfl
    have ih' := ih (i + 1) (acc ++ [tpP u F q]) (R.set i (tpP u F q)) (by omega) (by simp; omega) hs hacc'
    have hgm : (R.map pC)[i]? = some (pC q) := by rw [List.getElem?_map, hg]; rfl
    have hsm : ∀ a, ((R.map pC).set i a)[i]? = some a := fun a => List.getElem?_set_self (by rw [List.length_map]; omega)
    have c1 := r42 d q u hu (hi q (List.mem_of_getElem? hx))
    have em : (R.set i (tpP u F q)).map pC = (R.map pC).set i [.sc (.int .i64 (IntKind.i64.wrap ((trP u q).1 - mnI F.1 0))), .sc (.int .i64 (IntKind.i64.wrap ((trP u q).2 - mnI F.2 0)))] := by rw [List.map_set]; rfl
    rw [em] at ih'
    simp only [mnI, Int.natCast_add, Int.cast_ofNat_Int] at ih'
    rw [lp_step]
    simp [h0, hg, hgm, hsm, hl, hl2, c1, hw, ih']
theorem l15n (d : Nat) (Q : Pi) (u : Nat) (hu : u ≤ 7) (F : Pt) (hi : ∀ p ∈ Q.d.pts, inB p) (Pz : List Pt) (hPz : Q.d.pts.map (tpP u F) = Pz) (hb : Q.d.pts.length ≤ big) (w h : Int) (nv : Nat) (VR : List (List Cell)) : ∀ (n i : Nat) (acc R : List Pt), n + i = Q.d.pts.length → acc.length = i → R = acc ++ Q.d.pts.drop i → acc = (Q.d.pts.take i).map (tpP u F) →
    clC [1, 2, 4, 6] [4, 5] (blk 0 (lp (evC (ev (d + 2)) b15_1) (clean [1, 2, 4, 6, 7, 8]) ⟨lookS [(1, I u), (2, .bp (.sl 2) 0), (4, .bp (.sl 4) 0), (6, .bp (.sl 6) 0), (7, .bp (.sl 7) 0), (8, I i)], lookM [((.sl 2), some (.box (qV Q))), ((.sl 4), some (.box z5)), ((.sl 6), some (.box [I w, I h, .rf (.ce 6 2) none 0 Q.d.pts.length, .nl, .rf (.ce 6 4) none 0 nv])), ((.sl 7), some (.box [I F.1, I F.2])), ((.ce 6 2), some (.arr 72 2 (R.map pC))), ((.ce 6 4), some (.arr 61 3 VR))]⟩)) =
      some (.nm, ⟨lookS [(1, I u), (2, .bp (.sl 2) 0), (4, .bp (.sl 4) 0), (6, .bp (.sl 6) 0)], lookM [((.sl 2), some (.box (qV Q))), ((.sl 4), some (.box z5)), ((.sl 6), some (.box [I w, I h, .rf (.ce 6 2) none 0 Q.d.pts.length, .nl, .rf (.ce 6 4) none 0 nv])), ((.ce 6 2), some (.arr 72 2 (Pz.map pC))), ((.ce 6 4), some (.arr 61 3 VR))]⟩) := by
  intro n
  induction n with
  | zero =>
    intro i acc R hi' ha hR hacc
    have h0 : ¬ (i : Int) < (Q.d.pts.length : Int) := by omega
    rw [List.drop_eq_nil_of_le (by omega), List.append_nil] at hR
    have e : acc = Pz := by rw [hacc, List.take_of_length_le (by omega), hPz]
    subst hR
    rw [lp_step, e]
    simp [h0]
  | succ n ih =>
    intro i acc R hi' ha hR hacc
    have hlt : i < Q.d.pts.length := by omega
    have h0 : (i : Int) < (Q.d.pts.length : Int) := by omega
    obtain ⟨q, hx⟩ := get_lt hlt
    have hw := wrap_nat (i := i) (by simp only [big] at hb; omega)
    have hg : R[i]? = some q := by
      rw [hR, List.getElem?_append_right (by omega), ha, Nat.sub_self, List.getElem?_drop]
      simpa using hx
    have hl : R.length = Q.d.pts.length := by rw [hR, List.length_append, List.length_drop]; omega
    have hl2 : (i : Int) < (R.length : Int) := by omega
    have hs : R.set i (tpP u F q) = (acc ++ [tpP u F q]) ++ Q.d.pts.drop (i + 1) := by
      rw [hR, List.set_append_right _ _ (by omega), ha, Nat.sub_self, drop_get hx, List.set_cons_zero, List.append_assoc]
      rfl
    have hacc' : acc ++ [tpP u F q] = (Q.d.pts.take (i + 1)).map (tpP u F) := by rw [hacc, List.take_add_one, hx, List.map_append]; rfl
    have ih' := ih (i + 1) (acc ++ [tpP u F q]) (R.set i (tpP u F q)) (by omega) (by simp; omega) hs hacc'
    have hgm : (R.map pC)[i]? = some (pC q) := by rw [List.getElem?_map, hg]; rfl
    have hsm : ∀ a, ((R.map pC).set i a)[i]? = some a := fun a => List.getElem?_set_self (by rw [List.length_map]; omega)
    have c1 := r37 (d + 1) q u hu (hi q (List.mem_of_getElem? hx))
    have m1 := r38 (d + 1) 0 F.1
    have m2 := r38 (d + 1) 0 F.2
    rw [mnI_comm] at m1 m2
    have em : (R.set i (tpP u F q)).map pC = (R.map pC).set i [.sc (.int .i64 (IntKind.i64.wrap ((trP u q).1 - mnI F.1 0))), .sc (.int .i64 (IntKind.i64.wrap ((trP u q).2 - mnI F.2 0)))] := by rw [List.map_set]; rfl
    rw [em] at ih'
    simp only [Int.natCast_add, Int.cast_ofNat_Int] at ih'
    rw [lp_step]
    simp [h0, hg, hgm, hsm, hl, hl2, c1, m1, m2, hw, ih']
theorem tpR_up {u : Nat} {R : List Int} (h : ¬ 3 < u) : tpR u R = R := if_neg h
theorem tpF_up {u : Nat} {f : Fc} (h : ¬ 3 < u) : tpF u f = f := by unfold tpF; rw [tpR_up h]
theorem tpR_dn {u : Nat} {a : Int} {t : List Int} (h : 3 < u) : tpR u (a :: t) = a :: t.reverse := if_pos h
theorem l16_2 (d : Nat) (u : Nat) (F Fz : List Fc) (hFz : F.map (tpF u) = Fz) (hF : F.length ≤ big) (hR : ∀ f ∈ F, f.2 ≠ [] ∧ f.2.length ≤ 1000) (w h : Int) (np : Nat) (PR : List (List Cell)) (nv : Nat) (VR : List (List Cell)) : ∀ (n i : Nat), n + i = F.length →
    clC [1, 4, 6] [4, 5] (blk 3 (lp (evC (ev (d + 1)) b16_2) (clean [1, 4, 6, 7, 92, 93]) ⟨lookS [(1, I u), (4, .bp (.sl 4) 0), (6, .bp (.sl 6) 0), (7, .bp (.sl 6) 0), (92, I F.length), (93, I i)], lookM [((.sl 4), some (.box z5)), ((.sl 6), some (.box [I w, I h, .rf (.ce 6 2) none 0 np, .rf (.ce 6 3) none 0 F.length, .rf (.ce 6 4) none 0 nv])), ((.ce 6 2), some (.arr 72 2 PR)), ((.ce 6 3), some (.arr 77 2 ((gxL (tpF u) F i).map fC))), ((.ce 6 4), some (.arr 61 3 VR))]⟩)) =
      some (.nm, ⟨lookS [(1, I u), (4, .bp (.sl 4) 0), (6, .bp (.sl 6) 0)], lookM [((.sl 4), some (.box z5)), ((.sl 6), some (.box [I w, I h, .rf (.ce 6 2) none 0 np, .rf (.ce 6 3) none 0 F.length, .rf (.ce 6 4) none 0 nv])), ((.ce 6 2), some (.arr 72 2 PR)), ((.ce 6 3), some (.arr 77 2 (Fz.map fC))), ((.ce 6 4), some (.arr 61 3 VR))]⟩) := by
  intro n
  induction n with
  | zero =>
    intro i hi
    have h0 : ¬ (i : Int) < (F.length : Int) := by omega
    have e : gxL (tpF u) F i = Fz := by rw [show i = F.length by omega, gxL_end, hFz]
    rw [lp_step, e]
    simp [h0]
  | succ n ih =>
    intro i hi
    have hlt : i < F.length := by omega
    have h0 : (i : Int) < (F.length : Int) := by omega
    obtain ⟨⟨nm, R⟩, hf⟩ := get_lt hlt
    obtain ⟨hz, hl1⟩ := hR _ (List.mem_of_getElem? hf)
    have hw := wrap_nat (i := i) (by simp only [big] at hF; omega)
    have hg := gxL_get (g := tpF u) hf
    have hgm : ((gxL (tpF u) F i).map fC)[i]? = some (fC (nm, R)) := by rw [List.getElem?_map, hg]; rfl
    have ih' := ih (i + 1) (by omega)
    simp only [Int.natCast_add, Int.cast_ofNat_Int] at ih'
    by_cases hu : 3 < u
    · have hu4 : (3 : Int) < (u : Int) := by omega
      cases R with
      | nil => exact absurd rfl hz
      | cons a t =>
        have p3 := rv43 d a t (by simp at hl1; omega)
        have h1 : 1 + t.length = t.length + 1 := by omega
        have hs := gxL_set (g := tpF u) hf
        have em : (gxL (tpF u) F (i + 1)).map fC = ((gxL (tpF u) F i).map fC).set i (fC (nm, a :: t.reverse)) := by
          rw [← hs, List.map_set]
          unfold tpF
          rw [tpR_dn hu]
        rw [em] at ih'
        have hl := gxL_len (g := tpF u) (F := F) (i := i)
        generalize hFR : (gxL (tpF u) F i).map fC = FR at ih' hgm ⊢
        have hFl : i < FR.length := (List.getElem?_eq_some_iff.1 hgm).1
        have hFL : FR.length = F.length := by rw [← hFR, List.length_map, hl]
        have hsm : ∀ a, (FR.set i a)[i]? = some a := fun a => List.getElem?_set_self hFl
        obtain ⟨T', hT⟩ : ∃ T', T' = a :: t.reverse := ⟨_, rfl⟩
        have hTl : T'.length = t.length + 1 := by rw [hT]; simp
        rw [← hT] at p3 ih'
        rw [lp_step]
        simp [h0, hu4, hgm, hsm, hFL, h1, p3, hTl, bkC, hw, ih']
    · have hu4 : ¬ (3 : Int) < (u : Int) := by omega
      rw [gxL_same hf (tpF_up hu)] at ih'
      rw [lp_step]
      simp [h0, hu4, hw, ih']
theorem l16_3 (d : Nat) (u : Nat) (hu : u ≤ 7) (vs Vz : List Vn) (hVz : vs.map (tpV u) = Vz) (hv : vs.length ≤ big) (hG : ∀ v ∈ vs, 0 ≤ v.2.2 ∧ v.2.2 ≤ 179) (w h : Int) (np : Nat) (PR : List (List Cell)) (nf : Nat) (FR : List (List Cell)) : ∀ (n i : Nat), n + i = vs.length →
    clC [4, 6] [4, 5] (blk 5 (lp (evC (ev (d + 2)) b16_3) (clean [1, 4, 6, 110, 111, 112]) ⟨lookS [(1, I u), (4, .bp (.sl 4) 0), (6, .bp (.sl 6) 0), (110, .rf (.sl 110) none 0 vs.length), (111, I vs.length), (112, I i)], lookM [((.sl 4), some (.box z5)), ((.sl 6), some (.box [I w, I h, .rf (.ce 6 2) none 0 np, .rf (.ce 6 3) none 0 nf, .rf (.sl 110) none 0 vs.length])), ((.sl 110), some (.arr 61 3 ((gxL (tpV u) vs i).map vC))), ((.ce 6 2), some (.arr 72 2 PR)), ((.ce 6 3), some (.arr 77 2 FR))]⟩)) =
      some (.nm, ⟨lookS [(4, .bp (.sl 4) 0), (6, .bp (.sl 6) 0)], lookM [((.sl 4), some (.box z5)), ((.sl 6), some (.box [I w, I h, .rf (.ce 6 2) none 0 np, .rf (.ce 6 3) none 0 nf, .rf (.ce 6 4) none 0 vs.length])), ((.ce 6 2), some (.arr 72 2 PR)), ((.ce 6 3), some (.arr 77 2 FR)), ((.ce 6 4), some (.arr 61 3 (Vz.map vC)))]⟩) := by
  intro n
  induction n with
  | zero =>
    intro i hi
    have h0 : ¬ (i : Int) < (vs.length : Int) := by omega
    have e : gxL (tpV u) vs i = Vz := by rw [show i = vs.length by omega, gxL_end, hVz]
    rw [lp_step, e]
    simp [h0]
  | succ n ih =>
    intro i hi
    have hlt : i < vs.length := by omega
    have h0 : (i : Int) < (vs.length : Int) := by omega
    obtain ⟨v, hx⟩ := get_lt hlt
    have c1 := r44 d v.2.2 u (hG v (List.mem_of_getElem? hx)) hu
    have hw := wrap_nat (i := i) (by simp only [big] at hv; omega)
    have hg := gxL_get (g := tpV u) hx
    have hgm : ((gxL (tpV u) vs i).map vC)[i]? = some (vC v) := by rw [List.getElem?_map, hg]; rfl
    have hs := gxL_set (g := tpV u) hx
    have em : (gxL (tpV u) vs (i + 1)).map vC = ((gxL (tpV u) vs i).map vC).set i [.sc (.string v.1), .sc (.int .i64 v.2.1), .sc (.int .i64 (tpG u v.2.2))] := by
      rw [← hs, List.map_set]
      rfl
    have ih' := ih (i + 1) (by omega)
    rw [em] at ih'
    simp only [Int.natCast_add, Int.cast_ofNat_Int] at ih'
    have hl := gxL_len (g := tpV u) (F := vs) (i := i)
    generalize hFR : (gxL (tpV u) vs i).map vC = FR' at ih' hgm ⊢
    have hFl : i < FR'.length := (List.getElem?_eq_some_iff.1 hgm).1
    have hFL : FR'.length = vs.length := by rw [← hFR, List.length_map, hl]
    have hsm : ∀ a, (FR'.set i a)[i]? = some a := fun a => List.getElem?_set_self hFl
    rw [lp_step]
    simp [h0, hgm, hsm, hFL, c1, hw, ih']
theorem l16_3n (d : Nat) (u : Nat) (hu : u ≤ 7) (vs Vz : List Vn) (hVz : vs.map (tpV u) = Vz) (hv : vs.length ≤ big) (hG : ∀ v ∈ vs, 0 ≤ v.2.2 ∧ v.2.2 ≤ 179) (w h : Int) (np : Nat) (PR : List (List Cell)) : ∀ (n i : Nat), n + i = vs.length →
    clC [4, 6] [4, 5] (blk 5 (lp (evC (ev (d + 2)) b16_3) (clean [1, 4, 6, 110, 111, 112]) ⟨lookS [(1, I u), (4, .bp (.sl 4) 0), (6, .bp (.sl 6) 0), (110, .rf (.sl 110) none 0 vs.length), (111, I vs.length), (112, I i)], lookM [((.sl 4), some (.box z5)), ((.sl 6), some (.box [I w, I h, .rf (.ce 6 2) none 0 np, .nl, .rf (.sl 110) none 0 vs.length])), ((.sl 110), some (.arr 61 3 ((gxL (tpV u) vs i).map vC))), ((.ce 6 2), some (.arr 72 2 PR))]⟩)) =
      some (.nm, ⟨lookS [(4, .bp (.sl 4) 0), (6, .bp (.sl 6) 0)], lookM [((.sl 4), some (.box z5)), ((.sl 6), some (.box [I w, I h, .rf (.ce 6 2) none 0 np, .nl, .rf (.ce 6 4) none 0 vs.length])), ((.ce 6 2), some (.arr 72 2 PR)), ((.ce 6 4), some (.arr 61 3 (Vz.map vC)))]⟩) := by
  intro n
  induction n with
  | zero =>
    intro i hi
    have h0 : ¬ (i : Int) < (vs.length : Int) := by omega
    have e : gxL (tpV u) vs i = Vz := by rw [show i = vs.length by omega, gxL_end, hVz]
    rw [lp_step, e]
    simp [h0]
  | succ n ih =>
    intro i hi
    have hlt : i < vs.length := by omega
    have h0 : (i : Int) < (vs.length : Int) := by omega
    obtain ⟨v, hx⟩ := get_lt hlt
    have c1 := r44 d v.2.2 u (hG v (List.mem_of_getElem? hx)) hu
    have hw := wrap_nat (i := i) (by simp only [big] at hv; omega)
    have hg := gxL_get (g := tpV u) hx
    have hgm : ((gxL (tpV u) vs i).map vC)[i]? = some (vC v) := by rw [List.getElem?_map, hg]; rfl
    have hs := gxL_set (g := tpV u) hx
    have em : (gxL (tpV u) vs (i + 1)).map vC = ((gxL (tpV u) vs i).map vC).set i [.sc (.string v.1), .sc (.int .i64 v.2.1), .sc (.int .i64 (tpG u v.2.2))] := by
      rw [← hs, List.map_set]
      rfl
    have ih' := ih (i + 1) (by omega)
    rw [em] at ih'
    simp only [Int.natCast_add, Int.cast_ofNat_Int] at ih'
    have hl := gxL_len (g := tpV u) (F := vs) (i := i)
    generalize hFR : (gxL (tpV u) vs i).map vC = FR' at ih' hgm ⊢
    have hFl : i < FR'.length := (List.getElem?_eq_some_iff.1 hgm).1
    have hFL : FR'.length = vs.length := by rw [← hFR, List.length_map, hl]
    have hsm : ∀ a, (FR'.set i a)[i]? = some a := fun a => List.getElem?_set_self hFl
    rw [lp_step]
    simp [h0, hgm, hsm, hFL, c1, hw, ih']
theorem l15_3 (d : Nat) (Q : Pi) (u : Nat) (a : Int) (t : List Int) (ht : t.length ≤ 1000) (i : Nat) (w h : Int) (np nf nv : Nat) (PR FR VR : List (List Cell)) : ∀ (k : Nat) (acc r : List Int), k ≤ t.length → acc.length + k ≤ 2000 → acc ++ (t.take k).reverse = r →
    clC [1, 2, 4, 6, 10, 12] [4, 5] (blk 4 (lp (evC (ev d) b15_3) (clean [1, 2, 4, 6, 10, 11, 12, 13]) ⟨lookS [(1, I u), (2, .bp (.sl 2) 0), (4, .bp (.sl 4) 0), (6, .bp (.sl 6) 0), (10, I i), (11, .ro 1 ((a :: t).map iC)), (12, .rf (.sl 12) none 0 acc.length), (13, I k)], lookM [((.sl 2), some (.box (qV Q))), ((.sl 4), some (.box z5)), ((.sl 6), some (.box [I w, I h, .rf (.ce 6 2) none 0 np, .rf (.ce 6 3) none 0 nf, .rf (.ce 6 4) none 0 nv])), ((.sl 12), some (.arr 2 1 (acc.map iC))), ((.ce 6 2), some (.arr 72 2 PR)), ((.ce 6 3), some (.arr 77 2 FR)), ((.ce 6 4), some (.arr 61 3 VR))]⟩)) =
      some (.nm, ⟨lookS [(1, I u), (2, .bp (.sl 2) 0), (4, .bp (.sl 4) 0), (6, .bp (.sl 6) 0), (10, I i), (12, .rf (.sl 12) none 0 r.length)], lookM [((.sl 2), some (.box (qV Q))), ((.sl 4), some (.box z5)), ((.sl 6), some (.box [I w, I h, .rf (.ce 6 2) none 0 np, .rf (.ce 6 3) none 0 nf, .rf (.ce 6 4) none 0 nv])), ((.sl 12), some (.arr 2 1 (r.map iC))), ((.ce 6 2), some (.arr 72 2 PR)), ((.ce 6 3), some (.arr 77 2 FR)), ((.ce 6 4), some (.arr 61 3 VR))]⟩) := by
  intro k
  induction k with
  | zero =>
    intro acc r hk hb hr
    have hr : acc = r := by simpa using hr
    subst hr
    rw [lp_step]
    simp
  | succ k ih =>
    intro acc r hk hb hr
    obtain ⟨x, hx⟩ := get_lt (show k < t.length by omega)
    have hx2 : (a :: t)[k + 1]? = some x := by simpa using hx
    have hxm : ((a :: t).map iC)[k + 1]? = some (iC x) := by rw [List.getElem?_map, hx2]; rfl
    have hb2 : acc.length + 1 ≤ big := by simp only [big]; omega
    rw [List.take_add_one, hx, List.reverse_append] at hr
    have ih' := ih (acc ++ [x]) r (by omega) (by simp; omega) (by rw [← hr]; simp)
    have w1 : IntKind.i64.wrap ((k : Int) + 1 - 1) = (k : Int) := by rw [Int.add_sub_cancel]; exact IntWalk.i64_in _ (by omega)
    have w2 : IntKind.i64.wrap (k : Int) = (k : Int) := IntWalk.i64_in _ (by omega)
    have h0 : (0 : Int) < (k : Int) + 1 := by omega
    have h1 : (0 : Int) ≤ (k : Int) + 1 := by omega
    have tn : ((k : Int) + 1).toNat = k + 1 := by omega
    generalize hL : (a :: t).map iC = L at ih' hxm ⊢
    simp only [List.length_append, List.length_singleton, List.map_append, List.map_singleton] at ih'
    rw [lp_step]
    simp [h0, h1, tn, hxm, w1, w2, hb2, ih']
theorem l15_2 (d : Nat) (Q : Pi) (u : Nat) (Fz : List Fc) (hFz : Q.d.fcs.map (tpF u) = Fz) (Vz : List Vn) (hVz : Q.vs.map (tpV u) = Vz) (hu7 : u ≤ 7) (hF : Q.d.fcs.length ≤ big) (hl0 : Q.vs.length = Q.d.fcs.length) (hR : ∀ f ∈ Q.d.fcs, f.2 ≠ [] ∧ f.2.length ≤ 1000) (hG : ∀ v ∈ Q.vs, 0 ≤ v.2.2 ∧ v.2.2 ≤ 179) (w h : Int) (np : Nat) (PR : List (List Cell)) (nv : Nat) (hnv : nv = Q.d.fcs.length) : ∀ (n i : Nat), n + i = Q.d.fcs.length →
    clC [4, 6] [4, 5] (blk 2 (lp (evC (ev (d + 1)) b15_2) (clean [1, 2, 4, 6, 10]) ⟨lookS [(1, I u), (2, .bp (.sl 2) 0), (4, .bp (.sl 4) 0), (6, .bp (.sl 6) 0), (10, I i)], lookM [((.sl 2), some (.box (qV Q))), ((.sl 4), some (.box z5)), ((.sl 6), some (.box [I w, I h, .rf (.ce 6 2) none 0 np, .rf (.ce 6 3) none 0 Q.d.fcs.length, .rf (.ce 6 4) none 0 nv])), ((.ce 6 2), some (.arr 72 2 PR)), ((.ce 6 3), some (.arr 77 2 ((gxL (tpF u) Q.d.fcs i).map fC))), ((.ce 6 4), some (.arr 61 3 ((gxL (tpV u) Q.vs i).map vC)))]⟩)) =
      some (.nm, ⟨lookS [(4, .bp (.sl 4) 0), (6, .bp (.sl 6) 0)], lookM [((.sl 4), some (.box z5)), ((.sl 6), some (.box [I w, I h, .rf (.ce 6 2) none 0 np, .rf (.ce 6 3) none 0 Q.d.fcs.length, .rf (.ce 6 4) none 0 nv])), ((.ce 6 2), some (.arr 72 2 PR)), ((.ce 6 3), some (.arr 77 2 (Fz.map fC))), ((.ce 6 4), some (.arr 61 3 (Vz.map vC)))]⟩) := by
  intro n
  induction n with
  | zero =>
    intro i hi
    have h0 : ¬ (i : Int) < (Q.d.fcs.length : Int) := by omega
    have e : gxL (tpF u) Q.d.fcs i = Fz := by rw [show i = Q.d.fcs.length by omega, gxL_end, hFz]
    have e2 : gxL (tpV u) Q.vs i = Vz := by rw [show i = Q.vs.length by omega, gxL_end, hVz]
    rw [lp_step, e, e2]
    simp [h0]
  | succ n ih =>
    intro i hi
    have hlt : i < Q.d.fcs.length := by omega
    have h0 : (i : Int) < (Q.d.fcs.length : Int) := by omega
    obtain ⟨⟨nm, R⟩, hf⟩ := get_lt hlt
    obtain ⟨v, hx⟩ := get_lt (l := Q.vs) (i := i) (by omega)
    obtain ⟨hz, hl1⟩ := hR _ (List.mem_of_getElem? hf)
    have c1 := r39 d v.2.2 u (hG v (List.mem_of_getElem? hx)) hu7
    have hw := wrap_nat (i := i) (by simp only [big] at hF; omega)
    have hg := gxL_get (g := tpF u) hf
    have hgm : ((gxL (tpF u) Q.d.fcs i).map fC)[i]? = some (fC (nm, R)) := by rw [List.getElem?_map, hg]; rfl
    have vg := gxL_get (g := tpV u) hx
    have vgm : ((gxL (tpV u) Q.vs i).map vC)[i]? = some (vC v) := by rw [List.getElem?_map, vg]; rfl
    have vs' := gxL_set (g := tpV u) hx
    have vem : (gxL (tpV u) Q.vs (i + 1)).map vC = ((gxL (tpV u) Q.vs i).map vC).set i [.sc (.string v.1), .sc (.int .i64 v.2.1), .sc (.int .i64 (tpG u v.2.2))] := by
      rw [← vs', List.map_set]
      rfl
    have ih' := ih (i + 1) (by omega)
    rw [vem] at ih'
    simp only [Int.natCast_add, Int.cast_ofNat_Int] at ih'
    have vl := gxL_len (g := tpV u) (F := Q.vs) (i := i)
    have hl := gxL_len (g := tpF u) (F := Q.d.fcs) (i := i)
    generalize hVR : (gxL (tpV u) Q.vs i).map vC = VR at ih' vgm ⊢
    have hVl : i < VR.length := (List.getElem?_eq_some_iff.1 vgm).1
    have hVL : (i : Int) < (nv : Int) := by omega
    have vsm : ∀ a, (VR.set i a)[i]? = some a := fun a => List.getElem?_set_self hVl
    have hNF : (i : Int) < (Q.d.fcs.length : Int) := h0
    have hvl : (i : Int) < (Q.vs.length : Int) := by omega
    by_cases hu : 3 < u
    · have hu4 : (4 : Int) ≤ (u : Int) := by omega
      cases R with
      | nil => exact absurd rfl hz
      | cons a t =>
        have hs := gxL_set (g := tpF u) hf
        have em : (gxL (tpF u) Q.d.fcs (i + 1)).map fC = ((gxL (tpF u) Q.d.fcs i).map fC).set i (fC (nm, a :: t.reverse)) := by
          rw [← hs, List.map_set]
          unfold tpF
          rw [tpR_dn hu]
        rw [em] at ih'
        generalize hFR : (gxL (tpF u) Q.d.fcs i).map fC = FR at ih' hgm ⊢
        have hFl : i < FR.length := (List.getElem?_eq_some_iff.1 hgm).1
        have hFL : FR.length = Q.d.fcs.length := by rw [← hFR, List.length_map, hl]
        have hsm : ∀ a, (FR.set i a)[i]? = some a := fun a => List.getElem?_set_self hFl
        obtain ⟨T', hT⟩ : ∃ T', T' = a :: t.reverse := ⟨_, rfl⟩
        have inn := l15_3 (d + 1) Q u a t (by simp at hl1; omega) i w h np Q.d.fcs.length nv PR FR VR t.length [a] T' (by omega) (by simp at hl1 ⊢; omega) (by rw [List.take_length, hT]; rfl)
        rw [← hT] at ih'
        have w1 : IntKind.i64.wrap ((t.length : Int) + 1 - 1) = (t.length : Int) := by rw [Int.add_sub_cancel]; exact IntWalk.i64_in _ (by simp at hl1; omega)
        have w2 : IntKind.i64.wrap (t.length : Int) = (t.length : Int) := IntWalk.i64_in _ (by simp at hl1; omega)
        simp at inn
        rw [lp_step]
        simp [h0, hu4, hf, hx, hgm, hsm, hNF, hVL, hvl, vgm, vsm, c1, w1, w2, inn, hw, ih']
    · have hu4 : ¬ (4 : Int) ≤ (u : Int) := by omega
      rw [gxL_same hf (tpF_up hu)] at ih'
      rw [lp_step]
      simp [h0, hu4, hf, hx, hNF, hVL, hvl, vgm, vsm, c1, hw, ih']
end Go.Proofs.YthnkioafikmmaaaGreat.walkS
