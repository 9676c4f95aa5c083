/- DropUnused: its loops; no conditions. -/
import Derived.Test.YtejffoibihbnnaaWDuq
import Derived.Test.YtejffoibihbnnaaWSnp
namespace Go.Proofs.Ytejffoibihbnnaa.walkS
open Go Go.Proofs.Ytejffoibihbnnaa.Ev
set_option linter.unusedSimpArgs false
set_option linter.unusedVariables false
set_option maxHeartbeats 1000000
theorem l130A (d : Nat) (D : Dr) (rest : List LV) (hb : BdN D) (S : List Int) (hSl : S.length = D.pts.length) (hS : ∀ j : Nat, j < D.pts.length → S[j]? = some (ifb (us D j) (j : Int) (-1))) : ∀ (n i : Nat) (acc rp : List Pt) (Q R r : List Int), n + i = D.pts.length → Q.length = i → R = Q ++ List.replicate n 0 → Q ++ plF D n i acc.length = r → acc ++ kpF D n i = rp → acc ≠ [] → acc.length ≤ i →
    clC [0, 1, 4, 5, 6] [4] (blk 0 (lp (evC (ev (d + 2)) b130_1) (clean [0, 1, 4, 5, 6, 7]) ⟨lookS [(0, .rp (dR D rest)), (1, .ro 1 (S.map iC)), (4, .bp (.sl 4) 0), (5, .bp (.sl 5) 0), (6, .rf (.sl 6) none 0 D.pts.length), (7, I i)], lookM [((.sl 4), some (.box z4)), ((.sl 5), some (.box [I D.w, I D.h, .rf (.ce 5 2) none 0 acc.length, .nl])), ((.sl 6), some (.arr 2 1 (R.map iC))), ((.ce 5 2), some (.arr 159 2 (acc.map pC)))]⟩)) =
      some (.nm, ⟨lookS [(0, .rp (dR D rest)), (1, .ro 1 (S.map iC)), (4, .bp (.sl 4) 0), (5, .bp (.sl 5) 0), (6, .rf (.sl 6) none 0 D.pts.length)], lookM [((.sl 4), some (.box z4)), ((.sl 5), some (.box [I D.w, I D.h, .rf (.ce 5 2) none 0 rp.length, .nl])), ((.sl 6), some (.arr 2 1 (r.map iC))), ((.ce 5 2), some (.arr 159 2 (rp.map pC)))]⟩) := by
  intro n
  induction n with
  | zero =>
    intro i acc rp Q R r hi hq hR hr hp hne ha
    have h0 : ¬ (i : Int) < (D.pts.length : Int) := by omega
    simp only [plF, kpF, List.append_nil, List.replicate_zero] at hR hr hp
    subst hR hr hp
    rw [lp_step]
    simp [h0]
  | succ n ih =>
    intro i acc rp Q R r hi hq hR hr hp hne ha
    have hlt : i < D.pts.length := by omega
    have h0 : (i : Int) < (D.pts.length : Int) := by omega
    have hpb := hb.pts
    obtain ⟨q, hx⟩ := get_lt hlt
    have hpn := pn_get hx
    have hw := wrap_nat (i := i) (by simp only [big] at hpb; omega)
    have hb2 : acc.length + 1 ≤ big := by omega
    have hl : R.length = D.pts.length := by rw [hR, List.length_append, List.length_replicate]; omega
    have hl2 : (i : Int) < (R.length : Int) := by omega
    have hg : R[i]? = some 0 := by rw [hR, List.getElem?_append_right (by omega), hq, Nat.sub_self]; rfl
    have hgm : (R.map iC)[i]? = some (iC 0) := by rw [List.getElem?_map, hg]; rfl
    have hsm : ∀ a, ((R.map iC).set i a)[i]? = some a := fun a => List.getElem?_set_self (by rw [List.length_map]; omega)
    have hc := hS i hlt
    have hSi : i < S.length := by omega
    have hSi2 : (i : Int) < (S.length : Int) := by omega
    have hne1 : ¬ (-1 : Int) = (i : Int) := by omega
    rw [lp_step]
    cases hs : us D i
    · rw [hs] at hc
      have ih' := ih (i + 1) acc rp (Q ++ [0]) R r (by omega) (by simp; omega) (by rw [hR, List.replicate_succ, List.append_assoc]; rfl) (by simp only [plF, hs, ifb_f] at hr; rw [List.append_assoc]; exact hr) (by simp only [kpF, hs, ifb_f] at hp; exact hp) hne (by omega)
      simp only [Int.natCast_add, Int.cast_ofNat_Int] at ih'
      try simp at ih'
      simp [h0, hx, hc, hb2, hw, hl, hl2, hg, hgm, hsm, fillU, adsOf, List.mapM_cons, ih', hSi, hSi2, hne1, hSl]
    · rw [hs] at hc
      simp only [plF, kpF, hs, ifb_t, hpn] at hr hp
      have hset : R.set i (acc.length : Int) = (Q ++ [(acc.length : Int)]) ++ List.replicate n 0 := by
        rw [hR, List.set_append_right _ _ (by omega), hq, Nat.sub_self, List.replicate_succ, List.set_cons_zero, List.append_assoc]
        rfl
      have ih' := ih (i + 1) (acc ++ [q]) rp (Q ++ [(acc.length : Int)]) (R.set i (acc.length : Int)) r (by omega) (by simp [hq]) hset (by rw [List.append_assoc, List.length_append]; exact hr) (by rw [List.append_assoc]; exact hp) (by simp) (by simp; omega)
      have em : (R.set i (acc.length : Int)).map iC = (R.map iC).set i [.sc (.int .i64 (acc.length : Int))] := by rw [List.map_set]
      rw [em] at ih'
      simp only [Int.natCast_add, Int.cast_ofNat_Int] at ih'
      try simp at ih'
      simp [h0, hx, hc, hb2, hw, hl, hl2, hg, hgm, hsm, fillU, adsOf, List.mapM_cons, ih', hSi, hSi2, hne1, hSl]
theorem l130N (d : Nat) (D : Dr) (rest : List LV) (hb : BdN D) (S : List Int) (hSl : S.length = D.pts.length) (hS : ∀ j : Nat, j < D.pts.length → S[j]? = some (ifb (us D j) (j : Int) (-1))) : ∀ (n i : Nat) (Q R : List Int), n + i = D.pts.length → Q.length = i → R = Q ++ List.replicate n 0 → kpF D n i = [] →
    clC [0, 1, 4, 5, 6] [4] (blk 0 (lp (evC (ev (d + 2)) b130_1) (clean [0, 1, 4, 5, 6, 7]) ⟨lookS [(0, .rp (dR D rest)), (1, .ro 1 (S.map iC)), (4, .bp (.sl 4) 0), (5, .bp (.sl 5) 0), (6, .rf (.sl 6) none 0 D.pts.length), (7, I i)], lookM [((.sl 4), some (.box z4)), ((.sl 5), some (.box [I D.w, I D.h, .nl, .nl])), ((.sl 6), some (.arr 2 1 (R.map iC)))]⟩)) =
      some (.nm, ⟨lookS [(0, .rp (dR D rest)), (1, .ro 1 (S.map iC)), (4, .bp (.sl 4) 0), (5, .bp (.sl 5) 0), (6, .rf (.sl 6) none 0 D.pts.length)], lookM [((.sl 4), some (.box z4)), ((.sl 5), some (.box [I D.w, I D.h, .nl, .nl])), ((.sl 6), some (.arr 2 1 (R.map iC)))]⟩) := by
  intro n
  induction n with
  | zero =>
    intro i Q R hi hq hR hp
    have h0 : ¬ (i : Int) < (D.pts.length : Int) := by omega
    rw [lp_step]
    simp [h0]
  | succ n ih =>
    intro i Q R hi hq hR hp
    have hlt : i < D.pts.length := by omega
    have h0 : (i : Int) < (D.pts.length : Int) := by omega
    have hpb := hb.pts
    obtain ⟨q, hx⟩ := get_lt hlt
    have hw := wrap_nat (i := i) (by simp only [big] at hpb; omega)
    have hl : R.length = D.pts.length := by rw [hR, List.length_append, List.length_replicate]; omega
    have hl2 : (i : Int) < (R.length : Int) := by omega
    have hg : R[i]? = some 0 := by rw [hR, List.getElem?_append_right (by omega), hq, Nat.sub_self]; rfl
    have hgm : (R.map iC)[i]? = some (iC 0) := by rw [List.getElem?_map, hg]; rfl
    have hsm : ∀ a, ((R.map iC).set i a)[i]? = some a := fun a => List.getElem?_set_self (by rw [List.length_map]; omega)
    have hc := hS i hlt
    have hSi : i < S.length := by omega
    have hSi2 : (i : Int) < (S.length : Int) := by omega
    have hne1 : ¬ (-1 : Int) = (i : Int) := by omega
    rw [lp_step]
    cases hs : us D i
    case true => simp [kpF, hs] at hp
    rw [hs] at hc
    have ih' := ih (i + 1) (Q ++ [0]) R (by omega) (by simp; omega) (by rw [hR, List.replicate_succ, List.append_assoc]; rfl) (by simp only [kpF, hs, ifb_f] at hp; exact hp)
    simp only [Int.natCast_add, Int.cast_ofNat_Int] at ih'
    try simp at ih'
    simp [h0, hx, hc, hw, hl, hl2, hg, hgm, hsm, fillU, adsOf, List.mapM_cons, ih', hSi, hSi2, hne1, hSl]
theorem l130C (d : Nat) (D : Dr) (rest : List LV) (hb : BdN D) (S : List Int) (hSl : S.length = D.pts.length) (hS : ∀ j : Nat, j < D.pts.length → S[j]? = some (ifb (us D j) (j : Int) (-1))) : ∀ (n i : Nat) (rp : List Pt) (Q R r : List Int), n + i = D.pts.length → Q.length = i → R = Q ++ List.replicate n 0 → Q ++ plF D n i 0 = r → kpF D n i = rp → rp ≠ [] →
    clC [0, 1, 4, 5, 6] [4] (blk 0 (lp (evC (ev (d + 2)) b130_1) (clean [0, 1, 4, 5, 6, 7]) ⟨lookS [(0, .rp (dR D rest)), (1, .ro 1 (S.map iC)), (4, .bp (.sl 4) 0), (5, .bp (.sl 5) 0), (6, .rf (.sl 6) none 0 D.pts.length), (7, I i)], lookM [((.sl 4), some (.box z4)), ((.sl 5), some (.box [I D.w, I D.h, .nl, .nl])), ((.sl 6), some (.arr 2 1 (R.map iC)))]⟩)) =
      some (.nm, ⟨lookS [(0, .rp (dR D rest)), (1, .ro 1 (S.map iC)), (4, .bp (.sl 4) 0), (5, .bp (.sl 5) 0), (6, .rf (.sl 6) none 0 D.pts.length)], lookM [((.sl 4), some (.box z4)), ((.sl 5), some (.box [I D.w, I D.h, .rf (.ce 5 2) none 0 rp.length, .nl])), ((.sl 6), some (.arr 2 1 (r.map iC))), ((.ce 5 2), some (.arr 159 2 (rp.map pC)))]⟩) := by
  intro n
  induction n with
  | zero =>
    intro i rp Q R r hi hq hR hr hp hne
    exact absurd hp.symm hne
  | succ n ih =>
    intro i rp Q R r hi hq hR hr hp hne
    have hlt : i < D.pts.length := by omega
    have h0 : (i : Int) < (D.pts.length : Int) := by omega
    have hpb := hb.pts
    obtain ⟨q, hx⟩ := get_lt hlt
    have hpn := pn_get hx
    have hw := wrap_nat (i := i) (by simp only [big] at hpb; omega)
    have hb1 : 1 ≤ big := by simp [big]
    have hl : R.length = D.pts.length := by rw [hR, List.length_append, List.length_replicate]; omega
    have hl2 : (i : Int) < (R.length : Int) := by omega
    have hg : R[i]? = some 0 := by rw [hR, List.getElem?_append_right (by omega), hq, Nat.sub_self]; rfl
    have hgm : (R.map iC)[i]? = some (iC 0) := by rw [List.getElem?_map, hg]; rfl
    have hsm : ∀ a, ((R.map iC).set i a)[i]? = some a := fun a => List.getElem?_set_self (by rw [List.length_map]; omega)
    have hc := hS i hlt
    have hSi : i < S.length := by omega
    have hSi2 : (i : Int) < (S.length : Int) := by omega
    have hne1 : ¬ (-1 : Int) = (i : Int) := by omega
    rw [lp_step]
    cases hs : us D i
    · rw [hs] at hc
      have ih' := ih (i + 1) rp (Q ++ [0]) R r (by omega) (by simp; omega) (by rw [hR, List.replicate_succ, List.append_assoc]; rfl) (by simp only [plF, hs, ifb_f] at hr; rw [List.append_assoc]; exact hr) (by simp only [kpF, hs, ifb_f] at hp; exact hp) hne
      simp only [Int.natCast_add, Int.cast_ofNat_Int] at ih'
      try simp at ih'
      simp [h0, hx, hc, hw, hl, hl2, hg, hgm, hsm, fillU, adsOf, List.mapM_cons, ih', hSi, hSi2, hne1, hSl]
    · rw [hs] at hc
      simp only [plF, kpF, hs, ifb_t, hpn] at hr hp
      have hset : R.set i 0 = (Q ++ [0]) ++ List.replicate n 0 := by
        rw [hR, List.set_append_right _ _ (by omega), hq, Nat.sub_self, List.replicate_succ, List.set_cons_zero, List.append_assoc]
        rfl
      have key := l130A d D rest hb S hSl hS n (i + 1) [q] rp (Q ++ [0]) (R.set i 0) r (by omega) (by simp [hq]) hset (by rw [List.append_assoc]; exact hr) hp (by simp) (by simp)
      have em : (R.set i 0).map iC = (R.map iC).set i [.sc (.int .i64 0)] := by rw [List.map_set]
      rw [em] at key
      simp only [Int.natCast_add, Int.cast_ofNat_Int] at key
      try simp at key
      simp [h0, hx, hc, hb1, hw, hl, hl2, hg, hgm, hsm, fillU, adsOf, List.mapM_cons, key, hSi, hSi2, hne1, hSl]
end Go.Proofs.Ytejffoibihbnnaa.walkS
