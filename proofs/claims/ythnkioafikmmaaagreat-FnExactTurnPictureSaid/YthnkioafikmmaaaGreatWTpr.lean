/- The row TurnPicture; no conditions. -/
import Derived.Test.YthnkioafikmmaaaGreatWTpq
import Derived.Test.YthnkioafikmmaaaGreatWPx
namespace Go.Proofs.YthnkioafikmmaaaGreat.walkS
open Go Go.Proofs.YthnkioafikmmaaaGreat.Ev
set_option linter.unusedSimpArgs false
set_option linter.unusedVariables false
set_option maxHeartbeats 2000000
def tpOf (Q : Pi) (u : Int) : Option Pi × Int := ifb (okPi Q) (ifb (inR u 0 7) (some (tpQ Q u.toNat), 0) (none, 2)) (none, 1)
def oT : Option Pi → LV
  | none => .ag z5
  | some Q => .ag (qO Q (.ow 72 2 (Q.d.pts.map pC)) (fO Q.d.fcs) (.ow 61 3 (Q.vs.map vC)))
theorem pOk_in {w h : Int} {P : List Pt} (hw : w ≤ 20000) (hh : h ≤ 20000) : ∀ m i, pOk w h P m i = true → ∀ j, i ≤ j → j < i + m → inB (pn P j) := by
  intro m
  induction m with
  | zero => intro i _ j h1 h2; omega
  | succ m ih =>
    intro i hp j h1 h2
    simp only [pOk] at hp
    cases ha : (inR (pn P i).1 0 w && inR (pn P i).2 0 h)
    · exfalso
      rw [Bool.and_eq_false_iff] at ha
      rcases ha with ha | ha <;> simp [ha] at hp
    · have ha' := ha
      simp only [Bool.and_eq_true, inR, decide_eq_true_eq] at ha'
      by_cases e : j = i
      · subst e
        unfold inB
        omega
      · refine ih (i + 1) ?_ j (by omega) (by omega)
        rw [Bool.and_eq_true] at ha
        simp [ha.1, ha.2] at hp
        revert hp
        cases dupF P (pn P i) i 0 <;> simp
theorem tp_in {Q : Pi} (h : okPi Q = true) : inB (Q.d.w, Q.d.h) ∧ (∀ p ∈ Q.d.pts, inB p) ∧ (∀ f ∈ Q.d.fcs, f.2 ≠ [] ∧ f.2.length ≤ 1000) ∧ (∀ v ∈ Q.vs, 0 ≤ v.2.2 ∧ v.2.2 ≤ 179) ∧ Q.vs.length = Q.d.fcs.length := by
  simp only [okPi, Bool.and_eq_true, decide_eq_true_eq] at h
  obtain ⟨ho, hl, hok⟩ := h
  have hr := drOk_ring ho
  simp only [drOk, Bool.and_eq_true, decide_eq_true_eq, inR] at ho
  obtain ⟨h1, h2, h3, h4, _⟩ := ho
  refine ⟨by unfold inB; omega, fun p hp => ?_, fun f hf => ?_, fun v hv => ?_, hl⟩
  · obtain ⟨j, hj⟩ := List.getElem?_of_mem hp
    have := pOk_in (by omega) (by omega) _ _ h4 j (by omega) (by have := (List.getElem?_eq_some_iff.1 hj).1; omega)
    rwa [pn_get hj] at this
  · have := hr f hf
    have h5 := this.pos
    have h6 := this.top
    exact ⟨fun e => by rw [e] at h5; simp at h5, by omega⟩
  · have := List.all_eq_true.1 hok v hv
    unfold okVn okS inR at this
    simp only [Bool.and_eq_true, decide_eq_true_eq] at this
    exact this.2.2.2
theorem tm_two (u : Nat) : (u : Int).tmod 2 = ((u % 2 : Nat) : Int) := by
  rw [Int.tmod_eq_emod_of_nonneg (by omega)]
  omega
theorem r41n (d : Nat) (Q : Pi) (hb : BdD Q.d) (hV : Q.vs = []) (hF : Q.d.fcs = []) : ev (d + 3) 41 [.ag (qV Q)] = some (.ag (qO Q (.ow 72 2 (Q.d.pts.map pC)) .nl (.ow 61 3 [])), []) := by
  obtain ⟨⟨w, h, pts, fcs⟩, vs⟩ := Q
  simp only at hF hV hb
  subst hF
  subst hV
  rw [s41 (d + 2) _ rfl]
  have c1 := r73 d ⟨w, h, pts, []⟩ hb
  have c2 := rClV (d + 1) [] (by simp [big])
  simp at c2
  simp [fO, dV, dA, dR] at c1
  simp [c1, c2, qV]
theorem r36n (d : Nat) (Q : Pi) (hb : BdD Q.d) (hV : Q.vs = []) (hF : Q.d.fcs = []) : ev (d + 3) 36 [.rp (qV Q)] = some (.ag (qO Q (.ow 72 2 (Q.d.pts.map pC)) .nl (.ow 61 3 [])), []) := by
  obtain ⟨⟨w, h, pts, fcs⟩, vs⟩ := Q
  simp only at hF hV hb
  subst hF
  subst hV
  rw [s36 (d + 2) _ rfl]
  have c1 := r72 d ⟨w, h, pts, []⟩ [.ro 3 []] hb
  simp [fO, dV, dA, dR] at c1
  have hz : (0 : Nat) ≤ big := Nat.zero_le _
  simp [c1, hz, qV]
theorem l16_2n (d : Nat) (u : Nat) (w h : Int) (np : Nat) (PR : List (List Cell)) (nv : Nat) (VR : List (List Cell)) :
    clC [1, 4, 6] [4, 5] (blk 3 (lp (evC (ev (d + 1)) b16_2) (clean [1, 4, 6, 7, 92, 93]) ⟨lookS [(1, I u), (4, .bp (.sl 4) 0), (6, .bp (.sl 6) 0), (7, .bp (.sl 6) 0), (92, I 0), (93, I 0)], lookM [((.sl 4), some (.box z5)), ((.sl 6), some (.box [I w, I h, .rf (.ce 6 2) none 0 np, .nl, .rf (.ce 6 4) none 0 nv])), ((.ce 6 2), some (.arr 72 2 PR)), ((.ce 6 4), some (.arr 61 3 VR))]⟩)) =
      some (.nm, ⟨lookS [(1, I u), (4, .bp (.sl 4) 0), (6, .bp (.sl 6) 0)], lookM [((.sl 4), some (.box z5)), ((.sl 6), some (.box [I w, I h, .rf (.ce 6 2) none 0 np, .nl, .rf (.ce 6 4) none 0 nv])), ((.ce 6 2), some (.arr 72 2 PR)), ((.ce 6 4), some (.arr 61 3 VR))]⟩) := by
  rw [lp_step]
  simp
theorem l15_2n (d : Nat) (Q : Pi) (u : Nat) (w h : Int) (np : Nat) (PR : List (List Cell)) (nv : Nat) (VR : List (List Cell)) :
    clC [4, 6] [4, 5] (blk 2 (lp (evC (ev (d + 1)) b15_2) (clean [1, 2, 4, 6, 10]) ⟨lookS [(1, I u), (2, .bp (.sl 2) 0), (4, .bp (.sl 4) 0), (6, .bp (.sl 6) 0), (10, I 0)], lookM [((.sl 2), some (.box (qV Q))), ((.sl 4), some (.box z5)), ((.sl 6), some (.box [I w, I h, .rf (.ce 6 2) none 0 np, .nl, .rf (.ce 6 4) none 0 nv])), ((.ce 6 2), some (.arr 72 2 PR)), ((.ce 6 4), some (.arr 61 3 VR))]⟩)) =
      some (.nm, ⟨lookS [(4, .bp (.sl 4) 0), (6, .bp (.sl 6) 0)], lookM [((.sl 4), some (.box z5)), ((.sl 6), some (.box [I w, I h, .rf (.ce 6 2) none 0 np, .nl, .rf (.ce 6 4) none 0 nv])), ((.ce 6 2), some (.arr 72 2 PR)), ((.ce 6 4), some (.arr 61 3 VR))]⟩) := by
  rw [lp_step]
  simp
theorem fO_map {F : List Fc} (g : Fc → Fc) (h : F ≠ []) : fO (F.map g) = .ow 77 2 ((F.map g).map fC) := fO_ne (by simpa using h)
theorem r16 (d : Nat) (Q : Pi) (hb : BdN Q.d) (hv : Q.vs.length ≤ big) (u : Int) : ev (d + 9) 16 [.ag (qV Q), I u] = some (.tu [oT (tpOf Q u).1, I (tpOf Q u).2], []) := by
  rw [s16 (d + 8) _ rfl]
  have c1 := r29 d Q hb hv
  have c2 := r40 (d + 7) u 0 7
  unfold tpOf
  cases h1 : okPi Q
  · rw [h1] at c1
    simp [c1, oT]
  rw [h1] at c1
  cases h2 : inR u 0 7
  · rw [h2] at c2
    simp [c1, c2, oT]
  rw [h2] at c2
  obtain ⟨b1, b2, b3, b4, b5⟩ := tp_in h1
  have h3 := h2
  simp only [inR, Bool.and_eq_true, decide_eq_true_eq] at h3
  obtain ⟨n, rfl⟩ : ∃ n : Nat, u = (n : Int) := ⟨u.toNat, by omega⟩
  have hn : n ≤ 7 := by omega
  have c4 := r42 (d + 6) (Q.d.w, Q.d.h) n hn b1
  have e2 := tm_two n
  simp only [ifb_t, Int.toNat_natCast, tpQ, oT]
  obtain ⟨F, hF'⟩ : ∃ F, F = trP n (Q.d.w, Q.d.h) := ⟨_, rfl⟩
  rw [← hF'] at c4 ⊢
  obtain ⟨Pz, hPz⟩ : ∃ Pz, Q.d.pts.map (tpP n F) = Pz := ⟨_, rfl⟩
  obtain ⟨Vz, hVz⟩ : ∃ Vz, Q.vs.map (tpV n) = Vz := ⟨_, rfl⟩
  have lP : Pz.length = Q.d.pts.length := by rw [← hPz, List.length_map]
  have lV : Vz.length = Q.vs.length := by rw [← hVz, List.length_map]
  by_cases hF : Q.d.fcs = []
  · have hV : Q.vs = [] := List.eq_nil_of_length_eq_zero (by rw [b5, hF]; rfl)
    have hVz0 : Vz = [] := by rw [← hVz, hV]; rfl
    subst hVz0
    have c3 := r41n (d + 5) Q hb.toBdD hV hF
    have k1 := fun w h => l16n (d + 6) Q n hn F b2 Pz hPz hb.pts w h 0 [] Q.d.pts.length 0 [] Q.d.pts (by omega) rfl rfl rfl
    have k2 := fun w h => l16_2n (d + 7) n w h Q.d.pts.length (Pz.map pC) 0 []
    have k3 := fun w h => l16_3n (d + 6) n hn [] [] rfl (Nat.zero_le _) (fun v hv => by simp at hv) w h Q.d.pts.length (Pz.map pC) 0 0 (by simp)
    simp [gxL] at k3
    simp at k1 k2 c4
    rw [hPz, hVz, hF]
    have q1 := k1 Q.d.w Q.d.h
    by_cases hp : n % 2 = 1
    · have hp2 : ((n % 2 : Nat) : Int) = 1 := by omega
      simp at hp2
      simp [c1, c2, c3, c4, e2, hp, hp2, q1, k2, k3, fO, lP]
    · have hp2 : ¬ ((n % 2 : Nat) : Int) = 1 := by omega
      simp at hp2
      simp [c1, c2, c3, c4, e2, hp, hp2, q1, k2, k3, fO, lP]
  · have c3 := r41 (d + 5) Q hb.toBdD hv hF
    have fe := fO_map (tpF n) hF
    obtain ⟨Fz, hFz⟩ : ∃ Fz, Q.d.fcs.map (tpF n) = Fz := ⟨_, rfl⟩
    have lF : Fz.length = Q.d.fcs.length := by rw [← hFz, List.length_map]
    have k1 := l16 (d + 6) Q n hn F b2 Pz hPz hb.pts Q.d.w Q.d.h Q.d.fcs.length (Q.d.fcs.map fC) Q.vs.length (Q.vs.map vC) Q.d.pts.length 0 [] Q.d.pts (by omega) rfl rfl rfl
    have k2 := fun w h => l16_2 (d + 7) n Q.d.fcs Fz hFz hb.fcs b3 w h Q.d.pts.length (Pz.map pC) Q.vs.length (Q.vs.map vC) Q.d.fcs.length 0 (by omega)
    have k3 := fun w h => l16_3 (d + 6) n hn Q.vs Vz hVz hv b4 w h Q.d.pts.length (Pz.map pC) Q.d.fcs.length (Fz.map fC) Q.vs.length 0 (by omega)
    simp only [gxL_zero] at k2 k3
    rw [hFz] at fe
    simp at k1 k2 k3 c4
    rw [hPz, hVz, hFz, fe]
    by_cases hp : n % 2 = 1
    · have hp2 : ((n % 2 : Nat) : Int) = 1 := by omega
      simp at hp2
      simp [c1, c2, c3, c4, e2, hp, hp2, k1, k2, k3, lP, lF, lV]
    · have hp2 : ¬ ((n % 2 : Nat) : Int) = 1 := by omega
      simp at hp2
      simp [c1, c2, c3, c4, e2, hp, hp2, k1, k2, k3, lP, lF, lV]
theorem r35 (d : Nat) (u : Int) : ev (d + 2) 35 [I u] = some (B (inR u 0 7), []) := by
  rw [s35 (d + 1) _ rfl]
  simp [r71]
theorem r15 (d : Nat) (Q : Pi) (hb : BdN Q.d) (hv : Q.vs.length ≤ big) (u : Int) : ev (d + 9) 15 [.ag (qV Q), I u] = some (.tu [oT (tpOf Q u).1, I (tpOf Q u).2], []) := by
  rw [s15 (d + 8) _ rfl]
  have c1 := r26 (d + 1) Q hb hv
  have c2 := r35 (d + 6) u
  unfold tpOf
  cases h1 : okPi Q
  · rw [h1] at c1
    simp [c1, oT]
  rw [h1] at c1
  cases h2 : inR u 0 7
  · rw [h2] at c2
    simp [c1, c2, oT]
  rw [h2] at c2
  obtain ⟨b1, b2, b3, b4, b5⟩ := tp_in h1
  have h3 := h2
  simp only [inR, Bool.and_eq_true, decide_eq_true_eq] at h3
  obtain ⟨n, rfl⟩ : ∃ n : Nat, u = (n : Int) := ⟨u.toNat, by omega⟩
  have hn : n ≤ 7 := by omega
  have c4 := r37 (d + 7) (Q.d.w, Q.d.h) n hn b1
  have e2 := tm_two n
  simp only [ifb_t, Int.toNat_natCast, tpQ, oT]
  obtain ⟨F, hF'⟩ : ∃ F, F = trP n (Q.d.w, Q.d.h) := ⟨_, rfl⟩
  rw [← hF'] at c4 ⊢
  obtain ⟨Pz, hPz⟩ : ∃ Pz, Q.d.pts.map (tpP n F) = Pz := ⟨_, rfl⟩
  obtain ⟨Vz, hVz⟩ : ∃ Vz, Q.vs.map (tpV n) = Vz := ⟨_, rfl⟩
  have lP : Pz.length = Q.d.pts.length := by rw [← hPz, List.length_map]
  have lV : Vz.length = Q.vs.length := by rw [← hVz, List.length_map]
  by_cases hF : Q.d.fcs = []
  · have hV : Q.vs = [] := List.eq_nil_of_length_eq_zero (by rw [b5, hF]; rfl)
    have hVz0 : Vz = [] := by rw [← hVz, hV]; rfl
    subst hVz0
    have c3 := r36n (d + 5) Q hb.toBdD hV hF
    have k1 := fun w h => l15n (d + 6) Q n hn F b2 Pz hPz hb.pts w h 0 [] Q.d.pts.length 0 [] Q.d.pts (by omega) rfl rfl rfl
    have k2 := fun w h => l15_2n (d + 7) Q n w h Q.d.pts.length (Pz.map pC) 0 []
    simp at k1 k2 c4
    rw [hPz, hVz, hF]
    by_cases hp : n % 2 = 1
    · have hp2 : ((n % 2 : Nat) : Int) = 1 := by omega
      simp at hp2
      simp [c1, c2, c3, c4, e2, hp, hp2, k1, k2, fO, lP]
    · have hp2 : ¬ ((n % 2 : Nat) : Int) = 1 := by omega
      simp at hp2
      simp [c1, c2, c3, c4, e2, hp, hp2, k1, k2, fO, lP]
  · have c3 := r36 (d + 5) Q hb.toBdD hv hF
    have fe := fO_map (tpF n) hF
    obtain ⟨Fz, hFz⟩ : ∃ Fz, Q.d.fcs.map (tpF n) = Fz := ⟨_, rfl⟩
    have lF : Fz.length = Q.d.fcs.length := by rw [← hFz, List.length_map]
    have k1 := fun w h => l15 (d + 6) Q n hn F b2 Pz hPz hb.pts w h Q.d.fcs.length (Q.d.fcs.map fC) Q.vs.length (Q.vs.map vC) Q.d.pts.length 0 [] Q.d.pts (by omega) rfl rfl rfl
    have k2 := fun w h => l15_2 (d + 7) Q n Fz hFz Vz hVz hn hb.fcs b5 b3 b4 w h Q.d.pts.length (Pz.map pC) Q.vs.length b5 Q.d.fcs.length 0 (by omega)
    simp only [gxL_zero] at k2
    rw [hFz] at fe
    simp at k1 k2 c4
    rw [hPz, hVz, hFz, fe]
    by_cases hp : n % 2 = 1
    · have hp2 : ((n % 2 : Nat) : Int) = 1 := by omega
      simp at hp2
      simp [c1, c2, c3, c4, e2, hp, hp2, k1, k2, lP, lF, lV]
    · have hp2 : ¬ ((n % 2 : Nat) : Int) = 1 := by omega
      simp at hp2
      simp [c1, c2, c3, c4, e2, hp, hp2, k1, k2, lP, lF, lV]
/-! ### pictures without faces -/
theorem shut_none : shut ([] : List (List Cell)) = [] := rfl
abbrev qN (Q : Pi) (x y : LV) : List LV := [I Q.d.w, I Q.d.h, x, .nl, y]
theorem r11n (d : Nat) (Q : Pi) (hb : BdD Q.d) : ev (d + 5) 11 [.ag (qN Q (.ro 2 (Q.d.pts.map pC)) (.ro 3 [])), .ag (qN Q (.ro 2 (Q.d.pts.map pC)) (.ro 3 []))] = some (B true, []) := by
  rw [s11 (d + 4) _ rfl]
  have h1 := r22n d Q.d hb.pts
  have h2 := r32 (d + 2) [] (Nat.zero_le _)
  simp at h2
  simp [h1, h2]
theorem start_picn (Q : Pi) (e e'' : Nat) (r r'' : List (List Cell)) (v : Value) : startW [.ag (qN Q (.ow e 2 r) (.ow e'' 3 r'')), .sc v] = some ([.ag (qN Q (.rf (mk0 2) none 0 r.length) (.rf (mk0 4) none 0 r''.length)), .sc v], ⟨startS [.ag (qN Q (.rf (mk0 2) none 0 r.length) (.rf (mk0 4) none 0 r''.length)), .sc v], updM (updM noMem (mk0 2) (some (.arr e 2 r))) (mk0 4) (some (.arr e'' 3 r''))⟩) := by
  rw [startW_eq («as» := [.ag (qN Q (.rf (mk0 2) none 0 r.length) (.rf (mk0 4) none 0 r''.length)), .sc v]) (l := [(mk0 2, .arr e 2 r), (mk0 4, .arr e'' 3 r'')]) (by simp [openV, trav, travT, trav1, travL, opn, partsT, parts, parts1, partsL, thing, List.filterMap])]
  rfl
set_option maxRecDepth 100000 in
theorem v12xn (d : Nat) (Q : Pi) (hb : BdD Q.d) (hF : Q.d.fcs = []) (hV : Q.vs = []) : ev (d + 5) (wrN + 12) [.ag (qN Q (.ow 72 2 (Q.d.pts.map pC)) (.ow 61 3 [])), I 1] =
    some (I (mkQ Q), [.ag (qN Q (.ow 72 2 (mkPts Q.d)) (.ow 61 3 [])), I 1]) := by
  rw [v12 (d + 4) (start_picn Q _ _ _ _ _) rfl]
  have c1 := v23xn d Q.d hb hF
  have ht : totF Q.d.fcs ≤ 1000000000000000000 := by rw [hF]; exact Nat.zero_le _
  have c2 := v33x (d + 2) [] (Nat.zero_le _) (mkD Q.d) (mkD_in hb ht)
  have e : ((mkQ Q : Nat) : Int) = (mkD Q.d : Int) := by unfold mkQ; rw [hV]; simp
  simp [markL] at c2
  simp [c1, c2, e]
theorem r17n (d : Nat) (Q : Pi) (hb : BdD Q.d) (hF : Q.d.fcs = []) (hV : Q.vs = []) : ev (d + 5) 17 [.ag (qN Q (.ro 2 (mkPts Q.d)) (.ro 3 [])), I 1] = some (I (mkQ Q), []) := by
  rw [s17 (d + 4) _ rfl]
  have c1 := r24n d Q.d hb hF
  have ht : totF Q.d.fcs ≤ 1000000000000000000 := by rw [hF]; exact Nat.zero_le _
  have c2 := r45 (d + 2) 0 (Nat.zero_le _) (mkD Q.d) (mkD_in hb ht)
  have e : ((mkQ Q : Nat) : Int) = (mkD Q.d : Int) := by unfold mkQ; rw [hV]; simp
  have n1 : ¬ (mkD Q.d : Int) < 0 := by omega
  simp [markL] at c2
  simp [c1, c2, e, n1]
theorem tpOf_b {Q : Pi} (hb : BdN Q.d) (hv : Q.vs.length ≤ big) (u : Int) {T : Pi} (h : (tpOf Q u).1 = some T) : BdN T.d ∧ T.vs.length ≤ big ∧ totF T.d.fcs ≤ 100000 ∧ T.vs.length = T.d.fcs.length := by
  unfold tpOf at h
  cases h1 : okPi Q
  · rw [h1] at h; cases h
  rw [h1] at h
  cases h2 : inR u 0 7
  · rw [h2] at h; cases h
  rw [h2] at h
  simp only [ifb_t, Option.some.injEq] at h
  subst h
  obtain ⟨_, _, b3, _, b5⟩ := tp_in h1
  have tl : ∀ R : List Int, (tpR u.toNat R).length = R.length := by
    intro R
    unfold tpR
    split
    · cases R <;> simp
    · rfl
  have hf24 : Q.d.fcs.length ≤ 24 := by
    simp only [okPi, Bool.and_eq_true, decide_eq_true_eq, drOk] at h1
    exact h1.1.2.2.2.2.1
  refine ⟨⟨⟨by show (Q.d.pts.map _).length ≤ big; rw [List.length_map]; exact hb.pts, by show (Q.d.fcs.map _).length ≤ big; rw [List.length_map]; exact hb.fcs, fun f hf => ?_⟩, fun f hf => ?_⟩, by show (Q.vs.map _).length ≤ big; rw [List.length_map]; exact hv, ?_, by show (Q.vs.map _).length = (Q.d.fcs.map _).length; rw [List.length_map, List.length_map]; exact b5⟩
  · obtain ⟨g, hg, rfl⟩ := List.mem_map.1 hf
    show (tpR u.toNat g.2).length ≤ big
    rw [tl]
    exact hb.ring g hg
  · obtain ⟨g, hg, rfl⟩ := List.mem_map.1 hf
    exact hb.name g hg
  · have : ∀ l : List Fc, (∀ f ∈ l, f.2.length ≤ 1000) → totF (l.map (tpF u.toNat)) ≤ 1001 * l.length := by
      intro l
      induction l with
      | nil => intro _; exact Nat.le_refl _
      | cons f l ih =>
        intro h
        have h1 := h f (by simp)
        have h2 := ih fun g hg => h g (by simp [hg])
        have h3 := tl f.2
        simp only [List.map_cons, totF, List.length_cons]
        have h4 : (tpF u.toNat f).2.length = f.2.length := h3
        omega
    have := this Q.d.fcs fun f hf => (b3 f hf).2
    show totF (Q.d.fcs.map (tpF u.toNat)) ≤ 100000
    omega
set_option maxHeartbeats 4000000 in
theorem r4 (d : Nat) (p : Pin) {x y z : LV} (w : WfP p x y z) (u : Int) : ev (d + 10) 4 [.ag (pA p x y z), I u] = some (B true, []) := by
  rw [s4 (d + 9) _ rfl]
  obtain ⟨k1, h1, s1⟩ := r6 (d + 4) p w 1048576 (by omega)
  obtain ⟨bx, ex⟩ := SV.sv w.x
  obtain ⟨by', ey⟩ := SV.sv w.y
  obtain ⟨bz, ez⟩ := SV.sv w.z
  by_cases g1 : k1 < 0
  · subst ex ey ez
    simp [h1, g1]
  obtain ⟨q1, bp⟩ := s1 (by omega)
  have t1 := r8 (d + 4) p.w p.h p.pts p.fcs p.vs bp.pts bp.fcs (fun q hq => ⟨bp.ring q hq, (w.face q hq).nil⟩) bp.vs w.x w.y w.z
  have f1 := r15 d (pOf p) bp.n bp.vs u
  have f2 := r16 d (pOf p) bp.n bp.vs u
  have e1 := r11 (d + 4) (pOf p) bp.d bp.vs
  obtain ⟨km, ps, rows, vrs, hps, hrows, hvrs, hm⟩ := v12' (pOf p) bp.d bp.vs
  have hm := hm (d + 4)
  have hkm : ¬ (km : Int) < 0 := by omega
  have n1 : p.fcs.length = (p.fcs.map (·.1)).length := by simp
  have hbd := fun T => tpOf_b bp.n bp.vs u (T := T)
  generalize tpOf (pOf p) u = oc at f1 f2 hbd
  obtain ⟨o, c⟩ := oc
  simp only [pOf, qV, qO] at f1 f2 e1 hm hps hrows hvrs
  generalize p.fcs.map (·.1) = lp at t1 f1 f2 e1 n1 hm hrows
  cases o with
  | none =>
    have q2 := r11z (d + 4)
    have q3 := v12xz (d + 4)
    have q4 := r17z (d + 4)
    simp only [oT] at f1 f2
    subst ex ey ez
    cases bx <;> cases by' <;> cases bz <;> simp only [svV] at h1 t1 ⊢ <;> simp [h1, g1, t1, f1, f2, e1, q2, q3, q4, hm, hkm, hps, hrows, hvrs, n1]
  | some T =>
    obtain ⟨bT, bV, tT, lT⟩ := hbd T rfl
    have q5 : ¬ (mkQ T : Int) < 0 := by omega
    simp only [oT] at f1 f2
    by_cases hT : T.d.fcs = []
    · have hTV : T.vs = [] := List.eq_nil_of_length_eq_zero (by rw [lT, hT]; rfl)
      have q2 := r11n (d + 4) T bT.toBdD
      have q3 := v12xn (d + 4) T bT.toBdD hT hTV
      have q4 := r17n (d + 4) T bT.toBdD hT hTV
      rw [hT, hTV] at f1 f2
      simp [fO] at f1 f2
      subst ex ey ez
      cases bx <;> cases by' <;> cases bz <;> simp only [svV] at h1 t1 ⊢ <;> simp [h1, g1, t1, f1, f2, e1, q2, q3, q4, q5, hm, hkm, hps, hrows, hvrs, n1, shut_none]
    · have q2 := r11 (d + 4) T bT.toBdD bV
      have q3 := v12x (d + 4) T bT.toBdD bV (by omega)
      have q4 := r17 (d + 4) T bT.toBdD bV (by omega)
      rw [fO_ne hT] at f1 f2
      subst ex ey ez
      cases bx <;> cases by' <;> cases bz <;> simp only [svV] at h1 t1 ⊢ <;> simp [h1, g1, t1, f1, f2, e1, q2, q3, q4, q5, hm, hkm, hps, hrows, hvrs, n1]
end Go.Proofs.YthnkioafikmmaaaGreat.walkS
