/- Drawings that are answers: alike, marked, held; no conditions. -/
import Derived.Test.YthnkioafikmmaaaGreatWCp
import Derived.Test.YthnkioafikmmaaaGreatWVdn
namespace Go.Proofs.YthnkioafikmmaaaGreat.walkS
open Go Go.Proofs.YthnkioafikmmaaaGreat.Ev
set_option linter.unusedSimpArgs false
set_option linter.unusedVariables false
theorem lift_mIf (n k : Nat) : Ev.lift (markV mIV 1 k n) = markL mI 1 k n := lift_markV (fun _ => rfl) 1 n k
attribute [simp] lift_mIf
/-- how many numbers -/
def totF : List Fc → Nat
  | [] => 0
  | q :: l => (1 + q.2.length) + totF l
/-- the lists, marked from k on -/
noncomputable def mkFa (o : Bool) : List Fc → Nat → List (List Cell)
  | [], _ => []
  | q :: l, k => [.sc (.string (mtx k)), .sl o 2 1 (markV mIV 1 (k + 1) q.2.length)] :: mkFa o l (k + (1 + q.2.length))
theorem mkFa_len (o : Bool) : ∀ (l : List Fc) (k : Nat), (mkFa o l k).length = l.length := by
  intro l
  induction l with
  | nil => intro k; rfl
  | cons q l ih => intro k; simp [mkFa, ih]
theorem shut_mkFa (o : Bool) : ∀ (l : List Fc) (k : Nat), shut (mkFa o l k) = mkFa false l k := by
  intro l
  induction l with
  | nil => intro k; rfl
  | cons q l ih =>
    intro k
    have := ih (k + (1 + q.2.length))
    simp only [shut] at this ⊢
    simp only [mkFa, List.map_cons, this]
    rfl
theorem mkFa_take (o : Bool) (l : List Fc) (k : Nat) : (mkFa o l k).take l.length = mkFa o l k := List.take_of_length_le (by rw [mkFa_len]; exact Nat.le_refl _)
attribute [simp] mkFa_len shut_mkFa mkFa_take
theorem mkFa_app (o : Bool) (k : Nat) : ∀ (l l' : List Fc) (k : Nat), mkFa o (l ++ l') k = mkFa o l k ++ mkFa o l' (k + totF l) := by
  intro l l'
  induction l with
  | nil => intro k; rfl
  | cons q l ih => intro k; simp [mkFa, totF, ih, Nat.add_assoc]
theorem totF_app : ∀ (l l' : List Fc), totF (l ++ l') = totF l + totF l' := by
  intro l l'
  induction l with
  | nil => simp [totF]
  | cons q l ih => simp [totF, ih, Nat.add_assoc]
theorem totF_take {l : List Fc} {i : Nat} {q : Fc} (h : l[i]? = some q) : totF (l.take (i + 1)) = totF (l.take i) + (1 + q.2.length) := by
  rw [List.take_add_one, h, totF_app]
  simp [totF]
theorem totF_le : ∀ (l : List Fc) (i : Nat), totF (l.take i) ≤ totF l := by
  intro l
  induction l with
  | nil => intro i; simp [totF]
  | cons q l ih =>
    intro i
    cases i with
    | zero => simp [totF]
    | succ i => have := ih i; simp only [List.take_succ_cons, totF]; omega
noncomputable def mfF (l : List Fc) (k i : Nat) : List (List Cell) := mkFa true (l.take i) k ++ (l.drop i).map fC
section
variable {l : List Fc} {k i : Nat} {q : Fc}
theorem mfF_zero : l.map fC = mfF l k 0 := by simp [mfF, mkFa]
theorem mfF_end : mfF l k l.length = mkFa true l k := by simp [mfF]
theorem mfF_len (h : i ≤ l.length) : (mfF l k i).length = l.length := by simp [mfF, mkFa_len]; omega
theorem mfF_get (h : l[i]? = some q) : (mfF l k i)[i]? = some (fC q) := by
  have hi : i < l.length := (List.getElem?_eq_some_iff.1 h).1
  unfold mfF
  rw [List.getElem?_append_right (by rw [mkFa_len]; simp; omega), mkFa_len, List.length_take, Nat.min_eq_left (by omega), Nat.sub_self]
  simp [h]
theorem mfF_set (h : l[i]? = some q) : (mfF l k i).set i [.sc (.string (mtx (k + totF (l.take i)))), .sl true 2 1 (markV mIV 1 (k + totF (l.take i) + 1) q.2.length)] = mfF l k (i + 1) := by
  have hi : i < l.length := (List.getElem?_eq_some_iff.1 h).1
  unfold mfF
  rw [List.set_append_right _ _ (by rw [mkFa_len]; simp; omega), mkFa_len, List.length_take, Nat.min_eq_left (by omega), Nat.sub_self, drop_get h, List.map_cons, List.set_cons_zero, List.take_add_one, h, mkFa_app true 0, List.append_assoc]
  rfl
end
theorem mkFa_get (o : Bool) : ∀ (l : List Fc) (k i : Nat) (q : Fc), l[i]? = some q → (mkFa o l k)[i]? = some [.sc (.string (mtx (k + totF (l.take i)))), .sl o 2 1 (markV mIV 1 (k + totF (l.take i) + 1) q.2.length)] := by
  intro l
  induction l with
  | nil => intro k i q h; simp at h
  | cons p l ih =>
    intro k i q h
    cases i with
    | zero => simp at h; subst h; simp [mkFa, totF]
    | succ i =>
      simp only [List.getElem?_cons_succ] at h
      have := ih (k + (1 + p.2.length)) i q h
      simp only [mkFa, List.getElem?_cons_succ, this, List.take_succ_cons, totF, Nat.add_assoc]
theorem l59x (d : Nat) (l : List Fc) (k : Nat) (h1 : 1 ≤ k) (hl : l.length ≤ big) (hb : k + totF l ≤ 4000000000000000000) : ∀ (n i : Nat), n + i = l.length →
    clC [1, 100000] [4, 100000] (blk 0 (lp (evC (ev (d + 2)) b59_1) (clean [0, 1, 5, 100000]) ⟨lookS [(0, .rf (.sl 0) none 0 l.length), (1, I (k + (totF (l.take i) : Int))), (5, I i), (100000, .rf (.sl 0) none 0 l.length)], lookM [(.sl 0, some (.arr 77 2 (mfF l k i)))]⟩)) =
      some (.nm, ⟨lookS [(1, I (k + (totF l : Int))), (100000, .rf (.sl 100000) none 0 l.length)], lookM [(.sl 100000, some (.arr 77 2 (mkFa true l k)))]⟩) := by
  intro n
  induction n with
  | zero =>
    intro i hi
    have he : i = l.length := by omega
    subst he
    rw [lp_step, mfF_end]
    simp
  | succ n ih =>
    intro i hi
    have hlt : i < l.length := by omega
    have h0 : (i : Int) < (l.length : Int) := by omega
    obtain ⟨q, hx⟩ := get_lt hlt
    have hs := mfF_set (k := k) hx
    have hg := mfF_get (k := k) hx
    have hl2 : ∀ a, ((mfF l k i).set i a)[i]? = some a := fun a => List.getElem?_set_self (by rw [mfF_len (by omega)]; exact hlt)
    have hw := wrap_nat (i := i) (by simp only [big] at hl; omega)
    have t1 := totF_take hx
    have t2 := totF_le l (i + 1)
    have m0 := r34 (d + 1) (k + totF (l.take i)) (by omega) (by omega)
    have v := v99' (d + 1) q.2 (k + totF (l.take i) + 1) (by omega)
    rw [show ((k + totF (l.take i) : Nat) : Int) = (k : Int) + (totF (l.take i) : Int) by omega] at m0
    rw [show ((k + totF (l.take i) + 1 : Nat) : Int) = (k : Int) + (totF (l.take i) : Int) + 1 by omega] at v
    have k1 : IntKind.i64.wrap ((k : Int) + (totF (l.take i) : Int) + 1) = (k : Int) + (totF (l.take i) : Int) + 1 := wrap_in (by omega)
    have e2 : (k : Int) + (totF (l.take (i + 1)) : Int) = (k : Int) + (totF (l.take i) : Int) + 1 + (q.2.length : Int) := by omega
    have ih' := ih (i + 1) (by omega)
    rw [← hs, e2] at ih'
    simp at ih' v
    rw [lp_step]
    simp [h0, hg, hl2, hw, m0, k1, v, bkC, ih']
theorem v59x (d : Nat) (l : List Fc) (k : Nat) (h1 : 1 ≤ k) (hl : l.length ≤ big) (hb : k + totF l ≤ 4000000000000000000) : ev (d + 3) (wrN + 59) [.ow 77 2 (l.map fC), I k] =
    some (I (k + (totF l : Int)), [.ow 77 2 (mkFa true l k), I k]) := by
  rw [v59 (d + 2) (start_ow _ _ 0 _ _) rfl]
  have key := l59x d l k h1 hl hb l.length 0 (by omega)
  rw [← mfF_zero] at key
  simp [totF] at key
  simp [key]
theorem v59xn (d : Nat) (k : Nat) : ev (d + 3) (wrN + 59) [.nl, I k] = some (I k, [.nl, I k]) := by
  rw [v59 (d + 2) (start_nl _) rfl]
  simp
  rw [lp_step]
  simp
theorem l61 (d : Nat) (l : List Fc) (k : Nat) (h1 : 1 ≤ k) (hl : l.length ≤ big) (hb : k + totF l ≤ 4000000000000000000) : ∀ (n i : Nat), n + i = l.length →
    clC [1] [4] (blk 0 (lp (evC (ev (d + 2)) b61_1) (clean [0, 1, 5]) ⟨lookS [(0, .ro 2 (mkFa false l k)), (1, I (k + (totF (l.take i) : Int))), (5, I i)], lookM []⟩)) =
      some (.nm, ⟨lookS [(1, I (k + (totF l : Int)))], lookM []⟩) := by
  intro n
  induction n with
  | zero =>
    intro i hi
    have he : i = l.length := by omega
    subst he
    rw [lp_step]
    simp
  | succ n ih =>
    intro i hi
    have hlt : i < l.length := by omega
    have h0 : (i : Int) < (l.length : Int) := by omega
    obtain ⟨q, hx⟩ := get_lt hlt
    have hg := mkFa_get false l k i q hx
    have hw := wrap_nat (i := i) (by simp only [big] at hl; omega)
    have t1 := totF_take hx
    have t2 := totF_le l (i + 1)
    have m0 := r34 (d + 1) (k + totF (l.take i)) (by omega) (by omega)
    have v := r100 (d + 1) q.2.length (k + totF (l.take i) + 1) (by omega) (x := .ro 1 (markL mI 1 (k + totF (l.take i) + 1) q.2.length)) (.inl rfl)
    rw [show ((k + totF (l.take i) : Nat) : Int) = (k : Int) + (totF (l.take i) : Int) by omega] at m0
    rw [show ((k + totF (l.take i) + 1 : Nat) : Int) = (k : Int) + (totF (l.take i) : Int) + 1 by omega] at v
    have k1 : IntKind.i64.wrap ((k : Int) + (totF (l.take i) : Int) + 1) = (k : Int) + (totF (l.take i) : Int) + 1 := wrap_in (by omega)
    have e2 : (k : Int) + (totF (l.take (i + 1)) : Int) = (k : Int) + (totF (l.take i) : Int) + 1 + (q.2.length : Int) := by omega
    have n0 : ¬ (k : Int) + (totF (l.take i) : Int) + 1 + (q.2.length : Int) < 0 := by omega
    have ih' := ih (i + 1) (by omega)
    rw [e2] at ih'
    simp at ih' v
    rw [lp_step]
    simp [h0, hg, hw, m0, k1, v, n0, ih']
theorem r61 (d : Nat) (l : List Fc) (k : Nat) (h1 : 1 ≤ k) (hl : l.length ≤ big) (hb : k + totF l ≤ 4000000000000000000) : ev (d + 3) 61 [.ro 2 (mkFa false l k), I k] = some (I (k + (totF l : Int)), []) := by
  rw [s61 (d + 2) _ rfl]
  have key := l61 d l k h1 hl hb l.length 0 (by omega)
  simp [totF] at key
  simp [key]
theorem r61n (d : Nat) (k : Nat) : ev (d + 3) 61 [.nl, I k] = some (I k, []) := by
  rw [s61 (d + 2) _ rfl]
  simp
  rw [lp_step]
  simp
theorem l60 (d m : Nat) (k : Nat) (hb : k + 2 * m ≤ 4611686018427387904) : ∀ (n i : Nat), n + i = m →
    clC [1] [4] (blk 0 (lp (evC (ev d) b60_1) (clean [0, 1, 5]) ⟨lookS [(0, .ro 2 (markL mP 2 k m)), (1, I (k + 2 * (i : Int))), (5, I i)], lookM []⟩)) =
      some (.nm, ⟨lookS [(1, I (k + 2 * (m : Int)))], lookM []⟩) := by
  intro n
  induction n with
  | zero =>
    intro i hi
    have he : i = m := by omega
    subst he
    rw [lp_step]
    simp [markL_len]
  | succ n ih =>
    intro i hi
    have h0 : (i : Int) < (m : Int) := by omega
    have hg := markL_get mP 2 m k i (by omega)
    have hw := wrap_nat (i := i) (by omega)
    have e1 : ((k + 2 * i : Nat) : Int) = (k : Int) + 2 * (i : Int) := by omega
    have e2 : (k : Int) + 2 * ((i + 1 : Nat) : Int) = (k : Int) + 2 * (i : Int) + 1 + 1 := by omega
    have k0 : IntKind.i64.wrap ((k : Int) + 2 * (i : Int) + 1) = (k : Int) + 2 * (i : Int) + 1 := wrap_in (by omega)
    have k1 : IntKind.i64.wrap ((k : Int) + 2 * (i : Int) + 1 + 1) = (k : Int) + 2 * (i : Int) + 1 + 1 := wrap_in (by omega)
    have ih' := ih (i + 1) (by omega)
    rw [e2] at ih'
    simp only [mP, pC, e1] at hg
    simp at ih' hg
    rw [lp_step]
    simp [h0, hg, hw, k0, k1, markL_len, ih']
theorem r60 (d m : Nat) (k : Nat) (hb : k + 2 * m ≤ 4611686018427387904) : ev (d + 1) 60 [.ro 2 (markL mP 2 k m), I k] = some (I (k + 2 * (m : Int)), []) := by
  rw [s60 d _ rfl]
  have key := l60 d m k hb m 0 (by omega)
  simp at key
  simp [key]
theorem r60n (d : Nat) (k : Nat) : ev (d + 1) 60 [.nl, I k] = some (I k, []) := by
  rw [s60 d _ rfl]
  simp
  rw [lp_step]
  simp
theorem mP_shut (k n : Nat) : shut (markL mP 2 k n) = markL mP 2 k n := markL_shut (fun _ => rfl) 2 n k
attribute [simp] mP_shut
theorem r57n (d : Nat) : ev (d + 1) 57 [.nl, .nl] = some (B true, []) := by
  rw [s57 d _ rfl]
  simp
  rw [lp_step]
  simp
theorem r56n (d : Nat) : ev (d + 1) 56 [.nl, .nl] = some (B true, []) := by
  rw [s56 d _ rfl]
  simp
  rw [lp_step]
  simp
/-! ### whole drawings: with faces, without, none -/
abbrev dZ : List LV := [I 0, I 0, .nl, .nl]
theorem r22n (d : Nat) (D : Dr) (hb : D.pts.length ≤ big) : ev (d + 4) 22 [.ag (dVn D), .ag (dVn D)] = some (B true, []) := by
  rw [s22 (d + 3) _ rfl]
  have h1 := r56 (d + 1) D.pts hb
  have h2 := r57n (d + 2)
  simp [h1, h2]
theorem r22z (d : Nat) : ev (d + 4) 22 [.ag dZ, .ag dZ] = some (B true, []) := by
  rw [s22 (d + 3) _ rfl]
  have h1 := r56n (d + 2)
  have h2 := r57n (d + 2)
  simp [h1, h2]
def mkD (D : Dr) : Nat := 1 + 2 * D.pts.length + totF D.fcs
theorem start_drawn (D : Dr) (e : Nat) (v : Value) : startW [.ag (dA D (.ow e 2 (D.pts.map pC)) .nl), .sc v] = some ([.ag (dA D (.rf (mk0 2) none 0 D.pts.length) .nl), .sc v], ⟨startS [.ag (dA D (.rf (mk0 2) none 0 D.pts.length) .nl), .sc v], updM noMem (mk0 2) (some (.arr e 2 (D.pts.map pC)))⟩) := by
  rw [startW_eq («as» := [.ag (dA D (.rf (mk0 2) none 0 D.pts.length) .nl), .sc v]) (l := [(mk0 2, .arr e 2 (D.pts.map pC))]) (by simp [openV, trav, travT, trav1, travL, opn, partsT, parts, parts1, partsL, thing, List.filterMap])]
  rfl
theorem start_drawz (v : Value) : startW [.ag dZ, .sc v] = some ([.ag dZ, .sc v], ⟨startS [.ag dZ, .sc v], noMem⟩) := by
  rw [startW_eq («as» := [.ag dZ, .sc v]) (l := []) (by simp [openV, trav, travT, trav1, travL, opn, partsT, parts, parts1, partsL, thing, List.filterMap])]
  rfl
set_option maxRecDepth 100000 in
theorem v23x (d : Nat) (D : Dr) (hb : BdD D) (ht : totF D.fcs ≤ 1000000000000000000) : ev (d + 4) (wrN + 23) [.ag (dA D (.ow 72 2 (D.pts.map pC)) (.ow 77 2 (D.fcs.map fC))), I 1] =
    some (I (mkD D), [.ag (dA D (.ow 72 2 (markL mP 2 1 D.pts.length)) (.ow 77 2 (mkFa true D.fcs (1 + 2 * D.pts.length)))), I 1]) := by
  have hp := hb.pts
  simp only [big] at hp
  rw [v23 (d + 3) (start_draw D _ _ _ _) rfl]
  have c1 := v58' (d + 2) D.pts 1 (by omega)
  have c2 := v59x d D.fcs (1 + 2 * D.pts.length) (by omega) hb.fcs (by omega)
  rw [show ((1 + 2 * D.pts.length : Nat) : Int) = 1 + 2 * (D.pts.length : Int) by omega] at c2
  have e : ((mkD D : Nat) : Int) = 1 + 2 * (D.pts.length : Int) + (totF D.fcs : Int) := by unfold mkD; omega
  simp at c1 c2
  simp [c1, c2, e]
set_option maxRecDepth 100000 in
theorem v23xn (d : Nat) (D : Dr) (hb : BdD D) (hF : D.fcs = []) : ev (d + 4) (wrN + 23) [.ag (dA D (.ow 72 2 (D.pts.map pC)) .nl), I 1] =
    some (I (mkD D), [.ag (dA D (.ow 72 2 (markL mP 2 1 D.pts.length)) .nl), I 1]) := by
  have hp := hb.pts
  simp only [big] at hp
  rw [v23 (d + 3) (start_drawn D _ _) rfl]
  have c1 := v58' (d + 2) D.pts 1 (by omega)
  have c2 := v59xn d (1 + 2 * D.pts.length)
  rw [show ((1 + 2 * D.pts.length : Nat) : Int) = 1 + 2 * (D.pts.length : Int) by omega] at c2
  have e : ((mkD D : Nat) : Int) = 1 + 2 * (D.pts.length : Int) := by unfold mkD; rw [hF]; simp only [totF]; omega
  simp at c1 c2
  simp [c1, c2, e]
set_option maxRecDepth 100000 in
theorem v23xz (d : Nat) : ev (d + 4) (wrN + 23) [.ag dZ, I 1] = some (I 1, [.ag dZ, I 1]) := by
  rw [v23 (d + 3) (start_drawz _) rfl]
  have c1 := v58'n (d + 2) 1
  have c2 := v59xn d 1
  simp at c1 c2
  simp [c1, c2]
theorem r24 (d : Nat) (D : Dr) (hb : BdD D) (ht : totF D.fcs ≤ 1000000000000000000) : ev (d + 4) 24 [.ag (dA D (.ro 2 (markL mP 2 1 D.pts.length)) (.ro 2 (mkFa false D.fcs (1 + 2 * D.pts.length)))), I 1] = some (I (mkD D), []) := by
  rw [s24 (d + 3) _ rfl]
  have hp := hb.pts
  simp only [big] at hp
  have c1 := r60 (d + 2) D.pts.length 1 (by omega)
  have c2 := r61 d D.fcs (1 + 2 * D.pts.length) (by omega) hb.fcs (by omega)
  rw [show ((1 + 2 * D.pts.length : Nat) : Int) = 1 + 2 * (D.pts.length : Int) by omega] at c2
  have e : ((mkD D : Nat) : Int) = 1 + 2 * (D.pts.length : Int) + (totF D.fcs : Int) := by unfold mkD; omega
  have n1 : ¬ 1 + 2 * (D.pts.length : Int) < 0 := by omega
  have n2 : ¬ 1 + 2 * (D.pts.length : Int) + (totF D.fcs : Int) < 0 := by omega
  simp at c1 c2
  simp [c1, c2, e, n1, n2]
theorem r24n (d : Nat) (D : Dr) (hb : BdD D) (hF : D.fcs = []) : ev (d + 4) 24 [.ag (dA D (.ro 2 (markL mP 2 1 D.pts.length)) .nl), I 1] = some (I (mkD D), []) := by
  rw [s24 (d + 3) _ rfl]
  have hp := hb.pts
  simp only [big] at hp
  have c1 := r60 (d + 2) D.pts.length 1 (by omega)
  have c2 := r61n d (1 + 2 * D.pts.length)
  rw [show ((1 + 2 * D.pts.length : Nat) : Int) = 1 + 2 * (D.pts.length : Int) by omega] at c2
  have e : ((mkD D : Nat) : Int) = 1 + 2 * (D.pts.length : Int) := by unfold mkD; rw [hF]; simp only [totF]; omega
  have n1 : ¬ 1 + 2 * (D.pts.length : Int) < 0 := by omega
  simp at c1 c2
  simp [c1, c2, e, n1]
theorem r24z (d : Nat) : ev (d + 4) 24 [.ag dZ, I 1] = some (I 1, []) := by
  rw [s24 (d + 3) _ rfl]
  have c1 := r60n (d + 2) 1
  have c2 := r61n d 1
  simp at c1 c2
  simp [c1, c2]
end Go.Proofs.YthnkioafikmmaaaGreat.walkS
