/- Pictures that are answers: alike, marked, held; no conditions. -/
import Derived.Test.YthnkioafikmmaaaGreatWHd
import Derived.Test.YthnkioafikmmaaaGreatWMp
namespace Go.Proofs.YthnkioafikmmaaaGreat.walkS
open Go Go.Proofs.YthnkioafikmmaaaGreat.Ev
set_option linter.unusedSimpArgs false
set_option linter.unusedVariables false
noncomputable def mVn (k : Nat) : List Cell := [.sc (.string (mtx k)), .sc (.int .i64 ((k : Int) + 1)), .sc (.int .i64 ((k : Int) + 1 + 1))]
theorem mVn_shut (k n : Nat) : shut (markL mVn 3 k n) = markL mVn 3 k n := markL_shut (fun _ => rfl) 3 n k
attribute [simp] mVn_shut
theorem l33x (d : Nat) (l : List Vn) (hl : l.length ≤ big) (k : Nat) (hK : 1 ≤ k ∧ k ≤ 4000000000000000000) : ∀ (n i : Nat), n + i = l.length →
    clC [1, 100000] [4, 100000] (blk 0 (lp (evC (ev (d + 1)) b33_1) (clean [0, 1, 5, 100000]) ⟨lookS [(0, .rf (.sl 0) none 0 l.length), (1, I ((k : Int) + 3 * (i : Int))), (5, I i), (100000, .rf (.sl 0) none 0 l.length)], lookM [(.sl 0, some (.arr 61 3 (mfill mVn 3 vC l k i)))]⟩)) =
      some (.nm, ⟨lookS [(1, I ((k : Int) + 3 * (l.length : Int))), (100000, .rf (.sl 100000) none 0 l.length)], lookM [(.sl 100000, some (.arr 61 3 (markL mVn 3 k l.length)))]⟩) := by
  intro n
  induction n with
  | zero =>
    intro i hi
    have hil : i = l.length := by omega
    subst hil
    rw [lp_step, mfill_end]
    simp
  | succ n ih =>
    intro i hi
    simp only [big] at hl
    have hlt : i < l.length := by omega
    have h0 : (i : Int) < (l.length : Int) := by omega
    obtain ⟨v, hx⟩ := get_lt hlt
    have hs := mfill_set (f := mVn) (c := 3) (C := vC) (k := k) hlt
    have hg := mfill_get (f := mVn) (c := 3) (C := vC) (k := k) hx
    have hl2 : ∀ a, ((mfill mVn 3 vC l k i).set i a)[i]? = some a := fun a => List.getElem?_set_self (by rw [mfill_len (by omega)]; exact hlt)
    have hwi := wrap_nat (i := i) (by omega)
    have e1 : ((k + 3 * i : Nat) : Int) = (k : Int) + 3 * (i : Int) := by omega
    have k1 : IntKind.i64.wrap ((k : Int) + 3 * (i : Int) + 1) = (k : Int) + 3 * (i : Int) + 1 := wrap_in (by omega)
    have k2 : IntKind.i64.wrap ((k : Int) + 3 * (i : Int) + 1 + 1) = (k : Int) + 3 * (i : Int) + 1 + 1 := wrap_in (by omega)
    have k3 : IntKind.i64.wrap ((k : Int) + 3 * (i : Int) + 1 + 1 + 1) = (k : Int) + 3 * (i : Int) + 1 + 1 + 1 := wrap_in (by omega)
    have e3 : (k : Int) + 3 * ((i + 1 : Nat) : Int) = (k : Int) + 3 * (i : Int) + 1 + 1 + 1 := by omega
    have m0 := r34 d (k + 3 * i) (by omega) (by omega)
    rw [e1] at m0
    have ih' := ih (i + 1) (by omega)
    rw [← hs, e3] at ih'
    simp only [mVn, e1] at ih'
    simp at ih'
    rw [lp_step]
    simp [h0, hg, hl2, hwi, m0, k1, k2, k3, ih']
theorem v33x (d : Nat) (l : List Vn) (hl : l.length ≤ big) (k : Nat) (hK : 1 ≤ k ∧ k ≤ 4000000000000000000) : ev (d + 2) (wrN + 33) [.ow 61 3 (l.map vC), I k] =
    some (I ((k : Int) + 3 * (l.length : Int)), [.ow 61 3 (markL mVn 3 k l.length), I k]) := by
  rw [v33 (d + 1) (start_ow _ _ 0 _ _) rfl]
  have key := l33x d l hl k hK l.length 0 (by omega)
  rw [← mfill_zero] at key
  simp at key
  simp [key]
theorem v33xn (d : Nat) (k : Nat) : ev (d + 2) (wrN + 33) [.nl, I k] = some (I k, [.nl, I k]) := by
  rw [v33 (d + 1) (start_nl _) rfl]
  simp
  rw [lp_step]
  simp
theorem l45 (d m : Nat) (hm : m ≤ big) (k : Nat) (hK : 1 ≤ k ∧ k ≤ 4000000000000000000) : ∀ (n i : Nat), n + i = m →
    clC [1] [4] (blk 0 (lp (evC (ev (d + 1)) b45_1) (clean [0, 1, 5]) ⟨lookS [(0, .ro 3 (markL mVn 3 k m)), (1, I ((k : Int) + 3 * (i : Int))), (5, I i)], lookM []⟩)) =
      some (.nm, ⟨lookS [(1, I ((k : Int) + 3 * (m : Int)))], lookM []⟩) := by
  intro n
  induction n with
  | zero =>
    intro i hi
    have he : i = m := by omega
    subst he
    rw [lp_step]
    simp [markL_len]
  | succ n ih =>
    intro i hi
    simp only [big] at hm
    have h0 : (i : Int) < (m : Int) := by omega
    have hg := markL_get mVn 3 m k i (by omega)
    have hw := wrap_nat (i := i) (by omega)
    have e1 : ((k + 3 * i : Nat) : Int) = (k : Int) + 3 * (i : Int) := by omega
    have k1 : IntKind.i64.wrap ((k : Int) + 3 * (i : Int) + 1) = (k : Int) + 3 * (i : Int) + 1 := wrap_in (by omega)
    have k2 : IntKind.i64.wrap ((k : Int) + 3 * (i : Int) + 1 + 1) = (k : Int) + 3 * (i : Int) + 1 + 1 := wrap_in (by omega)
    have k3 : IntKind.i64.wrap ((k : Int) + 3 * (i : Int) + 1 + 1 + 1) = (k : Int) + 3 * (i : Int) + 1 + 1 + 1 := wrap_in (by omega)
    have e3 : (k : Int) + 3 * ((i + 1 : Nat) : Int) = (k : Int) + 3 * (i : Int) + 1 + 1 + 1 := by omega
    have m0 := r34 d (k + 3 * i) (by omega) (by omega)
    rw [e1] at m0
    have ih' := ih (i + 1) (by omega)
    rw [e3] at ih'
    simp only [mVn, e1] at hg
    simp only [Int.natCast_add, Int.cast_ofNat_Int] at ih'
    rw [lp_step]
    simp [h0, hg, hw, m0, k1, k2, k3, markL_len, ih']
theorem r45 (d m : Nat) (hm : m ≤ big) (k : Nat) (hK : 1 ≤ k ∧ k ≤ 4000000000000000000) : ev (d + 2) 45 [.ro 3 (markL mVn 3 k m), I k] = some (I ((k : Int) + 3 * (m : Int)), []) := by
  rw [s45 (d + 1) _ rfl]
  have key := l45 d m hm k hK m 0 (by omega)
  simp at key
  simp [key]
theorem r45n (d : Nat) (k : Nat) : ev (d + 2) 45 [.nl, I k] = some (I k, []) := by
  rw [s45 (d + 1) _ rfl]
  simp
  rw [lp_step]
  simp
theorem r32n (d : Nat) : ev (d + 1) 32 [.nl, .nl] = some (B true, []) := by
  rw [s32 d _ rfl]
  simp
  rw [lp_step]
  simp
abbrev z5 : List LV := [I 0, I 0, .nl, .nl, .nl]
theorem r11z (d : Nat) : ev (d + 5) 11 [.ag z5, .ag z5] = some (B true, []) := by
  rw [s11 (d + 4) _ rfl]
  have h1 := r22z d
  have h2 := r32n (d + 3)
  simp [h1, h2]
theorem start_picz (v : Value) : startW [.ag z5, .sc v] = some ([.ag z5, .sc v], ⟨startS [.ag z5, .sc v], noMem⟩) := by
  rw [startW_eq («as» := [.ag z5, .sc v]) (l := []) (by simp [openV, trav, travT, trav1, travL, opn, partsT, parts, parts1, partsL, thing, List.filterMap])]
  rfl
def mkQ (Q : Pi) : Nat := mkD Q.d + 3 * Q.vs.length
abbrev mkPts (D : Dr) : List (List Cell) := markL mP 2 1 D.pts.length
noncomputable abbrev mkFcs (o : Bool) (D : Dr) : List (List Cell) := mkFa o D.fcs (1 + 2 * D.pts.length)
noncomputable abbrev mkVs (Q : Pi) : List (List Cell) := markL mVn 3 (mkD Q.d) Q.vs.length
theorem mkD_in {D : Dr} (hb : BdD D) (ht : totF D.fcs ≤ 1000000000000000000) : 1 ≤ mkD D ∧ mkD D ≤ 4000000000000000000 := by
  have hp := hb.pts
  simp only [big] at hp
  unfold mkD
  omega
set_option maxRecDepth 100000 in
theorem v12x (d : Nat) (Q : Pi) (hb : BdD Q.d) (hv : Q.vs.length ≤ big) (ht : totF Q.d.fcs ≤ 1000000000000000000) : ev (d + 5) (wrN + 12) [.ag (qO Q (.ow 72 2 (Q.d.pts.map pC)) (.ow 77 2 (Q.d.fcs.map fC)) (.ow 61 3 (Q.vs.map vC))), I 1] =
    some (I (mkQ Q), [.ag (qO Q (.ow 72 2 (mkPts Q.d)) (.ow 77 2 (mkFcs true Q.d)) (.ow 61 3 (mkVs Q))), I 1]) := by
  rw [v12 (d + 4) (start_pic Q _ _ _ _ _ _ _) rfl]
  have c1 := v23x d Q.d hb ht
  have c2 := v33x (d + 2) Q.vs hv (mkD Q.d) (mkD_in hb ht)
  have e : ((mkQ Q : Nat) : Int) = (mkD Q.d : Int) + 3 * (Q.vs.length : Int) := by unfold mkQ; omega
  simp [c1, c2, e]
set_option maxRecDepth 100000 in
theorem v12xz (d : Nat) : ev (d + 5) (wrN + 12) [.ag z5, I 1] = some (I 1, [.ag z5, I 1]) := by
  rw [v12 (d + 4) (start_picz _) rfl]
  have c1 := v23xz d
  have c2 := v33xn (d + 2) 1
  simp at c2
  simp [c1, c2]
theorem r17 (d : Nat) (Q : Pi) (hb : BdD Q.d) (hv : Q.vs.length ≤ big) (ht : totF Q.d.fcs ≤ 1000000000000000000) : ev (d + 5) 17 [.ag (qO Q (.ro 2 (mkPts Q.d)) (.ro 2 (mkFcs false Q.d)) (.ro 3 (mkVs Q))), I 1] = some (I (mkQ Q), []) := by
  rw [s17 (d + 4) _ rfl]
  have c1 := r24 d Q.d hb ht
  have c2 := r45 (d + 2) Q.vs.length hv (mkD Q.d) (mkD_in hb ht)
  have e : ((mkQ Q : Nat) : Int) = (mkD Q.d : Int) + 3 * (Q.vs.length : Int) := by unfold mkQ; omega
  have n1 : ¬ (mkD Q.d : Int) < 0 := by omega
  have n2 : ¬ (mkD Q.d : Int) + 3 * (Q.vs.length : Int) < 0 := by omega
  simp [c1, c2, e, n1, n2]
theorem r17z (d : Nat) : ev (d + 5) 17 [.ag z5, I 1] = some (I 1, []) := by
  rw [s17 (d + 4) _ rfl]
  have c1 := r24z d
  have c2 := r45n (d + 2) 1
  simp at c2
  simp [c1, c2]
end Go.Proofs.YthnkioafikmmaaaGreat.walkS
