/- Pictures are marked; no conditions. -/
import Derived.Test.YthnkioafikmmaaaGreatWMd
import Derived.Test.YthnkioafikmmaaaGreatWVp
namespace Go.Proofs.YthnkioafikmmaaaGreat.walkS
open Go Go.Proofs.YthnkioafikmmaaaGreat.Ev
set_option linter.unusedSimpArgs false
set_option linter.unusedVariables false
theorem l33 (l : List Vn) (hl : l.length ≤ big) (K : Nat) (hK : 1 ≤ K ∧ K ≤ 4000000000000000000) : ∀ (n i : Nat) (rows : List (List Cell)), n + i = l.length → rows.length = l.length →
    (∀ (j : Nat) v, i ≤ j → l[j]? = some v → rows[j]? = some (vC v)) → ∃ (rows' : List (List Cell)), rows'.length = l.length ∧ ∀ d,
    clC [1, 100000] [4, 100000] (blk 0 (lp (evC (ev (d + 1)) b33_1) (clean [0, 1, 5, 100000]) ⟨lookS [(0, .rf (.sl 0) none 0 l.length), (1, I ((K : Int) + 3 * (i : Int))), (5, I i), (100000, .rf (.sl 0) none 0 l.length)], lookM [(.sl 0, some (.arr 61 3 rows))]⟩)) =
      some (.nm, ⟨lookS [(1, I ((K : Int) + 3 * (l.length : Int))), (100000, .rf (.sl 100000) none 0 l.length)], lookM [(.sl 100000, some (.arr 61 3 rows'))]⟩) := by
  intro n
  induction n with
  | zero =>
    intro i rows hi hr hj
    have h0 : ¬ (i : Int) < (l.length : Int) := by omega
    have hil : i = l.length := by omega
    subst hil
    refine ⟨rows, hr, fun d => ?_⟩
    rw [lp_step]
    simp
  | succ n ih =>
    intro i rows hi hr hj
    simp only [big] at hl
    have hlt : i < l.length := by omega
    have h0 : (i : Int) < (l.length : Int) := by omega
    obtain ⟨v, hx⟩ := get_lt hlt
    have hg := hj i v (Nat.le_refl _) hx
    have hs : ∀ a, (rows.set i a)[i]? = some a := fun a => List.getElem?_set_self (by rw [hr]; exact hlt)
    have hwi := wrap_nat (i := i) (by omega)
    have k1 : IntKind.i64.wrap ((K : Int) + 3 * (i : Int) + 1) = (K : Int) + 3 * (i : Int) + 1 := wrap_in (by omega)
    have k2 : IntKind.i64.wrap ((K : Int) + 3 * (i : Int) + 1 + 1) = (K : Int) + 3 * (i : Int) + 1 + 1 := wrap_in (by omega)
    have k3 : IntKind.i64.wrap ((K : Int) + 3 * (i : Int) + 1 + 1 + 1) = (K : Int) + 3 * (i : Int) + 1 + 1 + 1 := wrap_in (by omega)
    have e3 : (K : Int) + 3 * ((i + 1 : Nat) : Int) = (K : Int) + 3 * (i : Int) + 1 + 1 + 1 := by omega
    obtain ⟨rows', hr', hih⟩ := ih (i + 1) (rows.set i [.sc (.string (mtx (K + 3 * i))), .sc (.int .i64 ((K : Int) + 3 * (i : Int) + 1)), .sc (.int .i64 ((K : Int) + 3 * (i : Int) + 1 + 1))]) (by omega) (by rw [List.length_set, hr])
      (fun j M hj' hM => by rw [List.getElem?_set_ne (by omega)]; exact hj j M (by omega) hM)
    refine ⟨rows', hr', fun d => ?_⟩
    have m0 := r34 d (K + 3 * i) (by omega) (by omega)
    rw [show ((K + 3 * i : Nat) : Int) = (K : Int) + 3 * (i : Int) by omega] at m0
    have hih' := hih d
    rw [e3] at hih'
    simp at hih'
    rw [lp_step]
    simp [h0, hg, hs, hwi, m0, k1, k2, k3, hih']
theorem v33' (l : List Vn) (hl : l.length ≤ big) (K : Nat) (hK : 1 ≤ K ∧ K ≤ 4000000000000000000) : ∃ rows' : List (List Cell), rows'.length = l.length ∧ ∀ d, ev (d + 2) (wrN + 33) [.ow 61 3 (l.map vC), I K] =
    some (I ((K : Int) + 3 * (l.length : Int)), [.ow 61 3 rows', I K]) := by
  obtain ⟨rows', hr, h⟩ := l33 l hl K hK l.length 0 (l.map vC) (by omega) (by simp) (fun j v _ hx => by simp [hx])
  refine ⟨rows', hr, fun d => ?_⟩
  rw [v33 (d + 1) (start_ow _ _ 0 _ _) rfl]
  have key := h d
  simp at key
  simp [key, hr]
abbrev qO (Q : Pi) (x y z : LV) : List LV := [I Q.d.w, I Q.d.h, x, y, z]
theorem start_pic (Q : Pi) (e e' e'' : Nat) (r r' r'' : List (List Cell)) (v : Value) : startW [.ag (qO Q (.ow e 2 r) (.ow e' 2 r') (.ow e'' 3 r'')), .sc v] = some ([.ag (qO Q (.rf (mk0 2) none 0 r.length) (.rf (mk0 3) none 0 r'.length) (.rf (mk0 4) none 0 r''.length)), .sc v], ⟨startS [.ag (qO Q (.rf (mk0 2) none 0 r.length) (.rf (mk0 3) none 0 r'.length) (.rf (mk0 4) none 0 r''.length)), .sc v], updM (updM (updM noMem (mk0 2) (some (.arr e 2 r))) (mk0 3) (some (.arr e' 2 r'))) (mk0 4) (some (.arr e'' 3 r''))⟩) := by
  rw [startW_eq («as» := [.ag (qO Q (.rf (mk0 2) none 0 r.length) (.rf (mk0 3) none 0 r'.length) (.rf (mk0 4) none 0 r''.length)), .sc v]) (l := [(mk0 2, .arr e 2 r), (mk0 3, .arr e' 2 r'), (mk0 4, .arr e'' 3 r'')]) (by simp [openV, trav, travT, trav1, travL, opn, partsT, parts, parts1, partsL, thing, List.filterMap])]
  rfl
set_option maxRecDepth 100000 in
theorem v12' (Q : Pi) (hb : BdD Q.d) (hv : Q.vs.length ≤ big) : ∃ (k' : Nat) (ps rows vs : List (List Cell)), ps.length = Q.d.pts.length ∧ rows.length = Q.d.fcs.length ∧ vs.length = Q.vs.length ∧ ∀ d, ev (d + 5) (wrN + 12) [.ag (qO Q (.ow 72 2 (Q.d.pts.map pC)) (.ow 77 2 (Q.d.fcs.map fC)) (.ow 61 3 (Q.vs.map vC))), I 1] =
    some (I k', [.ag (qO Q (.ow 72 2 ps) (.ow 77 2 rows) (.ow 61 3 vs)), I 1]) := by
  obtain ⟨k1, ps, rows, hp, hr, hk, hm⟩ := v23b Q.d hb
  have hf := hb.fcs
  simp only [big] at hf
  obtain ⟨vs, hvl, hvm⟩ := v33' Q.vs hv k1 ⟨hk.1, by omega⟩
  refine ⟨k1 + 3 * Q.vs.length, ps, rows, vs, hp, hr, hvl, fun d => ?_⟩
  rw [v12 (d + 4) (start_pic Q _ _ _ _ _ _ _) rfl]
  have c1 := hm d
  have c2 := hvm (d + 2)
  simp [c1, c2, hp, hr, hvl]
end Go.Proofs.YthnkioafikmmaaaGreat.walkS
