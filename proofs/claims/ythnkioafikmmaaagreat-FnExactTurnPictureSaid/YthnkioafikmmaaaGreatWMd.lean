/- Drawings are marked; no conditions. -/
import Derived.Test.YthnkioafikmmaaaGreatWStr
import Derived.Test.YthnkioafikmmaaaGreatWMark2
namespace Go.Proofs.YthnkioafikmmaaaGreat.walkS
open Go Go.Proofs.YthnkioafikmmaaaGreat.Ev
set_option linter.unusedSimpArgs false
set_option linter.unusedVariables false
theorem mI_shut' (k n : Nat) : shut (markL mI 1 k n) = markL mI 1 k n := markL_shut (fun _ => rfl) 1 n k
theorem markL_take' (f : Nat → List Cell) (c k n : Nat) : (markL f c k n).take n = markL f c k n := List.take_of_length_le (by simp)
attribute [simp] mI_shut' markL_take'
def mP (k : Nat) : List Cell := pC ((k : Int), (k : Int) + 1)
theorem l58 (d : Nat) (l : List Pt) (k : Nat) (hb : k + 2 * l.length ≤ 4611686018427387904) : ∀ (n i : Nat), n + i = l.length →
    clC [1, 100000] [4, 100000] (blk 0 (lp (evC (ev d) b58_1) (clean [0, 1, 5, 100000]) ⟨lookS [(0, .rf (.sl 0) none 0 l.length), (1, I (k + 2 * (i : Int))), (5, I i), (100000, .rf (.sl 0) none 0 l.length)], lookM [(.sl 0, some (.arr 72 2 (mfill mP 2 pC l k i)))]⟩)) =
      some (.nm, ⟨lookS [(1, I (k + 2 * (l.length : Int))), (100000, .rf (.sl 100000) none 0 l.length)], lookM [(.sl 100000, some (.arr 72 2 (markL mP 2 k l.length)))]⟩) := by
  intro n
  induction n with
  | zero =>
    intro i hi
    have h0 : ¬ (i : Int) < (l.length : Int) := by omega
    have he : i = l.length := by omega
    subst he
    rw [lp_step, mfill_end]
    simp [h0]
  | succ n ih =>
    intro i hi
    have hlt : i < l.length := by omega
    have h0 : (i : Int) < (l.length : Int) := by omega
    obtain ⟨x, hx⟩ := get_lt hlt
    have hs := mfill_set (f := mP) (c := 2) (C := pC) (k := k) hlt
    have hg := mfill_get (f := mP) (c := 2) (C := pC) (k := k) hx
    have hl : ∀ a, ((mfill mP 2 pC l k i).set i a)[i]? = some a := fun a => List.getElem?_set_self (by rw [mfill_len (by omega)]; exact hlt)
    have hw := wrap_nat (i := i) (by omega)
    have e1 : ((k + 2 * i : Nat) : Int) = (k : Int) + 2 * (i : Int) := by omega
    have e2 : (k : Int) + 2 * ((i + 1 : Nat) : Int) = (k : Int) + 2 * (i : Int) + 1 + 1 := by omega
    have k0 : IntKind.i64.wrap ((k : Int) + 2 * (i : Int) + 1) = (k : Int) + 2 * (i : Int) + 1 := wrap_in (by omega)
    have k1 : IntKind.i64.wrap ((k : Int) + 2 * (i : Int) + 1 + 1) = (k : Int) + 2 * (i : Int) + 1 + 1 := wrap_in (by omega)
    have ih' := ih (i + 1) (by omega)
    rw [← hs, e2] at ih'
    simp only [mP, pC, e1] at ih' hg
    simp at ih' hg
    rw [lp_step]
    simp [h0, hg, hl, hw, k0, k1, ih']
theorem v58' (d : Nat) (l : List Pt) (k : Nat) (hb : k + 2 * l.length ≤ 4611686018427387904) : ev (d + 1) (wrN + 58) [.ow 72 2 (l.map pC), I k] =
    some (I (k + 2 * (l.length : Int)), [.ow 72 2 (markL mP 2 k l.length), I k]) := by
  rw [v58 d (start_ow _ _ 0 _ _) rfl]
  have key := l58 d l k hb l.length 0 (by omega)
  rw [← mfill_zero] at key
  simp at key
  simp [key, markL_len]
theorem v58'n (d : Nat) (k : Nat) : ev (d + 1) (wrN + 58) [.nl, I k] = some (I k, [.nl, I k]) := by
  rw [v58 d (start_nl _) rfl]
  simp
  rw [lp_step]
  simp
theorem l59 (l : List Fc) (hl : l.length ≤ big) (hw : ∀ f ∈ l, f.2.length ≤ big) : ∀ (n i k : Nat) (rows : List (List Cell)), n + i = l.length → rows.length = l.length →
    (∀ j f, i ≤ j → l[j]? = some f → rows[j]? = some (fC f)) → 1 ≤ k → k ≤ 1000000001 * i + 2000000001 → ∃ (k' : Nat) (rows' : List (List Cell)), rows'.length = l.length ∧ (1 ≤ k' ∧ k' ≤ 1000000001 * l.length + 2000000001) ∧ ∀ d,
    clC [1, 100000] [4, 100000] (blk 0 (lp (evC (ev (d + 2)) b59_1) (clean [0, 1, 5, 100000]) ⟨lookS [(0, .rf (.sl 0) none 0 l.length), (1, I k), (5, I i), (100000, .rf (.sl 0) none 0 l.length)], lookM [(.sl 0, some (.arr 77 2 rows))]⟩)) =
      some (.nm, ⟨lookS [(1, I k'), (100000, .rf (.sl 100000) none 0 l.length)], lookM [(.sl 100000, some (.arr 77 2 rows'))]⟩) := by
  intro n
  induction n with
  | zero =>
    intro i k rows hi hr hj h1 hk
    have h0 : ¬ (i : Int) < (l.length : Int) := by omega
    have hil : k ≤ 1000000001 * l.length + 2000000001 := by rw [← (show i = l.length by omega)]; exact hk
    refine ⟨k, rows, hr, ⟨h1, hil⟩, fun d => ?_⟩
    rw [lp_step]
    simp [h0]
  | succ n ih =>
    intro i k rows hi hr hj h1 hk
    have hlt : i < l.length := by omega
    have h0 : (i : Int) < (l.length : Int) := by omega
    obtain ⟨f, hx⟩ := get_lt hlt
    have hg := hj i f (Nat.le_refl _) hx
    have hd := hw f (List.mem_of_getElem? hx)
    simp only [big] at hd hl
    have hs : ∀ a, (rows.set i a)[i]? = some a := fun a => List.getElem?_set_self (by rw [hr]; exact hlt)
    have hwi := wrap_nat (i := i) (by omega)
    have k1 : IntKind.i64.wrap ((k : Int) + 1) = (k : Int) + 1 := wrap_in (by omega)
    have e8 : ((k + 1 : Nat) : Int) = (k : Int) + 1 := by omega
    have e9 : ((k + 1 + 1 * f.2.length : Nat) : Int) = (k : Int) + 1 + (f.2.length : Int) := by omega
    obtain ⟨k', rows', hr', hkb, hih⟩ := ih (i + 1) (k + 1 + 1 * f.2.length) (rows.set i [.sc (.string (mtx k)), .sl true 2 1 (markV mIV 1 (k + 1) f.2.length)]) (by omega) (by rw [List.length_set, hr])
      (fun j M hj' hM => by rw [List.getElem?_set_ne (by omega)]; exact hj j M (by omega) hM) (by omega) (by omega)
    refine ⟨k', rows', hr', hkb, fun d => ?_⟩
    have m0 := r34 (d + 1) k h1 (by omega)
    have v := v99' (d + 1) f.2 (k + 1) (by omega)
    rw [e8] at v
    have hih' := hih d
    rw [e9] at hih'
    simp at hih' v
    rw [lp_step]
    simp [h0, hg, hs, hwi, m0, k1, v, bkC, hih']
theorem v59b (l : List Fc) (hl : l.length ≤ big) (hw : ∀ f ∈ l, f.2.length ≤ big) (k : Nat) (h1 : 1 ≤ k) (h2 : k ≤ 2000000001) : ∃ (k' : Nat) (rows' : List (List Cell)), rows'.length = l.length ∧ (1 ≤ k' ∧ k' ≤ 1000000001 * l.length + 2000000001) ∧ ∀ d, ev (d + 3) (wrN + 59) [.ow 77 2 (l.map fC), I k] =
    some (I k', [.ow 77 2 rows', I k]) := by
  obtain ⟨k', rows', hr, hkb, h⟩ := l59 l hl hw l.length 0 k (l.map fC) (by omega) (by simp) (fun j L _ hx => by simp [hx]) h1 (by omega)
  refine ⟨k', rows', hr, hkb, fun d => ?_⟩
  rw [v59 (d + 2) (start_ow _ _ 0 _ _) rfl]
  have key := h d
  simp at key
  simp [key, hr]
theorem start_draw (D : Dr) (e e' : Nat) (rows : List (List Cell)) (v : Value) : startW [.ag (dA D (.ow e 2 (D.pts.map pC)) (.ow e' 2 rows)), .sc v] = some ([.ag (dA D (.rf (mk0 2) none 0 D.pts.length) (.rf (mk0 3) none 0 rows.length)), .sc v], ⟨startS [.ag (dA D (.rf (mk0 2) none 0 D.pts.length) (.rf (mk0 3) none 0 rows.length)), .sc v], updM (updM noMem (mk0 2) (some (.arr e 2 (D.pts.map pC)))) (mk0 3) (some (.arr e' 2 rows))⟩) := by
  rw [startW_eq («as» := [.ag (dA D (.rf (mk0 2) none 0 D.pts.length) (.rf (mk0 3) none 0 rows.length)), .sc v]) (l := [(mk0 2, .arr e 2 (D.pts.map pC)), (mk0 3, .arr e' 2 rows)]) (by simp [openV, trav, travT, trav1, travL, opn, partsT, parts, parts1, partsL, thing, List.filterMap])]
  rfl
set_option maxRecDepth 100000 in
theorem v23b (D : Dr) (hb : BdD D) : ∃ (k' : Nat) (ps rows : List (List Cell)), ps.length = D.pts.length ∧ rows.length = D.fcs.length ∧ (1 ≤ k' ∧ k' ≤ 1000000001 * D.fcs.length + 2000000001) ∧ ∀ d, ev (d + 4) (wrN + 23) [.ag (dA D (.ow 72 2 (D.pts.map pC)) (.ow 77 2 (D.fcs.map fC))), I 1] =
    some (I k', [.ag (dA D (.ow 72 2 ps) (.ow 77 2 rows)), I 1]) := by
  have hp := hb.pts
  simp only [big] at hp
  obtain ⟨k', rows, hr, hkb, h⟩ := v59b D.fcs hb.fcs hb.ring (1 + 2 * D.pts.length) (by omega) (by omega)
  refine ⟨k', markL mP 2 1 D.pts.length, rows, by simp, hr, hkb, fun d => ?_⟩
  rw [v23 (d + 3) (start_draw D _ _ _ _) rfl]
  have c1 := v58' (d + 2) D.pts 1 (by omega)
  have c2 := h d
  rw [show ((1 + 2 * D.pts.length : Nat) : Int) = 1 + 2 * (D.pts.length : Int) by omega] at c2
  simp at c1 c2
  simp [c1, c2, hr]
theorem v23' (D : Dr) (hb : BdD D) : ∃ (k' : Nat) (ps rows : List (List Cell)), ps.length = D.pts.length ∧ rows.length = D.fcs.length ∧ ∀ d, ev (d + 4) (wrN + 23) [.ag (dA D (.ow 72 2 (D.pts.map pC)) (.ow 77 2 (D.fcs.map fC))), I 1] =
    some (I k', [.ag (dA D (.ow 72 2 ps) (.ow 77 2 rows)), I 1]) := by
  obtain ⟨k', ps, rows, h1, h2, _, h3⟩ := v23b D hb
  exact ⟨k', ps, rows, h1, h2, h3⟩
end Go.Proofs.YthnkioafikmmaaaGreat.walkS
