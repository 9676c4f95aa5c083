/- Drawings copied; no conditions. -/
import Derived.Test.YthnkioafikmmaaaGreatWMd
namespace Go.Proofs.YthnkioafikmmaaaGreat.walkS
open Go Go.Proofs.YthnkioafikmmaaaGreat.Ev
set_option linter.unusedSimpArgs false
set_option linter.unusedVariables false
attribute [simp] subI
abbrev z4 : List LV := [I 0, I 0, .nl, .nl]
def fO : List Fc → LV
  | [] => .nl
  | f :: F => .ow 77 2 ((f :: F).map fC)
theorem fO_ne {F : List Fc} (h : F ≠ []) : fO F = .ow 77 2 (F.map fC) := by
  cases F with
  | nil => exact absurd rfl h
  | cons f F => rfl
theorem rClP (d : Nat) (l : List Pt) (hb : l.length ≤ big) : ev (d + 1) 125 [.ro 2 (l.map pC)] = some (.ow 72 2 (l.map pC), []) := by
  rw [s125 d _ rfl]
  simp [hb]
theorem rClI (d : Nat) (R : List Int) (hb : R.length ≤ big) : ev (d + 1) 126 [.ro 1 (R.map iC)] = some (.ow 2 1 (R.map iC), []) := by
  rw [s126 d _ rfl]
  simp [hb]
theorem rOwn124 (d : Nat) (R : List Int) (hb : R.length ≤ big) : ev (d + 1) 124 [.ro 1 (R.map iC)] = some (.ow 2 1 (R.map iC), []) := by
  rw [s124 d _ rfl]
  simp [hb]
theorem l73 (d : Nat) (D : Dr) (hb : BdD D) (np : Nat) (P : List (List Cell)) : ∀ (n i : Nat) (acc : List Fc), n + i = D.fcs.length → acc ++ D.fcs.drop i = D.fcs → acc.length = i → acc ≠ [] →
    clC [2, 3] [2] (blk 0 (lp (evC (ev (d + 1)) b73_1) (clean [2, 3, 15, 16, 17]) ⟨lookS [(2, .bp (.sl 2) 0), (3, .bp (.sl 3) 0), (15, .ro 2 (D.fcs.map fS)), (16, I D.fcs.length), (17, I i)], lookM [((.sl 2), some (.box z4)), ((.sl 3), some (.box [I D.w, I D.h, .rf (.ce 3 2) none 0 np, .rf (.ce 3 3) none 0 acc.length])), ((.ce 3 2), some (.arr 72 2 P)), ((.ce 3 3), some (.arr 77 2 (acc.map fC)))]⟩)) =
      some (.nm, ⟨lookS [(2, .bp (.sl 2) 0), (3, .bp (.sl 3) 0)], lookM [((.sl 2), some (.box z4)), ((.sl 3), some (.box [I D.w, I D.h, .rf (.ce 3 2) none 0 np, .rf (.ce 3 3) none 0 D.fcs.length])), ((.ce 3 2), some (.arr 72 2 P)), ((.ce 3 3), some (.arr 77 2 (D.fcs.map fC)))]⟩) := by
  intro n
  induction n with
  | zero =>
    intro i acc hi hr ha hne
    have h0 : ¬ (i : Int) < (D.fcs.length : Int) := by omega
    rw [List.drop_eq_nil_of_le (by omega), List.append_nil] at hr
    rw [lp_step, hr]
    simp [h0]
  | succ n ih =>
    intro i acc hi hr ha hne
    have hlt : i < D.fcs.length := by omega
    have h0 : (i : Int) < (D.fcs.length : Int) := by omega
    have hfb := hb.fcs
    obtain ⟨f, hf⟩ := get_lt hlt
    have hw := wrap_nat (i := i) (by simp only [big] at hfb; omega)
    have hb2 : acc.length + 1 ≤ big := by omega
    have c := rClI d f.2 (hb.ring f (List.mem_of_getElem? hf))
    have ih' := ih (i + 1) (acc ++ [f]) (by omega) (by rw [List.append_assoc]; rw [drop_get hf] at hr; exact hr) (by simp; omega) (by simp)
    simp only [Int.natCast_add, Int.cast_ofNat_Int] at ih'
    simp at ih'
    rw [lp_step]
    simp [h0, hf, c, hw, hb2, fillU, adsOf, List.mapM_cons, ih']
theorem l72 (d : Nat) (D : Dr) (rest : List LV) (hb : BdD D) (np : Nat) (P : List (List Cell)) : ∀ (n i : Nat) (acc : List Fc), n + i = D.fcs.length → acc ++ D.fcs.drop i = D.fcs → acc.length = i → acc ≠ [] →
    clC [2, 3] [2] (blk 0 (lp (evC (ev (d + 1)) b72_1) (clean [0, 2, 3, 4]) ⟨lookS [(0, .rp (dR D rest)), (2, .bp (.sl 2) 0), (3, .bp (.sl 3) 0), (4, I i)], lookM [((.sl 2), some (.box z4)), ((.sl 3), some (.box [I D.w, I D.h, .rf (.ce 3 2) none 0 np, .rf (.ce 3 3) none 0 acc.length])), ((.ce 3 2), some (.arr 72 2 P)), ((.ce 3 3), some (.arr 77 2 (acc.map fC)))]⟩)) =
      some (.nm, ⟨lookS [(2, .bp (.sl 2) 0), (3, .bp (.sl 3) 0)], lookM [((.sl 2), some (.box z4)), ((.sl 3), some (.box [I D.w, I D.h, .rf (.ce 3 2) none 0 np, .rf (.ce 3 3) none 0 D.fcs.length])), ((.ce 3 2), some (.arr 72 2 P)), ((.ce 3 3), some (.arr 77 2 (D.fcs.map fC)))]⟩) := by
  intro n
  induction n with
  | zero =>
    intro i acc hi hr ha hne
    have h0 : ¬ (i : Int) < (D.fcs.length : Int) := by omega
    rw [List.drop_eq_nil_of_le (by omega), List.append_nil] at hr
    rw [lp_step, hr]
    simp [h0]
  | succ n ih =>
    intro i acc hi hr ha hne
    have hlt : i < D.fcs.length := by omega
    have h0 : (i : Int) < (D.fcs.length : Int) := by omega
    have hfb := hb.fcs
    obtain ⟨f, hf⟩ := get_lt hlt
    have hw := wrap_nat (i := i) (by simp only [big] at hfb; omega)
    have hb2 : acc.length + 1 ≤ big := by omega
    have c := rOwn124 d f.2 (hb.ring f (List.mem_of_getElem? hf))
    have ih' := ih (i + 1) (acc ++ [f]) (by omega) (by rw [List.append_assoc]; rw [drop_get hf] at hr; exact hr) (by simp; omega) (by simp)
    simp only [Int.natCast_add, Int.cast_ofNat_Int] at ih'
    simp at ih'
    rw [lp_step]
    simp [h0, hf, c, hw, hb2, fillU, adsOf, List.mapM_cons, ih']
set_option maxHeartbeats 1000000 in
theorem r73 (d : Nat) (D : Dr) (hb : BdD D) : ev (d + 2) 73 [.ag (dV D)] = some (.ag (dA D (.ow 72 2 (D.pts.map pC)) (fO D.fcs)), []) := by
  rw [s73 (d + 1) _ rfl]
  have cp := rClP d D.pts hb.pts
  by_cases hF : D.fcs = []
  · rw [hF]
    simp [cp, fO]
    rw [lp_step]
    simp [hF]
  · obtain ⟨f, F, hD⟩ : ∃ f F, D.fcs = f :: F := by
      cases h : D.fcs with
      | nil => exact absurd h hF
      | cons f F => exact ⟨f, F, rfl⟩
    have hf : D.fcs[0]? = some f := by rw [hD]; rfl
    have key := l73 d D hb D.pts.length (D.pts.map pC) F.length 1 [f] (by rw [hD]; simp) (by rw [hD]; rfl) rfl (by simp)
    have c := rClI d f.2 (hb.ring f (List.mem_of_getElem? hf))
    have hb1 : 1 ≤ big := by simp [big]
    have w1 : IntKind.i64.wrap 1 = 1 := by decide
    have hpos : 0 < D.fcs.length := List.length_pos_iff.2 hF
    have hpos2 : (0 : Int) < (D.fcs.length : Int) := by omega
    have hx0 : D.fcs[0] = f := (List.getElem?_eq_some_iff.1 hf).2
    rw [fO_ne hF]
    simp at key
    simp [cp, w1]
    rw [lp_step]
    simp [hpos, hpos2, hx0, c, hb1, w1, fillU, adsOf, List.mapM_cons, key]
set_option maxHeartbeats 1000000 in
theorem r72 (d : Nat) (D : Dr) (rest : List LV) (hb : BdD D) : ev (d + 2) 72 [.rp (dR D rest)] = some (.ag (dA D (.ow 72 2 (D.pts.map pC)) (fO D.fcs)), []) := by
  rw [s72 (d + 1) _ rfl]
  have hpp := hb.pts
  by_cases hF : D.fcs = []
  · rw [hF]
    simp [hpp, fO]
    rw [lp_step]
    simp [hF]
  · obtain ⟨f, F, hD⟩ : ∃ f F, D.fcs = f :: F := by
      cases h : D.fcs with
      | nil => exact absurd h hF
      | cons f F => exact ⟨f, F, rfl⟩
    have hf : D.fcs[0]? = some f := by rw [hD]; rfl
    have key := l72 d D rest hb D.pts.length (D.pts.map pC) F.length 1 [f] (by rw [hD]; simp) (by rw [hD]; rfl) rfl (by simp)
    have c := rOwn124 d f.2 (hb.ring f (List.mem_of_getElem? hf))
    have hb1 : 1 ≤ big := by simp [big]
    have w1 : IntKind.i64.wrap 1 = 1 := by decide
    have hpos : 0 < D.fcs.length := List.length_pos_iff.2 hF
    have hpos2 : (0 : Int) < (D.fcs.length : Int) := by omega
    have hx0 : D.fcs[0] = f := (List.getElem?_eq_some_iff.1 hf).2
    rw [fO_ne hF]
    simp at key
    simp [hpp, w1]
    rw [lp_step]
    simp [hpos, hpos2, hx0, c, hb1, w1, fillU, adsOf, List.mapM_cons, key]
/-! ### a drawing that is checked, and given back -/
def ckd (D : Dr) : LV × Int := ifb (drOk D) (.ag (dA D (.ow 72 2 (D.pts.map pC)) (fO D.fcs)), 0) (.ag z4, 6)
theorem start_dm (D : Dr) (e e' : Nat) (rows : List (List Cell)) : startW [.ag (dA D (.ow e 2 (D.pts.map pC)) (.ow e' 2 rows))] = some ([.ag (dA D (.rf (mk0 2) none 0 D.pts.length) (.rf (mk0 3) none 0 rows.length))], ⟨startS [.ag (dA D (.rf (mk0 2) none 0 D.pts.length) (.rf (mk0 3) none 0 rows.length))], updM (updM noMem (mk0 2) (some (.arr e 2 (D.pts.map pC)))) (mk0 3) (some (.arr e' 2 rows))⟩) := by
  rw [startW_eq («as» := [.ag (dA D (.rf (mk0 2) none 0 D.pts.length) (.rf (mk0 3) none 0 rows.length))]) (l := [(mk0 2, .arr e 2 (D.pts.map pC)), (mk0 3, .arr e' 2 rows)]) (by simp [openV, trav, travT, trav1, travL, opn, partsT, parts, parts1, partsL, thing, List.filterMap])]
  rfl
theorem start_dmn (D : Dr) (e : Nat) : startW [.ag (dA D (.ow e 2 (D.pts.map pC)) .nl)] = some ([.ag (dA D (.rf (mk0 2) none 0 D.pts.length) .nl)], ⟨startS [.ag (dA D (.rf (mk0 2) none 0 D.pts.length) .nl)], updM noMem (mk0 2) (some (.arr e 2 (D.pts.map pC)))⟩) := by
  rw [startW_eq («as» := [.ag (dA D (.rf (mk0 2) none 0 D.pts.length) .nl)]) (l := [(mk0 2, .arr e 2 (D.pts.map pC))]) (by simp [openV, trav, travT, trav1, travL, opn, partsT, parts, parts1, partsL, thing, List.filterMap])]
  rfl
end Go.Proofs.YthnkioafikmmaaaGreat.walkS
