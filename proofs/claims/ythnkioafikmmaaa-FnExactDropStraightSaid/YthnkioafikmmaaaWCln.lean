/- Points that no face names; the row IsClean; no conditions. -/
import Derived.Test.YthnkioafikmmaaaWJun
namespace Go.Proofs.Ythnkioafikmmaaa.walkS
open Go Go.Proofs.Ythnkioafikmmaaa.Ev
set_option linter.unusedSimpArgs false
set_option linter.unusedVariables false
def fx (p : Fc → Bool) : Nat → List Fc → Int
  | _, [] => -1
  | i, x :: l => ifb (p x) (i : Int) (fx p (i + 1) l)
theorem fx_neg (p : Fc → Bool) : ∀ (l : List Fc) (i : Nat), l.any p = false → fx p i l = -1 := by
  intro l
  induction l with
  | nil => intro i _; rfl
  | cons x l ih =>
    intro i h
    rw [List.any_cons, Bool.or_eq_false_iff] at h
    simp only [fx, h.1, ifb_f]
    exact ih _ h.2
theorem fx_pos (p : Fc → Bool) : ∀ (l : List Fc) (i : Nat), l.any p = true → 0 ≤ fx p i l := by
  intro l
  induction l with
  | nil => intro i h; cases h
  | cons x l ih =>
    intro i h
    rw [List.any_cons] at h
    cases hp : p x
    · simp only [fx, hp, ifb_f]
      rw [hp, Bool.false_or] at h
      exact ih (i + 1) h
    · simp only [fx, hp, ifb_t]; omega
theorem us_any {F : List Fc} {p : Int} : ∀ (m i : Nat), m + i = F.length → usF F p (-1) m i = (F.drop i).any fun g => hasR g.2 p := by
  intro m
  induction m with
  | zero => intro i hi; rw [List.drop_eq_nil_of_le (by omega)]; rfl
  | succ m ih =>
    intro i hi
    obtain ⟨g, hg⟩ := get_lt (l := F) (i := i) (by omega)
    have hfr : fr F i = g.2 := by unfold fr; rw [hg]; rfl
    have hn : ¬ (i : Int) = -1 := by omega
    rw [drop_get hg, List.any_cons, ← ih (i + 1) (by omega)]
    simp only [usF, hfr, hn, decide_false, Bool.not_false, Bool.true_and]
    cases hasR g.2 p <;> rfl
theorem used_any (D : Dr) (p : Int) : used D p (-1) = D.fcs.any fun g => hasR g.2 p := us_any _ _ (by omega)
def clF (D : Dr) : Nat → Nat → Bool
  | 0, _ => true
  | m + 1, i => ifb (spSt D i) false (ifb (used D i (-1)) (clF D m (i + 1)) false)
theorem clF_eq (D : Dr) : ∀ m i, clF D m i = (decide ((whN (spSt D) m i).length = 0) && decide ((whN (fun p => !used D p (-1)) m i).length = 0)) := by
  intro m
  induction m with
  | zero => intro i; rfl
  | succ m ih =>
    intro i
    simp only [clF]
    cases h1 : spSt D i
    · cases h2 : used D i (-1)
      · simp [whN, h1, h2]
      · simp only [ifb_f, ifb_t, ih (i + 1)]
        simp [whN, h1, h2]
    · simp [whN, h1]
def cleanB (D : Dr) : Bool := drOk D && (decide ((jF D D.fcs.length 0).length = 0) && clF D D.pts.length 0)
theorem dr_n3 {w h : Int} {pts : List Pt} {fcs : List (Fc × Bool)} (hp : pts.length ≤ big) (hf : fcs.length ≤ big) (hr : ∀ q ∈ fcs, q.1.2.length ≤ big ∧ q.1.1.size ≤ big) : BdN ⟨w, h, pts, fcs.map (·.1)⟩ :=
  ⟨⟨hp, by simpa using hf, fun f hf => by
    obtain ⟨q, hq, rfl⟩ := List.mem_map.1 hf
    exact (hr q hq).1⟩, fun f hf => by
    obtain ⟨q, hq, rfl⟩ := List.mem_map.1 hf
    exact (hr q hq).2⟩
end Go.Proofs.Ythnkioafikmmaaa.walkS
