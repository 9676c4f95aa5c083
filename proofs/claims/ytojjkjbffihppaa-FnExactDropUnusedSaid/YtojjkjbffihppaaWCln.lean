/- Points that no face names; the row IsClean; no conditions. -/
import Derived.Test.YtojjkjbffihppaaWJun
namespace Go.Proofs.Ytojjkjbffihppaa.walkS
open Go Go.Proofs.Ytojjkjbffihppaa.Ev
set_option linter.unusedSimpArgs false
set_option linter.unusedVariables false
def fx (p : Fc → Bool) : Nat → List Fc → Int
  | _, [] => -1
  | i, x :: l => ifb (p x) (i : Int) (fx p (i + 1) l)
theorem fx_neg (p : Fc → Bool) : ∀ (l : List Fc) (i : Nat), l.any p = false → fx p i l = -1 := by
  intro l
  induction l with
  | nil => intro i _; rfl
  | cons x l ih =>
    intro i h
    rw [List.any_cons, Bool.or_eq_false_iff] at h
    simp only [fx, h.1, ifb_f]
    exact ih _ h.2
theorem fx_pos (p : Fc → Bool) : ∀ (l : List Fc) (i : Nat), l.any p = true → 0 ≤ fx p i l := by
  intro l
  induction l with
  | nil => intro i h; cases h
  | cons x l ih =>
    intro i h
    rw [List.any_cons] at h
    cases hp : p x
    · simp only [fx, hp, ifb_f]
      rw [hp, Bool.false_or] at h
      exact ih (i + 1) h
    · simp only [fx, hp, ifb_t]; omega
theorem l232 (d : Nat) (f : Nat) (vs : List LV) (p : Fc → Bool) (l : List Fc) (hp : ∀ g : Fc, g ∈ l → ev d f [.ag [T g.1, .ro 1 (g.2.map iC)], .rp vs] = some (B (p g), [])) (hb : l.length ≤ big) : ∀ (n i : Nat), n + i = l.length →
    clC [] [4] (blk 0 (lp (evC (ev d) b232_1) (clean [0, 1, 7, 8]) ⟨lookS [(0, .ro 2 (l.map fS)), (1, .cl f [.rp vs]), (7, I l.length), (8, I i)], lookM []⟩)) =
      ifb ((l.drop i).any p) (some (.rt, ⟨lookS [(4, I (fx p i (l.drop i)))], lookM []⟩)) (some (.nm, ⟨lookS [], lookM []⟩)) := by
  intro n
  induction n with
  | zero =>
    intro i hi
    have h0 : ¬ (i : Int) < (l.length : Int) := by omega
    have h1 : l.drop i = [] := List.drop_eq_nil_of_le (by omega)
    rw [lp_step, h1]
    simp [h0]
  | succ n ih =>
    intro i hi
    have hlt : i < l.length := by omega
    have h0 : (i : Int) < (l.length : Int) := by omega
    obtain ⟨x, hx⟩ := get_lt hlt
    have hw := wrap_nat (i := i) (by simp [big] at hb; omega)
    have ih' := ih (i + 1) (by omega)
    have hpx := hp x (List.mem_of_getElem? hx)
    rw [lp_step, drop_get hx, List.any_cons]
    simp only [fx]
    try simp at ih'
    cases hc : p x
    · rw [hc] at hpx
      simp [h0, hx, hw, hpx, ih']
    · rw [hc] at hpx
      simp [h0, hx, hpx]
theorem r232 (d : Nat) (f : Nat) (vs : List LV) (p : Fc → Bool) (l : List Fc) (hp : ∀ g : Fc, g ∈ l → ev d f [.ag [T g.1, .ro 1 (g.2.map iC)], .rp vs] = some (B (p g), [])) (hb : l.length ≤ big) : ev (d + 1) 232 [.ro 2 (l.map fS), .cl f [.rp vs]] = some (I (fx p 0 l), []) := by
  rw [s232 d _ rfl]
  have key := l232 d f vs p l hp hb l.length 0 (by omega)
  rw [List.drop_zero] at key
  cases h : l.any p <;> rw [h] at key <;> simp at key
  · simp [key, fx_neg p l 0 h]
  · simp [key]
theorem r186 (d : Nat) (f : Nat) (vs : List LV) (p : Fc → Bool) (l : List Fc) (hp : ∀ g : Fc, g ∈ l → ev d f [.ag [T g.1, .ro 1 (g.2.map iC)], .rp vs] = some (B (p g), [])) (hb : l.length ≤ big) : ev (d + 2) 186 [.ro 2 (l.map fS), .cl f [.rp vs]] = some (B (l.any p), []) := by
  rw [s186 (d + 1) _ rfl]
  have h1 := r232 d f vs p l hp hb
  cases h : l.any p
  · simp [h1, fx_neg p l 0 h]
  · simp [h1, fx_pos p l 0 h]
theorem r187 (d : Nat) (g : Fc) (p : Nat) (hb : g.2.length ≤ big) : ev (d + 3) 187 [.ag [T g.1, .ro 1 (g.2.map iC)], .rp [I p]] = some (B (hasR g.2 p), []) := by
  rw [s187 (d + 2) _ rfl]
  have h := r138 d g.2 hb p
  simp [h]
theorem us_any {F : List Fc} {p : Int} : ∀ (m i : Nat), m + i = F.length → usF F p (-1) m i = (F.drop i).any fun g => hasR g.2 p := by
  intro m
  induction m with
  | zero => intro i hi; rw [List.drop_eq_nil_of_le (by omega)]; rfl
  | succ m ih =>
    intro i hi
    obtain ⟨g, hg⟩ := get_lt (l := F) (i := i) (by omega)
    have hfr : fr F i = g.2 := by unfold fr; rw [hg]; rfl
    have hn : ¬ (i : Int) = -1 := by omega
    rw [drop_get hg, List.any_cons, ← ih (i + 1) (by omega)]
    simp only [usF, hfr, hn, decide_false, Bool.not_false, Bool.true_and]
    cases hasR g.2 p <;> rfl
theorem used_any (D : Dr) (p : Int) : used D p (-1) = D.fcs.any fun g => hasR g.2 p := us_any _ _ (by omega)
theorem l118 (d : Nat) (D : Dr) (hb : BdN D) : ∀ (n i : Nat) (acc r : List Int), n + i = D.pts.length → acc ++ whN (fun p => !used D p (-1)) n i = r → acc.length ≤ i →
    clC [3] [2] (blk 0 (lp (evC (ev (d + 5)) b118_1) (clean [1, 3, 8, 9]) ⟨lookS [(1, .bp (.sl 1) 0), (3, .rf (.sl 3) none 0 acc.length), (8, I D.pts.length), (9, I i)], lookM [((.sl 1), some (.box (dV D))), ((.sl 3), some (.arr 2 1 (acc.map iC)))]⟩)) =
      some (.nm, ⟨lookS [(3, .rf (.sl 3) none 0 r.length)], lookM [((.sl 3), some (.arr 2 1 (r.map iC)))]⟩) := by
  intro n
  induction n with
  | zero =>
    intro i acc r hi hr2 ha
    have h0 : ¬ (i : Int) < (D.pts.length : Int) := by omega
    have e : acc = r := by simpa [whN] using hr2
    subst e
    rw [lp_step]
    simp [h0]
  | succ n ih =>
    intro i acc r hi hr2 ha
    have hlt : i < D.pts.length := by omega
    have h0 : (i : Int) < (D.pts.length : Int) := by omega
    have hpb := hb.pts
    have hb2 : acc.length + 1 ≤ big := by omega
    have hw := wrap_nat (i := i) (by simp only [big] at hpb; omega)
    have hc := r186 (d + 3) 187 [I i] (fun g => hasR g.2 (i : Int)) D.fcs (fun g hg => r187 d g i (hb.ring g hg)) hb.fcs
    rw [← used_any] at hc
    have hr' := whN_at hr2
    rw [lp_step]
    cases hs : used D i (-1)
    · rw [hs] at hc hr'
      have ih' := ih (i + 1) (acc ++ [(i : Int)]) r (by omega) hr' (by simp; omega)
      simp only [Int.natCast_add, Int.cast_ofNat_Int] at ih'
      simp at ih'
      simp [h0, hc, hb2, hw, ih']
    · rw [hs] at hc hr'
      have ih' := ih (i + 1) acc r (by omega) hr' (by omega)
      simp only [Int.natCast_add, Int.cast_ofNat_Int] at ih'
      simp [h0, hc, hw, ih']
theorem r118 (d : Nat) (D : Dr) (hb : BdN D) : ev (d + 6) 118 [.ag (dV D)] = some (.ow 2 1 ((whN (fun p => !used D p (-1)) D.pts.length 0).map iC), []) := by
  rw [s118 (d + 5) _ rfl]
  have key := l118 d D hb D.pts.length 0 [] _ (by omega) rfl (by simp)
  rw [List.nil_append] at key
  simp at key
  simp [key]
def clF (D : Dr) : Nat → Nat → Bool
  | 0, _ => true
  | m + 1, i => ifb (spSt D i) false (ifb (used D i (-1)) (clF D m (i + 1)) false)
theorem clF_eq (D : Dr) : ∀ m i, clF D m i = (decide ((whN (spSt D) m i).length = 0) && decide ((whN (fun p => !used D p (-1)) m i).length = 0)) := by
  intro m
  induction m with
  | zero => intro i; rfl
  | succ m ih =>
    intro i
    simp only [clF]
    cases h1 : spSt D i
    · cases h2 : used D i (-1)
      · simp [whN, h1, h2]
      · simp only [ifb_f, ifb_t, ih (i + 1)]
        simp [whN, h1, h2]
    · simp [whN, h1]
def cleanB (D : Dr) : Bool := drOk D && (decide ((jF D D.fcs.length 0).length = 0) && clF D D.pts.length 0)
theorem dr_n3 {w h : Int} {pts : List Pt} {fcs : List (Fc × Bool)} (hp : pts.length ≤ big) (hf : fcs.length ≤ big) (hr : ∀ q ∈ fcs, q.1.2.length ≤ big ∧ q.1.1.size ≤ big) : BdN ⟨w, h, pts, fcs.map (·.1)⟩ :=
  ⟨⟨hp, by simpa using hf, fun f hf => by
    obtain ⟨q, hq, rfl⟩ := List.mem_map.1 hf
    exact (hr q hq).1⟩, fun f hf => by
    obtain ⟨q, hq, rfl⟩ := List.mem_map.1 hf
    exact (hr q hq).2⟩
end Go.Proofs.Ytojjkjbffihppaa.walkS
