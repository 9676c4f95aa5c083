/- Points that no face names; the row IsClean; no conditions. -/
import Derived.Test.YtojjkjbffihppaaWJun
namespace Go.Proofs.Ytojjkjbffihppaa.walkS
open Go Go.Proofs.Ytojjkjbffihppaa.Ev
set_option linter.unusedSimpArgs false
set_option linter.unusedVariables false
def fx (p : Fc → Bool) : Nat → List Fc → Int
  | _, [] => -1
  | i, x :: l => ifb (p x) (i : Int) (fx p (i + 1) l)
theorem fx_neg (p : Fc → Bool) : ∀ (l : List Fc) (i : Nat), l.any p = false → fx p i l = -1 := by
  intro l
  induction l with
  | nil => intro i _; rfl
  | cons x l ih =>
    intro i h
    rw [List.any_cons, Bool.or_eq_false_iff] at h
    simp only [fx, h.1, ifb_f]
    exact ih _ h.2
theorem fx_pos (p : Fc → Bool) : ∀ (l : List Fc) (i : Nat), l.any p = true → 0 ≤ fx p i l := by
  intro l
  induction l with
  | nil => intro i h; cases h
  | cons x l ih =>
    intro i h
    rw [List.any_cons] at h
    cases hp : p x
    · simp only [fx, hp, ifb_f]
      rw [hp, Bool.false_or] at h
      exact ih (i + 1) h
    · simp only [fx, hp, ifb_t]; omega
theorem l232 (d : Nat) (f : Nat) (vs : List LV) (p : Fc → Bool) (l : List Fc) (hp : ∀ g : Fc, g ∈ l → ev d f [.ag [T g.1, .ro 1 (g.2.map iC)], .rp vs] = some (B (p g), [])) (hb : l.length ≤ big) : ∀ (n i : Nat), n + i = l.length →
    clC [] [4] (blk 0 (lp (evC (ev d) b232_1) (clean [0, 1, 7, 8]) ⟨lookS [(0, .ro 2 (l.map fS)), (1, .cl f [.rp vs]), (7, I l.length), (8, I i)], lookM []⟩)) =
      ifb ((l.drop i).any p) (some (.rt, ⟨lookS [(4, I (fx p i (l.drop i)))], lookM []⟩)) (some (.nm, ⟨lookS [], lookM []⟩)) := by
  intro n
  induction n with
  | zero =>
    intro i hi
    have h0 : ¬ (i : Int) < (l.length : Int) := by omega
    have h1 : l.drop i = [] := List.drop_eq_nil_of_le (by omega)
    rw [lp_step, h1]
    simp [h0]
  | succ n ih =>
    intro i hi
    have hlt : i < l.length := by omega
    have h0 : (i : Int) < (l.length : Int) := by omega
    obtain ⟨x, hx⟩ := get_lt hlt
    have hw := wrap_nat (i := i) (by simp [big] at hb; omega)
    have ih' := ih (i + 1) (by omega)
    have hpx := hp x (List.mem_of_getElem? hx)
    rw [lp_step, drop_get hx, List.any_cons]
    simp only [fx]
    try simp at ih'
    cases hc : p x
    · rw [hc] at hpx
      simp [h0, hx, hw, hpx, ih']
    · rw [hc] at hpx
      simp [h0, hx, hpx]
theorem r232 (d : Nat) (f : Nat) (vs : List LV) (p : Fc → Bool) (l : List Fc) (hp : ∀ g : Fc, g ∈ l → ev d f [.ag [T g.1, .ro 1 (g.2.map iC)], .rp vs] = some (B (p g), [])) (hb : l.length ≤ big) : ev (d + 1) 232 [.ro 2 (l.map fS), .cl f [.rp vs]] = some (I (fx p 0 l), []) := by
  rw [s232 d _ rfl]
  have key := l232 d f vs p l hp hb l.length 0 (by omega)
  rw [List.drop_zero] at key
  cases h : l.any p <;> rw [h] at key <;> simp at key
  · simp [key, fx_neg p l 0 h]
  · simp [key]
theorem r186 (d : Nat) (f : Nat) (vs : List LV) (p : Fc → Bool) (l : List Fc) (hp : ∀ g : Fc, g ∈ l → ev d f [.ag [T g.1, .ro 1 (g.2.map iC)], .rp vs] = some (B (p g), [])) (hb : l.length ≤ big) : ev (d + 2) 186 [.ro 2 (l.map fS), .cl f [.rp vs]] = some (B (l.any p), []) := by
  rw [s186 (d + 1) _ rfl]
  have h1 := r232 d f vs p l hp hb
  cases h : l.any p
  · simp [h1, fx_neg p l 0 h]
  · simp [h1, fx_pos p l 0 h]
theorem r187 (d : Nat) (g : Fc) (p : Nat) (hb : g.2.length ≤ big) : ev (d + 3) 187 [.ag [T g.1, .ro 1 (g.2.map iC)], .rp [I p]] = some (B (hasR g.2 p), []) := by
  rw [s187 (d + 2) _ rfl]
  have h := r138 d g.2 hb p
  simp [h]
theorem us_any {F : List Fc} {p : Int} : ∀ (m i : Nat), m + i = F.length → usF F p (-1) m i = (F.drop i).any fun g => hasR g.2 p := by
  intro m
  induction m with
  | zero => intro i hi; rw [List.drop_eq_nil_of_le (by omega)]; rfl
  | succ m ih =>
    intro i hi
    obtain ⟨g, hg⟩ := get_lt (l := F) (i := i) (by omega)
    have hfr : fr F i = g.2 := by unfold fr; rw [hg]; rfl
    have hn : ¬ (i : Int) = -1 := by omega
    rw [drop_get hg, List.any_cons, ← ih (i + 1) (by omega)]
    simp only [usF, hfr, hn, decide_false, Bool.not_false, Bool.true_and]
    cases hasR g.2 p <;> rfl
theorem used_any (D : Dr) (p : Int) : used D p (-1) = D.fcs.any fun g => hasR g.2 p := us_any _ _ (by omega)
theorem l118 (d : Nat) (D : Dr) (hb : BdN D) : ∀ (n i : Nat) (acc r : List Int), n + i = D.pts.length → acc ++ whN (fun p => !used D p (-1)) n i = r → acc.length ≤ i →
    clC [3] [2] (blk 0 (lp (evC (ev (d + 5)) b118_1) (clean [1, 3, 8, 9]) ⟨lookS [(1, .bp (.sl 1) 0), (3, .rf (.sl 3) none 0 acc.length), (8, I D.pts.length), (9, I i)], lookM [((.sl 1), some (.box (dV D))), ((.sl 3), some (.arr 2 1 (acc.map iC)))]⟩)) =
      some (.nm, ⟨lookS [(3, .rf (.sl 3) none 0 r.length)], lookM [((.sl 3), some (.arr 2 1 (r.map iC)))]⟩) := by
  intro n
  induction n with
  | zero =>
    intro i acc r hi hr2 ha
    have h0 : ¬ (i : Int) < (D.pts.length : Int) := by omega
    have e : acc = r := by simpa [whN] using hr2
    subst e
    rw [lp_step]
    simp [h0]
  | succ n ih =>
    intro i acc r hi hr2 ha
    have hlt : i < D.pts.length := by omega
    have h0 : (i : Int) < (D.pts.length : Int) := by omega
    have hpb := hb.pts
    have hb2 : acc.length + 1 ≤ big := by omega
    have hw := wrap_nat (i := i) (by simp only [big] at hpb; omega)
    have hc := r186 (d + 3) 187 [I i] (fun g => hasR g.2 (i : Int)) D.fcs (fun g hg => r187 d g i (hb.ring g hg)) hb.fcs
    rw [← used_any] at hc
    have hr' := whN_at hr2
    rw [lp_step]
    cases hs : used D i (-1)
    · rw [hs] at hc hr'
      have ih' := ih (i + 1) (acc ++ [(i : Int)]) r (by omega) hr' (by simp; omega)
      simp only [Int.natCast_add, Int.cast_ofNat_Int] at ih'
      simp at ih'
      simp [h0, hc, hb2, hw, ih']
    · rw [hs] at hc hr'
      have ih' := ih (i + 1) acc r (by omega) hr' (by omega)
      simp only [Int.natCast_add, Int.cast_ofNat_Int] at ih'
      simp [h0, hc, hw, ih']
theorem r118 (d : Nat) (D : Dr) (hb : BdN D) : ev (d + 6) 118 [.ag (dV D)] = some (.ow 2 1 ((whN (fun p => !used D p (-1)) D.pts.length 0).map iC), []) := by
  rw [s118 (d + 5) _ rfl]
  have key := l118 d D hb D.pts.length 0 [] _ (by omega) rfl (by simp)
  rw [List.nil_append] at key
  simp at key
  simp [key]
def clF (D : Dr) : Nat → Nat → Bool
  | 0, _ => true
  | m + 1, i => ifb (spSt D i) false (ifb (used D i (-1)) (clF D m (i + 1)) false)
theorem clF_eq (D : Dr) : ∀ m i, clF D m i = (decide ((whN (spSt D) m i).length = 0) && decide ((whN (fun p => !used D p (-1)) m i).length = 0)) := by
  intro m
  induction m with
  | zero => intro i; rfl
  | succ m ih =>
    intro i
    simp only [clF]
    cases h1 : spSt D i
    · cases h2 : used D i (-1)
      · simp [whN, h1, h2]
      · simp only [ifb_f, ifb_t, ih (i + 1)]
        simp [whN, h1, h2]
    · simp [whN, h1]
def cleanB (D : Dr) : Bool := drOk D && (decide ((jF D D.fcs.length 0).length = 0) && clF D D.pts.length 0)
theorem l43 (d : Nat) (D : Dr) (hb : BdN D) (hr : ∀ f ∈ D.fcs, RingW D.pts f.2) : ∀ (n i : Nat), n + i = D.pts.length →
    clC [] [2] (blk 0 (lp (evC (ev (d + 3)) b43_1) (clean [1, 3]) ⟨lookS [(1, .bp (.sl 1) 0), (3, I i)], lookM [((.sl 1), some (.box (dV D)))]⟩)) =
      ifb (clF D n i) (some (.nm, ⟨lookS [], lookM []⟩)) (some (.rt, ⟨lookS [(2, B false)], lookM []⟩)) := by
  intro n
  induction n with
  | zero =>
    intro i hi
    have h0 : ¬ (i : Int) < (D.pts.length : Int) := by omega
    rw [lp_step]
    simp [h0, clF]
  | succ n ih =>
    intro i hi
    have hlt : i < D.pts.length := by omega
    have h0 : (i : Int) < (D.pts.length : Int) := by omega
    have hpb := hb.pts
    have hw := wrap_nat (i := i) (by simp only [big] at hpb; omega)
    have c1 := r114 d D [] hb i hlt hr
    have c2 := r115 (d + 1) D [] hb i (-1)
    have ih' := ih (i + 1) (by omega)
    simp only [Int.natCast_add, Int.cast_ofNat_Int] at ih'
    rw [lp_step]
    simp only [clF]
    cases h1 : spSt D i
    case true =>
      rw [h1] at c1
      simp [h0, c1]
    rw [h1] at c1
    cases h2 : used D i (-1)
    · rw [h2] at c2
      simp [h0, c1, c2]
    · rw [h2] at c2
      simp [h0, c1, c2, hw, ih']
theorem r43 (d : Nat) (D : Dr) (hb : BdN D) : ev (d + 7) 43 [.ag (dV D)] = some (B (cleanB D), []) := by
  rw [s43 (d + 6) _ rfl]
  have c1 := r96 d D [] hb
  unfold cleanB
  cases h1 : drOk D
  · rw [h1] at c1
    simp [c1]
  have c2 := r113 (d + 1) D [] hb h1
  have key := l43 (d + 3) D hb (drOk_ring h1) D.pts.length 0 (by omega)
  rw [h1] at c1
  generalize jF D D.fcs.length 0 = js at c2
  by_cases h2 : js.length = 0
  · have h2' : js = [] := List.eq_nil_of_length_eq_zero h2
    subst h2'
    simp at c2
    cases h3 : clF D D.pts.length 0 <;> rw [h3] at key <;> simp at key <;> simp [c1, c2, key]
  · have h2' : 0 < js.length := by omega
    have h2'' : (0 : Int) < (js.length : Int) := by omega
    have h3 : ¬ js = [] := fun e => h2 (by rw [e]; rfl)
    simp [c1, c2, h2', h2'', h3]
theorem r44 (d : Nat) (D : Dr) (hb : BdN D) : ev (d + 8) 44 [.ag (dV D)] = some (B (cleanB D), []) := by
  rw [s44 (d + 7) _ rfl]
  have c1 := r104 (d + 1) D hb
  unfold cleanB
  rw [clF_eq]
  cases h1 : drOk D
  · rw [h1] at c1
    simp [c1]
  have c2 := r116 d D hb h1
  have c3 := r117 (d + 4) D hb (drOk_ring h1)
  have c4 := r118 (d + 1) D hb
  rw [h1] at c1
  generalize jF D D.fcs.length 0 = js at c2
  generalize whN (spSt D) D.pts.length 0 = ws at c3
  generalize whN (fun p => !used D p (-1)) D.pts.length 0 = us at c4
  cases js with
  | cons j js => have hj : ¬ (js.length : Int) + 1 = 0 := by omega
                 simp at c2
                 simp [c1, c2, hj]
  | nil =>
    simp at c2
    cases ws with
    | cons j ws => have hj : ¬ (ws.length : Int) + 1 = 0 := by omega
                   simp at c3
                   simp [c1, c2, c3, hj]
    | nil =>
      simp at c3
      cases us with
      | cons j us => have hj : ¬ (us.length : Int) + 1 = 0 := by omega
                     simp at c4
                     simp [c1, c2, c3, c4, hj]
      | nil => simp at c4; simp [c1, c2, c3, c4]
theorem dr_n3 {w h : Int} {pts : List Pt} {fcs : List (Fc × Bool)} (hp : pts.length ≤ big) (hf : fcs.length ≤ big) (hr : ∀ q ∈ fcs, q.1.2.length ≤ big ∧ q.1.1.size ≤ big) : BdN ⟨w, h, pts, fcs.map (·.1)⟩ :=
  ⟨⟨hp, by simpa using hf, fun f hf => by
    obtain ⟨q, hq, rfl⟩ := List.mem_map.1 hf
    exact (hr q hq).1⟩, fun f hf => by
    obtain ⟨q, hq, rfl⟩ := List.mem_map.1 hf
    exact (hr q hq).2⟩
theorem r7 (d : Nat) (w h : Int) (pts : List Pt) (fcs : List (Fc × Bool)) (hp : pts.length ≤ maxLen) (hf : fcs.length ≤ maxLen) (hw : ∀ q ∈ fcs, WfF q) {x y : LV} (hx : SV 2 (pts.map pC) x) (hy : SV 2 (fcs.map fI) y) :
    ev (d + 9) 7 [.ag [I w, I h, x, y]] = some (B true, []) := by
  rw [s7 (d + 8) _ rfl]
  obtain ⟨k1, h1, s1⟩ := r37 (d + 4) w h pts fcs hp hf hw 1048576 (by omega) hx hy
  by_cases g1 : k1 < 0
  · rcases hx with rfl | ⟨rfl, _⟩ <;> rcases hy with rfl | ⟨rfl, _⟩ <;> simp [h1, g1]
  obtain ⟨_, b1, b2, b3⟩ := s1 (by omega)
  have bD : BdN ⟨w, h, pts, fcs.map (·.1)⟩ := dr_n3 b1 b2 b3
  have t1 := r39 (d + 4) w h pts fcs b1 b2 (fun q hq => ⟨(b3 q hq).1, (hw q hq).nil⟩) hx hy
  have f1 := r43 (d + 1) _ bD
  have f2 := r44 d _ bD
  have e1 := r41 (d + 4) _ bD.toBdD
  have n1 : fcs.length = (fcs.map (·.1)).length := by simp
  generalize cleanB ⟨w, h, pts, fcs.map (·.1)⟩ = r at f1 f2
  simp only [dV, dA] at f1 f2 e1
  generalize fcs.map (·.1) = lf at t1 f1 f2 e1 n1
  rcases hx with rfl | ⟨rfl, _⟩ <;> rcases hy with rfl | ⟨rfl, _⟩ <;> cases r <;> simp [h1, g1, t1, f1, f2, e1, n1]
end Go.Proofs.Ytojjkjbffihppaa.walkS
