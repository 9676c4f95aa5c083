/- Largest clear boxes: both searches find the same; no conditions. -/
import Derived.Test.YtejffoibihbnnaaWLcq
namespace Go.Proofs.Ytejffoibihbnnaa.walkS
open Go Go.Proofs.Ytejffoibihbnnaa.Ev
set_option linter.unusedSimpArgs false
set_option linter.unusedVariables false
def tl : List Int → List (Int × List Int)
  | [] => []
  | x :: t => (x, t) :: tl t
def LS (xs ys : List Int) : List Bx := (tl xs).flatMap fun p => (tl ys).flatMap fun r => p.2.flatMap fun j => r.2.map fun m => (p.1, r.1, j - p.1, m - r.1)
def LI (A B C E : List Int) : List Bx := A.flatMap fun x => B.flatMap fun r => C.flatMap fun y => E.map fun h => (x, y, r - x, h - y)
def mtP (q c : Bx) : Bool := decide (q.1 < c.1 + c.2.2.1 ∧ c.1 < q.1 + q.2.2.1 ∧ q.2.1 < c.2.1 + c.2.2.2 ∧ c.2.1 < q.2.1 + q.2.2.2)
def clr (df : List Bx) (q : Bx) : Bool := df.all fun c => !mtP q c
theorem clr_iff {df : List Bx} {q : Bx} : clr df q = true ↔ ∀ c ∈ df, ¬ (q.1 < c.1 + c.2.2.1 ∧ c.1 < q.1 + q.2.2.1 ∧ q.2.1 < c.2.1 + c.2.2.2 ∧ c.2.1 < q.2.1 + q.2.2.2) := by
  unfold clr
  rw [List.all_eq_true]
  constructor
  · intro h c hc q
    have := h c hc
    unfold mtP at this
    rw [decide_eq_true q] at this
    cases this
  · intro h c hc
    unfold mtP
    rw [decide_eq_false (h c hc)]
    rfl
theorem tl_mem : ∀ {xs : List Int}, xs.Pairwise (· < ·) → ∀ p ∈ tl xs, p.1 ∈ xs ∧ ∀ j ∈ p.2, j ∈ xs ∧ p.1 < j := by
  intro xs
  induction xs with
  | nil => intro _ p h; cases h
  | cons x t ih =>
    intro h p hp
    obtain ⟨h1, h2⟩ := List.pairwise_cons.1 h
    rcases List.mem_cons.1 hp with rfl | hp
    · exact ⟨by simp, fun j hj => ⟨by simp [hj], h1 j hj⟩⟩
    · obtain ⟨a, b⟩ := ih h2 p hp
      exact ⟨by simp [a], fun j hj => ⟨by simp [(b j hj).1], (b j hj).2⟩⟩
theorem tl_in : ∀ {xs : List Int}, xs.Pairwise (· < ·) → ∀ {x j : Int}, x ∈ xs → j ∈ xs → x < j → ∃ p ∈ tl xs, p.1 = x ∧ j ∈ p.2 := by
  intro xs
  induction xs with
  | nil => intro _ x j h; cases h
  | cons a t ih =>
    intro h x j hx hj hlt
    obtain ⟨h1, h2⟩ := List.pairwise_cons.1 h
    rcases List.mem_cons.1 hx with rfl | hx'
    · refine ⟨(x, t), by simp [tl], rfl, ?_⟩
      rcases List.mem_cons.1 hj with rfl | hj
      · omega
      · exact hj
    · rcases List.mem_cons.1 hj with rfl | hj
      · have := h1 x hx'; omega
      · obtain ⟨p, p1, p2, p3⟩ := ih h2 hx' hj hlt
        exact ⟨p, by simp [tl, p1], p2, p3⟩
theorem tl_pw : ∀ {xs : List Int}, xs.Pairwise (· < ·) → (tl xs).Pairwise (fun p r => p.1 < r.1) := by
  intro xs
  induction xs with
  | nil => intro _; exact List.Pairwise.nil
  | cons x t ih =>
    intro h
    obtain ⟨h1, h2⟩ := List.pairwise_cons.1 h
    exact List.pairwise_cons.2 ⟨fun p hp => h1 p.1 (tl_mem h2 p hp).1, ih h2⟩
theorem tl_tail : ∀ {xs : List Int}, xs.Pairwise (· < ·) → ∀ p ∈ tl xs, p.2.Pairwise (· < ·) := by
  intro xs
  induction xs with
  | nil => intro _ p h; cases h
  | cons x t ih =>
    intro h p hp
    obtain ⟨h1, h2⟩ := List.pairwise_cons.1 h
    rcases List.mem_cons.1 hp with rfl | hp
    · exact h2
    · exact ih h2 p hp
theorem LS_mem {xs ys : List Int} (hx : xs.Pairwise (· < ·)) (hy : ys.Pairwise (· < ·)) {q : Bx} : q ∈ LS xs ys ↔ (q.1 ∈ xs ∧ q.1 + q.2.2.1 ∈ xs ∧ 1 ≤ q.2.2.1) ∧ (q.2.1 ∈ ys ∧ q.2.1 + q.2.2.2 ∈ ys ∧ 1 ≤ q.2.2.2) := by
  obtain ⟨x, y, w, l⟩ := q
  unfold LS
  simp only [List.mem_flatMap, List.mem_map, Prod.mk.injEq]
  constructor
  · rintro ⟨p, hp, r, hr, j, hj, m, hm, rfl, rfl, rfl, rfl⟩
    obtain ⟨a1, a2⟩ := tl_mem hx p hp
    obtain ⟨b1, b2⟩ := tl_mem hy r hr
    obtain ⟨a3, a4⟩ := a2 j hj
    obtain ⟨b3, b4⟩ := b2 m hm
    refine ⟨⟨a1, ?_, by omega⟩, b1, ?_, by omega⟩
    · rw [show p.1 + (j - p.1) = j by omega]; exact a3
    · rw [show r.1 + (m - r.1) = m by omega]; exact b3
  · rintro ⟨⟨a1, a2, a3⟩, b1, b2, b3⟩
    obtain ⟨p, p1, p2, p3⟩ := tl_in hx a1 a2 (by omega)
    obtain ⟨r, r1, r2, r3⟩ := tl_in hy b1 b2 (by omega)
    exact ⟨p, p1, r, r1, _, p3, _, r3, p2, r2, by omega, by omega⟩
theorem LI_mem {A B C E : List Int} {q : Bx} : q ∈ LI A B C E ↔ q.1 ∈ A ∧ q.1 + q.2.2.1 ∈ B ∧ q.2.1 ∈ C ∧ q.2.1 + q.2.2.2 ∈ E := by
  obtain ⟨x, y, w, l⟩ := q
  unfold LI
  simp only [List.mem_flatMap, List.mem_map, Prod.mk.injEq]
  constructor
  · rintro ⟨a, ha, b, hb, c, hc, e, he, rfl, rfl, rfl, rfl⟩
    refine ⟨ha, ?_, hc, ?_⟩
    · rw [show a + (b - a) = b by omega]; exact hb
    · rw [show c + (e - c) = e by omega]; exact he
  · rintro ⟨ha, hb, hc, he⟩
    exact ⟨_, ha, _, hb, _, hc, _, he, rfl, rfl, by omega, by omega⟩
theorem LS_pw {xs ys : List Int} (hx : xs.Pairwise (· < ·)) (hy : ys.Pairwise (· < ·)) : (LS xs ys).Pairwise lexB := by
  unfold LS
  rw [List.pairwise_flatMap]
  refine ⟨fun p hp => ?_, (tl_pw hx).imp fun {p r} h a ha b hb => ?_⟩
  · rw [List.pairwise_flatMap]
    refine ⟨fun r hr => ?_, (tl_pw hy).imp fun {r s} h a ha b hb => ?_⟩
    · rw [List.pairwise_flatMap]
      refine ⟨fun j hj => ?_, (tl_tail hx p hp).imp fun {j k} h a ha b hb => ?_⟩
      · rw [List.pairwise_map]
        refine (tl_tail hy r hr).imp fun {m n} h => ?_
        have h : m < n := h
        exact .inr ⟨rfl, .inr ⟨rfl, .inr ⟨rfl, by show m - r.1 < n - r.1; omega⟩⟩⟩
      · have h : j < k := h
        obtain ⟨m, _, rfl⟩ := List.mem_map.1 ha
        obtain ⟨n, _, rfl⟩ := List.mem_map.1 hb
        exact .inr ⟨rfl, .inr ⟨rfl, .inl (by show j - p.1 < k - p.1; omega)⟩⟩
    · have h : r.1 < s.1 := h
      obtain ⟨j, _, ha⟩ := List.mem_flatMap.1 ha
      obtain ⟨m, _, rfl⟩ := List.mem_map.1 ha
      obtain ⟨k, _, hb⟩ := List.mem_flatMap.1 hb
      obtain ⟨n, _, rfl⟩ := List.mem_map.1 hb
      exact .inr ⟨rfl, .inl h⟩
  · have h : p.1 < r.1 := h
    obtain ⟨r1, _, ha⟩ := List.mem_flatMap.1 ha
    obtain ⟨j, _, ha⟩ := List.mem_flatMap.1 ha
    obtain ⟨m, _, rfl⟩ := List.mem_map.1 ha
    obtain ⟨r2, _, hb⟩ := List.mem_flatMap.1 hb
    obtain ⟨k, _, hb⟩ := List.mem_flatMap.1 hb
    obtain ⟨n, _, rfl⟩ := List.mem_map.1 hb
    exact .inl h
theorem area_pos {w l : Int} (h1 : 1 ≤ w) (h2 : 1 ≤ l) : 0 < w * l := Int.mul_pos (by omega) (by omega)
theorem area_w {w w' l : Int} (h : w < w') (h2 : 1 ≤ l) : w * l < w' * l := Int.mul_lt_mul_of_pos_right h (by omega)
theorem area_l {w l l' : Int} (h : l < l') (h2 : 1 ≤ w) : w * l < w * l' := Int.mul_lt_mul_of_pos_left h (by omega)
def gI (df : List Bx) (q : Bx) : Bool := decide (1 ≤ q.2.2.1 ∧ 1 ≤ q.2.2.2) && clr df q
def lfs (df : List Bx) : List Int := 0 :: df.map fun c => c.1 + c.2.2.1
def rgs (df : List Bx) (wd : Int) : List Int := wd :: df.map fun c => c.1
def los (df : List Bx) : List Int := 0 :: df.map fun c => c.2.1 + c.2.2.2
def his (df : List Bx) (ln : Int) : List Int := ln :: df.map fun c => c.2.1
theorem lc_law {df : List Bx} {wd ln : Int} (hd : ∀ c ∈ df, 0 ≤ c.1 ∧ 1 ≤ c.2.2.1 ∧ c.1 + c.2.2.1 ≤ wd ∧ 0 ≤ c.2.1 ∧ 1 ≤ c.2.2.2 ∧ c.2.1 + c.2.2.2 ≤ ln) {xs ys : List Int} (px : xs.Pairwise (· < ·)) (py : ys.Pairwise (· < ·)) (w0 : 0 ≤ wd) (l0 : 0 ≤ ln)
    (hx : ∀ z, z ∈ xs ↔ z = 0 ∨ z = wd ∨ ∃ c ∈ df, z = c.1 ∨ z = c.1 + c.2.2.1) (hy : ∀ z, z ∈ ys ↔ z = 0 ∨ z = ln ∨ ∃ c ∈ df, z = c.2.1 ∨ z = c.2.1 + c.2.2.2) :
    (LS xs ys).foldl (stS (clr df)) z0 = (LI (lfs df) (rgs df wd) (los df) (his df ln)).foldl (stI (gI df)) z0 := by
  have bx : ∀ z ∈ xs, 0 ≤ z ∧ z ≤ wd := fun z hz => by
    rcases (hx z).1 hz with rfl | rfl | ⟨c, hc, e⟩
    · omega
    · omega
    · have := hd c hc; omega
  have bY : ∀ z ∈ ys, 0 ≤ z ∧ z ≤ ln := fun z hz => by
    rcases (hy z).1 hz with rfl | rfl | ⟨c, hc, e⟩
    · omega
    · omega
    · have := hd c hc; omega
  have fS := foldS_best (clr df) (LS xs ys) [] z0 (LS_pw px py) (fun q hq _ => by
    obtain ⟨⟨_, _, a⟩, _, _, b⟩ := (LS_mem px py).1 hq
    exact area_pos a b) (.inl ⟨rfl, fun q h => by cases h.1⟩)
  have fI := foldI_best (gI df) (LI (lfs df) (rgs df wd) (los df) (his df ln)) [] z0 (fun q _ hq => by
    unfold gI at hq
    rw [Bool.and_eq_true, decide_eq_true_eq] at hq
    exact area_pos hq.1.1 hq.1.2) (.inl ⟨rfl, fun q h => by cases h.1⟩)
  rw [List.nil_append] at fS fI
  refine best_one ?_ fI
  have sub : ∀ q, q ∈ LI (lfs df) (rgs df wd) (los df) (his df ln) ∧ gI df q = true → q ∈ LS xs ys ∧ clr df q = true := fun q ⟨h1, h2⟩ => by
    unfold gI at h2
    rw [Bool.and_eq_true, decide_eq_true_eq] at h2
    obtain ⟨a, b, c, e⟩ := LI_mem.1 h1
    refine ⟨(LS_mem px py).2 ⟨⟨(hx _).2 ?_, (hx _).2 ?_, h2.1.1⟩, (hy _).2 ?_, (hy _).2 ?_, h2.1.2⟩, h2.2⟩
    · rcases List.mem_cons.1 a with h | h
      · exact .inl h
      · obtain ⟨c, hc, e⟩ := List.mem_map.1 h; exact .inr (.inr ⟨c, hc, .inr e.symm⟩)
    · rcases List.mem_cons.1 b with h | h
      · exact .inr (.inl h)
      · obtain ⟨c, hc, e⟩ := List.mem_map.1 h; exact .inr (.inr ⟨c, hc, .inl e.symm⟩)
    · rcases List.mem_cons.1 c with h | h
      · exact .inl h
      · obtain ⟨c, hc, e⟩ := List.mem_map.1 h; exact .inr (.inr ⟨c, hc, .inr e.symm⟩)
    · rcases List.mem_cons.1 e with h | h
      · exact .inr (.inl h)
      · obtain ⟨c, hc, e⟩ := List.mem_map.1 h; exact .inr (.inr ⟨c, hc, .inl e.symm⟩)
  rcases fS with ⟨e, hn⟩ | ⟨⟨h1, h2⟩, hm⟩
  · exact .inl ⟨e, fun q hq => hn q (sub q hq)⟩
  · refine .inr ⟨?_, fun q hq => hm q (sub q hq)⟩
    generalize (LS xs ys).foldl (stS (clr df)) z0 = b at h1 h2 hm
    obtain ⟨x, y, w, l⟩ := b
    obtain ⟨⟨a1, a2, a3⟩, b1, b2, b3⟩ := (LS_mem px py).1 h1
    simp only at a1 a2 a3 b1 b2 b3
    have hc := clr_iff.1 h2
    simp only at hc
    have no : ∀ q, q ∈ LS xs ys → clr df q = true → ¬ w * l < q.2.2.1 * q.2.2.2 := fun q p1 p2 hlt => by
      have : ar q < w * l ∨ (ar q = w * l ∧ _) := hm q ⟨p1, p2⟩
      unfold ar at this
      rcases this with h | ⟨h, _⟩ <;> omega
    refine ⟨LI_mem.2 ⟨?_, ?_, ?_, ?_⟩, by unfold gI; rw [h2, decide_eq_true (show (1 : Int) ≤ w ∧ (1 : Int) ≤ l from ⟨a3, b3⟩)]; rfl⟩
    · show x ∈ lfs df
      by_cases h : x ∈ lfs df
      · exact h
      exfalso
      unfold lfs at h
      simp only [List.mem_cons, List.mem_map, not_or, not_exists, not_and] at h
      obtain ⟨x', q1, q2, q3⟩ := ext_left (df := df) (fun c => c.1) (fun c => c.1 + c.2.2.1) (fun c => y < c.2.1 + c.2.2.2 ∧ c.2.1 < y + l) (xs := xs) (x := x) (r := x + w) ⟨0, (hx 0).2 (.inl rfl), by have := bx x a1; omega⟩ (fun c hcd => (hx _).2 (.inr (.inr ⟨c, hcd, .inr rfl⟩))) (fun c hcd => h.2 c hcd) (fun c hcd hy hh => hc c hcd ⟨hh.1, hh.2, hy.1, hy.2⟩)
      refine no (x', y, x + w - x', l) ((LS_mem px py).2 ⟨⟨q1, ?_, ?_⟩, b1, b2, b3⟩) (clr_iff.2 fun c hcd hh => ?_) ?_
      · show x' + (x + w - x') ∈ xs
        rw [show x' + (x + w - x') = x + w by omega]; exact a2
      · show 1 ≤ x + w - x'; omega
      · simp only at hh
        exact q3 c hcd ⟨hh.2.2.1, hh.2.2.2⟩ ⟨hh.1, by omega⟩
      · exact area_w (show w < x + w - x' by omega) b3
    · show x + w ∈ rgs df wd
      by_cases h : x + w ∈ rgs df wd
      · exact h
      exfalso
      unfold rgs at h
      simp only [List.mem_cons, List.mem_map, not_or, not_exists, not_and] at h
      obtain ⟨r', q1, q2, q3⟩ := ext_right (df := df) (fun c => c.1) (fun c => c.1 + c.2.2.1) (fun c => y < c.2.1 + c.2.2.2 ∧ c.2.1 < y + l) (xs := xs) (x := x) (r := x + w) ⟨wd, (hx wd).2 (.inr (.inl rfl)), by have := bx _ a2; omega⟩ (fun c hcd => (hx _).2 (.inr (.inr ⟨c, hcd, .inl rfl⟩))) (fun c hcd => h.2 c hcd) (fun c hcd hy hh => hc c hcd ⟨hh.1, hh.2, hy.1, hy.2⟩)
      refine no (x, y, r' - x, l) ((LS_mem px py).2 ⟨⟨a1, ?_, ?_⟩, b1, b2, b3⟩) (clr_iff.2 fun c hcd hh => ?_) ?_
      · show x + (r' - x) ∈ xs
        rw [show x + (r' - x) = r' by omega]; exact q1
      · show 1 ≤ r' - x; omega
      · simp only at hh
        exact q3 c hcd ⟨hh.2.2.1, hh.2.2.2⟩ ⟨hh.1, by omega⟩
      · exact area_w (show w < r' - x by omega) b3
    · show y ∈ los df
      by_cases h : y ∈ los df
      · exact h
      exfalso
      unfold los at h
      simp only [List.mem_cons, List.mem_map, not_or, not_exists, not_and] at h
      obtain ⟨y', q1, q2, q3⟩ := ext_left (df := df) (fun c => c.2.1) (fun c => c.2.1 + c.2.2.2) (fun c => x < c.1 + c.2.2.1 ∧ c.1 < x + w) (xs := ys) (x := y) (r := y + l) ⟨0, (hy 0).2 (.inl rfl), by have := bY y b1; omega⟩ (fun c hcd => (hy _).2 (.inr (.inr ⟨c, hcd, .inr rfl⟩))) (fun c hcd => h.2 c hcd) (fun c hcd hy hh => hc c hcd ⟨hy.1, hy.2, hh.1, hh.2⟩)
      refine no (x, y', w, y + l - y') ((LS_mem px py).2 ⟨⟨a1, a2, a3⟩, q1, ?_, ?_⟩) (clr_iff.2 fun c hcd hh => ?_) ?_
      · show y' + (y + l - y') ∈ ys
        rw [show y' + (y + l - y') = y + l by omega]; exact b2
      · show 1 ≤ y + l - y'; omega
      · simp only at hh
        exact q3 c hcd ⟨hh.1, hh.2.1⟩ ⟨hh.2.2.1, by omega⟩
      · exact area_l (show l < y + l - y' by omega) a3
    · show y + l ∈ his df ln
      by_cases h : y + l ∈ his df ln
      · exact h
      exfalso
      unfold his at h
      simp only [List.mem_cons, List.mem_map, not_or, not_exists, not_and] at h
      obtain ⟨r', q1, q2, q3⟩ := ext_right (df := df) (fun c => c.2.1) (fun c => c.2.1 + c.2.2.2) (fun c => x < c.1 + c.2.2.1 ∧ c.1 < x + w) (xs := ys) (x := y) (r := y + l) ⟨ln, (hy ln).2 (.inr (.inl rfl)), by have := bY _ b2; omega⟩ (fun c hcd => (hy _).2 (.inr (.inr ⟨c, hcd, .inl rfl⟩))) (fun c hcd => h.2 c hcd) (fun c hcd hy hh => hc c hcd ⟨hy.1, hy.2, hh.1, hh.2⟩)
      refine no (x, y, w, r' - y) ((LS_mem px py).2 ⟨⟨a1, a2, a3⟩, b1, ?_, ?_⟩) (clr_iff.2 fun c hcd hh => ?_) ?_
      · show y + (r' - y) ∈ ys
        rw [show y + (r' - y) = r' by omega]; exact q1
      · show 1 ≤ r' - y; omega
      · simp only at hh
        exact q3 c hcd ⟨hh.1, hh.2.1⟩ ⟨hh.2.2.1, by omega⟩
      · exact area_l (show l < r' - y by omega) a3
end Go.Proofs.Ytejffoibihbnnaa.walkS
