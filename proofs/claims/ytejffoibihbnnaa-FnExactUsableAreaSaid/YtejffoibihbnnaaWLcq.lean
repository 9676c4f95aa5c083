/- Largest clear boxes: the plain law; no conditions. -/
import Derived.Test.YtejffoibihbnnaaWMeet
namespace Go.Proofs.Ytejffoibihbnnaa.walkS
open Go Go.Proofs.Ytejffoibihbnnaa.Ev
set_option linter.unusedSimpArgs false
set_option linter.unusedVariables false
/-! ### one side of a box is moved to the next line -/
theorem near_left : ∀ (xs : List Int) (x : Int), (∃ z ∈ xs, z < x) → ∃ x' ∈ xs, x' < x ∧ ∀ z ∈ xs, z < x → z ≤ x' := by
  intro xs
  induction xs with
  | nil => intro x ⟨z, h, _⟩; cases h
  | cons a t ih =>
    intro x h
    by_cases ht : ∃ z ∈ t, z < x
    · obtain ⟨x', h1, h2, h3⟩ := ih x ht
      by_cases ha : a < x ∧ x' < a
      · refine ⟨a, by simp, ha.1, fun z hz hzx => ?_⟩
        rcases List.mem_cons.1 hz with rfl | hz
        · exact Int.le_refl _
        · have := h3 z hz hzx; omega
      · refine ⟨x', by simp [h1], h2, fun z hz hzx => ?_⟩
        rcases List.mem_cons.1 hz with rfl | hz
        · omega
        · exact h3 z hz hzx
    · obtain ⟨z, hz, hzx⟩ := h
      rcases List.mem_cons.1 hz with rfl | hz'
      · refine ⟨z, by simp, hzx, fun y hy hyx => ?_⟩
        rcases List.mem_cons.1 hy with rfl | hy
        · exact Int.le_refl _
        · exact absurd ⟨y, hy, hyx⟩ ht
      · exact absurd ⟨z, hz', hzx⟩ ht
theorem near_right (xs : List Int) (x : Int) (h : ∃ z ∈ xs, x < z) : ∃ x' ∈ xs, x < x' ∧ ∀ z ∈ xs, x < z → x' ≤ z := by
  obtain ⟨z, hz, hx⟩ := h
  obtain ⟨y, hy, h1, h2⟩ := near_left (xs.map fun z => -z) (-x) ⟨-z, List.mem_map.2 ⟨z, hz, rfl⟩, by omega⟩
  obtain ⟨w, hw, rfl⟩ := List.mem_map.1 hy
  exact ⟨w, hw, by omega, fun u hu hxu => by have := h2 (-u) (List.mem_map.2 ⟨u, hu, rfl⟩) (by omega); omega⟩
theorem ext_left {df : List Bx} (s e : Bx → Int) (Y : Bx → Prop) {xs : List Int} {x r : Int} (h0 : ∃ z ∈ xs, z < x) (he : ∀ c ∈ df, e c ∈ xs) (hn : ∀ c ∈ df, e c ≠ x) (hc : ∀ c ∈ df, Y c → ¬ (x < e c ∧ s c < r)) : ∃ x' ∈ xs, x' < x ∧ ∀ c ∈ df, Y c → ¬ (x' < e c ∧ s c < r) := by
  obtain ⟨x', h1, h2, h3⟩ := near_left xs x h0
  refine ⟨x', h1, h2, fun c hcd hy ⟨a, b⟩ => ?_⟩
  have p := hc c hcd hy
  have q := hn c hcd
  have t := h3 (e c) (he c hcd) (by omega)
  omega
theorem ext_right {df : List Bx} (s e : Bx → Int) (Y : Bx → Prop) {xs : List Int} {x r : Int} (h0 : ∃ z ∈ xs, r < z) (hs : ∀ c ∈ df, s c ∈ xs) (hn : ∀ c ∈ df, s c ≠ r) (hc : ∀ c ∈ df, Y c → ¬ (x < e c ∧ s c < r)) : ∃ r' ∈ xs, r < r' ∧ ∀ c ∈ df, Y c → ¬ (x < e c ∧ s c < r') := by
  obtain ⟨r', h1, h2, h3⟩ := near_right xs r h0
  refine ⟨r', h1, h2, fun c hcd hy ⟨a, b⟩ => ?_⟩
  have p := hc c hcd hy
  have q := hn c hcd
  have t := h3 (s c) (hs c hcd) (by omega)
  omega
/-! ### the best of a list -/
def ar (b : Bx) : Int := b.2.2.1 * b.2.2.2
def lexB (a b : Bx) : Prop := a.1 < b.1 ∨ (a.1 = b.1 ∧ (a.2.1 < b.2.1 ∨ (a.2.1 = b.2.1 ∧ (a.2.2.1 < b.2.2.1 ∨ (a.2.2.1 = b.2.2.1 ∧ a.2.2.2 < b.2.2.2)))))
instance (a b : Bx) : Decidable (lexB a b) := by unfold lexB; infer_instance
theorem lexB_asymm {a b : Bx} (h : lexB a b) (h' : lexB b a) : False := by unfold lexB at h h'; omega
theorem lexB_irr {a : Bx} (h : lexB a a) : False := lexB_asymm h h
theorem lexB_trans {a b c : Bx} (h : lexB a b) (h' : lexB b c) : lexB a c := by unfold lexB at h h' ⊢; omega
theorem lexB_tri {a b : Bx} (h : ¬ lexB a b) : b = a ∨ lexB b a := by
  obtain ⟨a1, a2, a3, a4⟩ := a
  obtain ⟨b1, b2, b3, b4⟩ := b
  unfold lexB at h ⊢
  simp only [Prod.mk.injEq] at h ⊢
  omega
def z0 : Bx := (0, 0, 0, 0)
def best (P : Bx → Prop) (b : Bx) : Prop := (b = z0 ∧ ∀ q, ¬ P q) ∨ (P b ∧ ∀ q, P q → ar q < ar b ∨ (ar q = ar b ∧ (q = b ∨ lexB b q)))
theorem best_one {P : Bx → Prop} {a b : Bx} (ha : best P a) (hb : best P b) : a = b := by
  rcases ha with ⟨e, h⟩ | ⟨h1, h2⟩ <;> rcases hb with ⟨e', h'⟩ | ⟨h1', h2'⟩
  · rw [e, e']
  · exact absurd h1' (h b)
  · exact absurd h1 (h' a)
  · rcases h2 b h1' with p | ⟨p, q | q⟩ <;> rcases h2' a h1 with p' | ⟨p', q' | q'⟩ <;> first | omega | exact q' | exact q.symm | exact (lexB_asymm q q').elim
def stS (g : Bx → Bool) (b q : Bx) : Bx := ifb (decide (ar b < ar q)) (ifb (g q) q b) b
theorem best_ext {P Q : Bx → Prop} (h : ∀ q, P q ↔ Q q) {b : Bx} (hb : best P b) : best Q b := by
  rcases hb with ⟨e, h1⟩ | ⟨h1, h2⟩
  · exact .inl ⟨e, fun q hq => h1 q ((h q).2 hq)⟩
  · exact .inr ⟨(h b).1 h1, fun q hq => h2 q ((h q).2 hq)⟩
theorem foldS_best (g : Bx → Bool) : ∀ (l pre : List Bx) (b : Bx), (pre ++ l).Pairwise lexB → (∀ q ∈ pre ++ l, g q = true → 0 < ar q) → best (fun q => q ∈ pre ∧ g q = true) b → best (fun q => q ∈ pre ++ l ∧ g q = true) (l.foldl (stS g) b) := by
  intro l
  induction l with
  | nil => intro pre b _ _ hb; simpa using hb
  | cons q t ih =>
    intro pre b hp hg hb
    have e : pre ++ q :: t = (pre ++ [q]) ++ t := by simp
    rw [e] at hp hg ⊢
    rw [List.foldl_cons]
    refine ih (pre ++ [q]) _ hp hg ?_
    have hpq : ∀ a ∈ pre, lexB a q := fun a ha => (List.pairwise_append.1 (List.pairwise_append.1 hp).1).2.2 a ha q (by simp)
    have hz : ar z0 = 0 := by decide
    unfold stS
    by_cases h1 : ar b < ar q
    · rw [decide_eq_true h1]
      cases h2 : g q
      · simp only [ifb_t, ifb_f]
        refine best_ext (fun a => ⟨fun ⟨x, y⟩ => ⟨by simp [x], y⟩, fun ⟨x, y⟩ => ⟨?_, y⟩⟩) hb
        rcases List.mem_append.1 x with x | x
        · exact x
        · rw [List.mem_singleton.1 x, h2] at y; cases y
      · simp only [ifb_t]
        refine .inr ⟨⟨by simp, h2⟩, fun a ⟨x, y⟩ => ?_⟩
        rcases List.mem_append.1 x with x | x
        · rcases hb with ⟨_, hn⟩ | ⟨_, hm⟩
          · exact absurd ⟨x, y⟩ (hn a)
          · rcases hm a ⟨x, y⟩ with p | ⟨p, _⟩ <;> exact .inl (by omega)
        · rw [List.mem_singleton.1 x]; exact .inr ⟨rfl, .inl rfl⟩
    · rw [decide_eq_false h1]
      simp only [ifb_f]
      cases h2 : g q
      · refine best_ext (fun a => ⟨fun ⟨x, y⟩ => ⟨by simp [x], y⟩, fun ⟨x, y⟩ => ⟨?_, y⟩⟩) hb
        rcases List.mem_append.1 x with x | x
        · exact x
        · rw [List.mem_singleton.1 x, h2] at y; cases y
      · have hq0 := hg q (by simp) h2
        rcases hb with ⟨e0, _⟩ | ⟨⟨hb1, hb2⟩, hm⟩
        · rw [e0, hz] at h1; omega
        · refine .inr ⟨⟨by simp [hb1], hb2⟩, fun a ⟨x, y⟩ => ?_⟩
          rcases List.mem_append.1 x with x | x
          · exact hm a ⟨x, y⟩
          · rw [List.mem_singleton.1 x]
            by_cases h3 : ar q < ar b
            · exact .inl h3
            · exact .inr ⟨by omega, .inr (hpq b hb1)⟩
def stI (g : Bx → Bool) (b q : Bx) : Bx := ifb (g q) (ifb (decide (ar b < ar q)) q (ifb (decide (ar q = ar b)) (ifb (decide (lexB q b)) q b) b)) b
theorem foldI_best (g : Bx → Bool) : ∀ (l pre : List Bx) (b : Bx), (∀ q ∈ pre ++ l, g q = true → 0 < ar q) → best (fun q => q ∈ pre ∧ g q = true) b → best (fun q => q ∈ pre ++ l ∧ g q = true) (l.foldl (stI g) b) := by
  intro l
  induction l with
  | nil => intro pre b _ hb; simpa using hb
  | cons q t ih =>
    intro pre b hg hb
    have e : pre ++ q :: t = (pre ++ [q]) ++ t := by simp
    rw [e] at hg ⊢
    rw [List.foldl_cons]
    refine ih (pre ++ [q]) _ hg ?_
    have hz : ar z0 = 0 := by decide
    unfold stI
    cases h2 : g q
    · simp only [ifb_f]
      refine best_ext (fun a => ⟨fun ⟨x, y⟩ => ⟨by simp [x], y⟩, fun ⟨x, y⟩ => ⟨?_, y⟩⟩) hb
      rcases List.mem_append.1 x with x | x
      · exact x
      · rw [List.mem_singleton.1 x, h2] at y; cases y
    have hq0 := hg q (by simp) h2
    simp only [ifb_t]
    have keep : (∀ a, a ∈ pre ∧ g a = true → ar a < ar q ∨ (ar a = ar q ∧ lexB q a)) → best (fun a => a ∈ pre ++ [q] ∧ g a = true) q := fun h => .inr ⟨⟨by simp, h2⟩, fun a ⟨x, y⟩ => by
      rcases List.mem_append.1 x with x | x
      · rcases h a ⟨x, y⟩ with p | ⟨p, p'⟩
        · exact .inl p
        · exact .inr ⟨p, .inr p'⟩
      · rw [List.mem_singleton.1 x]; exact .inr ⟨rfl, .inl rfl⟩⟩
    have stay : (b ∈ pre ∧ g b = true) → (∀ a, a ∈ pre ∧ g a = true → ar a < ar b ∨ (ar a = ar b ∧ (a = b ∨ lexB b a))) → (ar q < ar b ∨ (ar q = ar b ∧ (q = b ∨ lexB b q))) → best (fun a => a ∈ pre ++ [q] ∧ g a = true) b := fun h h' h'' => .inr ⟨⟨by simp [h.1], h.2⟩, fun a ⟨x, y⟩ => by
      rcases List.mem_append.1 x with x | x
      · exact h' a ⟨x, y⟩
      · rw [List.mem_singleton.1 x]; exact h''⟩
    by_cases h1 : ar b < ar q
    · rw [decide_eq_true h1]
      simp only [ifb_t]
      refine keep fun a ha => ?_
      rcases hb with ⟨_, hn⟩ | ⟨_, hm⟩
      · exact absurd ha (hn a)
      · rcases hm a ha with p | ⟨p, _⟩ <;> exact .inl (by omega)
    rw [decide_eq_false h1]
    simp only [ifb_f]
    rcases hb with ⟨e0, _⟩ | ⟨hb1, hm⟩
    · rw [e0, hz] at h1; omega
    by_cases h3 : ar q = ar b
    · rw [decide_eq_true h3]
      simp only [ifb_t]
      by_cases h4 : lexB q b
      · rw [decide_eq_true h4]
        simp only [ifb_t]
        refine keep fun a ha => ?_
        rcases hm a ha with p | ⟨p, p' | p'⟩
        · exact .inl (by omega)
        · rw [p']; exact .inr ⟨h3.symm, h4⟩
        · exact .inr ⟨by omega, lexB_trans h4 p'⟩
      · rw [decide_eq_false h4]
        simp only [ifb_f]
        exact stay hb1 hm (.inr ⟨h3, (lexB_tri h4).imp (fun e => e.symm) id⟩)
    · rw [decide_eq_false h3]
      simp only [ifb_f]
      exact stay hb1 hm (.inl (by omega))
end Go.Proofs.Ytejffoibihbnnaa.walkS
