/- Largest clear boxes: the given search; no conditions. -/
import Derived.Test.YtejffoibihbnnaaWLcs
namespace Go.Proofs.Ytejffoibihbnnaa.walkS
open Go Go.Proofs.Ytejffoibihbnnaa.Ev
set_option linter.unusedSimpArgs false
set_option linter.unusedVariables false
theorem rc80 (d : Nat) (q b : Bx) : ev (d + 3) 80 [.ag (bV b), .rp (bV q)] = some (B (comOk b q), []) := by
  rw [s80 (d + 2) _ rfl]
  simp [r81 d b q]
theorem any_sameB {p q : Bx → Bool} : ∀ {l : List Bx}, (∀ b ∈ l, p b = q b) → l.any p = l.any q := by
  intro l
  induction l with
  | nil => intro _; rfl
  | cons c t ih => intro h; rw [List.any_cons, List.any_cons, h c (by simp), ih fun b hb => h b (by simp [hb])]
theorem own_any {L : Lf} (h : LcB L) {q : Bx} (hq : smallB q) : (L.df.any fun b => comOk b q) = !clr L.df q := by
  have hw := h.w
  have hl := h.l
  obtain ⟨q1, q2, q3, q4⟩ := hq
  have e1 : (L.df.any fun b => comOk b q) = L.df.any fun b => meetB q b := any_sameB fun b hb => meet_same (by have := h.d b hb; refine ⟨?_, ?_, ?_, ?_⟩ <;> omega) ⟨q1, q2, q3, q4⟩
  have e2 : clW L.df q = clr L.df q := clW_clr (fun c hc => wrap_sm (by have := h.d c hc; omega)) (fun c hc => wrap_sm (by have := h.d c hc; omega)) (wrap_sm (by omega)) (wrap_sm (by omega))
  rw [e1, ← e2]
  unfold clW
  rw [List.not_all_eq_any_not]
  simp
theorem stI_sm {g : Bx → Bool} {b q : Bx} (hb : smB b) (hq : smB q) : smB (stI g b q) := by
  unfold stI
  cases g q <;> cases decide (ar b < ar q) <;> cases decide (ar q = ar b) <;> cases decide (lexB q b) <;> simp only [ifb_t, ifb_f] <;> assumption
def gi5 (g : Bx → Bool) (x r y : Int) (F : List Int) (b : Bx) : Bx := F.foldl (fun b h => stI g b (x, y, r - x, h - y)) b
def gi4 (g : Bx → Bool) (x r : Int) (E F : List Int) (b : Bx) : Bx := E.foldl (fun b y => gi5 g x r y F b) b
def gi3 (g : Bx → Bool) (x : Int) (C E F : List Int) (b : Bx) : Bx := C.foldl (fun b r => gi4 g x r E F b) b
def gi2 (g : Bx → Bool) (A C E F : List Int) (b : Bx) : Bx := A.foldl (fun b x => gi3 g x C E F b) b
theorem gi2_LI (g : Bx → Bool) (A C E F : List Int) (b : Bx) : gi2 g A C E F b = (LI A C E F).foldl (stI g) b := by
  unfold LI gi2
  rw [List.foldl_flatMap]
  congr 1
  funext b x
  unfold gi3
  rw [List.foldl_flatMap]
  congr 1
  funext b r
  unfold gi4
  rw [List.foldl_flatMap]
  congr 1
  funext b y
  unfold gi5
  rw [List.foldl_map]
theorem fold_sm {α : Type} {f : Bx → α → Bx} {p : α → Prop} (hf : ∀ b a, p a → smB b → smB (f b a)) : ∀ {l : List α} {b : Bx}, (∀ a ∈ l, p a) → smB b → smB (l.foldl f b) := by
  intro l
  induction l with
  | nil => intro b _ h; exact h
  | cons a t ih => intro b hp h; exact ih (fun z q => hp z (by simp [q])) (hf b a (hp a (by simp)) h)
theorem gi5_sm {g : Bx → Bool} {x r y : Int} (hx : 0 ≤ x ∧ x ≤ 20000) (hr : 0 ≤ r ∧ r ≤ 20000) (hy : 0 ≤ y ∧ y ≤ 20000) {F : List Int} {b : Bx} (hF : smX F) (hb : smB b) : smB (gi5 g x r y F b) :=
  fold_sm (p := fun h => 0 ≤ h ∧ h ≤ 20000) (fun b h hh hb => stI_sm hb ⟨by simp only; omega, by simp only; omega⟩) hF hb
theorem gi4_sm {g : Bx → Bool} {x r : Int} (hx : 0 ≤ x ∧ x ≤ 20000) (hr : 0 ≤ r ∧ r ≤ 20000) {E F : List Int} {b : Bx} (hE : smX E) (hF : smX F) (hb : smB b) : smB (gi4 g x r E F b) :=
  fold_sm (p := fun h => 0 ≤ h ∧ h ≤ 20000) (fun b h hh hb => gi5_sm hx hr hh hF hb) hE hb
theorem gi3_sm {g : Bx → Bool} {x : Int} (hx : 0 ≤ x ∧ x ≤ 20000) {C E F : List Int} {b : Bx} (hC : smX C) (hE : smX E) (hF : smX F) (hb : smB b) : smB (gi3 g x C E F b) :=
  fold_sm (p := fun h => 0 ≤ h ∧ h ≤ 20000) (fun b h hh hb => gi4_sm hx hh hE hF hb) hC hb
set_option maxHeartbeats 2000000 in
theorem l18_5 (d : Nat) (L : Lf) (h : LcB L) (A C E F : List Int) (hA : smX A) (hC : smX C) (hE : smX E) (hF : smX F) (lA : A.length ≤ 2000000) (lC : C.length ≤ 2000000) (lE : E.length ≤ 2000000) (lF : F.length ≤ 2000000) (i k j : Nat) (x r y : Int) (hx : 0 ≤ x ∧ x ≤ 20000) (hr0 : 0 ≤ r ∧ r ≤ 20000) (hy : 0 ≤ y ∧ y ≤ 20000) : ∀ (n m : Nat) (b res : Bx), F.length ≤ n + m → smB b → gi5 (gI L.df) x r y (F.drop m) b = res →
    clC [1, 2, 5, 6, 7, 10, 12, 14, 68, 69, 70, 74, 75, 76, 80, 81, 82] [2, 3] (blk 8 (lp (evC (ev (d + 5)) b18_5) (clean [1, 2, 5, 6, 7, 10, 12, 14, 16, 68, 69, 70, 74, 75, 76, 80, 81, 82, 86, 87, 88]) ⟨lookS [(1, .bp (.sl 1) 0), (2, .bp (.sl 2) 0), (5, .rf (.sl 5) none 0 C.length), (6, .rf (.sl 6) none 0 E.length), (7, .rf (.sl 7) none 0 F.length), (10, .bp (.sl 10) 0), (12, I x), (14, I r), (16, I y), (68, .rf (.sl 68) none 0 A.length), (69, I A.length), (70, I i), (74, .rf (.sl 5) none 0 C.length), (75, I C.length), (76, I k), (80, .rf (.sl 6) none 0 E.length), (81, I E.length), (82, I j), (86, .rf (.sl 7) none 0 F.length), (87, I F.length), (88, I m)], lookM [((.sl 1), some (.box (lV L))), ((.sl 2), some (.box (bV z0))), ((.sl 5), some (.arr 2 1 (C.map iC))), ((.sl 6), some (.arr 2 1 (E.map iC))), ((.sl 7), some (.arr 2 1 (F.map iC))), ((.sl 10), some (.box (bV b))), ((.sl 68), some (.arr 2 1 (A.map iC)))]⟩)) =
      some (.nm, ⟨lookS [(1, .bp (.sl 1) 0), (2, .bp (.sl 2) 0), (5, .rf (.sl 5) none 0 C.length), (6, .rf (.sl 6) none 0 E.length), (7, .rf (.sl 7) none 0 F.length), (10, .bp (.sl 10) 0), (12, I x), (14, I r), (68, .rf (.sl 68) none 0 A.length), (69, I A.length), (70, I i), (74, .rf (.sl 5) none 0 C.length), (75, I C.length), (76, I k), (80, .rf (.sl 6) none 0 E.length), (81, I E.length), (82, I j)], lookM [((.sl 1), some (.box (lV L))), ((.sl 2), some (.box (bV z0))), ((.sl 5), some (.arr 2 1 (C.map iC))), ((.sl 6), some (.arr 2 1 (E.map iC))), ((.sl 7), some (.arr 2 1 (F.map iC))), ((.sl 10), some (.box (bV res))), ((.sl 68), some (.arr 2 1 (A.map iC)))]⟩) := by
  intro n
  induction n with
  | zero =>
    intro m b res hm sb hr
    have h0 : ¬ (m : Int) < (F.length : Int) := by omega
    rw [show F.drop m = [] from List.drop_eq_nil_of_le (by omega)] at hr
    have e : b = res := hr
    subst e
    rw [lp_step]
    simp [h0]
  | succ n ih =>
    intro m b res hm sb hr
    by_cases hlt : m < F.length
    case neg =>
      have h0 : ¬ (m : Int) < (F.length : Int) := by omega
      rw [show F.drop m = [] from List.drop_eq_nil_of_le (by omega)] at hr
      have e : b = res := hr
      subst e
      rw [lp_step]
      simp [h0]
    have h0 : (m : Int) < (F.length : Int) := by omega
    obtain ⟨z, hz⟩ := get_lt hlt
    have bz := hF z (List.mem_of_getElem? hz)
    have hw := wrap_nat (i := m) (by omega)
    rw [drop_get hz] at hr
    have w1 : IntKind.i64.wrap (r - x) = r - x := wrap_sm (by omega)
    have w2 : IntKind.i64.wrap (z - y) = z - y := wrap_sm (by omega)
    have sq : smB (x, y, r - x, z - y) := ⟨by simp only; omega, by simp only; omega⟩
    have ih' := ih (m + 1) (stI (gI L.df) b (x, y, r - x, z - y)) res (by omega) (stI_sm sb sq) hr
    simp only [Int.natCast_add, Int.cast_ofNat_Int] at ih'
    have hn := h.n
    have c1 := r79 (d + 3) 80 (bV (x, y, r - x, z - y)) (fun c => comOk c (x, y, r - x, z - y)) (fun c => rc80 d (x, y, r - x, z - y) c) L.df (by simp only [big]; omega)
    rw [lp_step]
    unfold stI gI at ih'
    by_cases g1 : r - x < 1
    · rw [show decide (1 ≤ (x, y, r - x, z - y).2.2.1 ∧ 1 ≤ (x, y, r - x, z - y).2.2.2) = false from decide_eq_false (by simp only; omega)] at ih'
      simp only [Bool.false_and, ifb_f] at ih'
      simp [h0, hz, hw, w1, w2, g1, ih']
    by_cases g2 : z - y < 1
    · rw [show decide (1 ≤ (x, y, r - x, z - y).2.2.1 ∧ 1 ≤ (x, y, r - x, z - y).2.2.2) = false from decide_eq_false (by simp only; omega)] at ih'
      simp only [Bool.false_and, ifb_f] at ih'
      simp [h0, hz, hw, w1, w2, g1, g2, ih']
    rw [own_any h (q := (x, y, r - x, z - y)) ⟨by simp only; omega, by simp only; omega, by simp only; omega, by simp only; omega⟩] at c1
    rw [show decide (1 ≤ (x, y, r - x, z - y).2.2.1 ∧ 1 ≤ (x, y, r - x, z - y).2.2.2) = true from decide_eq_true (by simp only; omega)] at ih'
    simp only [Bool.true_and] at ih'
    cases g3 : clr L.df (x, y, r - x, z - y)
    · rw [g3] at ih' c1
      simp only [ifb_f] at ih'
      simp [bV] at c1
      simp [h0, hz, hw, w1, w2, g1, g2, c1, ih']
    rw [g3] at ih' c1
    simp only [ifb_t] at ih'
    simp [bV] at c1
    have a1 := ar_bd (w := r - x) (l := z - y) (by omega) (by omega)
    have a2 := ar_bd sb.1 sb.2
    have w3 : IntKind.i64.wrap ((r - x) * (z - y)) = (r - x) * (z - y) := wrap_sm (by omega)
    have w4 : IntKind.i64.wrap (b.2.2.1 * b.2.2.2) = b.2.2.1 * b.2.2.2 := wrap_sm (by omega)
    have w5 : IntKind.i64.wrap ((r - x) * (z - y) - b.2.2.1 * b.2.2.2) = (r - x) * (z - y) - b.2.2.1 * b.2.2.2 := wrap_sm (by omega)
    unfold ar at ih'
    by_cases g4 : b.2.2.1 * b.2.2.2 < (r - x) * (z - y)
    · rw [show decide (b.2.2.1 * b.2.2.2 < (x, y, r - x, z - y).2.2.1 * (x, y, r - x, z - y).2.2.2) = true from decide_eq_true g4] at ih'
      simp only [ifb_t] at ih'
      have g5 : 0 < (r - x) * (z - y) - b.2.2.1 * b.2.2.2 := by omega
      simp [h0, hz, hw, w1, w2, w3, w4, w5, g1, g2, c1, g4, g5, ih']
    rw [show decide (b.2.2.1 * b.2.2.2 < (x, y, r - x, z - y).2.2.1 * (x, y, r - x, z - y).2.2.2) = false from decide_eq_false g4] at ih'
    simp only [ifb_f] at ih'
    have g5 : ¬ 0 < (r - x) * (z - y) - b.2.2.1 * b.2.2.2 := by omega
    by_cases g6 : (r - x) * (z - y) = b.2.2.1 * b.2.2.2
    · rw [show decide ((x, y, r - x, z - y).2.2.1 * (x, y, r - x, z - y).2.2.2 = b.2.2.1 * b.2.2.2) = true from decide_eq_true g6] at ih'
      simp only [ifb_t] at ih'
      have g7 : (r - x) * (z - y) - b.2.2.1 * b.2.2.2 = 0 := by omega
      have w6 : IntKind.i64.wrap 0 = 0 := by decide
      have c2 := r82 (d + 1) (x, y, r - x, z - y) b
      by_cases g8 : lexB (x, y, r - x, z - y) b
      · rw [decide_eq_true g8] at ih'
        simp only [ifb_t] at ih'
        have g9 := cmL_lex.2 g8
        generalize cmL (bL (x, y, r - x, z - y)) (bL b) = cc at c2 g9
        simp [bV] at c2
        simp [h0, hz, hw, w1, w2, w3, w4, w5, g1, g2, c1, c2, g4, g5, g6, g7, g9, w6, ih']
      · rw [decide_eq_false g8] at ih'
        simp only [ifb_f] at ih'
        have g9 : ¬ cmL (bL (x, y, r - x, z - y)) (bL b) < 0 := fun q => g8 (cmL_lex.1 q)
        generalize cmL (bL (x, y, r - x, z - y)) (bL b) = cc at c2 g9
        simp [bV] at c2
        simp [h0, hz, hw, w1, w2, w3, w4, w5, g1, g2, c1, c2, g4, g5, g6, g7, g9, w6, ih']
    · rw [show decide ((x, y, r - x, z - y).2.2.1 * (x, y, r - x, z - y).2.2.2 = b.2.2.1 * b.2.2.2) = false from decide_eq_false g6] at ih'
      simp only [ifb_f] at ih'
      have g7 : ¬ (r - x) * (z - y) - b.2.2.1 * b.2.2.2 = 0 := by omega
      simp [h0, hz, hw, w1, w2, w3, w4, w5, g1, g2, c1, g4, g5, g6, g7, ih']
set_option maxHeartbeats 2000000 in
theorem l18_4 (d : Nat) (L : Lf) (h : LcB L) (A C E F : List Int) (hA : smX A) (hC : smX C) (hE : smX E) (hF : smX F) (lA : A.length ≤ 2000000) (lC : C.length ≤ 2000000) (lE : E.length ≤ 2000000) (lF : F.length ≤ 2000000) (i k : Nat) (x r : Int) (hx : 0 ≤ x ∧ x ≤ 20000) (hr0 : 0 ≤ r ∧ r ≤ 20000) : ∀ (n j : Nat) (b res : Bx), E.length ≤ n + j → smB b → gi4 (gI L.df) x r (E.drop j) F b = res →
    clC [1, 2, 5, 6, 7, 10, 12, 68, 69, 70, 74, 75, 76] [2, 3] (blk 6 (lp (evC (ev (d + 5)) b18_4) (clean [1, 2, 5, 6, 7, 10, 12, 14, 68, 69, 70, 74, 75, 76, 80, 81, 82]) ⟨lookS [(1, .bp (.sl 1) 0), (2, .bp (.sl 2) 0), (5, .rf (.sl 5) none 0 C.length), (6, .rf (.sl 6) none 0 E.length), (7, .rf (.sl 7) none 0 F.length), (10, .bp (.sl 10) 0), (12, I x), (14, I r), (68, .rf (.sl 68) none 0 A.length), (69, I A.length), (70, I i), (74, .rf (.sl 5) none 0 C.length), (75, I C.length), (76, I k), (80, .rf (.sl 6) none 0 E.length), (81, I E.length), (82, I j)], lookM [((.sl 1), some (.box (lV L))), ((.sl 2), some (.box (bV z0))), ((.sl 5), some (.arr 2 1 (C.map iC))), ((.sl 6), some (.arr 2 1 (E.map iC))), ((.sl 7), some (.arr 2 1 (F.map iC))), ((.sl 10), some (.box (bV b))), ((.sl 68), some (.arr 2 1 (A.map iC)))]⟩)) =
      some (.nm, ⟨lookS [(1, .bp (.sl 1) 0), (2, .bp (.sl 2) 0), (5, .rf (.sl 5) none 0 C.length), (6, .rf (.sl 6) none 0 E.length), (7, .rf (.sl 7) none 0 F.length), (10, .bp (.sl 10) 0), (12, I x), (68, .rf (.sl 68) none 0 A.length), (69, I A.length), (70, I i), (74, .rf (.sl 5) none 0 C.length), (75, I C.length), (76, I k)], lookM [((.sl 1), some (.box (lV L))), ((.sl 2), some (.box (bV z0))), ((.sl 5), some (.arr 2 1 (C.map iC))), ((.sl 6), some (.arr 2 1 (E.map iC))), ((.sl 7), some (.arr 2 1 (F.map iC))), ((.sl 10), some (.box (bV res))), ((.sl 68), some (.arr 2 1 (A.map iC)))]⟩) := by
  intro n
  induction n with
  | zero =>
    intro j b res hm sb hr
    have h0 : ¬ (j : Int) < (E.length : Int) := by omega
    rw [show E.drop j = [] from List.drop_eq_nil_of_le (by omega)] at hr
    have e : b = res := hr
    subst e
    rw [lp_step]
    simp [h0]
  | succ n ih =>
    intro j b res hm sb hr
    by_cases hlt : j < E.length
    case neg =>
      have h0 : ¬ (j : Int) < (E.length : Int) := by omega
      rw [show E.drop j = [] from List.drop_eq_nil_of_le (by omega)] at hr
      have e : b = res := hr
      subst e
      rw [lp_step]
      simp [h0]
    have h0 : (j : Int) < (E.length : Int) := by omega
    obtain ⟨z, hz⟩ := get_lt hlt
    have bz := hE z (List.mem_of_getElem? hz)
    have hw := wrap_nat (i := j) (by omega)
    rw [drop_get hz] at hr
    have key := l18_5 d L h A C E F hA hC hE hF lA lC lE lF i k j x r z hx hr0 bz F.length 0 b _ (by omega) sb rfl
    have sb' := gi5_sm (g := gI L.df) hx hr0 bz hF sb
    have ih' := ih (j + 1) (gi5 (gI L.df) x r z F b) res (by omega) sb' hr
    rw [List.drop_zero] at key
    generalize gi5 (gI L.df) x r z F b = b' at key ih'
    simp only [Int.natCast_add, Int.cast_ofNat_Int] at ih' key
    rw [lp_step]
    simp [h0, hz, hw, key, ih']
set_option maxHeartbeats 2000000 in
theorem l18_3 (d : Nat) (L : Lf) (h : LcB L) (A C E F : List Int) (hA : smX A) (hC : smX C) (hE : smX E) (hF : smX F) (lA : A.length ≤ 2000000) (lC : C.length ≤ 2000000) (lE : E.length ≤ 2000000) (lF : F.length ≤ 2000000) (i : Nat) (x : Int) (hx : 0 ≤ x ∧ x ≤ 20000) : ∀ (n k : Nat) (b res : Bx), C.length ≤ n + k → smB b → gi3 (gI L.df) x (C.drop k) E F b = res →
    clC [1, 2, 5, 6, 7, 10, 68, 69, 70] [2, 3] (blk 4 (lp (evC (ev (d + 5)) b18_3) (clean [1, 2, 5, 6, 7, 10, 12, 68, 69, 70, 74, 75, 76]) ⟨lookS [(1, .bp (.sl 1) 0), (2, .bp (.sl 2) 0), (5, .rf (.sl 5) none 0 C.length), (6, .rf (.sl 6) none 0 E.length), (7, .rf (.sl 7) none 0 F.length), (10, .bp (.sl 10) 0), (12, I x), (68, .rf (.sl 68) none 0 A.length), (69, I A.length), (70, I i), (74, .rf (.sl 5) none 0 C.length), (75, I C.length), (76, I k)], lookM [((.sl 1), some (.box (lV L))), ((.sl 2), some (.box (bV z0))), ((.sl 5), some (.arr 2 1 (C.map iC))), ((.sl 6), some (.arr 2 1 (E.map iC))), ((.sl 7), some (.arr 2 1 (F.map iC))), ((.sl 10), some (.box (bV b))), ((.sl 68), some (.arr 2 1 (A.map iC)))]⟩)) =
      some (.nm, ⟨lookS [(1, .bp (.sl 1) 0), (2, .bp (.sl 2) 0), (5, .rf (.sl 5) none 0 C.length), (6, .rf (.sl 6) none 0 E.length), (7, .rf (.sl 7) none 0 F.length), (10, .bp (.sl 10) 0), (68, .rf (.sl 68) none 0 A.length), (69, I A.length), (70, I i)], lookM [((.sl 1), some (.box (lV L))), ((.sl 2), some (.box (bV z0))), ((.sl 5), some (.arr 2 1 (C.map iC))), ((.sl 6), some (.arr 2 1 (E.map iC))), ((.sl 7), some (.arr 2 1 (F.map iC))), ((.sl 10), some (.box (bV res))), ((.sl 68), some (.arr 2 1 (A.map iC)))]⟩) := by
  intro n
  induction n with
  | zero =>
    intro k b res hm sb hr
    have h0 : ¬ (k : Int) < (C.length : Int) := by omega
    rw [show C.drop k = [] from List.drop_eq_nil_of_le (by omega)] at hr
    have e : b = res := hr
    subst e
    rw [lp_step]
    simp [h0]
  | succ n ih =>
    intro k b res hm sb hr
    by_cases hlt : k < C.length
    case neg =>
      have h0 : ¬ (k : Int) < (C.length : Int) := by omega
      rw [show C.drop k = [] from List.drop_eq_nil_of_le (by omega)] at hr
      have e : b = res := hr
      subst e
      rw [lp_step]
      simp [h0]
    have h0 : (k : Int) < (C.length : Int) := by omega
    obtain ⟨z, hz⟩ := get_lt hlt
    have bz := hC z (List.mem_of_getElem? hz)
    have hw := wrap_nat (i := k) (by omega)
    rw [drop_get hz] at hr
    have key := l18_4 d L h A C E F hA hC hE hF lA lC lE lF i k x z hx bz E.length 0 b _ (by omega) sb rfl
    have sb' := gi4_sm (g := gI L.df) hx bz hE hF sb
    have ih' := ih (k + 1) (gi4 (gI L.df) x z E F b) res (by omega) sb' hr
    rw [List.drop_zero] at key
    generalize gi4 (gI L.df) x z E F b = b' at key ih'
    simp only [Int.natCast_add, Int.cast_ofNat_Int] at ih' key
    rw [lp_step]
    simp [h0, hz, hw, key, ih']
set_option maxHeartbeats 2000000 in
theorem l18_2 (d : Nat) (L : Lf) (h : LcB L) (A C E F : List Int) (hA : smX A) (hC : smX C) (hE : smX E) (hF : smX F) (lA : A.length ≤ 2000000) (lC : C.length ≤ 2000000) (lE : E.length ≤ 2000000) (lF : F.length ≤ 2000000)  : ∀ (n i : Nat) (b res : Bx), A.length ≤ n + i → smB b → gi2 (gI L.df) (A.drop i) C E F b = res →
    clC [2, 10] [2, 3] (blk 2 (lp (evC (ev (d + 5)) b18_2) (clean [1, 2, 5, 6, 7, 10, 68, 69, 70]) ⟨lookS [(1, .bp (.sl 1) 0), (2, .bp (.sl 2) 0), (5, .rf (.sl 5) none 0 C.length), (6, .rf (.sl 6) none 0 E.length), (7, .rf (.sl 7) none 0 F.length), (10, .bp (.sl 10) 0), (68, .rf (.sl 68) none 0 A.length), (69, I A.length), (70, I i)], lookM [((.sl 1), some (.box (lV L))), ((.sl 2), some (.box (bV z0))), ((.sl 5), some (.arr 2 1 (C.map iC))), ((.sl 6), some (.arr 2 1 (E.map iC))), ((.sl 7), some (.arr 2 1 (F.map iC))), ((.sl 10), some (.box (bV b))), ((.sl 68), some (.arr 2 1 (A.map iC)))]⟩)) =
      some (.nm, ⟨lookS [(2, .bp (.sl 2) 0), (10, .bp (.sl 10) 0)], lookM [((.sl 2), some (.box (bV z0))), ((.sl 10), some (.box (bV res)))]⟩) := by
  intro n
  induction n with
  | zero =>
    intro i b res hm sb hr
    have h0 : ¬ (i : Int) < (A.length : Int) := by omega
    rw [show A.drop i = [] from List.drop_eq_nil_of_le (by omega)] at hr
    have e : b = res := hr
    subst e
    rw [lp_step]
    simp [h0]
  | succ n ih =>
    intro i b res hm sb hr
    by_cases hlt : i < A.length
    case neg =>
      have h0 : ¬ (i : Int) < (A.length : Int) := by omega
      rw [show A.drop i = [] from List.drop_eq_nil_of_le (by omega)] at hr
      have e : b = res := hr
      subst e
      rw [lp_step]
      simp [h0]
    have h0 : (i : Int) < (A.length : Int) := by omega
    obtain ⟨z, hz⟩ := get_lt hlt
    have bz := hA z (List.mem_of_getElem? hz)
    have hw := wrap_nat (i := i) (by omega)
    rw [drop_get hz] at hr
    have key := l18_3 d L h A C E F hA hC hE hF lA lC lE lF i z bz C.length 0 b _ (by omega) sb rfl
    have sb' := gi3_sm (g := gI L.df) bz hC hE hF sb
    have ih' := ih (i + 1) (gi3 (gI L.df) z C E F b) res (by omega) sb' hr
    rw [List.drop_zero] at key
    generalize gi3 (gI L.df) z C E F b = b' at key ih'
    simp only [Int.natCast_add, Int.cast_ofNat_Int] at ih' key
    rw [lp_step]
    simp [h0, hz, hw, key, ih']
end Go.Proofs.Ytejffoibihbnnaa.walkS
