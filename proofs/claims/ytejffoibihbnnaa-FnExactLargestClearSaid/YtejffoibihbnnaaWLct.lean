/- Largest clear boxes: the answer restated, boxes compared; no conditions. -/
import Derived.Test.YtejffoibihbnnaaWLcu
namespace Go.Proofs.Ytejffoibihbnnaa.walkS
open Go Go.Proofs.Ytejffoibihbnnaa.Ev
set_option linter.unusedSimpArgs false
set_option linter.unusedVariables false
theorem okL_LcB {L : Lf} (h : okL L = true) : LcB L := by
  simp only [okL, Bool.and_eq_true, decide_eq_true_eq, List.all_eq_true] at h
  obtain ⟨_, _, _, _, h5, h6, h7, h8⟩ := h
  simp only [inR, Bool.and_eq_true, decide_eq_true_eq] at h5 h6
  refine ⟨by omega, by omega, by omega, fun c hc => ?_⟩
  have := boxIn_in (by omega) (by omega) (h8 c hc)
  omega
def lcOf (L : Lf) : Bx × Int := ifb (okL L) (ifb (decide ((lcB L).2.2.1 = 0)) (z0, 3) (lcB L, 0)) (z0, 1)
theorem r16 (d : Nat) (L : Lf) (hb : L.df.length ≤ big) (h1 : L.id.size ≤ big) (h2 : L.fl.size ≤ big) : ev (d + 6) 16 [.ag (lV L)] = some (.tu [.ag (bV (lcOf L).1), I (lcOf L).2], []) := by
  rw [s16 (d + 5) _ rfl]
  have c1 := r74 (d + 1) L hb h1 h2
  unfold lcOf
  cases h0 : okL L
  · rw [h0] at c1
    simp [c1, z0]
  rw [h0] at c1
  have c2 := r75 (d + 2) L (okL_LcB h0)
  generalize lcB L = b at c2 ⊢
  by_cases hz : b.2.2.1 = 0
  · rw [decide_eq_true hz]
    simp [c1, c2, hz, z0]
  · rw [decide_eq_false hz]
    simp [c1, c2, hz]
theorem rc284 (d : Nat) (x : Int) : ev (d + 1) 284 [I x] = some (B false, []) := by
  rw [s284 d _ rfl]
  simp
def cm1 (x y : Int) : Int := if x < y then -1 else if y < x then 1 else 0
theorem rc228 (d : Nat) (x y : Int) : ev (d + 2) 228 [I x, I y] = some (I (cm1 x y), []) := by
  rw [s228 (d + 1) _ rfl]
  have h1 := rc284 d x
  have h2 := rc284 d y
  unfold cm1
  by_cases a : x < y
  · simp [h1, h2, a]
  · by_cases b : y < x <;> simp [h1, h2, a, b]
def cmL : List Int → List Int → Int
  | [], [] => 0
  | [], _ :: _ => -1
  | _ :: _, [] => 1
  | x :: A, y :: C => ifb (decide (cm1 x y = 0)) (cmL A C) (cm1 x y)
theorem l150 (d : Nat) (A C : List Int) (hl : A.length = C.length) (hb : A.length ≤ big) : ∀ (n i : Nat), n + i = A.length →
    clC [0, 1] [4] (blk 0 (lp (evC (ev (d + 2)) b150_1) (clean [0, 1, 9, 10, 11]) ⟨lookS [(0, .ro 1 (A.map iC)), (1, .ro 1 (C.map iC)), (9, .ro 1 (A.map iC)), (10, I A.length), (11, I i)], lookM []⟩)) =
      ifb (decide (cmL (A.drop i) (C.drop i) = 0)) (some (.nm, ⟨lookS [(0, .ro 1 (A.map iC)), (1, .ro 1 (C.map iC))], lookM []⟩)) (some (.rt, ⟨lookS [(4, I (cmL (A.drop i) (C.drop i)))], lookM []⟩)) := by
  intro n
  induction n with
  | zero =>
    intro i hi
    have h0 : ¬ (i : Int) < (A.length : Int) := by omega
    rw [List.drop_eq_nil_of_le (by omega), List.drop_eq_nil_of_le (by omega), lp_step]
    simp [h0, cmL]
  | succ n ih =>
    intro i hi
    have hlt : i < A.length := by omega
    have h0 : (i : Int) < (A.length : Int) := by omega
    have h1 : ¬ (C.length : Int) ≤ (i : Int) := by omega
    have h2 : (i : Int) < (C.length : Int) := by omega
    obtain ⟨x, hx⟩ := get_lt hlt
    obtain ⟨y, hy⟩ := get_lt (l := C) (i := i) (by omega)
    have hw := wrap_nat (i := i) (by simp only [big] at hb; omega)
    have c := rc228 d x y
    have ih' := ih (i + 1) (by omega)
    rw [drop_get hx, drop_get hy]
    simp only [cmL]
    simp only [Int.natCast_add, Int.cast_ofNat_Int] at ih'
    rw [lp_step]
    by_cases h : cm1 x y = 0
    · rw [h] at c
      simp [h0, h1, h2, hx, hy, hw, c, h, ih']
    · simp [h0, h1, h2, hx, hy, hw, c, h]
theorem rc150 (d : Nat) (A C : List Int) (hl : A.length = C.length) (hb : A.length ≤ big) : ev (d + 3) 150 [.ro 1 (A.map iC), .ro 1 (C.map iC)] = some (I (cmL A C), []) := by
  rw [s150 (d + 2) _ rfl]
  have key := l150 d A C hl hb A.length 0 (by omega)
  rw [List.drop_zero, List.drop_zero] at key
  have h1 : ¬ A.length < C.length := by omega
  have h2 : ¬ (A.length : Int) < (C.length : Int) := by omega
  by_cases h : cmL A C = 0
  · rw [decide_eq_true h] at key
    simp at key
    simp [key, h, h2]
  · rw [decide_eq_false h] at key
    simp at key
    simp [key]
def bL (b : Bx) : List Int := [b.1, b.2.1, b.2.2.1, b.2.2.2]
theorem r82 (d : Nat) (a b : Bx) : ev (d + 4) 82 [.ag (bV a), .ag (bV b)] = some (I (cmL (bL a) (bL b)), []) := by
  rw [s82 (d + 3) _ rfl]
  have c := rc150 d (bL a) (bL b) rfl (by simp [bL, big])
  simp only [bL, List.map_cons, List.map_nil, iC] at c ⊢
  simp [c, shut, shutC, List.mapM_cons]
theorem cmL_lex {a b : Bx} : cmL (bL a) (bL b) < 0 ↔ lexB a b := by
  obtain ⟨a1, a2, a3, a4⟩ := a
  obtain ⟨b1, b2, b3, b4⟩ := b
  simp only [bL, cmL, cm1, lexB]
  by_cases h1 : a1 < b1 <;> by_cases h1' : b1 < a1 <;> by_cases h2 : a2 < b2 <;> by_cases h2' : b2 < a2 <;> by_cases h3 : a3 < b3 <;> by_cases h3' : b3 < a3 <;> by_cases h4 : a4 < b4 <;> by_cases h4' : b4 < a4 <;> simp [h1, h1', h2, h2', h3, h3', h4, h4', ifb] <;> omega
end Go.Proofs.Ytejffoibihbnnaa.walkS
