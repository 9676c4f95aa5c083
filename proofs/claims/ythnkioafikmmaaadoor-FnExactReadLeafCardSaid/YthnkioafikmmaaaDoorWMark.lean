/- What the functions that mark and hold lists compute; no conditions. -/
import Derived.Test.YthnkioafikmmaaaDoorWInt
import Derived.Test.YthnkioafikmmaaaDoorWLeaf
namespace Go.Proofs.YthnkioafikmmaaaDoor.walkS
open Go Go.Proofs.YthnkioafikmmaaaDoor.Ev
set_option linter.unusedSimpArgs false
set_option linter.unusedVariables false
/-- rows that hold one number after the other, c to a row -/
def markL (f : Nat → List Cell) (c : Nat) : Nat → Nat → List (List Cell)
  | _, 0 => []
  | k, n + 1 => f k :: markL f c (k + c) n
theorem markL_len (f : Nat → List Cell) (c : Nat) : ∀ n k, (markL f c k n).length = n := by
  intro n
  induction n with
  | zero => intro k; rfl
  | succ n ih => intro k; simp [markL, ih]
theorem markL_get (f : Nat → List Cell) (c : Nat) : ∀ n k i, i < n → (markL f c k n)[i]? = some (f (k + c * i)) := by
  intro n
  induction n with
  | zero => intro k i h; omega
  | succ n ih =>
    intro k i h
    cases i with
    | zero => simp [markL]
    | succ i =>
      simp only [markL, List.getElem?_cons_succ]
      rw [ih (k + c) i (by omega)]
      congr 2
      rw [Nat.mul_add]; omega
theorem markL_snoc (f : Nat → List Cell) (c : Nat) : ∀ n k, markL f c k (n + 1) = markL f c k n ++ [f (k + c * n)] := by
  intro n
  induction n with
  | zero => intro k; simp [markL]
  | succ n ih =>
    intro k
    rw [markL, ih]
    simp only [markL, List.cons_append]
    congr 4
    rw [Nat.mul_add]; omega
theorem markL_shut {f : Nat → List Cell} (hf : ∀ k, (f k).map shutC = f k) (c : Nat) : ∀ n k, shut (markL f c k n) = markL f c k n := by
  intro n
  induction n with
  | zero => intro k; rfl
  | succ n ih =>
    intro k
    have := ih (k + c)
    simp only [shut] at this ⊢
    simp [markL, hf, this]
/-- the first i rows marked -/
def mfill {α : Type} (f : Nat → List Cell) (c : Nat) (C : α → List Cell) (l : List α) (k i : Nat) : List (List Cell) := markL f c k i ++ (l.drop i).map C
section
variable {α : Type} {f : Nat → List Cell} {c : Nat} {C : α → List Cell} {l : List α} {k i : Nat} {x : α}
theorem mfill_zero : l.map C = mfill f c C l k 0 := by simp [mfill, markL]
theorem mfill_len (h : i ≤ l.length) : (mfill f c C l k i).length = l.length := by simp [mfill, markL_len]; omega
theorem mfill_get (h : l[i]? = some x) : (mfill f c C l k i)[i]? = some (C x) := by
  unfold mfill
  rw [List.getElem?_append_right (by rw [markL_len]; omega), markL_len, Nat.sub_self]
  simp [h]
theorem mfill_set (h : i < l.length) : (mfill f c C l k i).set i (f (k + c * i)) = mfill f c C l k (i + 1) := by
  unfold mfill
  obtain ⟨x, hx⟩ := get_lt h
  rw [List.set_append_right _ _ (by rw [markL_len]; omega), markL_len, Nat.sub_self, drop_get hx, List.map_cons, List.set_cons_zero, markL_snoc, List.append_assoc]
  rfl
theorem mfill_end : mfill f c C l k l.length = markL f c k l.length := by simp [mfill]
end
theorem wrap_in {n : Int} (h : 0 ≤ n ∧ n ≤ 9223372036854775807) : IntKind.i64.wrap n = n := IntWalk.i64_in _ (by omega)
/-- a slice of one's own that may be nil -/
def OV (e st : Nat) (rows : List (List Cell)) (x : LV) : Prop := x = .ow e st rows ∨ (x = .nl ∧ rows = [])
theorem start_ow (e n k : Nat) (rows : List (List Cell)) (v : Value) : startW [.ow e n rows, .sc v] = some ([.rf (mk0 0) none 0 rows.length, .sc v], ⟨startS [.rf (mk0 0) none 0 rows.length, .sc v], updM noMem (mk0 0) (some (.arr e n rows))⟩) := by
  rw [startW_eq («as» := [.rf (mk0 0) none 0 rows.length, .sc v]) (l := [(mk0 0, .arr e n rows)]) rfl]
  rfl
theorem start_nl (v : Value) : startW [.nl, .sc v] = some ([.nl, .sc v], ⟨startS [.nl, .sc v], noMem⟩) := by
  rw [startW_eq («as» := [.nl, .sc v]) (l := []) rfl]
  rfl
def mI (k : Nat) : List Cell := iC (k : Int)
def mB (k : Nat) : List Cell := bC ((k : Int), (k : Int) + 1, (k : Int) + 1 + 1, (k : Int) + 1 + 1 + 1)
theorem l55 (d : Nat) (l : List Bx) (k : Nat) (hb : k + 4 * l.length ≤ 4611686018427387904) : ∀ (n i : Nat), n + i = l.length →
    clC [1, 100000] [4, 100000] (blk 0 (lp (evC (ev d) b55_1) (clean [0, 1, 5, 100000]) ⟨lookS [(0, .rf (.sl 0) none 0 l.length), (1, I (k + 4 * (i : Int))), (5, I i), (100000, .rf (.sl 0) none 0 l.length)], lookM [(.sl 0, some (.arr 75 4 (mfill mB 4 bC l k i)))]⟩)) =
      some (.nm, ⟨lookS [(1, I (k + 4 * (l.length : Int))), (100000, .rf (.sl 100000) none 0 l.length)], lookM [(.sl 100000, some (.arr 75 4 (markL mB 4 k l.length)))]⟩) := by
  intro n
  induction n with
  | zero =>
    intro i hi
    have h0 : ¬ (i : Int) < (l.length : Int) := by omega
    have he : i = l.length := by omega
    subst he
    rw [lp_step, mfill_end]
    simp [h0]
  | succ n ih =>
    intro i hi
    have hlt : i < l.length := by omega
    have h0 : (i : Int) < (l.length : Int) := by omega
    obtain ⟨x, hx⟩ := get_lt hlt
    have hs := mfill_set (f := mB) (c := 4) (C := bC) (k := k) hlt
    have hg := mfill_get (f := mB) (c := 4) (C := bC) (k := k) hx
    have hl : ∀ a, ((mfill mB 4 bC l k i).set i a)[i]? = some a := fun a => List.getElem?_set_self (by rw [mfill_len (by omega)]; exact hlt)
    have hw := wrap_nat (i := i) (by omega)
    have e1 : ((k + 4 * i : Nat) : Int) = (k : Int) + 4 * (i : Int) := by omega
    have e2 : (k : Int) + 4 * ((i + 1 : Nat) : Int) = (k : Int) + 4 * (i : Int) + 1 + 1 + 1 + 1 := by omega
    have k0 : IntKind.i64.wrap ((k : Int) + 4 * (i : Int) + 1) = (k : Int) + 4 * (i : Int) + 1 := wrap_in (by omega)
    have k1 : IntKind.i64.wrap ((k : Int) + 4 * (i : Int) + 1 + 1) = (k : Int) + 4 * (i : Int) + 1 + 1 := wrap_in (by omega)
    have k2 : IntKind.i64.wrap ((k : Int) + 4 * (i : Int) + 1 + 1 + 1) = (k : Int) + 4 * (i : Int) + 1 + 1 + 1 := wrap_in (by omega)
    have k3 : IntKind.i64.wrap ((k : Int) + 4 * (i : Int) + 1 + 1 + 1 + 1) = (k : Int) + 4 * (i : Int) + 1 + 1 + 1 + 1 := wrap_in (by omega)
    have ih' := ih (i + 1) (by omega)
    rw [← hs, e2] at ih'
    simp only [mB, bC, e1] at ih' hg
    simp at ih' hg
    rw [lp_step]
    simp [h0, hg, hl, hw, k0, k1, k2, k3, ih']
theorem v55' (d : Nat) (l : List Bx) (k : Nat) (hb : k + 4 * l.length ≤ 4611686018427387904) : ev (d + 1) (wrN + 55) [.ow 75 4 (l.map bC), I k] =
    some (I (k + 4 * (l.length : Int)), [.ow 75 4 (markL mB 4 k l.length), I k]) := by
  rw [v55 d (start_ow _ _ 0 _ _) rfl]
  have key := l55 d l k hb l.length 0 (by omega)
  rw [← mfill_zero] at key
  simp at key
  simp [key, markL_len]
theorem v55'n (d : Nat) (k : Nat) : ev (d + 1) (wrN + 55) [.nl, I k] = some (I k, [.nl, I k]) := by
  rw [v55 d (start_nl _) rfl]
  simp
  rw [lp_step]
  simp
theorem l56 (d m : Nat) (k : Nat) (hb : k + 4 * m ≤ 4611686018427387904) : ∀ (n i : Nat), n + i = m →
    clC [1] [4] (blk 0 (lp (evC (ev d) b56_1) (clean [0, 1, 5]) ⟨lookS [(0, .ro 4 (markL mB 4 k m)), (1, I (k + 4 * (i : Int))), (5, I i)], lookM []⟩)) =
      some (.nm, ⟨lookS [(1, I (k + 4 * (m : Int)))], lookM []⟩) := by
  intro n
  induction n with
  | zero =>
    intro i hi
    have he : i = m := by omega
    subst he
    rw [lp_step]
    simp [markL_len]
  | succ n ih =>
    intro i hi
    have h0 : (i : Int) < (m : Int) := by omega
    have hg := markL_get mB 4 m k i (by omega)
    have hw := wrap_nat (i := i) (by omega)
    have e1 : ((k + 4 * i : Nat) : Int) = (k : Int) + 4 * (i : Int) := by omega
    have e2 : (k : Int) + 4 * ((i + 1 : Nat) : Int) = (k : Int) + 4 * (i : Int) + 1 + 1 + 1 + 1 := by omega
    have k0 : IntKind.i64.wrap ((k : Int) + 4 * (i : Int) + 1) = (k : Int) + 4 * (i : Int) + 1 := wrap_in (by omega)
    have k1 : IntKind.i64.wrap ((k : Int) + 4 * (i : Int) + 1 + 1) = (k : Int) + 4 * (i : Int) + 1 + 1 := wrap_in (by omega)
    have k2 : IntKind.i64.wrap ((k : Int) + 4 * (i : Int) + 1 + 1 + 1) = (k : Int) + 4 * (i : Int) + 1 + 1 + 1 := wrap_in (by omega)
    have k3 : IntKind.i64.wrap ((k : Int) + 4 * (i : Int) + 1 + 1 + 1 + 1) = (k : Int) + 4 * (i : Int) + 1 + 1 + 1 + 1 := wrap_in (by omega)
    have ih' := ih (i + 1) (by omega)
    rw [e2] at ih'
    simp only [mB, e1] at hg
    simp at ih' hg
    rw [lp_step]
    simp [h0, hg, hw, k0, k1, k2, k3, markL_len, ih']
theorem r56 (d m : Nat) (k : Nat) (hb : k + 4 * m ≤ 4611686018427387904) {x : LV} (hx : SV 4 (markL mB 4 k m) x) : ev (d + 1) 56 [x, I k] = some (I (k + 4 * (m : Int)), []) := by
  rw [s56 d _ rfl]
  rcases hx with rfl | ⟨rfl, h⟩
  · have key := l56 d m k hb m 0 (by omega)
    simp at key
    simp [key]
  · have hm : m = 0 := by have := congrArg List.length h; simpa [markL_len] using this
    subst hm
    simp
    rw [lp_step]
    simp
end Go.Proofs.YthnkioafikmmaaaDoor.walkS
