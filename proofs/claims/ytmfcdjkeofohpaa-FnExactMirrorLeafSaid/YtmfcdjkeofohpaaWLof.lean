/- The leaves of a species; the row LeavesOf; no conditions. -/
import Derived.Test.YtmfcdjkeofohpaaWMark2
import Derived.Test.YtmfcdjkeofohpaaWMatch
namespace Go.Proofs.Ytmfcdjkeofohpaa.walkS
open Go Go.Proofs.Ytmfcdjkeofohpaa.Ev
set_option linter.unusedSimpArgs false
set_option linter.unusedVariables false
/-- the places of the leaves that have a property -/
def wh (p : Lf → Bool) : List Lf → Nat → List Int
  | [], _ => []
  | L :: l, i => ifb (p L) ((i : Int) :: wh p l (i + 1)) (wh p l (i + 1))
theorem wh_len (p : Lf → Bool) : ∀ (l : List Lf) (i : Nat), (wh p l i).length ≤ l.length := by
  intro l
  induction l with
  | nil => intro i; exact Nat.le_refl _
  | cons L l ih =>
    intro i
    have := ih (i + 1)
    cases h : p L <;> simp [wh, h] <;> omega
theorem wh_at {p : Lf → Bool} {l : List Lf} {i : Nat} {L : Lf} {acc r : List Int} (hx : l[i]? = some L) (h : acc ++ wh p (l.drop i) i = r) : ifb (p L) (acc ++ [(i : Int)]) acc ++ wh p (l.drop (i + 1)) (i + 1) = r := by
  rw [drop_get hx] at h
  rw [← h]
  cases hp : p L <;> simp [wh, hp]
theorem wh_nil {p : Lf → Bool} {l : List Lf} {i : Nat} {acc r : List Int} (hi : l.length ≤ i) (h : acc ++ wh p (l.drop i) i = r) : acc = r := by
  rw [List.drop_eq_nil_of_le hi] at h
  simpa [wh] using h
def isSp (s : ByteArray) (L : Lf) : Bool := decide (L.sp = s)
theorem l60 (d : Nat) (l : List Lf) (hb : l.length ≤ big) (s : ByteArray) : ∀ (n i : Nat) (acc r : List Int), n + i = l.length → acc ++ wh (isSp s) (l.drop i) i = r → acc.length ≤ i →
    clC [8] [4, 5] (blk 0 (lp (evC (ev d) b60_1) (clean [1, 8, 22, 23, 24]) ⟨lookS [(1, T s), (8, .rf (.sl 8) none 0 acc.length), (22, .ro 9 (l.map lS)), (23, I l.length), (24, I i)], lookM [((.sl 8), some (.arr 2 1 (acc.map iC)))]⟩)) =
      some (.nm, ⟨lookS [(8, .rf (.sl 8) none 0 r.length)], lookM [((.sl 8), some (.arr 2 1 (r.map iC)))]⟩) := by
  intro n
  induction n with
  | zero =>
    intro i acc r hi hr ha
    have h0 : ¬ (i : Int) < (l.length : Int) := by omega
    have e := wh_nil (by omega) hr
    subst e
    rw [lp_step]
    simp [h0]
  | succ n ih =>
    intro i acc r hi hr ha
    have hlt : i < l.length := by omega
    have h0 : (i : Int) < (l.length : Int) := by omega
    obtain ⟨L, hx⟩ := get_lt hlt
    have hw := wrap_nat (i := i) (by simp [big] at hb; omega)
    have hb2 : acc.length + 1 ≤ big := by omega
    have hr' := wh_at hx hr
    rw [lp_step]
    by_cases hp : L.sp = s
    · have hq : isSp s L = true := by simp [isSp, hp]
      rw [hq] at hr'
      have ih' := ih (i + 1) (acc ++ [(i : Int)]) r (by omega) hr' (by simp; omega)
      simp at ih'
      simp [h0, hx, hw, hp, hb2, ih']
    · have hq : isSp s L = false := by simp [isSp, hp]
      rw [hq] at hr'
      have ih' := ih (i + 1) acc r (by omega) hr' (by omega)
      simp at ih'
      simp [h0, hx, hw, hp, ih']
theorem l59 (d : Nat) (l : List Lf) (hb : l.length ≤ big) (s : ByteArray) : ∀ (n i : Nat) (acc r : List Int), n + i = l.length → acc ++ wh (isSp s) (l.drop i) i = r → acc.length ≤ i →
    clC [6] [4, 5] (blk 0 (lp (evC (ev d) b59_1) (clean [0, 1, 6, 7]) ⟨lookS [(0, .ro 9 (l.map lS)), (1, T s), (6, .rf (.sl 6) none 0 acc.length), (7, I i)], lookM [((.sl 6), some (.arr 2 1 (acc.map iC)))]⟩)) =
      some (.nm, ⟨lookS [(6, .rf (.sl 6) none 0 r.length)], lookM [((.sl 6), some (.arr 2 1 (r.map iC)))]⟩) := by
  intro n
  induction n with
  | zero =>
    intro i acc r hi hr ha
    have h0 : ¬ (i : Int) < (l.length : Int) := by omega
    have e := wh_nil (by omega) hr
    subst e
    rw [lp_step]
    simp [h0]
  | succ n ih =>
    intro i acc r hi hr ha
    have hlt : i < l.length := by omega
    have h0 : (i : Int) < (l.length : Int) := by omega
    obtain ⟨L, hx⟩ := get_lt hlt
    have hw := wrap_nat (i := i) (by simp [big] at hb; omega)
    have hb2 : acc.length + 1 ≤ big := by omega
    have hr' := wh_at hx hr
    rw [lp_step]
    by_cases hp : L.sp = s
    · have hq : isSp s L = true := by simp [isSp, hp]
      rw [hq] at hr'
      have ih' := ih (i + 1) (acc ++ [(i : Int)]) r (by omega) hr' (by simp; omega)
      simp at ih'
      simp [h0, hx, hw, hp, hb2, ih']
    · have hq : isSp s L = false := by simp [isSp, hp]
      rw [hq] at hr'
      have ih' := ih (i + 1) acc r (by omega) hr' (by omega)
      simp at ih'
      simp [h0, hx, hw, hp, ih']
end Go.Proofs.Ytmfcdjkeofohpaa.walkS
