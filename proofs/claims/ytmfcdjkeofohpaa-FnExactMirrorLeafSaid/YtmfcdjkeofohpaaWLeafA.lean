/- What the functions that compare leaves compute, and the row of SameLeaf; no conditions. -/
import Derived.Test.YtmfcdjkeofohpaaWLeaf
namespace Go.Proofs.Ytmfcdjkeofohpaa.walkS
open Go Go.Proofs.Ytmfcdjkeofohpaa.Ev
set_option linter.unusedSimpArgs false
theorem l75 (d : Nat) (l l' : List Bx) (hl : l.length = l'.length) (hb : l.length ≤ big) : ∀ (n i : Nat), n + i = l.length →
    clC [] [4] (blk 0 (lp (evC (ev d) b75_1) (clean [0, 1, 12, 13]) ⟨lookS [(0, .ro 4 (l.map bC)), (1, .ro 4 (l'.map bC)), (12, I l.length), (13, I i)], lookM []⟩)) =
      if l.drop i = l'.drop i then some (.nm, ⟨lookS [], lookM []⟩) else some (.rt, ⟨lookS [(4, B false)], lookM []⟩) := by
  intro n
  induction n with
  | zero =>
    intro i hi
    have h0 : ¬ (i : Int) < (l.length : Int) := by omega
    have h1 : l.drop i = [] := List.drop_eq_nil_of_le (by omega)
    have h2 : l'.drop i = [] := List.drop_eq_nil_of_le (by omega)
    rw [lp_step]
    simp [h0, h1, h2]
  | succ n ih =>
    intro i hi
    have hlt : i < l.length := by omega
    have h0 : (i : Int) < (l.length : Int) := by omega
    obtain ⟨x, hx⟩ := get_lt hlt
    obtain ⟨y, hy⟩ := get_lt (l := l') (i := i) (by omega)
    have hw := wrap_nat (i := i) (by simp [big] at hb; omega)
    have ih' := ih (i + 1) (by omega)
    rw [lp_step, drop_get hx, drop_get hy]
    by_cases hxy : x = y
    · subst hxy
      simp [h0, hx, hy, hw]
      simpa using ih'
    · simp [h0, hx, hy, hw, hxy, eqq_ne hxy]
theorem r75 (d : Nat) (l l' : List Bx) (hb : l.length ≤ big) : ev (d + 1) 75 [.ro 4 (l.map bC), .ro 4 (l'.map bC)] = some (B (decide (l = l')), []) := by
  rw [s75 d _ rfl]
  by_cases hl : l.length = l'.length
  · have key := l75 d l l' hl hb l.length 0 (by omega)
    have hl2 : (l.length : Int) = (l'.length : Int) := by omega
    simp at key
    by_cases h : l = l' <;> simp [hl, key, h]
    · subst h; rw [if_pos rfl] at key; simp [key]
    · rw [if_neg h, hl] at key; simp [key]
  · have hl2 : ¬ (l.length : Int) = (l'.length : Int) := by omega
    have hne : l ≠ l' := fun e => hl (by rw [e])
    simp [hl2, hne]
/-- are two leaves alike? -/
def sameL (A C : Lf) : Bool := decide (A.id = C.id) && (decide (A.fl = C.fl) && (decide (A.num = C.num) && (eqq (A.sp, A.sh, A.gr) (C.sp, C.sh, C.gr) && (decide (A.wd = C.wd) && (decide (A.ln = C.ln) && decide (A.df = C.df))))))
theorem r20 (d : Nat) (A C : Lf) (hb : A.df.length ≤ big) : ev (d + 2) 20 [.ag (lV A), .ag (lV C)] = some (B (sameL A C), []) := by
  rw [s20 (d + 1) _ rfl]
  have r75 := r75 d A.df C.df hb
  unfold sameL
  by_cases h1 : A.id = C.id
  case neg => simp [h1]
  by_cases h2 : A.fl = C.fl
  case neg => simp [h1, h2]
  by_cases h3 : A.num = C.num
  case neg => simp [h1, h2, h3]
  cases h4 : eqq (A.sp, A.sh, A.gr) (C.sp, C.sh, C.gr)
  case false => simp [h1, h2, h3, h4]
  by_cases h5 : A.wd = C.wd
  case neg => simp [h1, h2, h3, h4, h5]
  by_cases h6 : A.ln = C.ln
  case neg => simp [h1, h2, h3, h4, h5, h6]
  generalize decide (A.df = C.df) = q at r75 ⊢
  cases q <;> simp [h1, h2, h3, h4, h5, h6, r75]
end Go.Proofs.Ytmfcdjkeofohpaa.walkS
