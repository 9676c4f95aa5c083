/- Numbers as texts: the plain law; no conditions. -/
import Derived.Test.YthnkioafikmmaaaDoorWBase
import Derived.Lib.ItoaNum
namespace Go.Proofs.YthnkioafikmmaaaDoor.walkS
open Go Go.Proofs.YthnkioafikmmaaaDoor.Ev Go.Lib
set_option linter.unusedSimpArgs false
set_option linter.unusedVariables false
theorem rev_ind {α : Type} {p : List α → Prop} (h0 : p []) (h1 : ∀ l a, p l → p (l ++ [a])) : ∀ l, p l := by
  intro l
  have : ∀ m : List α, p m.reverse := by
    intro m
    induction m with
    | nil => exact h0
    | cons a m ih => rw [List.reverse_cons]; exact h1 _ _ ih
  have := this l.reverse
  rwa [List.reverse_reverse] at this
theorem head_app {α : Type} {l m : List α} (h : l ≠ []) : (l ++ m).head? = l.head? := by
  cases l with
  | nil => exact absurd rfl h
  | cons a l => rfl
/-- the digits from the last on -/
def dgs : Nat → Nat → List UInt8
  | 0, _ => []
  | f + 1, m => if m = 0 then [] else UInt8.ofNat (48 + m % 10) :: dgs f (m / 10)
theorem dgs_zero (f : Nat) : dgs f 0 = [] := by cases f <;> simp [dgs]
theorem decDigits_step {m : Nat} (h : ¬ m < 10) : decDigits m = decDigits (m / 10) ++ [UInt8.ofNat (48 + m % 10)] := by
  rw [decDigits, dif_neg h]
theorem dgs_rev : ∀ (f m : Nat), m ≤ f → 0 < m → (dgs f m).reverse = decDigits m := by
  intro f
  induction f with
  | zero => intro m h1 h2; omega
  | succ f ih =>
    intro m h1 h2
    simp only [dgs]
    rw [if_neg (by omega), List.reverse_cons]
    by_cases h : m < 10
    · rw [decDigits_one h, show m / 10 = 0 by omega, dgs_zero, show m % 10 = m by omega]
      rfl
    · rw [ih (m / 10) (by omega) (by omega), decDigits_step h]
/-- what a text of digits says -/
def valD (ds : List UInt8) : Nat := ds.foldl (fun n d => n * 10 + (d.toNat - 48)) 0
def isDg (d : UInt8) : Bool := decide (48 ≤ d.toNat) && decide (d.toNat ≤ 57)
theorem valD_snoc (ds : List UInt8) (d : UInt8) : valD (ds ++ [d]) = valD ds * 10 + (d.toNat - 48) := by
  unfold valD; rw [List.foldl_append]; rfl
theorem dg_of {d : UInt8} (h : isDg d = true) : UInt8.ofNat (48 + (d.toNat - 48)) = d ∧ d.toNat - 48 < 10 := by
  unfold isDg at h
  simp only [Bool.and_eq_true, decide_eq_true_eq] at h
  refine ⟨?_, by omega⟩
  rw [show 48 + (d.toNat - 48) = d.toNat by omega]
  exact UInt8.ofNat_toNat
/-- a text of digits that does not begin with 0 -/
theorem valD_pos : ∀ (ds : List UInt8), ds ≠ [] → (∀ d ∈ ds, isDg d = true) → ds.head? ≠ some 48 → 0 < valD ds := by
  refine rev_ind (fun h => absurd rfl h) ?_
  · intro ds d ih
    intro _ hd hh
    rw [valD_snoc]
    by_cases e : ds = []
    · subst e
      have hne : d ≠ 48 := fun q => hh (by rw [q]; rfl)
      have hdd := hd d (by simp)
      unfold isDg at hdd
      simp only [Bool.and_eq_true, decide_eq_true_eq] at hdd
      have : d.toNat ≠ 48 := fun q => hne (UInt8.toNat_inj.1 (by rw [q]; rfl))
      have hv : valD [] = 0 := rfl
      omega
    · have := ih e (fun x hx => hd x (by simp [hx])) (by rw [head_app e] at hh; exact hh)
      omega
theorem dec_val : ∀ (ds : List UInt8), ds ≠ [] → (∀ d ∈ ds, isDg d = true) → (ds.head? ≠ some 48 ∨ ds.length = 1) → decDigits (valD ds) = ds := by
  refine rev_ind (fun h => absurd rfl h) ?_
  · intro ds d ih
    intro _ hd hh
    obtain ⟨g1, g2⟩ := dg_of (hd d (by simp))
    rw [valD_snoc]
    by_cases e : ds = []
    · subst e
      have hv : valD [] = 0 := rfl
      rw [hv, Nat.zero_mul, Nat.zero_add, decDigits_one g2, g1]
      rfl
    · have hh2 : ds.head? ≠ some 48 := by
        rcases hh with h | h
        · rwa [head_app e] at h
        · have h1 := List.length_pos_iff.2 e
          rw [List.length_append] at h
          have h2 : [d].length = 1 := rfl
          omega
      have hds : ∀ x ∈ ds, isDg x = true := fun x hx => hd x (by simp [hx])
      have hp := valD_pos ds e hds hh2
      rw [decDigits_step (by omega), show (valD ds * 10 + (d.toNat - 48)) / 10 = valD ds by omega, show (valD ds * 10 + (d.toNat - 48)) % 10 = d.toNat - 48 by omega, g1, ih e hds (.inl hh2)]
/-- no number's text begins with 0 but that of 0 -/
theorem dec_head : ∀ (f m : Nat), m ≤ f → 0 < m → (decDigits m).head? ≠ some 48 := by
  intro f
  induction f with
  | zero => intro m h1 h2; omega
  | succ f ih =>
    intro m h1 h2
    by_cases h : m < 10
    · rw [decDigits_one h]
      intro q
      have q : UInt8.ofNat (48 + m) = 48 := by simpa using q
      have := congrArg UInt8.toNat q
      simp at this
      omega
    · rw [decDigits_step h, head_app (fun e => by have := congrArg List.length e; rw [decDigits_length] at this; have := nDigits_pos (m / 10); simp at *; omega)]
      exact ih (m / 10) (by omega) (by omega)
end Go.Proofs.YthnkioafikmmaaaDoor.walkS
