/- The numbers that a flitch lacks; the row MissingNumbers; no conditions. -/
import Derived.Test.YtmhddfikpfkeoaaWFlo
namespace Go.Proofs.Ytmhddfikpfkeoaa.walkS
open Go Go.Proofs.Ytmhddfikpfkeoaa.Ev
set_option linter.unusedSimpArgs false
set_option linter.unusedVariables false
def rng : Int → Nat → List Int
  | _, 0 => []
  | k, n + 1 => k :: rng (k + 1) n
theorem rng_len : ∀ (n : Nat) (k : Int), (rng k n).length = n := by
  intro n
  induction n with
  | zero => intro k; rfl
  | succ n ih => intro k; simp [rng, ih]
def gap (key : Int → Int) (a b : Int) : List Int := rng (key a + 1) (key b - (key a + 1)).toNat
def miss (key : Int → Int) : List Int → List Int
  | a :: b :: r => gap key a b ++ miss key (b :: r)
  | _ => []
def misOf (l : List Lf) (s : ByteArray) : Option (List Int) × Int :=
  match (flOf l s).1 with
  | none => (none, (flOf l s).2)
  | some A => ifb (decide (64 < (miss (nmA l) A).length)) (none, 5) (some (miss (nmA l) A), 0)
theorem flOf_some {l : List Lf} {s : ByteArray} {A : List Int} (h : (flOf l s).1 = some A) : okLs l = true ∧ A = flA l s ∧ A ≠ [] ∧ (flOf l s).2 = 0 := by
  unfold flOf at h ⊢
  cases ho : okLs l
  · rw [ho] at h; cases h
  rw [ho] at h
  by_cases he : wh (isFl s) l 0 = []
  · simp [he] at h
  · simp [he] at h ⊢
    refine ⟨h.symm, fun e => he ?_⟩
    have := flA_len l s
    rw [h, e] at this
    exact List.length_eq_zero_iff.1 this.symm
theorem flOf_none {l : List Lf} {s : ByteArray} (h : (flOf l s).1 = none) : (flOf l s).2 ≠ 0 ∧ (okLs l = false → (flOf l s).2 = 1) := by
  unfold flOf at h ⊢
  cases ho : okLs l
  · exact ⟨by simp, fun _ => rfl⟩
  rw [ho] at h
  by_cases he : wh (isFl s) l 0 = []
  · simp [he]
  · simp [he] at h
theorem flA_le {l : List Lf} {s : ByteArray} (h : okLs l = true) : (flA l s).length ≤ 16 := by
  have := okLs_len h
  have h2 := wh_len (isFl s) l 0
  rw [flA_len]; omega
end Go.Proofs.Ytmhddfikpfkeoaa.walkS
