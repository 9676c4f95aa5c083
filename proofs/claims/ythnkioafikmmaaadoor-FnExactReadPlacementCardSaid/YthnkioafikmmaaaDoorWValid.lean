/- What the functions that check leaves compute; no conditions. -/
import Derived.Test.YthnkioafikmmaaaDoorWMean
namespace Go.Proofs.YthnkioafikmmaaaDoor.walkS
open Go Go.Proofs.YthnkioafikmmaaaDoor.Ev
set_option linter.unusedSimpArgs false
abbrev U (n : Int) : LV := .sc (.int .u8 n)
def small (n : Int) : Bool := inR n 97 122
def digit (n : Int) : Bool := inR n 48 57
theorem r88 (d : Nat) (n : Int) : ev (d + 1) 88 [U n] = some (B (digit n), []) := by
  rw [s88 d _ rfl]
  by_cases h1 : 48 ≤ n <;> by_cases h2 : n ≤ 57 <;> simp [h1, h2, digit, inR]
def okc (u : UInt8) : Bool := small u.toNat || digit u.toNat
abbrev by' (s : ByteArray) : List UInt8 := s.data.toList
theorem by_len (s : ByteArray) : (by' s).length = s.size := rfl
theorem size_nil : (⟨#[]⟩ : ByteArray).size = 0 := rfl
def nameOk (s : ByteArray) : Bool :=
  match by' s with
  | [] => false
  | u :: us => decide (us.length < 10) && (small u.toNat && (u :: us).all okc)
theorem by_nil {s : ByteArray} (h : by' s = []) : s = ⟨#[]⟩ := by
  obtain ⟨a⟩ := s
  obtain ⟨l⟩ := a
  simp only [by'] at h
  subst h; rfl
def boxIn (w l : Int) (b : Bx) : Bool := inR b.1 0 w && (inR b.2.1 0 l && (inR b.2.2.1 1 (W (w - b.1)) && inR b.2.2.2 1 (W (l - b.2.1))))
/-- the place of the first row of a kind, or -1 -/
def firstI (p : Bx → Bool) : Nat → List Bx → Int
  | _, [] => -1
  | i, x :: l => ifb (p x) (i : Int) (firstI p (i + 1) l)
theorem firstI_neg (p : Bx → Bool) : ∀ (l : List Bx) (i : Nat), l.any p = false → firstI p i l = -1 := by
  intro l
  induction l with
  | nil => intro i _; rfl
  | cons x l ih =>
    intro i h
    rw [List.any_cons, Bool.or_eq_false_iff] at h
    simp only [firstI, h.1, ifb_f]
    exact ih _ h.2
theorem firstI_pos (p : Bx → Bool) : ∀ (l : List Bx) (i : Nat), l.any p = true → 0 ≤ firstI p i l := by
  intro l
  induction l with
  | nil => intro i h; cases h
  | cons x l ih =>
    intro i h
    rw [List.any_cons] at h
    cases hp : p x
    · simp only [firstI, hp, ifb_f]
      rw [hp, Bool.false_or] at h
      exact ih (i + 1) h
    · simp only [firstI, hp, ifb_t]; omega
def okL (L : Lf) : Bool := nameOk L.id && (nameOk L.fl && (inR L.num 0 999 && (okS L.sp L.sh L.gr && (inR L.wd 10 20000 && (inR L.ln 10 20000 && (decide (L.df.length ≤ 6) && L.df.all (boxIn L.wd L.ln)))))))
def less (a b : ByteArray) : Bool := Op.bytesLess a.toList b.toList
end Go.Proofs.YthnkioafikmmaaaDoor.walkS
