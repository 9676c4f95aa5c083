/- Numbers read from texts: the plain law; no conditions. -/
import Derived.Test.YthnkioafikmmaaaDoorWTq
namespace Go.Proofs.YthnkioafikmmaaaDoor.walkS
open Go Go.Proofs.YthnkioafikmmaaaDoor.Ev Go.Lib
set_option linter.unusedSimpArgs false
set_option linter.unusedVariables false
/-- the digits behind some others -/
def scan : List UInt8 → Nat → Option Nat
  | [], n => some n
  | d :: l, n => if isDg d = true then scan l (n * 10 + (d.toNat - 48)) else none
theorem scan_all : ∀ (l : List UInt8) (n : Nat), (∀ d ∈ l, isDg d = true) → scan l n = some (l.foldl (fun n d => n * 10 + (d.toNat - 48)) n) := by
  intro l
  induction l with
  | nil => intro n _; rfl
  | cons d l ih =>
    intro n h
    rw [scan, if_pos (h d (by simp)), ih _ (fun x hx => h x (by simp [hx]))]
    rfl
theorem scan_some : ∀ (l : List UInt8) {n r : Nat}, scan l n = some r → (∀ d ∈ l, isDg d = true) ∧ r = l.foldl (fun n d => n * 10 + (d.toNat - 48)) n := by
  intro l
  induction l with
  | nil => intro n r h; cases h; exact ⟨fun d hd => (by cases hd), rfl⟩
  | cons d l ih =>
    intro n r h
    rw [scan] at h
    split at h
    case isFalse => cases h
    rename_i hd
    obtain ⟨h1, h2⟩ := ih h
    refine ⟨fun x hx => ?_, h2⟩
    rcases List.mem_cons.1 hx with rfl | hx
    · exact hd
    · exact h1 x hx
theorem scan_val {l : List UInt8} {r : Nat} (h : scan l 0 = some r) : (∀ d ∈ l, isDg d = true) ∧ r = valD l := scan_some l h
theorem scan_lt : ∀ (l : List UInt8) {n r k : Nat}, scan l n = some r → n < 10 ^ k → r < 10 ^ (k + l.length) := by
  intro l
  induction l with
  | nil => intro n r k h hn; cases h; exact hn
  | cons d l ih =>
    intro n r k h hn
    rw [scan] at h
    split at h
    case isFalse => cases h
    rename_i hd
    obtain ⟨_, g2⟩ := dg_of hd
    have := ih (k := k + 1) h (by rw [Nat.pow_succ]; omega)
    rw [List.length_cons, show k + (l.length + 1) = k + 1 + l.length by omega]
    exact this
/-- does a text begin with a minus? -/
def ngB (s : ByteArray) : Bool := s.data.toList.head? == some 45
/-- what is behind it -/
def bdB (s : ByteArray) : List UInt8 := s.data.toList.drop (if ngB s = true then 1 else 0)
/-- what the digits say, if they are digits -/
def rawB (s : ByteArray) : Option Int := if (bdB s).length < 1 ∨ 18 < (bdB s).length then none else (scan (bdB s) 0).map fun (n : Nat) => if ngB s = true then -(n : Int) else (n : Int)
def rdB (s : ByteArray) : Option Int := if (bdB s).head? = some 48 ∧ 1 < s.size then none else rawB s
theorem size_list (s : ByteArray) : s.size = s.data.toList.length := Lib.size_eq s
theorem whole (s : ByteArray) : s.data.toList = (if ngB s = true then [45] else []) ++ bdB s := by
  unfold bdB
  by_cases h : ngB s = true
  · rw [if_pos h, if_pos h]
    unfold ngB at h
    cases hs : s.data.toList with
    | nil => rw [hs] at h; simp at h
    | cons b l =>
      rw [hs] at h
      have : b = 45 := by simpa using h
      subst this
      rfl
  · rw [if_neg h, if_neg h]; simp
/-- the text of what was read is the text iff no digit 0 stands first beside others -/
theorem rd_law {s : ByteArray} {n : Int} (h : rawB s = some n) : ((⟨(Lib.itoa n).toArray⟩ : ByteArray) = s) ↔ ¬ ((bdB s).head? = some 48 ∧ 1 < s.size) := by
  unfold rawB at h
  split at h
  case isTrue => cases h
  rename_i hl
  obtain ⟨v, hv, rfl⟩ := Option.map_eq_some_iff.1 h
  obtain ⟨hd, rfl⟩ := scan_val hv
  have hne : bdB s ≠ [] := by intro e; rw [e] at hl; simp at hl
  have hw := whole s
  have hsz := size_list s
  have e0 : ((⟨(Lib.itoa (if ngB s = true then -((valD (bdB s) : Nat) : Int) else ((valD (bdB s) : Nat) : Int))).toArray⟩ : ByteArray) = s) ↔ Lib.itoa (if ngB s = true then -((valD (bdB s) : Nat) : Int) else ((valD (bdB s) : Nat) : Int)) = s.data.toList := by
    constructor
    · intro e
      exact congrArg (fun x : ByteArray => x.data.toList) e
    · intro e
      rw [e]
  rw [e0]
  have key : decDigits (valD (bdB s)) = bdB s ↔ ¬ ((bdB s).head? = some 48 ∧ 1 < (bdB s).length) := by
    constructor
    · rintro e ⟨q1, q2⟩
      by_cases hz : valD (bdB s) = 0
      · rw [hz, decDigits_one (by decide)] at e
        rw [← e] at q2
        simp at q2
      · have := dec_head _ _ (Nat.le_refl _) (Nat.pos_of_ne_zero hz)
        rw [e] at this
        exact this q1
    · intro q
      refine dec_val _ hne hd ?_
      by_cases q1 : (bdB s).head? = some 48
      · right
        have : ¬ 1 < (bdB s).length := fun q2 => q ⟨q1, q2⟩
        have := List.length_pos_iff.2 hne
        omega
      · exact .inl q1
  by_cases hn : ngB s = true
  · rw [if_pos hn] at hw ⊢
    rw [hsz, hw]
    have hlen : ([45] ++ bdB s).length = (bdB s).length + 1 := by simp
    have hpos := List.length_pos_iff.2 hne
    rw [hlen]
    by_cases hz : valD (bdB s) = 0
    · have h48 : (bdB s).head? = some 48 := by
        apply Classical.byContradiction
        intro q
        have := valD_pos _ hne hd q
        omega
      rw [hz]
      constructor
      · intro e
        have : (48 : UInt8) = 45 := by
          have e2 := congrArg List.head? e
          rw [show Lib.itoa (-((0 : Nat) : Int)) = [48] by rw [show (-((0 : Nat) : Int)) = 0 by decide]; unfold Lib.itoa; rw [if_neg (by decide)]; exact decDigits_one (by decide)] at e2
          simp at e2
        exact absurd this (by decide)
      · intro q
        exact absurd ⟨h48, by omega⟩ q
    · have hlt : (-((valD (bdB s) : Nat) : Int)) < 0 := by omega
      unfold Lib.itoa
      rw [if_pos hlt, show (-((valD (bdB s) : Nat) : Int)).natAbs = valD (bdB s) by omega]
      constructor
      · intro e
        have e2 : decDigits (valD (bdB s)) = bdB s := by simpa using e
        rintro ⟨q1, _⟩
        have := dec_head _ _ (Nat.le_refl _) (Nat.pos_of_ne_zero hz)
        rw [e2] at this
        exact this q1
      · intro q
        have e2 := key.2 (fun q2 => q ⟨q2.1, by omega⟩)
        rw [e2]; rfl
  · rw [if_neg hn] at hw ⊢
    have hw : s.data.toList = bdB s := hw
    rw [hsz, hw]
    unfold Lib.itoa
    rw [if_neg (by omega)]
    exact key
theorem rd_itoa {s : ByteArray} {n : Int} (h : rdB s = some n) : (⟨(Lib.itoa n).toArray⟩ : ByteArray) = s := by
  unfold rdB at h
  split at h
  case isTrue => cases h
  rename_i hc
  exact (rd_law h).2 hc
theorem raw_lt {s : ByteArray} {n : Int} (h : rawB s = some n) : -1000000000000000000 < n ∧ n < 1000000000000000000 := by
  unfold rawB at h
  split at h
  case isTrue => cases h
  rename_i hl
  obtain ⟨v, hv, rfl⟩ := Option.map_eq_some_iff.1 h
  have h1 := scan_lt _ (k := 0) hv (by decide)
  have h2 : 10 ^ (0 + (bdB s).length) ≤ 10 ^ 18 := Nat.pow_le_pow_right (by decide) (by omega)
  have h3 : (10 : Nat) ^ 18 = 1000000000000000000 := by decide
  rw [h3] at h2
  split <;> omega
end Go.Proofs.YthnkioafikmmaaaDoor.walkS
