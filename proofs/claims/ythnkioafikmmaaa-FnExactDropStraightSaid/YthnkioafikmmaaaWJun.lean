/- Junctions of a drawing; no conditions. -/
import Derived.Test.YthnkioafikmmaaaWStr
namespace Go.Proofs.Ythnkioafikmmaaa.walkS
open Go Go.Proofs.Ythnkioafikmmaaa.Ev
set_option linter.unusedSimpArgs false
set_option linter.unusedVariables false
/-- is a number in a ring? -/
def hasR (R : List Int) (p : Int) : Bool := decide (0 ≤ ixR R p R.length 0)
theorem hasR_neg {R : List Int} {p : Int} (h : ixR R p R.length 0 < 0) : hasR R p = false := by unfold hasR; exact decide_eq_false (by omega)
theorem hasR_pos {R : List Int} {p : Int} (h : ¬ ixR R p R.length 0 < 0) : hasR R p = true := by unfold hasR; exact decide_eq_true (by omega)
/-- does another face than k name the point? -/
def usF (F : List Fc) (p k : Int) : Nat → Nat → Bool
  | 0, _ => false
  | m + 1, f => ifb (!decide ((f : Int) = k) && hasR (fr F f) p) true (usF F p k m (f + 1))
def used (D : Dr) (p k : Int) : Bool := usF D.fcs p k D.fcs.length 0
/-- is the point on the ring's edge at place k? -/
def onAt (P : List Pt) (R : List Int) (p : Pt) (k : Nat) : Bool := onB (pn P (rn R k).toNat) (pn P (rn R (k + 1)).toNat) p
/-- a pair of numbers as a row -/
abbrev jC (q : Nat × Nat) : List Cell := [.sl true 2 1 [iW (q.1 : Int), iW (q.2 : Int)]]
def bt (D : Dr) (R : List Int) (x : Pt) (p f k : Nat) : Bool := !hasR R p && (used D p f && onAt D.pts R x k)
def jK (b : Nat → Bool) : Nat → Nat → Bool → Bool
  | 0, _, h => h
  | m + 1, k, h => ifb h true (jK b m (k + 1) (b k))
def hit (D : Dr) (i p : Nat) : Bool := jK (bt D (fr D.fcs i) (pn D.pts p) p i) (fr D.fcs i).length 0 false
def jP (D : Dr) (i : Nat) : Nat → Nat → List (Nat × Nat)
  | 0, _ => []
  | m + 1, p => ifb (hit D i p) ((p, i) :: jP D i m (p + 1)) (jP D i m (p + 1))
def jF (D : Dr) : Nat → Nat → List (Nat × Nat)
  | 0, _ => []
  | m + 1, i => jP D i D.pts.length 0 ++ jF D m (i + 1)
theorem jP_len (D : Dr) (i : Nat) : ∀ m p, (jP D i m p).length ≤ m := by
  intro m
  induction m with
  | zero => intro p; exact Nat.le_refl _
  | succ m ih =>
    intro p
    have := ih (p + 1)
    cases h : hit D i p <;> simp [jP, h] <;> omega
theorem jP_at {D : Dr} {i m p : Nat} {acc r : List (Nat × Nat)} (h : acc ++ jP D i (m + 1) p = r) : ifb (hit D i p) (acc ++ [(p, i)]) acc ++ jP D i m (p + 1) = r := by
  rw [← h]
  cases hp : hit D i p <;> simp [jP, hp]
theorem dr_small {D : Dr} (h : drOk D = true) : D.pts.length ≤ 48 ∧ D.fcs.length ≤ 24 := by
  simp only [drOk, Bool.and_eq_true, decide_eq_true_eq] at h
  exact ⟨h.2.2.1, h.2.2.2.2.1⟩
/-! ### impl -/
def pl (n : Nat) : List Int := (List.range n).map fun k : Nat => (k : Int)
theorem pl_len (n : Nat) : (pl n).length = n := by simp [pl]
theorem pl_get {n i : Nat} (h : i < n) : (pl n)[i]? = some (i : Int) := by
  unfold pl
  rw [List.getElem?_map, List.getElem?_range h]
  rfl
theorem pl_snoc (n : Nat) : pl (n + 1) = pl n ++ [(n : Int)] := by simp [pl, List.range_succ]
/-- the first number that has a property -/
def fk (p : Nat → Bool) : Nat → Nat → Int
  | 0, _ => -1
  | m + 1, k => ifb (p k) (k : Int) (fk p m (k + 1))
theorem fk_cases (p : Nat → Bool) : ∀ (m k : Nat), fk p m k = -1 ∨ ∃ j : Nat, fk p m k = (j : Int) ∧ k ≤ j ∧ j < k + m := by
  intro m
  induction m with
  | zero => intro k; exact .inl rfl
  | succ m ih =>
    intro k
    simp only [fk]
    cases p k
    · rcases ih (k + 1) with h | ⟨j, h1, h2, h3⟩
      · exact .inl h
      · exact .inr ⟨j, h1, by omega, by omega⟩
    · exact .inr ⟨k, rfl, by omega, by omega⟩
def hit2 (D : Dr) (i p : Nat) : Bool := !hasR (fr D.fcs i) p && (decide (0 ≤ fk (onAt D.pts (fr D.fcs i) (pn D.pts p)) (fr D.fcs i).length 0) && used D p i)
theorem jK_true (b : Nat → Bool) : ∀ m k, jK b m k true = true := by
  intro m
  induction m with
  | zero => intro k; rfl
  | succ m ih => intro k; rfl
theorem jK_fk {b o : Nat → Bool} {c : Bool} (h : ∀ k, b k = (c && o k)) : ∀ m k, jK b m k false = (c && decide (0 ≤ fk o m k)) := by
  intro m
  induction m with
  | zero => intro k; cases c <;> rfl
  | succ m ih =>
    intro k
    have e1 : jK b (m + 1) k false = jK b m (k + 1) (b k) := rfl
    rw [e1, h k]
    cases ho : o k
    · have e2 : fk o (m + 1) k = fk o m (k + 1) := by simp [fk, ho]
      rw [Bool.and_false, e2]
      exact ih (k + 1)
    · have e2 : fk o (m + 1) k = (k : Int) := by simp [fk, ho]
      rw [e2]
      cases c
      · simp only [Bool.false_and]
        rw [ih]
        rfl
      · simp only [Bool.true_and, jK_true]
        simp
theorem hit_same (D : Dr) (i p : Nat) : hit D i p = hit2 D i p := by
  unfold hit hit2
  rw [jK_fk (o := onAt D.pts (fr D.fcs i) (pn D.pts p)) (c := !hasR (fr D.fcs i) p && used D p i) (fun k => by unfold bt; rw [Bool.and_assoc])]
  cases hasR (fr D.fcs i) p <;> cases used D p i <;> simp
end Go.Proofs.Ythnkioafikmmaaa.walkS
