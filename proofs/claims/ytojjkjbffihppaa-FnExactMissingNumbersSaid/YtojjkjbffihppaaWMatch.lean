/- The leaf that matches best; the row BestMatch; no conditions. -/
import Derived.Test.YtojjkjbffihppaaWLeaves
import Derived.Test.YtojjkjbffihppaaWScore
namespace Go.Proofs.Ytojjkjbffihppaa.walkS
open Go Go.Proofs.Ytojjkjbffihppaa.Ev
set_option linter.unusedSimpArgs false
/-- the best so far, and its score -/
def bm (f : Nat → Int) (k : Int) : Nat → Nat → Int → Int → Int × Int
  | 0, _, b, e => (b, e)
  | n + 1, i, b, e => if (i : Int) = k then bm f k n (i + 1) b e else if b < 0 ∨ f i < e then bm f k n (i + 1) i (f i) else bm f k n (i + 1) b e
theorem bm_pos (f : Nat → Int) (k : Int) : ∀ (n i : Nat) (b e : Int), 0 ≤ b → 0 ≤ (bm f k n i b e).1 := by
  intro n
  induction n with
  | zero => intro i b e h; exact h
  | succ n ih =>
    intro i b e h
    simp only [bm]
    split
    · exact ih _ _ _ h
    · split
      · exact ih _ _ _ (by omega)
      · exact ih _ _ _ h
def scAt (A : Lf) (l : List Lf) (book : Bool) (i : Nat) : Int := match l[i]? with | some C => scI A C book | none => 0
theorem okFrom_all (l : List Lf) : ∀ (n i : Nat), n + i = l.length → okFrom l n i = true → ∀ C ∈ l.drop i, okL C = true := by
  intro n
  induction n with
  | zero =>
    intro i hi _ C hC
    rw [List.drop_eq_nil_of_le (by omega)] at hC
    simp at hC
  | succ n ih =>
    intro i hi h C hC
    obtain ⟨L, hx⟩ := get_lt (l := l) (i := i) (by omega)
    simp only [okFrom, okAt, hx, Bool.and_eq_true] at h
    rw [drop_get hx] at hC
    rcases List.mem_cons.1 hC with rfl | hC
    · exact h.1.1
    · exact ih (i + 1) (by omega) h.2 C hC
def okLs (l : List Lf) : Bool := okFrom l l.length 0 && decide (l.length ≤ 16)
def inRange (l : List Lf) (k : Int) : Bool := inR k 0 ((l.length : Int) - 1)
def atK (l : List Lf) (k : Int) : Lf := (l[k.toNat]?).getD ⟨.empty, .empty, 0, .empty, 0, 0, 0, 0, []⟩
def best (l : List Lf) (k : Int) (book : Bool) : Int × Int := bm (scAt (atK l k) l book) k l.length 0 (-1) 0
def bestMatch (l : List Lf) (k : Int) (book : Bool) : LV :=
  ifb (okLs l) (ifb (inRange l k) (ifb (decide (l.length = 1)) (.tu [I 0, I 0, I 3]) (.tu [I (best l k book).1, I (best l k book).2, I 0])) (.tu [I 0, I 0, I 2])) (.tu [I 0, I 0, I 1])
theorem best_pos (l : List Lf) (k : Int) (book : Bool) (h : inRange l k = true) : (best l k book).1 < 0 ↔ l.length = 1 := by
  simp only [inRange, inR, Bool.and_eq_true, decide_eq_true_eq] at h
  unfold best
  generalize scAt (atK l k) l book = f
  obtain ⟨n, hn⟩ : ∃ n, l.length = n + 1 := ⟨l.length - 1, by omega⟩
  rw [hn]
  by_cases h1 : ((0 : Nat) : Int) = k
  · have e : bm f k (n + 1) 0 (-1) 0 = bm f k n (0 + 1) (-1) 0 := by simp only [bm]; rw [if_pos h1]
    rw [e]
    cases n with
    | zero => simp [bm]
    | succ n =>
      have e : bm f k (n + 1) (0 + 1) (-1) 0 = bm f k n (0 + 1 + 1) ((0 + 1 : Nat) : Int) (f (0 + 1)) := by
        simp only [bm]; rw [if_neg (by omega), if_pos (.inl (by omega))]
      rw [e]
      have := bm_pos f k n (0 + 1 + 1) ((0 + 1 : Nat) : Int) (f (0 + 1)) (by omega)
      omega
  · have e : bm f k (n + 1) 0 (-1) 0 = bm f k n (0 + 1) ((0 : Nat) : Int) (f 0) := by
      simp only [bm]; rw [if_neg h1, if_pos (.inl (by omega))]
    rw [e]
    have := bm_pos f k n (0 + 1) ((0 : Nat) : Int) (f 0) (by omega)
    omega
end Go.Proofs.Ytojjkjbffihppaa.walkS
