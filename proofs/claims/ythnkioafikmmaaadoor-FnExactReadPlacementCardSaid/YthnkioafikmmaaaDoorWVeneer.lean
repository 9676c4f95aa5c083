/- What the functions about veneers compute; no conditions. -/
import Derived.Test.YthnkioafikmmaaaDoorWBase
namespace Go.Proofs.YthnkioafikmmaaaDoor.walkS
open Go Go.Proofs.YthnkioafikmmaaaDoor.Ev
set_option linter.unusedSimpArgs false
abbrev S (b : ByteArray) : List Cell := [.sc (.string b)]
def names : List ByteArray := [⟨#[97, 115, 104]⟩, ⟨#[98, 101, 101, 99, 104]⟩, ⟨#[98, 105, 114, 99, 104]⟩, ⟨#[99, 104, 101, 114, 114, 121]⟩, ⟨#[101, 98, 111, 110, 121]⟩, ⟨#[104, 111, 108, 108, 121]⟩, ⟨#[109, 97, 112, 108, 101]⟩, ⟨#[111, 97, 107]⟩, ⟨#[114, 111, 115, 101, 119, 111, 111, 100]⟩, ⟨#[119, 97, 108, 110, 117, 116]⟩]
def table : List (Int × Int × Int) := [(20, 40, 310), (35, 45, 410), (15, 33, 280), (50, 36, 240), (95, 85, 270), (5, 35, 370), (10, 42, 290), (40, 40, 330), (80, 60, 220), (70, 38, 260)]
def trow (r : Int × Int × Int) : List Cell := [.sl true 2 1 [[.int .i64 r.1], [.int .i64 r.2.1], [.int .i64 r.2.2]]]
/-- the place of a string from the i-th on, or -1 -/
def place (s : ByteArray) : Nat → List ByteArray → Int
  | _, [] => -1
  | i, x :: l => if x = s then (i : Int) else place s (i + 1) l
/-- a species' numbers: shade, hardness, swelling, code -/
def data (s : ByteArray) : Int × Int × Int × Int :=
  if place s 0 names < 0 then (0, 0, 0, 3) else match table[(place s 0 names).toNat]? with | some r => (r.1, r.2.1, r.2.2, 0) | none => (0, 0, 0, 3)
abbrev V (s : ByteArray) (a g : Int) : List LV := [T s, I a, I g]
def okV (s : ByteArray) (a g : Int) : Bool := decide ((data s).2.2.2 = 0) && (inR a 0 100 && (inR (IntKind.i64.wrap (a - (data s).1)) (-15) 15 && inR g 0 179))
theorem place_cases (s : ByteArray) : ∀ (l : List ByteArray) (i : Nat), place s i l = -1 ∨ ∃ k : Nat, place s i l = (k : Int) ∧ i ≤ k ∧ k < i + l.length := by
  intro l
  induction l with
  | nil => intro i; exact .inl rfl
  | cons x l ih =>
    intro i
    simp only [place]
    split
    · exact .inr ⟨i, rfl, Nat.le_refl _, by simp⟩
    · rcases ih (i + 1) with h | ⟨k, h1, h2, h3⟩
      · exact .inl h
      · exact .inr ⟨k, h1, by omega, by simp only [List.length_cons]; omega⟩
theorem found (s : ByteArray) : (place s 0 names = -1 ∧ data s = (0, 0, 0, 3)) ∨ ∃ (k : Nat) (r : Int × Int × Int), place s 0 names = (k : Int) ∧ table[k]? = some r ∧ data s = (r.1, r.2.1, r.2.2, 0) := by
  rcases place_cases s names 0 with h | ⟨k, h1, _, h3⟩
  · left; refine ⟨h, ?_⟩; simp [data, h]
  · right
    have hk : k < table.length := by simpa [names, table] using h3
    have ht : table[k]? = some table[k] := List.getElem?_eq_getElem hk
    refine ⟨k, table[k], h1, ht, ?_⟩
    have hn : ¬ (k : Int) < 0 := by omega
    simp [data, h1, ht, hn]
def okS (s : ByteArray) (a g : Int) : Bool := decide ((data s).2.2.2 = 0) && (inR a 0 100 && (inR a (IntKind.i64.wrap ((data s).1 - 15)) (IntKind.i64.wrap ((data s).1 + 15)) && inR g 0 179))
theorem data_num (s : ByteArray) : 0 ≤ (data s).1 ∧ (data s).1 ≤ 100 := by
  rcases found s with ⟨_, h⟩ | ⟨k, r, _, h2, h⟩
  · rw [h]; decide
  · rw [h]
    have : r ∈ table := List.mem_of_getElem? h2
    revert this
    have := List.all_eq_true.1 (show table.all (fun r => decide (0 ≤ r.1 ∧ r.1 ≤ 100)) = true by decide) r
    intro hm; simpa using this hm
theorem ok_same (s : ByteArray) (a g : Int) : okV s a g = okS s a g := by
  obtain ⟨h1, h2⟩ := data_num s
  unfold okV okS
  by_cases h3 : inR a 0 100 = true
  · have h4 := h3
    simp only [inR, Bool.and_eq_true, decide_eq_true_eq] at h4
    rw [IntWalk.i64_in _ (by omega), IntWalk.i64_in _ (by omega), IntWalk.i64_in _ (by omega)]
    have : inR (a - (data s).1) (-15) 15 = inR a ((data s).1 - 15) ((data s).1 + 15) := by
      simp only [inR]
      congr 1 <;> (apply decide_eq_decide.2; omega)
    rw [this]
  · simp [h3]
def angl (a b : Int) : Int := mnI (mxI (W (a - b)) (W (b - a))) (W (180 - mxI (W (a - b)) (W (b - a))))
def okA (a b : Int) : Bool := inR a 0 179 && inR b 0 179
theorem okS_g {s : ByteArray} {a g : Int} (h : okS s a g = true) : inR g 0 179 = true := by
  simp only [okS, Bool.and_eq_true] at h; exact h.2.2.2
end Go.Proofs.YthnkioafikmmaaaDoor.walkS
