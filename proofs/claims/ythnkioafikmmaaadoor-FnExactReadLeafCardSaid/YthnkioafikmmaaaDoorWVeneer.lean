/- What the functions about veneers compute; no conditions. -/
import Derived.Test.YthnkioafikmmaaaDoorWBase
namespace Go.Proofs.YthnkioafikmmaaaDoor.walkS
open Go Go.Proofs.YthnkioafikmmaaaDoor.Ev
set_option linter.unusedSimpArgs false
theorem r60 (d : Nat) (x : Int) : ev (d + 2) 60 [I x] = some (B (inR x 0 179), []) := by
  rw [s60 (d+1) _ rfl]
  simp [r58]
abbrev S (b : ByteArray) : List Cell := [.sc (.string b)]
def names : List ByteArray := [⟨#[97, 115, 104]⟩, ⟨#[98, 101, 101, 99, 104]⟩, ⟨#[98, 105, 114, 99, 104]⟩, ⟨#[99, 104, 101, 114, 114, 121]⟩, ⟨#[101, 98, 111, 110, 121]⟩, ⟨#[104, 111, 108, 108, 121]⟩, ⟨#[109, 97, 112, 108, 101]⟩, ⟨#[111, 97, 107]⟩, ⟨#[114, 111, 115, 101, 119, 111, 111, 100]⟩, ⟨#[119, 97, 108, 110, 117, 116]⟩]
def table : List (Int × Int × Int) := [(20, 40, 310), (35, 45, 410), (15, 33, 280), (50, 36, 240), (95, 85, 270), (5, 35, 370), (10, 42, 290), (40, 40, 330), (80, 60, 220), (70, 38, 260)]
def trow (r : Int × Int × Int) : List Cell := [.sl true 2 1 [[.int .i64 r.1], [.int .i64 r.2.1], [.int .i64 r.2.2]]]
theorem r84 (d : Nat) : ev (d + 1) 84 [] = some (.ow 9 1 (names.map S), []) := by
  rw [s84 d _ rfl]; kernel_rfl
theorem r59 (d : Nat) : ev (d + 1) 59 [] = some (.ow 66 1 (table.map trow), []) := by
  rw [s59 d _ rfl]; kernel_rfl
/-- the place of a string from the i-th on, or -1 -/
def place (s : ByteArray) : Nat → List ByteArray → Int
  | _, [] => -1
  | i, x :: l => if x = s then (i : Int) else place s (i + 1) l
theorem l57 (d : Nat) (s : ByteArray) (l : List ByteArray) (hb : l.length < 1000) : ∀ (n i : Nat), n + i = l.length →
    clC [] [2] (blk 0 (lp (evC (ev d) b57_1) (clean [0, 3, 4]) ⟨lookS [(0, T s), (3, .rf (.sl 3) none 0 l.length), (4, I i)], lookM [(.sl 3, some (.arr 9 1 (l.map S)))]⟩)) =
      if place s i (l.drop i) = -1 then some (.nm, ⟨lookS [], lookM []⟩) else some (.rt, ⟨lookS [(2, I (place s i (l.drop i)))], lookM []⟩) := by
  intro n
  induction n with
  | zero =>
    intro i hi
    have h0 : ¬ (i : Int) < (l.length : Int) := by omega
    have h1 : l.drop i = [] := List.drop_eq_nil_of_le (by omega)
    rw [lp_step]
    simp [h0, h1, place]
  | succ n ih =>
    intro i hi
    have h0 : (i : Int) < (l.length : Int) := by omega
    have hlt : i < l.length := by omega
    obtain ⟨x, hx⟩ : ∃ x, l[i]? = some x := ⟨_, List.getElem?_eq_getElem hlt⟩
    have h1 : l.drop i = x :: l.drop (i + 1) := by rw [List.drop_eq_getElem_cons hlt]; rw [List.getElem?_eq_getElem hlt] at hx; cases hx; rfl
    have hw : IntKind.i64.wrap ((i : Int) + 1) = ((i + 1 : Nat) : Int) := by rw [IntWalk.i64_in _ (by omega)]; rfl
    rw [lp_step]
    by_cases hxs : x = s
    · have : (i : Int) ≠ -1 := by omega
      simp [h0, h1, hx, hxs, place, this]
    · simp [h0, h1, hx, hxs, place, hw]
      exact ih (i + 1) (by omega)
theorem r57 (d : Nat) (s : ByteArray) : ev (d + 2) 57 [T s] = some (I (place s 0 names), []) := by
  rw [s57 (d + 1) _ rfl]
  have key := l57 (d + 1) s names (by decide) 10 0 rfl
  simp at key
  by_cases h : place s 0 names = -1 <;> simp [r84, key, h]
/-- a species' numbers: shade, hardness, swelling, code -/
def data (s : ByteArray) : Int × Int × Int × Int :=
  if place s 0 names < 0 then (0, 0, 0, 3) else match table[(place s 0 names).toNat]? with | some r => (r.1, r.2.1, r.2.2, 0) | none => (0, 0, 0, 3)
theorem r85 (d : Nat) (s : ByteArray) : ev (d + 1) 85 [T s] = some (.tu [I (data s).1, I (data s).2.1, I (data s).2.2.1, I (data s).2.2.2], []) := by
  rw [s85 d _ rfl]
  by_cases h0 : s = ⟨#[97, 115, 104]⟩
  · subst h0; kernel_rfl
  by_cases h1 : s = ⟨#[98, 101, 101, 99, 104]⟩
  · subst h1; kernel_rfl
  by_cases h2 : s = ⟨#[98, 105, 114, 99, 104]⟩
  · subst h2; kernel_rfl
  by_cases h3 : s = ⟨#[99, 104, 101, 114, 114, 121]⟩
  · subst h3; kernel_rfl
  by_cases h4 : s = ⟨#[101, 98, 111, 110, 121]⟩
  · subst h4; kernel_rfl
  by_cases h5 : s = ⟨#[104, 111, 108, 108, 121]⟩
  · subst h5; kernel_rfl
  by_cases h6 : s = ⟨#[109, 97, 112, 108, 101]⟩
  · subst h6; kernel_rfl
  by_cases h7 : s = ⟨#[111, 97, 107]⟩
  · subst h7; kernel_rfl
  by_cases h8 : s = ⟨#[114, 111, 115, 101, 119, 111, 111, 100]⟩
  · subst h8; kernel_rfl
  by_cases h9 : s = ⟨#[119, 97, 108, 110, 117, 116]⟩
  · subst h9; kernel_rfl
  have e : data s = (0, 0, 0, 3) := by simp only [data, names, place, if_neg (Ne.symm h0), if_neg (Ne.symm h1), if_neg (Ne.symm h2), if_neg (Ne.symm h3), if_neg (Ne.symm h4), if_neg (Ne.symm h5), if_neg (Ne.symm h6), if_neg (Ne.symm h7), if_neg (Ne.symm h8), if_neg (Ne.symm h9)]; rfl
  rw [e]
  simp [h0, h1, h2, h3, h4, h5, h6, h7, h8, h9]
theorem r62 (d : Nat) (s : ByteArray) : ev (d + 2) 62 [T s] = some (.tu [I (data s).1, B (decide ((data s).2.2.2 = 0))], []) := by
  rw [s62 (d + 1) _ rfl]
  simp [r85]
abbrev V (s : ByteArray) (a g : Int) : List LV := [T s, I a, I g]
def okV (s : ByteArray) (a g : Int) : Bool := decide ((data s).2.2.2 = 0) && (inR a 0 100 && (inR (IntKind.i64.wrap (a - (data s).1)) (-15) 15 && inR g 0 179))
theorem r33 (d : Nat) (s : ByteArray) (a g : Int) : ev (d + 3) 33 [.ag (V s a g)] = some (B (okV s a g), []) := by
  rw [s33 (d + 2) _ rfl]
  unfold okV
  by_cases h1 : (data s).2.2.2 = 0 <;> cases h2 : inR a 0 100 <;> cases h3 : inR (IntKind.i64.wrap (a - (data s).1)) (-15) 15 <;> cases h4 : inR g 0 179 <;>
  simp [r62, r63, h1, h2, h3, h4]
theorem place_cases (s : ByteArray) : ∀ (l : List ByteArray) (i : Nat), place s i l = -1 ∨ ∃ k : Nat, place s i l = (k : Int) ∧ i ≤ k ∧ k < i + l.length := by
  intro l
  induction l with
  | nil => intro i; exact .inl rfl
  | cons x l ih =>
    intro i
    simp only [place]
    split
    · exact .inr ⟨i, rfl, Nat.le_refl _, by simp⟩
    · rcases ih (i + 1) with h | ⟨k, h1, h2, h3⟩
      · exact .inl h
      · exact .inr ⟨k, h1, by omega, by simp only [List.length_cons]; omega⟩
theorem found (s : ByteArray) : (place s 0 names = -1 ∧ data s = (0, 0, 0, 3)) ∨ ∃ (k : Nat) (r : Int × Int × Int), place s 0 names = (k : Int) ∧ table[k]? = some r ∧ data s = (r.1, r.2.1, r.2.2, 0) := by
  rcases place_cases s names 0 with h | ⟨k, h1, _, h3⟩
  · left; refine ⟨h, ?_⟩; simp [data, h]
  · right
    have hk : k < table.length := by simpa [names, table] using h3
    have ht : table[k]? = some table[k] := List.getElem?_eq_getElem hk
    refine ⟨k, table[k], h1, ht, ?_⟩
    have hn : ¬ (k : Int) < 0 := by omega
    simp [data, h1, ht, hn]
def okS (s : ByteArray) (a g : Int) : Bool := decide ((data s).2.2.2 = 0) && (inR a 0 100 && (inR a (IntKind.i64.wrap ((data s).1 - 15)) (IntKind.i64.wrap ((data s).1 + 15)) && inR g 0 179))
theorem r31 (d : Nat) (s : ByteArray) (a g : Int) (rest : List LV) : ev (d + 3) 31 [.rp (T s :: I a :: I g :: rest)] = some (B (okS s a g), []) := by
  rw [s31 (d + 2) _ rfl]
  unfold okS
  rcases found s with ⟨h1, h2⟩ | ⟨k, r, h1, h2, h3⟩
  · simp [r57, h1, h2]
  · have hn : ¬ (k : Int) < 0 := by omega
    have hk : k < table.length := by rw [List.getElem?_eq_some_iff] at h2; exact h2.1
    have hk2 : (k : Int) < (table.length : Int) := by omega
    cases h4 : inR a 0 100
    · simp [r57, r58, h1, h3, hn, h4]
    · cases h5 : inR a (IntKind.i64.wrap (r.1 - 15)) (IntKind.i64.wrap (r.1 + 15)) <;> cases h6 : inR g 0 179 <;>
      simp [r57, r58, r60, r59, h1, h2, h3, hn, h4, h5, h6, hk2, trow]
theorem data_num (s : ByteArray) : 0 ≤ (data s).1 ∧ (data s).1 ≤ 100 := by
  rcases found s with ⟨_, h⟩ | ⟨k, r, _, h2, h⟩
  · rw [h]; decide
  · rw [h]
    have : r ∈ table := List.mem_of_getElem? h2
    revert this
    have := List.all_eq_true.1 (show table.all (fun r => decide (0 ≤ r.1 ∧ r.1 ≤ 100)) = true by decide) r
    intro hm; simpa using this hm
theorem ok_same (s : ByteArray) (a g : Int) : okV s a g = okS s a g := by
  obtain ⟨h1, h2⟩ := data_num s
  unfold okV okS
  by_cases h3 : inR a 0 100 = true
  · have h4 := h3
    simp only [inR, Bool.and_eq_true, decide_eq_true_eq] at h4
    rw [IntWalk.i64_in _ (by omega), IntWalk.i64_in _ (by omega), IntWalk.i64_in _ (by omega)]
    have : inR (a - (data s).1) (-15) 15 = inR a ((data s).1 - 15) ((data s).1 + 15) := by
      simp only [inR]
      congr 1 <;> (apply decide_eq_decide.2; omega)
    rw [this]
  · simp [h3]
def angl (a b : Int) : Int := mnI (mxI (W (a - b)) (W (b - a))) (W (180 - mxI (W (a - b)) (W (b - a))))
def okA (a b : Int) : Bool := inR a 0 179 && inR b 0 179
theorem okS_g {s : ByteArray} {a g : Int} (h : okS s a g = true) : inR g 0 179 = true := by
  simp only [okS, Bool.and_eq_true] at h; exact h.2.2.2
end Go.Proofs.YthnkioafikmmaaaDoor.walkS
