/- What these functions compute; no conditions. -/
import Derived.Test.YtjdcohcdgdjobaaIrV
namespace Go.Proofs.Ytjdcohcdgdjobaa.walkV
open Go Go.Proofs.Ytjdcohcdgdjobaa.Ev
set_option linter.unusedSimpArgs false
def inR (x a b : Int) : Bool := decide (a ≤ x) && decide (x ≤ b)
theorem r51 (d : Nat) (x a b : Int) : ev (d + 1) 51 [I x, I a, I b] = some (B (inR x a b), []) := by
  rw [s51 d _ rfl]
  by_cases h1 : a ≤ x <;> by_cases h2 : x ≤ b <;> simp [i51, h1, h2, inR]
theorem r64 (d : Nat) (x a b : Int) : ev (d + 1) 64 [I x, I a, I b] = some (B (inR x a b), []) := by
  rw [s64 d _ rfl]
  by_cases h1 : a ≤ x <;> by_cases h2 : x ≤ b <;> simp [i64, h1, h2, inR]
theorem r52 (d : Nat) (x : Int) : ev (d + 2) 52 [I x] = some (B (inR x 0 179), []) := by
  rw [s52 (d+1) _ rfl]
  simp [i52, r64]
abbrev S (b : ByteArray) : List Cell := [.sc (.string b)]
def names : List ByteArray := [⟨#[97, 115, 104]⟩, ⟨#[98, 101, 101, 99, 104]⟩, ⟨#[98, 105, 114, 99, 104]⟩, ⟨#[99, 104, 101, 114, 114, 121]⟩, ⟨#[101, 98, 111, 110, 121]⟩, ⟨#[104, 111, 108, 108, 121]⟩, ⟨#[109, 97, 112, 108, 101]⟩, ⟨#[111, 97, 107]⟩, ⟨#[114, 111, 115, 101, 119, 111, 111, 100]⟩, ⟨#[119, 97, 108, 110, 117, 116]⟩]
def table : List (Int × Int × Int) := [(20, 40, 310), (35, 45, 410), (15, 33, 280), (50, 36, 240), (95, 85, 270), (5, 35, 370), (10, 42, 290), (40, 40, 330), (80, 60, 220), (70, 38, 260)]
def trow (r : Int × Int × Int) : List Cell := [.sl true 2 1 [[.int .i64 r.1], [.int .i64 r.2.1], [.int .i64 r.2.2]]]
theorem r60 (d : Nat) : ev (d + 1) 60 [] = some (.ow 9 1 (names.map S), []) := by
  rw [s60 d _ rfl]; kernel_rfl
theorem r63 (d : Nat) : ev (d + 1) 63 [] = some (.ow 80 1 (table.map trow), []) := by
  rw [s63 d _ rfl]; kernel_rfl
/-- the place of a string from the i-th on, or -1 -/
def place (s : ByteArray) : Nat → List ByteArray → Int
  | _, [] => -1
  | i, x :: l => if x = s then (i : Int) else place s (i + 1) l
theorem l62 (d : Nat) (s : ByteArray) (l : List ByteArray) (hb : l.length < 1000) : ∀ (n i : Nat), n + i = l.length →
    clC [] [2] (blk 0 (lp (evC (ev d) b62_1) (clean [0, 3, 4]) ⟨lookS [(0, T s), (3, .rf (.sl 3) none 0 l.length), (4, I i)], lookM [(.sl 3, some (.arr 9 1 (l.map S)))]⟩)) =
      if place s i (l.drop i) = -1 then some (.nm, ⟨lookS [], lookM []⟩) else some (.rt, ⟨lookS [(2, I (place s i (l.drop i)))], lookM []⟩) := by
  intro n
  induction n with
  | zero =>
    intro i hi
    have h0 : ¬ (i : Int) < (l.length : Int) := by omega
    have h1 : l.drop i = [] := List.drop_eq_nil_of_le (by omega)
    rw [lp_step]
    simp [b62_1, h0, h1, place]
  | succ n ih =>
    intro i hi
    have h0 : (i : Int) < (l.length : Int) := by omega
    have hlt : i < l.length := by omega
    obtain ⟨x, hx⟩ : ∃ x, l[i]? = some x := ⟨_, List.getElem?_eq_getElem hlt⟩
    have h1 : l.drop i = x :: l.drop (i + 1) := by rw [List.drop_eq_getElem_cons hlt]; rw [List.getElem?_eq_getElem hlt] at hx; cases hx; rfl
    have hw : IntKind.i64.wrap ((i : Int) + 1) = ((i + 1 : Nat) : Int) := by rw [IntWalk.i64_in _ (by omega)]; rfl
    rw [lp_step]
    by_cases hxs : x = s
    · have : (i : Int) ≠ -1 := by omega
      simp [b62_1, h0, h1, hx, hxs, place, this]
    · simp [b62_1, h0, h1, hx, hxs, place, hw]
      exact ih (i + 1) (by omega)
theorem r62 (d : Nat) (s : ByteArray) : ev (d + 2) 62 [T s] = some (I (place s 0 names), []) := by
  rw [s62 (d + 1) _ rfl]
  have key := l62 (d + 1) s names (by decide) 10 0 rfl
  simp at key
  by_cases h : place s 0 names = -1 <;> simp [i62, r60, key, h]
/-- a species' numbers: shade, hardness, swelling, code -/
def data (s : ByteArray) : Int × Int × Int × Int :=
  if place s 0 names < 0 then (0, 0, 0, 3) else match table[(place s 0 names).toNat]? with | some r => (r.1, r.2.1, r.2.2, 0) | none => (0, 0, 0, 3)
theorem r31 (d : Nat) (s : ByteArray) : ev (d + 1) 31 [T s] = some (.tu [I (data s).1, I (data s).2.1, I (data s).2.2.1, I (data s).2.2.2], []) := by
  rw [s31 d _ rfl]
  by_cases h0 : s = ⟨#[97, 115, 104]⟩
  · subst h0; kernel_rfl
  by_cases h1 : s = ⟨#[98, 101, 101, 99, 104]⟩
  · subst h1; kernel_rfl
  by_cases h2 : s = ⟨#[98, 105, 114, 99, 104]⟩
  · subst h2; kernel_rfl
  by_cases h3 : s = ⟨#[99, 104, 101, 114, 114, 121]⟩
  · subst h3; kernel_rfl
  by_cases h4 : s = ⟨#[101, 98, 111, 110, 121]⟩
  · subst h4; kernel_rfl
  by_cases h5 : s = ⟨#[104, 111, 108, 108, 121]⟩
  · subst h5; kernel_rfl
  by_cases h6 : s = ⟨#[109, 97, 112, 108, 101]⟩
  · subst h6; kernel_rfl
  by_cases h7 : s = ⟨#[111, 97, 107]⟩
  · subst h7; kernel_rfl
  by_cases h8 : s = ⟨#[114, 111, 115, 101, 119, 111, 111, 100]⟩
  · subst h8; kernel_rfl
  by_cases h9 : s = ⟨#[119, 97, 108, 110, 117, 116]⟩
  · subst h9; kernel_rfl
  have e : data s = (0, 0, 0, 3) := by simp only [data, names, place, if_neg (Ne.symm h0), if_neg (Ne.symm h1), if_neg (Ne.symm h2), if_neg (Ne.symm h3), if_neg (Ne.symm h4), if_neg (Ne.symm h5), if_neg (Ne.symm h6), if_neg (Ne.symm h7), if_neg (Ne.symm h8), if_neg (Ne.symm h9)]; rfl
  rw [e]
  simp [i31, h0, h1, h2, h3, h4, h5, h6, h7, h8, h9]
theorem r66 (d : Nat) (s : ByteArray) : ev (d + 2) 66 [T s] = some (.tu [I (data s).1, B (decide ((data s).2.2.2 = 0))], []) := by
  rw [s66 (d + 1) _ rfl]
  simp [i66, r31]
abbrev V (s : ByteArray) (a g : Int) : List LV := [T s, I a, I g]
def okV (s : ByteArray) (a g : Int) : Bool := decide ((data s).2.2.2 = 0) && (inR a 0 100 && (inR (IntKind.i64.wrap (a - (data s).1)) (-15) 15 && inR g 0 179))
theorem r37 (d : Nat) (s : ByteArray) (a g : Int) : ev (d + 3) 37 [.ag (V s a g)] = some (B (okV s a g), []) := by
  rw [s37 (d + 2) _ rfl]
  unfold okV
  by_cases h1 : (data s).2.2.2 = 0 <;> cases h2 : inR a 0 100 <;> cases h3 : inR (IntKind.i64.wrap (a - (data s).1)) (-15) 15 <;> cases h4 : inR g 0 179 <;>
  simp [i37, r66, r51, h1, h2, h3, h4]
theorem place_cases (s : ByteArray) : ∀ (l : List ByteArray) (i : Nat), place s i l = -1 ∨ ∃ k : Nat, place s i l = (k : Int) ∧ i ≤ k ∧ k < i + l.length := by
  intro l
  induction l with
  | nil => intro i; exact .inl rfl
  | cons x l ih =>
    intro i
    simp only [place]
    split
    · exact .inr ⟨i, rfl, Nat.le_refl _, by simp⟩
    · rcases ih (i + 1) with h | ⟨k, h1, h2, h3⟩
      · exact .inl h
      · exact .inr ⟨k, h1, by omega, by simp only [List.length_cons]; omega⟩
theorem found (s : ByteArray) : (place s 0 names = -1 ∧ data s = (0, 0, 0, 3)) ∨ ∃ (k : Nat) (r : Int × Int × Int), place s 0 names = (k : Int) ∧ table[k]? = some r ∧ data s = (r.1, r.2.1, r.2.2, 0) := by
  rcases place_cases s names 0 with h | ⟨k, h1, _, h3⟩
  · left; refine ⟨h, ?_⟩; simp [data, h]
  · right
    have hk : k < table.length := by simpa [names, table] using h3
    have ht : table[k]? = some table[k] := List.getElem?_eq_getElem hk
    refine ⟨k, table[k], h1, ht, ?_⟩
    have hn : ¬ (k : Int) < 0 := by omega
    simp [data, h1, ht, hn]
def okS (s : ByteArray) (a g : Int) : Bool := decide ((data s).2.2.2 = 0) && (inR a 0 100 && (inR a (IntKind.i64.wrap ((data s).1 - 15)) (IntKind.i64.wrap ((data s).1 + 15)) && inR g 0 179))
theorem r67 (d : Nat) (s : ByteArray) (a g : Int) : ev (d + 3) 67 [.rp (V s a g)] = some (B (okS s a g), []) := by
  rw [s67 (d + 2) _ rfl]
  unfold okS
  rcases found s with ⟨h1, h2⟩ | ⟨k, r, h1, h2, h3⟩
  · simp [i67, r62, h1, h2]
  · have hn : ¬ (k : Int) < 0 := by omega
    have hk : k < table.length := by rw [List.getElem?_eq_some_iff] at h2; exact h2.1
    have hk2 : (k : Int) < (table.length : Int) := by omega
    cases h4 : inR a 0 100
    · simp [i67, r62, r64, h1, h3, hn, h4]
    · cases h5 : inR a (IntKind.i64.wrap (r.1 - 15)) (IntKind.i64.wrap (r.1 + 15)) <;> cases h6 : inR g 0 179 <;>
      simp [i67, r62, r64, r52, r63, h1, h2, h3, hn, h4, h5, h6, hk2, trow]
theorem r35 (d : Nat) (s : ByteArray) (a g : Int) : ev (d + 4) 35 [.ag (V s a g)] = some (B (okS s a g), []) := by
  rw [s35 (d + 3) _ rfl]
  simp [i35, r67]
theorem r36 (d : Nat) (s : ByteArray) (a g : Int) : ev (d + 1) 36 [.ag (V s a g)] = some (.ag (V s a g), []) := by
  rw [s36 d _ rfl]
  simp [i36]
theorem data_num (s : ByteArray) : 0 ≤ (data s).1 ∧ (data s).1 ≤ 100 := by
  rcases found s with ⟨_, h⟩ | ⟨k, r, _, h2, h⟩
  · rw [h]; decide
  · rw [h]
    have : r ∈ table := List.mem_of_getElem? h2
    revert this
    have := List.all_eq_true.1 (show table.all (fun r => decide (0 ≤ r.1 ∧ r.1 ≤ 100)) = true by decide) r
    intro hm; simpa using this hm
theorem ok_same (s : ByteArray) (a g : Int) : okV s a g = okS s a g := by
  obtain ⟨h1, h2⟩ := data_num s
  unfold okV okS
  by_cases h3 : inR a 0 100 = true
  · have h4 := h3
    simp only [inR, Bool.and_eq_true, decide_eq_true_eq] at h4
    rw [IntWalk.i64_in _ (by omega), IntWalk.i64_in _ (by omega), IntWalk.i64_in _ (by omega)]
    have : inR (a - (data s).1) (-15) 15 = inR a ((data s).1 - 15) ((data s).1 + 15) := by
      simp only [inR]
      congr 1 <;> (apply decide_eq_decide.2; omega)
    rw [this]
  · simp [h3]
theorem r34 (d : Nat) (s : ByteArray) (a g n : Int) : ∃ k, ev (d + 1) 34 [.ag (V s a g), I n] = some (I k, []) := by
  rw [s34 d _ rfl]
  by_cases h : IntKind.i64.wrap (n - s.size) < 0
  · exact ⟨-1, by simp [i34, h]⟩
  · exact ⟨IntKind.i64.wrap (n - s.size), by simp [i34, h]⟩
theorem r10 (d : Nat) (s : ByteArray) (a g : Int) : ev (d + 5) 10 [.ag (V s a g)] = some (B true, []) := by
  rw [s10 (d + 4) _ rfl]
  obtain ⟨k, hk⟩ := r34 (d + 3) s a g 1048576
  have e := ok_same s a g
  by_cases h : k < 0
  · simp [i10, hk, h]
  · cases h2 : okS s a g <;> rw [h2] at e <;> simp [i10, hk, h, r36, r35, r37, e, h2]
abbrev W (n : Int) : Int := IntKind.i64.wrap n
def mxI (a b : Int) : Int := if a < b then b else a
def mnI (a b : Int) : Int := if b < a then b else a
theorem r65 (d : Nat) (a b : Int) : ev (d + 1) 65 [I a, I b] = some (I (mxI a b), []) := by
  rw [s65 d _ rfl]
  unfold mxI
  by_cases h : b < a
  · have : ¬ a < b := by omega
    simp [i65, h, this]
  · by_cases h2 : a < b
    · simp [i65, h, h2]
    · have : a = b := by omega
      subst this; simp [i65]
theorem r74 (d : Nat) (a b : Int) : ev (d + 1) 74 [I a, I b] = some (I (mnI a b), []) := by
  rw [s74 d _ rfl]
  unfold mnI
  by_cases h : a < b
  · have : ¬ b < a := by omega
    simp [i74, h, this]
  · by_cases h2 : b < a
    · simp [i74, h, h2]
    · have : a = b := by omega
      subst this; simp [i74]
def angl (a b : Int) : Int := mnI (mxI (W (a - b)) (W (b - a))) (W (180 - mxI (W (a - b)) (W (b - a))))
theorem r55 (d : Nat) (a b : Int) : ev (d + 2) 55 [I a, I b] = some (I (angl a b), []) := by
  rw [s55 (d + 1) _ rfl]
  simp [i55, r65, r74, angl]
def okA (a b : Int) : Bool := inR a 0 179 && inR b 0 179
theorem r21 (d : Nat) (a b : Int) : ev (d + 2) 21 [I a, I b] = some (.tu [I (if okA a b = true then angl a b else 0), I (if okA a b = true then 0 else 2)], []) := by
  rw [s21 (d + 1) _ rfl]
  unfold okA
  cases h1 : inR a 0 179 <;> cases h2 : inR b 0 179 <;> simp [i21, r51, h1, h2, angl, mxI, mnI, W]
def contr (a g a' g' : Int) : Int := W (mxI (W (a - a')) (W (a' - a)) + W ((angl g g').tdiv 6))
theorem r72 (d : Nat) (s s' : ByteArray) (a g a' g' : Int) : ev (d + 3) 72 [.rp (V s a g), .rp (V s' a' g')] = some (I (contr a g a' g'), []) := by
  rw [s72 (d + 2) _ rfl]
  simp [i72, r55, r65, contr]
theorem r73 (d : Nat) (s s' : ByteArray) (a g a' g' : Int) (h : okA g g' = true) : ev (d + 3) 73 [.ag (V s a g), .ag (V s' a' g')] = some (I (contr a g a' g'), []) := by
  rw [s73 (d + 2) _ rfl]
  simp [i73, r21, h, contr, mxI]
def contrast (s : ByteArray) (a g : Int) (s' : ByteArray) (a' g' : Int) : LV :=
  if (okS s a g && okS s' a' g') = true then .tu [I (contr a g a' g'), I 0] else .tu [I 0, I 1]
theorem r48 (d : Nat) (s s' : ByteArray) (a g a' g' : Int) : ev (d + 4) 48 [.ag (V s a g), .ag (V s' a' g')] = some (contrast s a g s' a' g', []) := by
  rw [s48 (d + 3) _ rfl]
  unfold contrast
  cases h1 : okS s a g <;> cases h2 : okS s' a' g' <;> simp [i48, r67, r72, h1, h2]
theorem okS_g {s : ByteArray} {a g : Int} (h : okS s a g = true) : inR g 0 179 = true := by
  simp only [okS, Bool.and_eq_true] at h; exact h.2.2.2
theorem r49 (d : Nat) (s s' : ByteArray) (a g a' g' : Int) : ev (d + 4) 49 [.ag (V s a g), .ag (V s' a' g')] = some (contrast s a g s' a' g', []) := by
  rw [s49 (d + 3) _ rfl]
  unfold contrast
  have e1 := ok_same s a g
  have e2 := ok_same s' a' g'
  cases h1 : okS s a g <;> cases h2 : okS s' a' g' <;> rw [h1] at e1 <;> rw [h2] at e2
  · simp [i49, r37, e1, e2]
  · simp [i49, r37, e1, e2]
  · simp [i49, r37, e1, e2]
  · have : okA g g' = true := by simp only [okA, okS_g h1, okS_g h2]; rfl
    simp [i49, r37, e1, e2, r73 _ _ _ _ _ _ _ this]
theorem r14 (d : Nat) (s s' : ByteArray) (a g a' g' : Int) : ev (d + 5) 14 [.ag (V s a g), .ag (V s' a' g')] = some (B true, []) := by
  rw [s14 (d + 4) _ rfl]
  obtain ⟨k, hk⟩ := r34 (d + 3) s a g 1048576
  obtain ⟨k', hk'⟩ := r34 (d + 3) s' a' g' k
  by_cases h : k < 0
  · simp [i14, hk, h]
  · by_cases h' : k' < 0
    · simp [i14, hk, h, hk', h']
    · by_cases hc : (okS s a g && okS s' a' g') = true <;> simp [i14, hk, h, hk', h', r36, r48, r49, contrast, hc]
theorem r47 (d : Nat) (s : ByteArray) (a g : Int) : ev (d + 1) 47 [.ag (V s a g), .ag (V s a g)] = some (B true, []) := by
  rw [s47 d _ rfl]
  simp [i47]
def withShade (s : ByteArray) (a g n : Int) : LV :=
  if okS s a g = false then .tu [.ag (V ⟨#[]⟩ 0 0), I 1] else if inR n 0 100 = false then .tu [.ag (V ⟨#[]⟩ 0 0), I 2] else if okS s n g = false then .tu [.ag (V ⟨#[]⟩ 0 0), I 6] else .tu [.ag (V s n g), I 0]
theorem r45 (d : Nat) (s : ByteArray) (a g n : Int) : ev (d + 4) 45 [.ag (V s a g), I n] = some (withShade s a g n, []) := by
  rw [s45 (d + 3) _ rfl]
  unfold withShade
  cases h1 : okS s a g <;> cases h2 : inR n 0 100 <;> cases h3 : okS s n g <;> simp [i45, r67, r64, h1, h2, h3]
theorem r46 (d : Nat) (s : ByteArray) (a g n : Int) : ev (d + 4) 46 [.ag (V s a g), I n] = some (withShade s a g n, []) := by
  rw [s46 (d + 3) _ rfl]
  unfold withShade
  cases h1 : okS s a g <;> cases h2 : inR n 0 100 <;> cases h3 : okS s n g <;> simp [i46, r37, r51, ok_same, h1, h2, h3]
theorem r13 (d : Nat) (s : ByteArray) (a g n : Int) : ev (d + 5) 13 [.ag (V s a g), I n] = some (B true, []) := by
  rw [s13 (d + 4) _ rfl]
  obtain ⟨k, hk⟩ := r34 (d + 3) s a g 1048576
  by_cases h : k < 0
  · simp [i13, hk, h]
  · cases h1 : okS s a g <;> cases h2 : inR n 0 100 <;> cases h3 : okS s n g <;> simp [i13, hk, h, r36, r45, r46, r47, withShade, h1, h2, h3]
def far (n : Int) (k : Nat) : Int := match table[k]? with | some r => mxI (W (r.1 - n)) (W (n - r.1)) | none => 0
def near32 (n : Int) : Nat → Nat → Nat → Nat
  | 0, b, _ => b
  | f + 1, b, i => if far n i < far n b then near32 n f i (i + 1) else near32 n f b (i + 1)
theorem l32 (d : Nat) (n : Int) : ∀ (f b i : Nat), f + i = 10 → b < 10 →
    clC [5] [2, 3] (blk 0 (lp (evC (ev (d + 1)) b32_1) (clean [0, 4, 5, 6]) ⟨lookS [(0, I n), (4, .rf (.sl 4) none 0 10), (5, I b), (6, I i)], lookM [(.sl 4, some (.arr 80 1 (table.map trow)))]⟩)) =
      some (.nm, ⟨lookS [(5, I (near32 n f b i))], lookM []⟩) := by
  intro f
  induction f with
  | zero =>
    intro b i hi hb
    have h0 : ¬ (i : Int) < 10 := by omega
    rw [lp_step]
    simp [b32_1, h0, near32]
  | succ f ih =>
    intro b i hi hb
    have h0 : (i : Int) < 10 := by omega
    have h0' : (b : Int) < 10 := by omega
    have hlt : i < table.length := by simp [table]; omega
    have hlt' : b < table.length := by simp [table]; omega
    have ht : table[i]? = some table[i] := List.getElem?_eq_getElem hlt
    have ht' : table[b]? = some table[b] := List.getElem?_eq_getElem hlt'
    generalize table[i] = x at ht
    generalize table[b] = y at ht'
    have hw : IntKind.i64.wrap ((i : Int) + 1) = ((i + 1 : Nat) : Int) := by rw [IntWalk.i64_in _ (by omega)]; rfl
    rw [lp_step]
    simp only [near32, far, ht, ht']
    by_cases h : mxI (W (x.1 - n)) (W (n - x.1)) < mxI (W (y.1 - n)) (W (n - y.1))
    · simp [b32_1, h0, h0', ht, ht', r65, trow, h, hw]
      exact ih i (i + 1) (by omega) (by omega)
    · simp [b32_1, h0, h0', ht, ht', r65, trow, h, hw]
      exact ih b (i + 1) (by omega) hb
theorem near32_lt (n : Int) : ∀ (f b i : Nat), f + i = 10 → b < 10 → near32 n f b i < 10 := by
  intro f
  induction f with
  | zero => intro b i _ hb; exact hb
  | succ f ih =>
    intro b i hi hb
    simp only [near32]
    split
    · exact ih i (i + 1) (by omega) (by omega)
    · exact ih b (i + 1) (by omega) hb
def nearS (n : Int) : ByteArray := (names[near32 n 9 0 1]?).getD .empty
theorem r32 (d : Nat) (n : Int) : ev (d + 2) 32 [I n] = some (if inR n 0 100 = true then .tu [T (nearS n), I 0] else .tu [T ⟨#[]⟩, I 2], []) := by
  rw [s32 (d + 1) _ rfl]
  have key := l32 d n 9 0 1 rfl (by omega)
  have hlt := near32_lt n 9 0 1 rfl (by omega)
  have hlt' : near32 n 9 0 1 < names.length := by simpa [names] using hlt
  have hq : names[near32 n 9 0 1]? = some (nearS n) := by
    unfold nearS; rw [List.getElem?_eq_getElem hlt']; rfl
  have hc : (near32 n 9 0 1 : Int) < 10 := by omega
  have hl : names.length = 10 := rfl
  have hl2 : table.length = 10 := rfl
  cases h : inR n 0 100
  · simp [i32, r64, h]
  · simp at key
    simp [i32, r64, r63, r60, h, key, hq, hc, hl, hl2]
def near33 (n : Int) : List ByteArray → ByteArray → Int → ByteArray
  | [], b, _ => b
  | x :: xs, b, l => if b = ⟨#[]⟩ ∨ mxI (W ((data x).1 - n)) (W (n - (data x).1)) < l then near33 n xs x (mxI (W ((data x).1 - n)) (W (n - (data x).1))) else near33 n xs b l
theorem l33 (d : Nat) (n : Int) (l : List ByteArray) (hl : l.length = 10) : ∀ (f i : Nat) (b : ByteArray) (e : Int), f + i = 10 →
    clC [4] [2, 3] (blk 0 (lp (evC (ev (d + 2)) b33_1) (clean [0, 4, 5, 14, 15, 16]) ⟨lookS [(0, I n), (4, T b), (5, I e), (14, .rf (.sl 14) none 0 10), (15, I 10), (16, I i)], lookM [(.sl 14, some (.arr 9 1 (l.map S)))]⟩)) =
      some (.nm, ⟨lookS [(4, T (near33 n (l.drop i) b e))], lookM []⟩) := by
  intro f
  induction f with
  | zero =>
    intro i b e hi
    have h0 : ¬ (i : Int) < 10 := by omega
    have h1 : l.drop i = [] := List.drop_eq_nil_of_le (by omega)
    rw [lp_step]
    simp [b33_1, h0, near33, h1]
  | succ f ih =>
    intro i b e hi
    have h0 : (i : Int) < 10 := by omega
    have hlt : i < l.length := by omega
    obtain ⟨x, hx⟩ : ∃ x, l[i]? = some x := ⟨_, List.getElem?_eq_getElem hlt⟩
    have h1 : l.drop i = x :: l.drop (i + 1) := by rw [List.drop_eq_getElem_cons hlt]; rw [List.getElem?_eq_getElem hlt] at hx; cases hx; rfl
    have hw : IntKind.i64.wrap ((i : Int) + 1) = ((i + 1 : Nat) : Int) := by rw [IntWalk.i64_in _ (by omega)]; rfl
    rw [lp_step, h1]
    simp only [near33]
    by_cases hb : b = ⟨#[]⟩
    · simp [b33_1, h0, hx, hb, r66, hw, mxI, W]
      exact ih (i + 1) _ _ (by omega)
    · by_cases hc : mxI (W ((data x).1 - n)) (W (n - (data x).1)) < e
      · have hc' := hc
        simp only [mxI, W] at hc'
        simp [b33_1, h0, hx, hb, r66, hw, mxI, W, hc']
        exact ih (i + 1) _ _ (by omega)
      · have hc' := hc
        simp only [mxI, W] at hc'
        simp [b33_1, h0, hx, hb, r66, hw, mxI, W, hc']
        exact ih (i + 1) _ _ (by omega)
theorem r26 (d : Nat) : ev (d + 1) 26 [] = some (.ow 9 1 (names.map S), []) := by
  rw [s26 d _ rfl]; kernel_rfl
theorem r33 (d : Nat) (n : Int) : ev (d + 3) 33 [I n] = some (if inR n 0 100 = true then .tu [T (near33 n names ⟨#[]⟩ 0), I 0] else .tu [T ⟨#[]⟩, I 2], []) := by
  rw [s33 (d + 2) _ rfl]
  have key := l33 d n names rfl 10 0 ⟨#[]⟩ 0 rfl
  have hl : names.length = 10 := rfl
  cases h : inR n 0 100
  · simp [i33, r51, h]
  · simp at key
    simp [i33, r51, r26, h, key, hl]
theorem near_same : ∀ k : Nat, k < 101 → near33 (k : Int) names ⟨#[]⟩ 0 = nearS (k : Int) := by
  decide +kernel
theorem r9 (d : Nat) (n : Int) : ev (d + 4) 9 [I n] = some (B true, []) := by
  rw [s9 (d + 3) _ rfl]
  cases h : inR n 0 100
  · simp [i9, r32, r33, h]
  · have h' := h
    simp only [inR, Bool.and_eq_true, decide_eq_true_eq] at h'
    have e := near_same n.toNat (by omega)
    have : (n.toNat : Int) = n := by omega
    rw [this] at e
    simp [i9, r32, r33, h, e]
end Go.Proofs.Ytjdcohcdgdjobaa.walkV
