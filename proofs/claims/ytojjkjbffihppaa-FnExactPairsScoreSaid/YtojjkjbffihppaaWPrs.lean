/- Pairs of leaves; the row PairsScore; no conditions. -/
import Derived.Test.YtojjkjbffihppaaWLL
import Derived.Test.YtojjkjbffihppaaWHas
import Derived.Test.YtojjkjbffihppaaWMatch
namespace Go.Proofs.Ytojjkjbffihppaa.walkS
open Go Go.Proofs.Ytojjkjbffihppaa.Ev
set_option linter.unusedSimpArgs false
set_option linter.unusedVariables false
/-! ### lists of lists of numbers as arguments -/
def jN (p : List Int × Bool) : List Cell := [ifb p.2 .nl (.sl false 0 1 (p.1.map iW))]
def jO (p : List Int × Bool) : List Cell := jI p.1
theorem l34 (d : Nat) (l : List (List Int × Bool)) (hb : l.length ≤ big) (hw : ∀ q ∈ l, q.1.length ≤ big ∧ (q.2 = true → q.1 = [])) : ∀ (n i : Nat), n + i = l.length →
    clC [3] [2] (blk 0 (lp (evC (ev (d + 1)) b34_1) (clean [0, 3, 4]) ⟨lookS [(0, .ro 1 (l.map jN)), (3, .rf (.sl 3) none 0 l.length), (4, I i)], lookM [(.sl 3, some (.arr 33 1 (fill jO [.nl] l i)))]⟩)) =
      some (.nm, ⟨lookS [(3, .rf (.sl 3) none 0 l.length)], lookM [(.sl 3, some (.arr 33 1 (l.map jO)))]⟩) := by
  intro n
  induction n with
  | zero =>
    intro i hi
    have h0 : ¬ (i : Int) < (l.length : Int) := by omega
    have he : fill jO [.nl] l i = l.map jO := by rw [show i = l.length by omega]; exact fill_end
    rw [lp_step, he]
    simp [h0]
  | succ n ih =>
    intro i hi
    have hlt : i < l.length := by omega
    have h0 : (i : Int) < (l.length : Int) := by omega
    obtain ⟨x, hx⟩ := get_lt hlt
    obtain ⟨F, b⟩ := x
    obtain ⟨w1, w2⟩ := hw (F, b) (List.mem_of_getElem? hx)
    have hs := fill_set (f := jO) (z := [.nl]) hx
    have hg : (fill jO [.nl] l i)[i]? = some [.nl] := fill_get (f := jO) (z := [.nl]) hlt
    have hl : ∀ a, ((fill jO [.nl] l i).set i a)[i]? = some a := fun a => List.getElem?_set_self (by rw [fill_len (by omega)]; exact hlt)
    have hw' := wrap_nat (i := i) (by simp [big] at hb; omega)
    have ih' := ih (i + 1) (by omega)
    rw [← hs] at ih'
    simp only [jO] at ih'
    simp at ih'
    rw [lp_step]
    have hsv : SV 1 (F.map iC) (roC (ifb b .nl (.sl false 0 1 (F.map iW)))) := by
      cases b
      · exact .inl (by simp [roC])
      · exact .inr ⟨rfl, by have := w2 rfl; simp at this; rw [this]; rfl⟩
    have h19 := r91 d F w1 hsv
    cases b
    · simp [roC] at h19
      simp [h0, hx, hg, hl, hw', h19, jN, ih']
    · simp [roC] at h19
      simp [h0, hx, hg, hl, hw', h19, jN, ih']
theorem r34 (d : Nat) (l : List (List Int × Bool)) (hb : l.length ≤ big) (hw : ∀ q ∈ l, q.1.length ≤ big ∧ (q.2 = true → q.1 = [])) {x : LV} (hx : SV 1 (l.map jN) x) : ev (d + 2) 34 [x] = some (.ow 33 1 ((l.map (·.1)).map jI), []) := by
  rw [s34 (d + 1) _ rfl]
  have em : (l.map (·.1)).map jI = l.map jO := by rw [List.map_map]; rfl
  rw [em]
  rcases hx with rfl | ⟨rfl, h⟩
  · have key := l34 d l hb hw l.length 0 (by omega)
    have hz : List.replicate l.length [Cell.nl] = fill jO [.nl] l 0 := fill_zero (f := jO) (z := [.nl]) (l := l)
    simp at key
    simp [hb, hz, key]
  · have hl : l = [] := by simpa using h
    subst hl
    simp [big]
    rw [lp_step]
    simp
theorem m87 (d : Nat) (l : List Int) (n : Int) {x : LV} (hx : SV 1 (l.map iC) x) : ev (d + 1) 87 [x, I n] = some (I (sz1 n l.length), []) := by
  rw [s87 d _ rfl]
  unfold sz1
  rcases hx with rfl | ⟨rfl, h⟩
  · by_cases hc : W (n - l.length) < 0 <;> simp only [W] at hc <;> simp [hc, W]
  · have hl : l = [] := by simpa using h
    subst hl
    by_cases hc : W (n - 0) < 0 <;> simp only [W, Int.sub_zero] at hc <;> simp [hc, W]
def WfJ (q : List Int × Bool) : Prop := q.1.length ≤ maxLen ∧ (q.2 = true → q.1 = [])
theorem l32 (d : Nat) (l : List (List Int × Bool)) (hb : l.length ≤ maxLen) (hw : ∀ q ∈ l, WfJ q) : ∀ (n i : Nat) (m : Int), n + i = l.length → 0 ≤ m ∧ m ≤ 1048576 →
    (∃ k, clC [1] [4] (blk 0 (lp (evC (ev (d + 1)) b32_1) (clean [0, 1, 5]) ⟨lookS [(0, .ro 1 (l.map jN)), (1, I m), (5, I i)], lookM []⟩)) = some (.nm, ⟨lookS [(1, I k)], lookM []⟩) ∧ (0 ≤ k ∧ k ≤ 1048576) ∧ ∀ q ∈ l.drop i, q.1.length ≤ big) ∨
    clC [1] [4] (blk 0 (lp (evC (ev (d + 1)) b32_1) (clean [0, 1, 5]) ⟨lookS [(0, .ro 1 (l.map jN)), (1, I m), (5, I i)], lookM []⟩)) = some (.rt, ⟨lookS [(4, I (-1))], lookM []⟩) := by
  intro n
  induction n with
  | zero =>
    intro i m hi hm
    have h0 : ¬ (i : Int) < (l.length : Int) := by omega
    have h1 : l.drop i = [] := List.drop_eq_nil_of_le (by omega)
    rw [lp_step, h1]
    exact .inl ⟨m, by simp [h0], hm, fun q hq => by simp at hq⟩
  | succ n ih =>
    intro i m hi hm
    have hlt : i < l.length := by omega
    have h0 : (i : Int) < (l.length : Int) := by omega
    obtain ⟨x, hx⟩ := get_lt hlt
    obtain ⟨F, b⟩ := x
    obtain ⟨w1, w2⟩ := hw (F, b) (List.mem_of_getElem? hx)
    have hmx : maxLen = 9223372036854775807 := by decide
    have hw' : IntKind.i64.wrap ((i : Int) + 1) = ((i + 1 : Nat) : Int) := by rw [IntWalk.i64_in _ (by omega)]; rfl
    have hsv : SV 1 (F.map iC) (roC (ifb b .nl (.sl false 0 1 (F.map iW)))) := by
      cases b
      · exact .inl (by simp [roC])
      · exact .inr ⟨rfl, by have := w2 rfl; simp at this; rw [this]; rfl⟩
    have hk := m87 d F m hsv
    rw [lp_step]
    by_cases hc : sz1 m F.length < 0
    · right
      cases b
      · simp [roC] at hk; simp [h0, hx, jN, hk, hc]
      · simp [roC] at hk; simp [h0, hx, jN, hk, hc]
    · have w1' : F.length ≤ maxLen := w1
      have q2 := sz1_ok hm w1' (by omega)
      have hdr : ∀ q ∈ l.drop i, q = (F, b) ∨ q ∈ l.drop (i + 1) := by
        intro q hq
        rw [drop_get hx] at hq
        simpa using hq
      rcases ih (i + 1) (sz1 m F.length) (by omega) (by omega) with ⟨k2, hk2, hk3, hall⟩ | hk2
      · left
        refine ⟨k2, ?_, hk3, fun q hq => ?_⟩
        · simp at hk2
          cases b
          · simp [roC] at hk; simp [h0, hx, jN, hk, hc, hw', hk2]
          · simp [roC] at hk; simp [h0, hx, jN, hk, hc, hw', hk2]
        · rcases hdr q hq with rfl | hq
          · show F.length ≤ big
            simp only [big]; omega
          · exact hall q hq
      · right
        simp at hk2
        cases b
        · simp [roC] at hk; simp [h0, hx, jN, hk, hc, hw', hk2]
        · simp [roC] at hk; simp [h0, hx, jN, hk, hc, hw', hk2]
theorem r32 (d : Nat) (l : List (List Int × Bool)) (hb : l.length ≤ maxLen) (hw : ∀ q ∈ l, WfJ q) (n : Int) (hn : 0 ≤ n ∧ n ≤ 1048576) {x : LV} (hx : SV 1 (l.map jN) x) : ∃ k, ev (d + 2) 32 [x, I n] = some (I k, []) ∧ (0 ≤ k → k ≤ 1048576 ∧ l.length ≤ 1048576 ∧ ∀ q ∈ l, q.1.length ≤ big) := by
  rw [s32 (d + 1) _ rfl]
  have hm : maxLen = 9223372036854775807 := by decide
  have hw' : IntKind.i64.wrap (n - (l.length : Int)) = n - l.length := IntWalk.i64_in _ (by omega)
  by_cases h : n - (l.length : Int) < 0
  · refine ⟨-1, ?_, by omega⟩
    rcases hx with rfl | ⟨rfl, hl⟩
    · simp [hw', h]
    · have hl : l = [] := by simpa using hl
      subst hl; simp at h; omega
  · rcases hx with rfl | ⟨rfl, hl⟩
    · rcases l32 d l hb hw l.length 0 (n - l.length) (by omega) (by omega) with ⟨k, hk, hk2, hall⟩ | hk
      · simp at hk
        rw [List.drop_zero] at hall
        exact ⟨k, by simp [hw', h, hk], fun _ => ⟨hk2.2, by omega, hall⟩⟩
      · simp at hk; exact ⟨-1, by simp [hw', h, hk], by omega⟩
    · have hl : l = [] := by simpa using hl
      subst hl
      refine ⟨n, ?_, fun _ => ⟨hn.2, by simp, by simp⟩⟩
      have e : IntKind.i64.wrap n = n := IntWalk.i64_in _ (by omega)
      have e2 : ¬ n < 0 := by omega
      simp [e, e2]
      rw [lp_step]
      simp
/-! ### pairs that are good -/
def goodP (n a b : Int) : Bool := decide (0 ≤ a ∧ a < b ∧ b < n)
def befP : Option Int → Int → Bool
  | none, _ => true | some q, a => decide (q < a)
def prOk (n : Int) : List Int → Option Int → List (List Int) → Bool
  | _, _, [] => true
  | U, o, [a, b] :: ps => goodP n a b && (!isIn U a && (!isIn U b && (befP o a && prOk n (U ++ [a, b]) (some a) ps)))
  | _, _, _ => false
theorem prOk_len {n : Int} {U : List Int} {o : Option Int} {q : List Int} {ps : List (List Int)} (h : ¬ q.length = 2) : prOk n U o (q :: ps) = false := by
  unfold prOk
  split
  · rename_i he; cases he
  · rename_i he; cases he; exact absurd rfl h
  · rfl
theorem len2 {q : List Int} (h : q.length = 2) : ∃ a b, q = [a, b] := by
  match q, h with
  | [a, b], _ => exact ⟨a, b, rfl⟩
theorem prOk_all {n : Int} : ∀ {ps : List (List Int)} {U : List Int} {o : Option Int}, prOk n U o ps = true → ∀ q ∈ ps, ∃ a b, q = [a, b] ∧ 0 ≤ a ∧ a < b ∧ b < n := by
  intro ps
  induction ps with
  | nil => intro U o _ q hq; simp at hq
  | cons p ps ih =>
    intro U o h q hq
    by_cases hl : p.length = 2
    · obtain ⟨a, b, rfl⟩ := len2 hl
      simp only [prOk, Bool.and_eq_true, goodP, decide_eq_true_eq] at h
      rcases List.mem_cons.1 hq with rfl | hq
      · exact ⟨a, b, rfl, h.1⟩
      · exact ih h.2.2.2.2 q hq
    · rw [prOk_len hl] at h; cases h
def cmp2 (a b c e : Int) : Int := if a < c then -1 else if c < a then 1 else if b < e then -1 else if e < b then 1 else 0
theorem r247 (d : Nat) (x : Int) : ev (d + 1) 247 [I x] = some (B false, []) := by
  rw [s247 d _ rfl]
  simp
theorem r218 (d : Nat) (x y : Int) : ev (d + 2) 218 [I x, I y] = some (I (if x < y then -1 else if y < x then 1 else 0), []) := by
  rw [s218 (d + 1) _ rfl]
  have h1 := r247 d x
  have h2 := r247 d y
  by_cases a : x < y
  · simp [h1, h2, a]
  · by_cases b : y < x <;> simp [h1, h2, a, b]
theorem r161 (d : Nat) (a b c e : Int) : ev (d + 3) 161 [.ro 1 [iC a, iC b], .ro 1 [iC c, iC e]] = some (I (cmp2 a b c e), []) := by
  rw [s161 (d + 2) _ rfl]
  have k1 := r218 d a c
  have k2 := r218 d b e
  have w1 : IntKind.i64.wrap 1 = 1 := by decide
  have w2 : IntKind.i64.wrap 2 = 2 := by decide
  unfold cmp2
  simp
  rw [lp_step]
  by_cases h1 : a < c
  · simp [h1] at k1
    simp [k1, h1]
  by_cases h2 : c < a
  · simp [h1, h2] at k1
    simp [k1, h1, h2]
  simp [h1, h2] at k1
  simp [k1, h1, h2, w1]
  rw [lp_step]
  by_cases h3 : b < e
  · simp [h3] at k2
    simp [k2, h3]
  by_cases h4 : e < b
  · simp [h3, h4] at k2
    simp [k2, h3, h4]
  simp [h3, h4] at k2
  simp [k2, h3, h4, w2]
  rw [lp_step]
  simp
theorem l89 (d : Nat) (ps : List (List Int)) (hb : ps.length ≤ 1048576) (n0 : Int) (hn0 : 0 ≤ n0 ∧ n0 ≤ 1000000000) : ∀ (n i : Nat) (U : List Int) (o : Option Int), n + i = ps.length → U.length = 2 * i → (o = none ∧ i = 0 ∨ ∃ a b, o = some a ∧ 0 < i ∧ ps[i - 1]? = some [a, b] ∧ a ∈ U) →
    clC [] [4] (blk 0 (lp (evC (ev (d + 2)) b89_1) (clean [0, 1, 5, 6]) ⟨lookS [(0, I n0), (1, .ro 1 (ps.map jR)), (5, .rf (.sl 5) none 0 U.length), (6, I i)], lookM [((.sl 5), some (.arr 2 1 (U.map iC)))]⟩)) =
      ifb (prOk n0 U o (ps.drop i)) (some (.nm, ⟨lookS [], lookM []⟩)) (some (.rt, ⟨lookS [(4, B false)], lookM []⟩)) := by
  intro n
  induction n with
  | zero =>
    intro i U o hi hU ho
    have h0 : ¬ (i : Int) < (ps.length : Int) := by omega
    rw [List.drop_eq_nil_of_le (by omega), lp_step]
    simp [h0, prOk]
  | succ n ih =>
    intro i U o hi hU ho
    have hlt : i < ps.length := by omega
    have h0 : (i : Int) < (ps.length : Int) := by omega
    obtain ⟨q, hx⟩ := get_lt hlt
    have hw := wrap_nat (i := i) (by omega)
    rw [drop_get hx]
    rw [lp_step]
    by_cases hl : q.length = 2
    case neg =>
      have hl' : ¬ (q.length : Int) = 2 := by omega
      rw [prOk_len hl]
      simp [h0, hx, hl']
    obtain ⟨a, b, rfl⟩ := len2 hl
    simp only [prOk]
    by_cases hg : 0 ≤ a ∧ a < b ∧ b < n0
    case neg =>
      have e : goodP n0 a b = false := by unfold goodP; exact decide_eq_false hg
      rw [e]

      by_cases f1 : inR a 0 (n0 - 1) = true
      · have wn : IntKind.i64.wrap (n0 - 1) = n0 - 1 := IntWalk.i64_in _ (by omega)
        have f1' := f1
        simp only [inR, Bool.and_eq_true, decide_eq_true_eq] at f1'
        have wa : IntKind.i64.wrap (a + 1) = a + 1 := IntWalk.i64_in _ (by omega)
        have f2 : inR b (a + 1) (n0 - 1) = false := by
          simp only [inR, ← Bool.decide_and]
          exact decide_eq_false (by omega)
        have i1 := r97 (d + 1) a 0 (n0 - 1)
        have i2 := r97 (d + 1) b (a + 1) (n0 - 1)
        rw [f1] at i1
        rw [f2] at i2
        simp [h0, hx, i1, i2, wn, wa]
      · have f1' : inR a 0 (n0 - 1) = false := by simpa using f1
        have wn : IntKind.i64.wrap (n0 - 1) = n0 - 1 := IntWalk.i64_in _ (by omega)
        have i1 := r97 (d + 1) a 0 (n0 - 1)
        rw [f1'] at i1
        simp [h0, hx, i1, wn]

    have e : goodP n0 a b = true := by unfold goodP; exact decide_eq_true hg
    rw [e]
    obtain ⟨g1, g2, g3⟩ := hg

    have wn : IntKind.i64.wrap (n0 - 1) = n0 - 1 := IntWalk.i64_in _ (by omega)
    have wa : IntKind.i64.wrap (a + 1) = a + 1 := IntWalk.i64_in _ (by omega)
    have i1 := r97 (d + 1) a 0 (n0 - 1)
    have i2 := r97 (d + 1) b (a + 1) (n0 - 1)
    have f1 : inR a 0 (n0 - 1) = true := by
      simp only [inR, ← Bool.decide_and]
      exact decide_eq_true (by omega)
    have f2 : inR b (a + 1) (n0 - 1) = true := by
      simp only [inR, ← Bool.decide_and]
      exact decide_eq_true (by omega)
    rw [f1] at i1
    rw [f2] at i2

    have hUb : U.length ≤ big := by simp only [big]; omega
    have c1 := hr158 (d + 1) U hUb a
    have c2 := hr158 (d + 1) U hUb b
    by_cases m1 : a ∈ U
    · rw [isIn_t m1] at c1 ⊢
      simp [h0, hx, i1, i2, wn, wa, c1]
    rw [isIn_f m1] at c1 ⊢
    by_cases m2 : b ∈ U
    · rw [isIn_t m2] at c2 ⊢
      simp [h0, hx, i1, i2, wn, wa, c1, c2]
    rw [isIn_f m2] at c2 ⊢
    have hb2 : U.length + 2 ≤ big := by simp only [big]; omega
    have ih' := ih (i + 1) (U ++ [a, b]) (some a) (by omega) (by simp; omega) (.inr ⟨a, b, rfl, by omega, by simpa using hx, by simp⟩)
    simp only [List.map_append, List.map_cons, List.map_nil, Int.natCast_add, Int.cast_ofNat_Int] at ih'
    simp at ih'
    rcases ho with ⟨rfl, rfl⟩ | ⟨a0, b0, rfl, hi0, hp, ha0⟩
    · have hne : 0 < ps.length := hlt
      have hx0 : ps[0] = [a, b] := (List.getElem?_eq_some_iff.1 hx).2
      simp at hw ih'
      simp [hne, hx0, i1, i2, wn, wa, c1, c2, hb2, hw, befP, ih']
    have p0 : (0 : Int) < (i : Int) := by omega
    have p1 : (0 : Int) ≤ (i : Int) - 1 := by omega
    have p3 : (1 : Int) ≤ (i : Int) := by omega
    have p4 : 1 ≤ i := hi0
    have p2 : (i : Int) - 1 < (ps.length : Int) := by omega
    have pt : ((i : Int) - 1).toNat = i - 1 := by omega
    have pw : IntKind.i64.wrap ((i : Int) - 1) = (i : Int) - 1 := wrap_in (by omega)
    have hne : a0 ≠ a := fun q => m1 (q ▸ ha0)

    by_cases hbe : a0 < a
    · have z : ¬ a ≤ a0 := by omega
      have e2 : befP (some a0) a = true := decide_eq_true hbe
      rw [e2]
      simp [h0, hx, i1, i2, wn, wa, c1, c2, hb2, hw, p1, p2, p3, p4, pt, pw, hi0, hp, z, ih']
    · have z : a ≤ a0 := by omega
      have e2 : befP (some a0) a = false := decide_eq_false hbe
      rw [e2]
      simp [h0, hx, i1, i2, wn, wa, c1, c2, p1, p2, p3, p4, pt, pw, hi0, hp, z]
theorem l92 (d : Nat) (ps : List (List Int)) (hb : ps.length ≤ 1048576) (n0 : Int) (hn0 : 0 ≤ n0 ∧ n0 ≤ 1000000000) : ∀ (n i : Nat) (U : List Int) (o : Option Int), n + i = ps.length → U.length = 2 * i → (o = none ∧ i = 0 ∨ ∃ a b, o = some a ∧ 0 < i ∧ ps[i - 1]? = some [a, b] ∧ a ∈ U) →
    clC [] [4] (blk 0 (lp (evC (ev (d + 3)) b92_1) (clean [0, 1, 5, 9, 10, 11]) ⟨lookS [(0, .ro 1 (ps.map jR)), (1, I n0), (5, .rf (.sl 5) none 0 U.length), (9, .ro 1 (ps.map jR)), (10, I ps.length), (11, I i)], lookM [((.sl 5), some (.arr 2 1 (U.map iC)))]⟩)) =
      ifb (prOk n0 U o (ps.drop i)) (some (.nm, ⟨lookS [], lookM []⟩)) (some (.rt, ⟨lookS [(4, B false)], lookM []⟩)) := by
  intro n
  induction n with
  | zero =>
    intro i U o hi hU ho
    have h0 : ¬ (i : Int) < (ps.length : Int) := by omega
    rw [List.drop_eq_nil_of_le (by omega), lp_step]
    simp [h0, prOk]
  | succ n ih =>
    intro i U o hi hU ho
    have hlt : i < ps.length := by omega
    have h0 : (i : Int) < (ps.length : Int) := by omega
    obtain ⟨q, hx⟩ := get_lt hlt
    have hw := wrap_nat (i := i) (by omega)
    rw [drop_get hx]
    rw [lp_step]
    by_cases hl : q.length = 2
    case neg =>
      have hl' : ¬ (q.length : Int) = 2 := by omega
      rw [prOk_len hl]
      simp [h0, hx, hl']
    obtain ⟨a, b, rfl⟩ := len2 hl
    simp only [prOk]
    by_cases hg : 0 ≤ a ∧ a < b ∧ b < n0
    case neg =>
      have e : goodP n0 a b = false := by unfold goodP; exact decide_eq_false hg
      rw [e]

      by_cases f1 : a < 0
      · simp [h0, hx, f1]
      by_cases f2 : b ≤ a
      · simp [h0, hx, f1, f2]
      have f3 : n0 ≤ b := by omega
      simp [h0, hx, f1, f2, f3]

    have e : goodP n0 a b = true := by unfold goodP; exact decide_eq_true hg
    rw [e]
    obtain ⟨g1, g2, g3⟩ := hg

    have n1 : ¬ a < 0 := by omega
    have n2 : ¬ b ≤ a := by omega
    have n3 : ¬ n0 ≤ b := by omega

    have hUb : U.length ≤ big := by simp only [big]; omega
    have c1 := hr138 (d + 1) U hUb a
    have c2 := hr138 (d + 1) U hUb b
    by_cases m1 : a ∈ U
    · rw [isIn_t m1] at c1 ⊢
      simp [h0, hx, n1, n2, n3, c1]
    rw [isIn_f m1] at c1 ⊢
    by_cases m2 : b ∈ U
    · rw [isIn_t m2] at c2 ⊢
      simp [h0, hx, n1, n2, n3, c1, c2]
    rw [isIn_f m2] at c2 ⊢
    have hb2 : U.length + 2 ≤ big := by simp only [big]; omega
    have ih' := ih (i + 1) (U ++ [a, b]) (some a) (by omega) (by simp; omega) (.inr ⟨a, b, rfl, by omega, by simpa using hx, by simp⟩)
    simp only [List.map_append, List.map_cons, List.map_nil, Int.natCast_add, Int.cast_ofNat_Int] at ih'
    simp at ih'
    rcases ho with ⟨rfl, rfl⟩ | ⟨a0, b0, rfl, hi0, hp, ha0⟩
    · have hne : 0 < ps.length := hlt
      have hx0 : ps[0] = [a, b] := (List.getElem?_eq_some_iff.1 hx).2
      simp at hw ih'
      simp [hne, hx0, n1, n2, n3, c1, c2, hb2, hw, befP, ih']
    have p0 : (0 : Int) < (i : Int) := by omega
    have p1 : (0 : Int) ≤ (i : Int) - 1 := by omega
    have p3 : (1 : Int) ≤ (i : Int) := by omega
    have p4 : 1 ≤ i := hi0
    have p2 : (i : Int) - 1 < (ps.length : Int) := by omega
    have pt : ((i : Int) - 1).toNat = i - 1 := by omega
    have pw : IntKind.i64.wrap ((i : Int) - 1) = (i : Int) - 1 := wrap_in (by omega)
    have hne : a0 ≠ a := fun q => m1 (q ▸ ha0)

    have cm := r161 (d + 0) a0 b0 a b
    by_cases hbe : a0 < a
    · have e2 : befP (some a0) a = true := decide_eq_true hbe
      rw [e2]
      have z : cmp2 a0 b0 a b = -1 := by simp [cmp2, hbe]
      rw [z] at cm
      simp at cm
      simp [h0, hx, n1, n2, n3, c1, c2, hb2, hw, p1, p2, p3, p4, pt, pw, hi0, hp, cm, ih']
    · have e2 : befP (some a0) a = false := decide_eq_false hbe
      rw [e2]
      have z : cmp2 a0 b0 a b = 1 := by
        have z1 : a < a0 := by omega
        simp [cmp2, hbe, z1]
      rw [z] at cm
      simp at cm
      simp [h0, hx, n1, n2, n3, c1, c2, p1, p2, p3, p4, pt, pw, hi0, hp, cm]
theorem r89 (d : Nat) (ps : List (List Int)) (hb : ps.length ≤ 1048576) (n0 : Int) (hn0 : 0 ≤ n0 ∧ n0 ≤ 1000000000) : ev (d + 3) 89 [I n0, .ro 1 (ps.map jR)] = some (B (prOk n0 [] none ps), []) := by
  rw [s89 (d + 2) _ rfl]
  have key := l89 d ps hb n0 hn0 ps.length 0 [] none (by omega) rfl (.inl ⟨rfl, rfl⟩)
  rw [List.drop_zero] at key
  cases h : prOk n0 [] none ps <;> rw [h] at key <;> simp at key <;> simp [key]
theorem r92 (d : Nat) (ps : List (List Int)) (hb : ps.length ≤ 1048576) (n0 : Int) (hn0 : 0 ≤ n0 ∧ n0 ≤ 1000000000) : ev (d + 4) 92 [.ro 1 (ps.map jR), I n0] = some (B (prOk n0 [] none ps), []) := by
  rw [s92 (d + 3) _ rfl]
  have key := l92 d ps hb n0 hn0 ps.length 0 [] none (by omega) rfl (.inl ⟨rfl, rfl⟩)
  rw [List.drop_zero] at key
  cases h : prOk n0 [] none ps <;> rw [h] at key <;> simp at key <;> simp [key]
def scP (l : List Lf) (book : Bool) (q : List Int) : Int :=
  match q with
  | [a, b] => scI (atK l a) (atK l b) book
  | _ => 0
def smP (l : List Lf) (book : Bool) : Int → List (List Int) → Int
  | s, [] => s
  | s, q :: ps => smP l book (W (s + scP l book q)) ps
theorem l33 (d : Nat) (l : List Lf) (hb : l.length ≤ big) (book : Bool) (hok : ∀ C ∈ l, okL C = true) (ps : List (List Int)) (hpb : ps.length ≤ big) (hps : ∀ q ∈ ps, ∃ a b, q = [a, b] ∧ 0 ≤ a ∧ a < b ∧ b < (l.length : Int)) : ∀ (n i : Nat) (s : Int), n + i = ps.length →
    clC [8] [6, 7] (blk 0 (lp (evC (ev (d + 3)) b33_1) (clean [0, 1, 2, 8, 9]) ⟨lookS [(0, .ro 9 (l.map lS)), (1, .ro 1 (ps.map jR)), (2, B book), (8, I s), (9, I i)], lookM []⟩)) =
      some (.nm, ⟨lookS [(8, I (smP l book s (ps.drop i)))], lookM []⟩) := by
  intro n
  induction n with
  | zero =>
    intro i s hi
    have h0 : ¬ (i : Int) < (ps.length : Int) := by omega
    rw [List.drop_eq_nil_of_le (by omega), lp_step]
    simp [h0, smP]
  | succ n ih =>
    intro i s hi
    have hlt : i < ps.length := by omega
    have h0 : (i : Int) < (ps.length : Int) := by omega
    obtain ⟨q, hx⟩ := get_lt hlt
    have hw := wrap_nat (i := i) (by simp only [big] at hpb; omega)
    obtain ⟨a, b, rfl, a0, ab, bl⟩ := hps q (List.mem_of_getElem? hx)
    obtain ⟨A, hA⟩ := get_lt (l := l) (i := a.toNat) (by omega)
    obtain ⟨C, hC⟩ := get_lt (l := l) (i := b.toNat) (by omega)
    have b0 : 0 ≤ b := by omega
    have oA := hok A (List.mem_of_getElem? hA)
    have oC := hok C (List.mem_of_getElem? hC)

    have sc := r90 d A C book
    rw [← sc_same oA oC] at sc

    have e : scP l book [a, b] = scI A C book := by simp [scP, atK, hA, hC]
    have ih' := ih (i + 1) (W (s + scI A C book)) (by omega)
    rw [drop_get hx]
    simp only [smP, e]
    rw [lp_step]
    simp [W] at ih'
    simp [h0, hx, a0, b0, hA, hC, sc, hw, W, ih']
theorem l35 (d : Nat) (l : List Lf) (hb : l.length ≤ big) (book : Bool) (hok : ∀ C ∈ l, okL C = true) (ps : List (List Int)) (hpb : ps.length ≤ big) (hps : ∀ q ∈ ps, ∃ a b, q = [a, b] ∧ 0 ≤ a ∧ a < b ∧ b < (l.length : Int)) : ∀ (n i : Nat) (s : Int), n + i = ps.length →
    clC [8] [6, 7] (blk 1 (lp (evC (ev (d + 3)) b35_1) (clean [0, 2, 8, 21, 22, 23]) ⟨lookS [(0, .ro 9 (l.map lS)), (2, B book), (8, I s), (21, .ro 1 (ps.map jR)), (22, I ps.length), (23, I i)], lookM []⟩)) =
      some (.nm, ⟨lookS [(8, I (smP l book s (ps.drop i)))], lookM []⟩) := by
  intro n
  induction n with
  | zero =>
    intro i s hi
    have h0 : ¬ (i : Int) < (ps.length : Int) := by omega
    rw [List.drop_eq_nil_of_le (by omega), lp_step]
    simp [h0, smP]
  | succ n ih =>
    intro i s hi
    have hlt : i < ps.length := by omega
    have h0 : (i : Int) < (ps.length : Int) := by omega
    obtain ⟨q, hx⟩ := get_lt hlt
    have hw := wrap_nat (i := i) (by simp only [big] at hpb; omega)
    obtain ⟨a, b, rfl, a0, ab, bl⟩ := hps q (List.mem_of_getElem? hx)
    obtain ⟨A, hA⟩ := get_lt (l := l) (i := a.toNat) (by omega)
    obtain ⟨C, hC⟩ := get_lt (l := l) (i := b.toNat) (by omega)
    have b0 : 0 ≤ b := by omega
    have oA := hok A (List.mem_of_getElem? hA)
    have oC := hok C (List.mem_of_getElem? hC)

    have sc := r93 d A C book (okA_in (okL_in oA).2.1 (grB_in (okL_in oC).2.1))

    have e : scP l book [a, b] = scI A C book := by simp [scP, atK, hA, hC]
    have ih' := ih (i + 1) (W (s + scI A C book)) (by omega)
    rw [drop_get hx]
    simp only [smP, e]
    rw [lp_step]
    simp [W] at ih'
    simp [h0, hx, a0, b0, hA, hC, sc, hw, W, ih']
def pairsScore (l : List Lf) (ps : List (List Int)) (book : Bool) : Int × Int := ifb (okLs l) (ifb (prOk l.length [] none ps) (smP l book 0 ps, 0) (0, 2)) (0, 1)
theorem r33 (d : Nat) (l : List Lf) (hb : l.length ≤ big) (hw : ∀ L ∈ l, BdL L) (ps : List (List Int)) (hpb : ps.length ≤ 1048576) (book : Bool) : ev (d + 7) 33 [.ro 9 (l.map lS), .ro 1 (ps.map jR), B book] = some (.tu [I (pairsScore l ps book).1, I (pairsScore l ps book).2], []) := by
  rw [s33 (d + 6) _ rfl]
  have e1 := r88 d l hb hw
  have e0 : okLs l = (okFrom l l.length 0 && decide (l.length ≤ 16)) := rfl
  rw [← e0] at e1
  unfold pairsScore
  cases h : okLs l
  · rw [h] at e1
    simp [e1]
  rw [h] at e1
  have e2 := r89 (d + 3) ps hpb l.length (by simp only [big] at hb; omega)
  cases h2 : prOk l.length [] none ps
  · rw [h2] at e2
    simp [e1, e2]
  rw [h2] at e2
  have hok := okFrom_all l l.length 0 (by omega) (by unfold okLs at h; rw [Bool.and_eq_true] at h; exact h.1)
  rw [List.drop_zero] at hok
  have key := l33 (d + 3) l hb book hok ps (by simp only [big]; omega) (prOk_all h2) ps.length 0 0 (by omega)
  rw [List.drop_zero] at key
  simp at key
  simp [e1, e2, key]
theorem r35 (d : Nat) (l : List Lf) (hb : l.length ≤ big) (hw : ∀ L ∈ l, BdL L) (ps : List (List Int)) (hpb : ps.length ≤ 1048576) (book : Bool) : ev (d + 8) 35 [.ro 9 (l.map lS), .ro 1 (ps.map jR), B book] = some (.tu [I (pairsScore l ps book).1, I (pairsScore l ps book).2], []) := by
  rw [s35 (d + 7) _ rfl]
  have e1 := r72 d l hb hw
  have e0 : okLs l = (okFrom l l.length 0 && decide (l.length ≤ 16)) := rfl
  rw [← e0] at e1
  unfold pairsScore
  cases h : okLs l
  · rw [h] at e1
    simp [e1]
  rw [h] at e1
  have e2 := r92 (d + 3) ps hpb l.length (by simp only [big] at hb; omega)
  cases h2 : prOk l.length [] none ps
  · rw [h2] at e2
    simp [e1, e2]
  rw [h2] at e2
  have hok := okFrom_all l l.length 0 (by omega) (by unfold okLs at h; rw [Bool.and_eq_true] at h; exact h.1)
  rw [List.drop_zero] at hok
  have key := l35 (d + 4) l hb book hok ps (by simp only [big]; omega) (prOk_all h2) ps.length 0 0 (by omega)
  rw [List.drop_zero] at key
  simp at key
  simp [e1, e2, key]
set_option maxHeartbeats 1000000 in
theorem r5 (d : Nat) (l : List (Lf × Bool)) (hb : l.length ≤ maxLen) (hw : ∀ q ∈ l, WfL q.1 ∧ (q.2 = true → q.1.df = [])) {x : LV} (hx : SV 9 (l.map lI) x) (ps : List (List Int × Bool)) (hpb : ps.length ≤ maxLen) (hpw : ∀ q ∈ ps, WfJ q) {y : LV} (hy : SV 1 (ps.map jN) y) (book : Bool) : ev (d + 9) 5 [x, y, B book] = some (B true, []) := by
  rw [s5 (d + 8) _ rfl]
  obtain ⟨k, hk, hs⟩ := r16b (d + 5) l hb hw hx
  by_cases h : k < 0
  · rcases hx with rfl | ⟨rfl, _⟩ <;> rcases hy with rfl | ⟨rfl, _⟩ <;> simp [hk, h]
  obtain ⟨b0, b1, b2⟩ := hs (by omega)
  obtain ⟨k2, hk2, hs2⟩ := r32 (d + 6) ps hpb hpw k (by omega) hy
  by_cases h2 : k2 < 0
  · rcases hx with rfl | ⟨rfl, _⟩ <;> rcases hy with rfl | ⟨rfl, _⟩ <;> simp [hk, h, hk2, h2]
  obtain ⟨_, c1, c2⟩ := hs2 (by omega)
  have bb : l.length ≤ big := by simp only [big]; omega
  have bl : (l.map (·.1)).length ≤ big := by simpa using bb
  have bw : ∀ L ∈ l.map (·.1), BdL L := by
    intro L hL
    obtain ⟨q, hq, rfl⟩ := List.mem_map.1 hL
    exact b2 q hq
  have cl' : (ps.map (·.1)).length ≤ 1048576 := by simpa using c1
  have cl : (ps.map (·.1)).length ≤ big := by simp only [big]; omega
  have cw : ∀ q ∈ ps.map (·.1), q.length ≤ big := by
    intro q hq
    obtain ⟨p, hp, rfl⟩ := List.mem_map.1 hq
    exact c2 p hp
  have t1 := r18 (d + 4) l bb (fun q hq => ⟨(b2 q hq).df, (hw q hq).2⟩) hx
  have t2 := r34 (d + 6) ps (by simp only [big]; omega) (fun q hq => ⟨c2 q hq, (hpw q hq).2⟩) hy
  have g1 := r33 (d + 1) _ bl bw _ cl' book
  have g2 := r35 d _ bl bw _ cl' book
  have q1 := r20 (d + 4) _ bl (fun L hL => (bw L hL).df)
  have q2 := r36 (d + 6) _ cl cw
  have len : l.length = (l.map (·.1)).length := by simp
  have len2 : ps.length = (ps.map (·.1)).length := by simp
  generalize l.map (·.1) = ls at t1 g1 g2 q1 len
  generalize ps.map (·.1) = qs at t2 g1 g2 q2 len2
  rcases hx with rfl | ⟨rfl, _⟩ <;> rcases hy with rfl | ⟨rfl, _⟩ <;> simp [hk, h, hk2, h2, t1, t2, g1, g2, q1, q2, len, len2]
end Go.Proofs.Ytojjkjbffihppaa.walkS
