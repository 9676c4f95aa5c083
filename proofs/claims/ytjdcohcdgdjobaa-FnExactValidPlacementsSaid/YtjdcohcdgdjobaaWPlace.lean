/- Placements; the row ValidPlacements; no conditions. -/
import Derived.Test.YtjdcohcdgdjobaaWBoxes
namespace Go.Proofs.Ytjdcohcdgdjobaa.walkS
open Go Go.Proofs.Ytjdcohcdgdjobaa.Ev
set_option linter.unusedSimpArgs false
abbrev Pl := Int × Int × Int × Int × Int
abbrev gC (p : Pl) : List Cell := [.sc (.int .i64 p.1), .sc (.int .i64 p.2.1), .sc (.int .i64 p.2.2.1), .sc (.int .i64 p.2.2.2.1), .sc (.int .i64 p.2.2.2.2)]
abbrev gV (p : Pl) : List LV := [I p.1, I p.2.1, I p.2.2.1, I p.2.2.2.1, I p.2.2.2.2]
abbrev zG : List Cell := [.sc (.int .i64 0), .sc (.int .i64 0), .sc (.int .i64 0), .sc (.int .i64 0), .sc (.int .i64 0)]
theorem gC_shut (p : Pl) : (gC p).map shutC = gC p := rfl
theorem shut_gC (l : List Pl) : shut (l.map gC) = l.map gC := shut_map gC_shut l
attribute [simp high] shut_gC
theorem r69 (d : Nat) (a b c e f : Int) : ev (d + 1) 69 [.ag [I a, I b, I c, I e, I f]] = some (.ag [I a, I b, I c, I e, I f], []) := by
  rw [s69 d _ rfl]
  simp
theorem r71 (d : Nat) (a b c e f : Int) : ev (d + 1) 71 [.ag [I a, I b, I c, I e, I f], .ag [I a, I b, I c, I e, I f]] = some (B true, []) := by
  rw [s71 d _ rfl]
  simp
theorem l40 (d : Nat) (l : List Pl) (hb : l.length ≤ big) : ∀ (n i : Nat), n + i = l.length →
    clC [3] [2] (blk 0 (lp (evC (ev (d + 1)) b40_1) (clean [0, 3, 4]) ⟨lookS [(0, .ro 5 (l.map gC)), (3, .rf (.sl 3) none 0 l.length), (4, I i)], lookM [(.sl 3, some (.arr 88 5 (fill gC zG l i)))]⟩)) =
      some (.nm, ⟨lookS [(3, .rf (.sl 3) none 0 l.length)], lookM [(.sl 3, some (.arr 88 5 (l.map gC)))]⟩) := by
  intro n
  induction n with
  | zero =>
    intro i hi
    have h0 : ¬ (i : Int) < (l.length : Int) := by omega
    have he : fill gC zG l i = l.map gC := by rw [show i = l.length by omega]; exact fill_end
    rw [lp_step, he]
    simp [h0]
  | succ n ih =>
    intro i hi
    have hlt : i < l.length := by omega
    have h0 : (i : Int) < (l.length : Int) := by omega
    obtain ⟨x, hx⟩ := get_lt hlt
    have hs := fill_set (f := gC) (z := zG) hx
    have hg := fill_get (f := gC) (z := zG) hlt
    have hw := wrap_nat (i := i) (by simp [big] at hb; omega)
    have ih' := ih (i + 1) (by omega)
    rw [← hs] at ih'
    simp at ih'
    rw [lp_step]
    simp [h0, hx, hg, hw, r69, ih']
theorem r40 (d : Nat) (l : List Pl) (hb : l.length ≤ big) {x : LV} (hx : SV 5 (l.map gC) x) : ev (d + 2) 40 [x] = some (.ow 88 5 (l.map gC), []) := by
  rw [s40 (d + 1) _ rfl]
  rcases hx with rfl | ⟨rfl, h⟩
  · have key := l40 d l hb l.length 0 (by omega)
    have hz := fill_zero (f := gC) (z := zG) (l := l)
    simp at key
    simp [hb, hz, key]
  · have hl : l = [] := by simpa using h
    subst hl
    simp [big]
    rw [lp_step]
    simp
theorem l42 (d : Nat) (l : List Pl) (hb : l.length ≤ big) : ∀ (n i : Nat), n + i = l.length →
    clC [] [4] (blk 0 (lp (evC (ev (d + 1)) b42_1) (clean [0, 1, 5]) ⟨lookS [(0, .ro 5 (l.map gC)), (1, .ro 5 (l.map gC)), (5, I i)], lookM []⟩)) = some (.nm, ⟨lookS [], lookM []⟩) := by
  intro n
  induction n with
  | zero =>
    intro i hi
    have h0 : ¬ (i : Int) < (l.length : Int) := by omega
    rw [lp_step]
    simp [h0]
  | succ n ih =>
    intro i hi
    have hlt : i < l.length := by omega
    have h0 : (i : Int) < (l.length : Int) := by omega
    obtain ⟨x, hx⟩ := get_lt hlt
    have hw := wrap_nat (i := i) (by simp [big] at hb; omega)
    have ih' := ih (i + 1) (by omega)
    simp at ih'
    rw [lp_step]
    simp [h0, hx, hw, r71, ih']
theorem r42 (d : Nat) (l : List Pl) (hb : l.length ≤ big) : ev (d + 2) 42 [.ro 5 (l.map gC), .ro 5 (l.map gC)] = some (B true, []) := by
  rw [s42 (d + 1) _ rfl]
  have key := l42 d l hb l.length 0 (by omega)
  simp at key
  simp [key]
theorem r38 (d : Nat) (l : List Pl) (n : Int) {x : LV} (hx : SV 5 (l.map gC) x) : ev (d + 1) 38 [x, I n] = some (I (sz1 n l.length), []) := by
  rw [s38 d _ rfl]
  unfold sz1
  rcases hx with rfl | ⟨rfl, h⟩
  · by_cases hc : W (n - l.length) < 0 <;> simp only [W] at hc <;> simp [hc, W]
  · have hl : l = [] := by simpa using h
    subst hl
    by_cases hc : W (n - 0) < 0 <;> simp only [W, Int.sub_zero] at hc <;> simp [hc, W]
def okG (p : Pl) : Bool := inR p.1 0 23 && (inR p.2.1 0 15 && (inR p.2.2.1 0 20000 && (inR p.2.2.2.1 0 20000 && inR p.2.2.2.2 0 7)))
theorem r53 (d : Nat) (t : Int) : ev (d + 2) 53 [I t] = some (B (inR t 0 7), []) := by
  rw [s53 (d + 1) _ rfl]
  simp [r64]
theorem r76 (d : Nat) (p : Pl) : ev (d + 3) 76 [.rp (gV p)] = some (B (okG p), []) := by
  rw [s76 (d + 2) _ rfl]
  unfold okG
  cases h1 : inR p.1 0 23
  case false => simp [r64, h1]
  cases h2 : inR p.2.1 0 15
  case false => simp [r64, h1, h2]
  cases h3 : inR p.2.2.1 0 20000
  case false => simp [r64, h1, h2, h3]
  cases h4 : inR p.2.2.2.1 0 20000
  case false => simp [r64, h1, h2, h3, h4]
  cases h5 : inR p.2.2.2.2 0 7 <;> simp [r64, r53, h1, h2, h3, h4, h5]
theorem r70 (d : Nat) (p : Pl) : ev (d + 3) 70 [.ag (gV p)] = some (B (okG p), []) := by
  rw [s70 (d + 2) _ rfl]
  unfold okG
  cases h1 : inR p.1 0 23
  case false => simp [r51, h1]
  cases h2 : inR p.2.1 0 15
  case false => simp [r51, h1, h2]
  cases h3 : inR p.2.2.1 0 20000
  case false => simp [r51, h1, h2, h3]
  cases h4 : inR p.2.2.2.1 0 20000
  case false => simp [r51, h1, h2, h3, h4]
  cases h5 : inR p.2.2.2.2 0 7 <;> simp [r51, h1, h2, h3, h4, h5]
def gAt (l : List Pl) (i : Nat) : Bool :=
  match l[i]? with
  | some p => okG p && (match i with | 0 => true | k + 1 => (match l[k]? with | some q => decide (q.1 < p.1) | none => true))
  | none => true
def gFrom (l : List Pl) : Nat → Nat → Bool
  | 0, _ => true
  | n + 1, i => gAt l i && gFrom l n (i + 1)
theorem l68 (d : Nat) (l : List Pl) (hb : l.length ≤ big) : ∀ (n i : Nat), n + i = l.length →
    clC [0] [2] (blk 0 (lp (evC (ev (d + 3)) b68_1) (clean [0, 3]) ⟨lookS [(0, .ro 5 (l.map gC)), (3, I i)], lookM []⟩)) =
      ifb (gFrom l n i) (some (.nm, ⟨lookS [(0, .ro 5 (l.map gC))], lookM []⟩)) (some (.rt, ⟨lookS [(2, B false)], lookM []⟩)) := by
  intro n
  induction n with
  | zero =>
    intro i hi
    have h0 : ¬ (i : Int) < (l.length : Int) := by omega
    rw [lp_step]
    simp [h0, gFrom]
  | succ n ih =>
    intro i hi
    have hlt : i < l.length := by omega
    have h0 : (i : Int) < (l.length : Int) := by omega
    obtain ⟨p, hx⟩ := get_lt hlt
    have h82 := r76 d p
    have hw' := wrap_nat (i := i) (by simp [big] at hb; omega)
    have ih' := ih (i + 1) (by omega)
    simp at ih'
    rw [lp_step]
    simp only [gFrom, gAt, hx]
    cases hL : okG p
    · rw [hL] at h82
      simp [h0, hx, h82]
    · rw [hL] at h82
      cases i with
      | zero =>
        have hx0 : l[0] = p := (List.getElem?_eq_some_iff.1 hx).2
        have hne : 0 < l.length := hlt
        simp at hw' ih'
        simp [hne, hx0, h82, hw', ih']
      | succ k =>
        obtain ⟨q, hq⟩ := get_lt (l := l) (i := k) (by omega)
        have hpos : (0 : Int) < (k : Int) + 1 := by omega
        have hpos2 : (0 : Int) ≤ (k : Int) + 1 := by omega
        have h0' : (k : Int) + 1 < (l.length : Int) := by omega
        have ht : ((k : Int) + 1).toNat = k + 1 := by omega
        have hk : IntKind.i64.wrap (k : Int) = (k : Int) := IntWalk.i64_in _ (by simp [big] at hb; omega)
        have hw2 : IntKind.i64.wrap ((k : Int) + 1 + 1) = (k : Int) + 1 + 1 := IntWalk.i64_in _ (by simp [big] at hb; omega)
        have e2 : ((k + 1 + 1 : Nat) : Int) = (k : Int) + 1 + 1 := by omega
        have ih2 := ih (k + 1 + 1) (by omega)
        rw [e2] at ih2
        simp only [hq]
        by_cases hc : q.1 < p.1
        · have hc' : ¬ p.1 ≤ q.1 := by omega
          simp [h0', hpos, hpos2, ht, hx, h82, hk, hq, hc, hc', hw2]
          exact ih2
        · have hc' : p.1 ≤ q.1 := by omega
          simp [h0', hpos, hpos2, ht, hx, h82, hk, hq, hc, hc']
theorem l41 (d : Nat) (l : List Pl) (hb : l.length ≤ big) : ∀ (n i : Nat), n + i = l.length →
    clC [0] [2] (blk 0 (lp (evC (ev (d + 3)) b41_1) (clean [0, 5, 6, 7]) ⟨lookS [(0, .ro 5 (l.map gC)), (5, .ro 5 (l.map gC)), (6, I l.length), (7, I i)], lookM []⟩)) =
      ifb (gFrom l n i) (some (.nm, ⟨lookS [(0, .ro 5 (l.map gC))], lookM []⟩)) (some (.rt, ⟨lookS [(2, B false)], lookM []⟩)) := by
  intro n
  induction n with
  | zero =>
    intro i hi
    have h0 : ¬ (i : Int) < (l.length : Int) := by omega
    rw [lp_step]
    simp [h0, gFrom]
  | succ n ih =>
    intro i hi
    have hlt : i < l.length := by omega
    have h0 : (i : Int) < (l.length : Int) := by omega
    obtain ⟨p, hx⟩ := get_lt hlt
    have h82 := r70 d p
    have hw' := wrap_nat (i := i) (by simp [big] at hb; omega)
    have ih' := ih (i + 1) (by omega)
    simp at ih'
    rw [lp_step]
    simp only [gFrom, gAt, hx]
    cases hL : okG p
    · rw [hL] at h82
      simp [h0, hx, h82]
    · rw [hL] at h82
      cases i with
      | zero =>
        have hx0 : l[0] = p := (List.getElem?_eq_some_iff.1 hx).2
        have hne : 0 < l.length := hlt
        simp at hw' ih'
        simp [hne, hx0, h82, hw', ih']
      | succ k =>
        obtain ⟨q, hq⟩ := get_lt (l := l) (i := k) (by omega)
        have hpos : (0 : Int) < (k : Int) + 1 := by omega
        have hpos2 : (0 : Int) ≤ (k : Int) + 1 := by omega
        have h0' : (k : Int) + 1 < (l.length : Int) := by omega
        have ht : ((k : Int) + 1).toNat = k + 1 := by omega
        have hk : IntKind.i64.wrap (k : Int) = (k : Int) := IntWalk.i64_in _ (by simp [big] at hb; omega)
        have hw2 : IntKind.i64.wrap ((k : Int) + 1 + 1) = (k : Int) + 1 + 1 := IntWalk.i64_in _ (by simp [big] at hb; omega)
        have e2 : ((k + 1 + 1 : Nat) : Int) = (k : Int) + 1 + 1 := by omega
        have ih2 := ih (k + 1 + 1) (by omega)
        rw [e2] at ih2
        simp only [hq]
        by_cases hc : q.1 < p.1
        · have hc' : ¬ p.1 ≤ q.1 := by omega
          simp [h0', hpos, hpos2, ht, hx, h82, hk, hq, hc, hc', hw2]
          exact ih2
        · have hc' : p.1 ≤ q.1 := by omega
          simp [h0', hpos, hpos2, ht, hx, h82, hk, hq, hc, hc']
def okGs (l : List Pl) : Bool := gFrom l l.length 0 && decide (l.length ≤ 24)
theorem r68 (d : Nat) (l : List Pl) (hb : l.length ≤ big) : ev (d + 4) 68 [.ro 5 (l.map gC)] = some (B (okGs l), []) := by
  rw [s68 (d + 3) _ rfl]
  have key := l68 d l hb l.length 0 (by omega)
  have e16 : ((l.length : Int) ≤ 24) = (l.length ≤ 24) := by apply propext; omega
  unfold okGs
  cases h : gFrom l l.length 0 <;> rw [h] at key <;> simp at key <;> simp [key, e16]
theorem r41 (d : Nat) (l : List Pl) (hb : l.length ≤ big) : ev (d + 4) 41 [.ro 5 (l.map gC)] = some (B (okGs l), []) := by
  rw [s41 (d + 3) _ rfl]
  have key := l41 d l hb l.length 0 (by omega)
  have e16 : ((l.length : Int) ≤ 24) = (l.length ≤ 24) := by apply propext; omega
  unfold okGs
  cases h : gFrom l l.length 0 <;> rw [h] at key <;> simp at key <;> simp [key, e16]
theorem r39 (d : Nat) (l : List Pl) (hb : l.length ≤ big) : ev (d + 5) 39 [.ro 5 (l.map gC)] = some (B (okGs l), []) := by
  rw [s39 (d + 4) _ rfl]
  have := r68 d l hb
  simp [this]
theorem r11 (d : Nat) (l : List Pl) (hb : l.length ≤ maxLen) {x : LV} (hx : SV 5 (l.map gC) x) : ev (d + 6) 11 [x] = some (B true, []) := by
  rw [s11 (d + 5) _ rfl]
  have z1 := r38 (d + 4) l 1048576 hx
  by_cases h : sz1 1048576 l.length < 0
  · rcases hx with rfl | ⟨rfl, _⟩ <;> simp [z1, h]
  have b1 := sz1_ok (n := 1048576) (by omega) hb (by omega)
  have bb : l.length ≤ big := by simp only [big]; omega
  have t1 := r40 (d + 3) l bb hx
  have g1 := r39 d l bb
  have g2 := r41 (d + 1) l bb
  have q1 := r42 (d + 3) l bb
  generalize okGs l = r at g1 g2
  rcases hx with rfl | ⟨rfl, _⟩ <;> cases r <;> simp [z1, h, t1, g1, g2, q1]
end Go.Proofs.Ytjdcohcdgdjobaa.walkS
