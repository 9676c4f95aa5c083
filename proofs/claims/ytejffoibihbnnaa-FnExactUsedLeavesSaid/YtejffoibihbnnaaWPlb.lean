/- Placements; the row ValidPlacements; no conditions. -/
import Derived.Test.YtejffoibihbnnaaWMeet
namespace Go.Proofs.Ytejffoibihbnnaa.walkS
open Go Go.Proofs.Ytejffoibihbnnaa.Ev
set_option linter.unusedSimpArgs false
abbrev Pl := Int × Int × Int × Int × Int
abbrev gC (p : Pl) : List Cell := [.sc (.int .i64 p.1), .sc (.int .i64 p.2.1), .sc (.int .i64 p.2.2.1), .sc (.int .i64 p.2.2.2.1), .sc (.int .i64 p.2.2.2.2)]
abbrev gV (p : Pl) : List LV := [I p.1, I p.2.1, I p.2.2.1, I p.2.2.2.1, I p.2.2.2.2]
abbrev zG : List Cell := [.sc (.int .i64 0), .sc (.int .i64 0), .sc (.int .i64 0), .sc (.int .i64 0), .sc (.int .i64 0)]
theorem gC_shut (p : Pl) : (gC p).map shutC = gC p := rfl
theorem shut_gC (l : List Pl) : shut (l.map gC) = l.map gC := shut_map gC_shut l
attribute [simp high] shut_gC
theorem r116 (d : Nat) (a b c e f : Int) : ev (d + 1) 116 [.ag [I a, I b, I c, I e, I f]] = some (.ag [I a, I b, I c, I e, I f], []) := by
  rw [s116 d _ rfl]
  simp
theorem r120 (d : Nat) (a b c e f : Int) : ev (d + 1) 120 [.ag [I a, I b, I c, I e, I f], .ag [I a, I b, I c, I e, I f]] = some (B true, []) := by
  rw [s120 d _ rfl]
  simp
theorem l40 (d : Nat) (l : List Pl) (hb : l.length ≤ big) : ∀ (n i : Nat), n + i = l.length →
    clC [3] [2] (blk 0 (lp (evC (ev (d + 1)) b40_1) (clean [0, 3, 4]) ⟨lookS [(0, .ro 5 (l.map gC)), (3, .rf (.sl 3) none 0 l.length), (4, I i)], lookM [(.sl 3, some (.arr 151 5 (fill gC zG l i)))]⟩)) =
      some (.nm, ⟨lookS [(3, .rf (.sl 3) none 0 l.length)], lookM [(.sl 3, some (.arr 151 5 (l.map gC)))]⟩) := by
  intro n
  induction n with
  | zero =>
    intro i hi
    have h0 : ¬ (i : Int) < (l.length : Int) := by omega
    have he : fill gC zG l i = l.map gC := by rw [show i = l.length by omega]; exact fill_end
    rw [lp_step, he]
    simp [h0]
  | succ n ih =>
    intro i hi
    have hlt : i < l.length := by omega
    have h0 : (i : Int) < (l.length : Int) := by omega
    obtain ⟨x, hx⟩ := get_lt hlt
    have hs := fill_set (f := gC) (z := zG) hx
    have hg := fill_get (f := gC) (z := zG) hlt
    have hw := wrap_nat (i := i) (by simp [big] at hb; omega)
    have ih' := ih (i + 1) (by omega)
    rw [← hs] at ih'
    simp at ih'
    rw [lp_step]
    simp [h0, hx, hg, hw, r116, ih']
theorem r40 (d : Nat) (l : List Pl) (hb : l.length ≤ big) {x : LV} (hx : SV 5 (l.map gC) x) : ev (d + 2) 40 [x] = some (.ow 151 5 (l.map gC), []) := by
  rw [s40 (d + 1) _ rfl]
  rcases hx with rfl | ⟨rfl, h⟩
  · have key := l40 d l hb l.length 0 (by omega)
    have hz := fill_zero (f := gC) (z := zG) (l := l)
    simp at key
    simp [hb, hz, key]
  · have hl : l = [] := by simpa using h
    subst hl
    simp [big]
    rw [lp_step]
    simp
theorem l43 (d : Nat) (l : List Pl) (hb : l.length ≤ big) : ∀ (n i : Nat), n + i = l.length →
    clC [] [4] (blk 0 (lp (evC (ev (d + 1)) b43_1) (clean [0, 1, 5]) ⟨lookS [(0, .ro 5 (l.map gC)), (1, .ro 5 (l.map gC)), (5, I i)], lookM []⟩)) = some (.nm, ⟨lookS [], lookM []⟩) := by
  intro n
  induction n with
  | zero =>
    intro i hi
    have h0 : ¬ (i : Int) < (l.length : Int) := by omega
    rw [lp_step]
    simp [h0]
  | succ n ih =>
    intro i hi
    have hlt : i < l.length := by omega
    have h0 : (i : Int) < (l.length : Int) := by omega
    obtain ⟨x, hx⟩ := get_lt hlt
    have hw := wrap_nat (i := i) (by simp [big] at hb; omega)
    have ih' := ih (i + 1) (by omega)
    simp at ih'
    rw [lp_step]
    simp [h0, hx, hw, r120, ih']
theorem r43 (d : Nat) (l : List Pl) (hb : l.length ≤ big) : ev (d + 2) 43 [.ro 5 (l.map gC), .ro 5 (l.map gC)] = some (B true, []) := by
  rw [s43 (d + 1) _ rfl]
  have key := l43 d l hb l.length 0 (by omega)
  simp at key
  simp [key]
theorem r38 (d : Nat) (l : List Pl) (n : Int) {x : LV} (hx : SV 5 (l.map gC) x) : ev (d + 1) 38 [x, I n] = some (I (sz1 n l.length), []) := by
  rw [s38 d _ rfl]
  unfold sz1
  rcases hx with rfl | ⟨rfl, h⟩
  · by_cases hc : W (n - l.length) < 0 <;> simp only [W] at hc <;> simp [hc, W]
  · have hl : l = [] := by simpa using h
    subst hl
    by_cases hc : W (n - 0) < 0 <;> simp only [W, Int.sub_zero] at hc <;> simp [hc, W]
def okG (p : Pl) : Bool := inR p.1 0 23 && (inR p.2.1 0 15 && (inR p.2.2.1 0 20000 && (inR p.2.2.2.1 0 20000 && inR p.2.2.2.2 0 7)))
theorem r257 (d : Nat) (t : Int) : ev (d + 2) 257 [I t] = some (B (inR t 0 7), []) := by
  rw [s257 (d + 1) _ rfl]
  simp [r162]
theorem r198 (d : Nat) (p : Pl) : ev (d + 3) 198 [.rp (gV p)] = some (B (okG p), []) := by
  rw [s198 (d + 2) _ rfl]
  unfold okG
  cases h1 : inR p.1 0 23
  case false => simp [r162, h1]
  cases h2 : inR p.2.1 0 15
  case false => simp [r162, h1, h2]
  cases h3 : inR p.2.2.1 0 20000
  case false => simp [r162, h1, h2, h3]
  cases h4 : inR p.2.2.2.1 0 20000
  case false => simp [r162, h1, h2, h3, h4]
  cases h5 : inR p.2.2.2.2 0 7 <;> simp [r162, r257, h1, h2, h3, h4, h5]
theorem r199 (d : Nat) (p : Pl) : ev (d + 3) 199 [.ag (gV p)] = some (B (okG p), []) := by
  rw [s199 (d + 2) _ rfl]
  unfold okG
  cases h1 : inR p.1 0 23
  case false => simp [r165, h1]
  cases h2 : inR p.2.1 0 15
  case false => simp [r165, h1, h2]
  cases h3 : inR p.2.2.1 0 20000
  case false => simp [r165, h1, h2, h3]
  cases h4 : inR p.2.2.2.1 0 20000
  case false => simp [r165, h1, h2, h3, h4]
  cases h5 : inR p.2.2.2.2 0 7 <;> simp [r165, h1, h2, h3, h4, h5]
def gAt (l : List Pl) (i : Nat) : Bool :=
  match l[i]? with
  | some p => okG p && (match i with | 0 => true | k + 1 => (match l[k]? with | some q => decide (q.1 < p.1) | none => true))
  | none => true
def gFrom (l : List Pl) : Nat → Nat → Bool
  | 0, _ => true
  | n + 1, i => gAt l i && gFrom l n (i + 1)
theorem l114 (d : Nat) (l : List Pl) (hb : l.length ≤ big) : ∀ (n i : Nat), n + i = l.length →
    clC [0] [2] (blk 0 (lp (evC (ev (d + 3)) b114_1) (clean [0, 3]) ⟨lookS [(0, .ro 5 (l.map gC)), (3, I i)], lookM []⟩)) =
      ifb (gFrom l n i) (some (.nm, ⟨lookS [(0, .ro 5 (l.map gC))], lookM []⟩)) (some (.rt, ⟨lookS [(2, B false)], lookM []⟩)) := by
  intro n
  induction n with
  | zero =>
    intro i hi
    have h0 : ¬ (i : Int) < (l.length : Int) := by omega
    rw [lp_step]
    simp [h0, gFrom]
  | succ n ih =>
    intro i hi
    have hlt : i < l.length := by omega
    have h0 : (i : Int) < (l.length : Int) := by omega
    obtain ⟨p, hx⟩ := get_lt hlt
    have h82 := r198 d p
    have hw' := wrap_nat (i := i) (by simp [big] at hb; omega)
    have ih' := ih (i + 1) (by omega)
    simp at ih'
    rw [lp_step]
    simp only [gFrom, gAt, hx]
    cases hL : okG p
    · rw [hL] at h82
      simp [h0, hx, h82]
    · rw [hL] at h82
      cases i with
      | zero =>
        have hx0 : l[0] = p := (List.getElem?_eq_some_iff.1 hx).2
        have hne : 0 < l.length := hlt
        simp at hw' ih'
        simp [hne, hx0, h82, hw', ih']
      | succ k =>
        obtain ⟨q, hq⟩ := get_lt (l := l) (i := k) (by omega)
        have hpos : (0 : Int) < (k : Int) + 1 := by omega
        have hpos2 : (0 : Int) ≤ (k : Int) + 1 := by omega
        have h0' : (k : Int) + 1 < (l.length : Int) := by omega
        have ht : ((k : Int) + 1).toNat = k + 1 := by omega
        have hk : IntKind.i64.wrap (k : Int) = (k : Int) := IntWalk.i64_in _ (by simp [big] at hb; omega)
        have hw2 : IntKind.i64.wrap ((k : Int) + 1 + 1) = (k : Int) + 1 + 1 := IntWalk.i64_in _ (by simp [big] at hb; omega)
        have e2 : ((k + 1 + 1 : Nat) : Int) = (k : Int) + 1 + 1 := by omega
        have ih2 := ih (k + 1 + 1) (by omega)
        rw [e2] at ih2
        simp only [hq]
        by_cases hc : q.1 < p.1
        · have hc' : ¬ p.1 ≤ q.1 := by omega
          simp [h0', hpos, hpos2, ht, hx, h82, hk, hq, hc, hc', hw2]
          exact ih2
        · have hc' : p.1 ≤ q.1 := by omega
          simp [h0', hpos, hpos2, ht, hx, h82, hk, hq, hc, hc']
theorem l117 (d : Nat) (l : List Pl) (hb : l.length ≤ big) : ∀ (n i : Nat), n + i = l.length →
    clC [0] [2] (blk 0 (lp (evC (ev (d + 3)) b117_1) (clean [0, 5, 6, 7]) ⟨lookS [(0, .ro 5 (l.map gC)), (5, .ro 5 (l.map gC)), (6, I l.length), (7, I i)], lookM []⟩)) =
      ifb (gFrom l n i) (some (.nm, ⟨lookS [(0, .ro 5 (l.map gC))], lookM []⟩)) (some (.rt, ⟨lookS [(2, B false)], lookM []⟩)) := by
  intro n
  induction n with
  | zero =>
    intro i hi
    have h0 : ¬ (i : Int) < (l.length : Int) := by omega
    rw [lp_step]
    simp [h0, gFrom]
  | succ n ih =>
    intro i hi
    have hlt : i < l.length := by omega
    have h0 : (i : Int) < (l.length : Int) := by omega
    obtain ⟨p, hx⟩ := get_lt hlt
    have h82 := r199 d p
    have hw' := wrap_nat (i := i) (by simp [big] at hb; omega)
    have ih' := ih (i + 1) (by omega)
    simp at ih'
    rw [lp_step]
    simp only [gFrom, gAt, hx]
    cases hL : okG p
    · rw [hL] at h82
      simp [h0, hx, h82]
    · rw [hL] at h82
      cases i with
      | zero =>
        have hx0 : l[0] = p := (List.getElem?_eq_some_iff.1 hx).2
        have hne : 0 < l.length := hlt
        simp at hw' ih'
        simp [hne, hx0, h82, hw', ih']
      | succ k =>
        obtain ⟨q, hq⟩ := get_lt (l := l) (i := k) (by omega)
        have hpos : (0 : Int) < (k : Int) + 1 := by omega
        have hpos2 : (0 : Int) ≤ (k : Int) + 1 := by omega
        have h0' : (k : Int) + 1 < (l.length : Int) := by omega
        have ht : ((k : Int) + 1).toNat = k + 1 := by omega
        have hk : IntKind.i64.wrap (k : Int) = (k : Int) := IntWalk.i64_in _ (by simp [big] at hb; omega)
        have hw2 : IntKind.i64.wrap ((k : Int) + 1 + 1) = (k : Int) + 1 + 1 := IntWalk.i64_in _ (by simp [big] at hb; omega)
        have e2 : ((k + 1 + 1 : Nat) : Int) = (k : Int) + 1 + 1 := by omega
        have ih2 := ih (k + 1 + 1) (by omega)
        rw [e2] at ih2
        simp only [hq]
        by_cases hc : q.1 < p.1
        · have hc' : ¬ p.1 ≤ q.1 := by omega
          simp [h0', hpos, hpos2, ht, hx, h82, hk, hq, hc, hc', hw2]
          exact ih2
        · have hc' : p.1 ≤ q.1 := by omega
          simp [h0', hpos, hpos2, ht, hx, h82, hk, hq, hc, hc']
def okGs (l : List Pl) : Bool := gFrom l l.length 0 && decide (l.length ≤ 24)
theorem r114 (d : Nat) (l : List Pl) (hb : l.length ≤ big) : ev (d + 4) 114 [.ro 5 (l.map gC)] = some (B (okGs l), []) := by
  rw [s114 (d + 3) _ rfl]
  have key := l114 d l hb l.length 0 (by omega)
  have e16 : ((l.length : Int) ≤ 24) = (l.length ≤ 24) := by apply propext; omega
  unfold okGs
  cases h : gFrom l l.length 0 <;> rw [h] at key <;> simp at key <;> simp [key, e16]
theorem r117 (d : Nat) (l : List Pl) (hb : l.length ≤ big) : ev (d + 4) 117 [.ro 5 (l.map gC)] = some (B (okGs l), []) := by
  rw [s117 (d + 3) _ rfl]
  have key := l117 d l hb l.length 0 (by omega)
  have e16 : ((l.length : Int) ≤ 24) = (l.length ≤ 24) := by apply propext; omega
  unfold okGs
  cases h : gFrom l l.length 0 <;> rw [h] at key <;> simp at key <;> simp [key, e16]
end Go.Proofs.Ytejffoibihbnnaa.walkS
