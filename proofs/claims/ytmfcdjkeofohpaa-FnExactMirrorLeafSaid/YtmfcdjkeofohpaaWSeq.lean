/- Sequences of leaves; the row IsSequence; no conditions. -/
import Derived.Test.YtmfcdjkeofohpaaWMatch
namespace Go.Proofs.Ytmfcdjkeofohpaa.walkS
open Go Go.Proofs.Ytmfcdjkeofohpaa.Ev
set_option linter.unusedSimpArgs false
abbrev iC (n : Int) : List Cell := [.sc (.int .i64 n)]
abbrev zI : List Cell := [.sc (.int .i64 0)]
theorem iC_shut (n : Int) : (iC n).map shutC = iC n := rfl
theorem shut_iC (l : List Int) : shut (l.map iC) = l.map iC := shut_map iC_shut l
attribute [simp high] shut_iC
theorem l53 (d : Nat) (l : List Int) (hb : l.length ≤ big) : ∀ (n i : Nat), n + i = l.length →
    clC [3] [2] (blk 0 (lp (evC (ev (d + 0)) b53_1) (clean [0, 3, 4]) ⟨lookS [(0, .ro 1 (l.map iC)), (3, .rf (.sl 3) none 0 l.length), (4, I i)], lookM [(.sl 3, some (.arr 2 1 (fill iC zI l i)))]⟩)) =
      some (.nm, ⟨lookS [(3, .rf (.sl 3) none 0 l.length)], lookM [(.sl 3, some (.arr 2 1 (l.map iC)))]⟩) := by
  intro n
  induction n with
  | zero =>
    intro i hi
    have h0 : ¬ (i : Int) < (l.length : Int) := by omega
    have he : fill iC zI l i = l.map iC := by rw [show i = l.length by omega]; exact fill_end
    rw [lp_step, he]
    simp [h0]
  | succ n ih =>
    intro i hi
    have hlt : i < l.length := by omega
    have h0 : (i : Int) < (l.length : Int) := by omega
    obtain ⟨x, hx⟩ := get_lt hlt
    have hs := fill_set (f := iC) (z := zI) hx
    have hg := fill_get (f := iC) (z := zI) hlt
    have hw := wrap_nat (i := i) (by simp [big] at hb; omega)
    have ih' := ih (i + 1) (by omega)
    rw [← hs] at ih'
    simp at ih'
    rw [lp_step]
    simp [h0, hx, hg, hw, ih']
theorem r53 (d : Nat) (l : List Int) (hb : l.length ≤ big) {x : LV} (hx : SV 1 (l.map iC) x) : ev (d + 1) 53 [x] = some (.ow 2 1 (l.map iC), []) := by
  rw [s53 (d + 0) _ rfl]
  rcases hx with rfl | ⟨rfl, h⟩
  · have key := l53 d l hb l.length 0 (by omega)
    have hz := fill_zero (f := iC) (z := zI) (l := l)
    simp at key
    simp [hb, hz, key]
  · have hl : l = [] := by simpa using h
    subst hl
    simp [big]
    rw [lp_step]
    simp
theorem l55 (d : Nat) (l : List Int) (hb : l.length ≤ big) : ∀ (n i : Nat), n + i = l.length →
    clC [] [4] (blk 0 (lp (evC (ev (d + 0)) b55_1) (clean [0, 1, 5]) ⟨lookS [(0, .ro 1 (l.map iC)), (1, .ro 1 (l.map iC)), (5, I i)], lookM []⟩)) = some (.nm, ⟨lookS [], lookM []⟩) := by
  intro n
  induction n with
  | zero =>
    intro i hi
    have h0 : ¬ (i : Int) < (l.length : Int) := by omega
    rw [lp_step]
    simp [h0]
  | succ n ih =>
    intro i hi
    have hlt : i < l.length := by omega
    have h0 : (i : Int) < (l.length : Int) := by omega
    obtain ⟨x, hx⟩ := get_lt hlt
    have hw := wrap_nat (i := i) (by simp [big] at hb; omega)
    have ih' := ih (i + 1) (by omega)
    simp at ih'
    rw [lp_step]
    simp [h0, hx, hw, ih']
theorem r55 (d : Nat) (l : List Int) (hb : l.length ≤ big) : ev (d + 1) 55 [.ro 1 (l.map iC), .ro 1 (l.map iC)] = some (B true, []) := by
  rw [s55 (d + 0) _ rfl]
  have key := l55 d l hb l.length 0 (by omega)
  simp at key
  simp [key]
def follow (l : List Lf) (k' k : Int) : Bool :=
  match l[k'.toNat]?, l[k.toNat]? with
  | some Q, some L => decide (L.fl = Q.fl) && decide (L.num = W (Q.num + 1))
  | _, _ => true
def seqAt (l : List Lf) (c : List Int) (i : Nat) : Bool :=
  match c[i]? with
  | some k => inRange l k && (match i with | 0 => true | j + 1 => (match c[j]? with | some k' => follow l k' k | none => true))
  | none => true
def seqFrom (l : List Lf) (c : List Int) : Nat → Nat → Bool
  | 0, _ => true
  | n + 1, i => seqAt l c i && seqFrom l c n (i + 1)
theorem l52 (d : Nat) (l : List Lf) (c : List Int) (hl : l.length ≤ big) (hb : c.length ≤ big) : ∀ (n i : Nat), n + i = c.length → (∀ j, i = j + 1 → ∀ k, c[j]? = some k → inRange l k = true) →
    clC [] [4] (blk 0 (lp (evC (ev (d + 1)) b52_1) (clean [0, 1, 5]) ⟨lookS [(0, .ro 9 (l.map lS)), (1, .ro 1 (c.map iC)), (5, I i)], lookM []⟩)) =
      ifb (seqFrom l c n i) (some (.nm, ⟨lookS [], lookM []⟩)) (some (.rt, ⟨lookS [(4, B false)], lookM []⟩)) := by
  intro n
  induction n with
  | zero =>
    intro i hi _
    have h0 : ¬ (i : Int) < (c.length : Int) := by omega
    rw [lp_step]
    simp [h0, seqFrom]
  | succ n ih =>
    intro i hi hprev
    have hlt : i < c.length := by omega
    have h0 : (i : Int) < (c.length : Int) := by omega
    obtain ⟨k, hx⟩ := get_lt hlt
    have hw' := wrap_nat (i := i) (by simp [big] at hb; omega)
    have hwr : IntKind.i64.wrap ((l.length : Int) - 1) = (l.length : Int) - 1 := IntWalk.i64_in _ (by simp [big] at hl; omega)
    rw [lp_step]
    simp only [seqFrom, seqAt, hx]
    by_cases hr : inRange l k = true
    case neg =>
      have hr' : inRange l k = false := by simpa using hr
      rw [hr']
      simp only [inRange] at hr'
      simp [h0, hx, hwr, r88, hr']
    have ih' := ih (i + 1) (by omega) (fun j e k2 hk2 => by
      have : j = i := by omega
      subst this
      rw [hx] at hk2; cases hk2; exact hr)
    rw [hr]
    have hr2 := hr
    simp only [inRange] at hr2
    have hr3 := hr2
    simp only [inR, Bool.and_eq_true, decide_eq_true_eq] at hr3
    obtain ⟨L, hL⟩ := get_lt (l := l) (i := k.toNat) (by omega)
    cases i with
    | zero =>
      have hx0 : c[0] = k := (List.getElem?_eq_some_iff.1 hx).2
      have hne : 0 < c.length := hlt
      simp at hw' ih'
      simp [hne, hx0, hwr, r88, hr2, hw', ih']
    | succ j =>
      obtain ⟨k', hk'⟩ := get_lt (l := c) (i := j) (by omega)
      have hp := hprev j rfl k' hk'
      simp only [inRange, inR, Bool.and_eq_true, decide_eq_true_eq] at hp
      obtain ⟨Q, hQ⟩ := get_lt (l := l) (i := k'.toNat) (by omega)
      have hpos : (0 : Int) < (j : Int) + 1 := by omega
      have hpos2 : (0 : Int) ≤ (j : Int) + 1 := by omega
      have h0' : (j : Int) + 1 < (c.length : Int) := by omega
      have ht : ((j : Int) + 1).toNat = j + 1 := by omega
      have hj : IntKind.i64.wrap (j : Int) = (j : Int) := IntWalk.i64_in _ (by simp [big] at hb; omega)
      have hw2 : IntKind.i64.wrap ((j : Int) + 1 + 1) = (j : Int) + 1 + 1 := IntWalk.i64_in _ (by simp [big] at hb; omega)
      have e2 : ((j + 1 + 1 : Nat) : Int) = (j : Int) + 1 + 1 := by omega
      have p1 : 0 ≤ k := by omega
      have p2 : 0 ≤ k' := by omega
      simp only [hk', follow, hQ, hL, W]
      by_cases g1 : L.fl = Q.fl
      case neg => simp [h0', hpos, hpos2, ht, hx, hwr, r88, hr2, hj, hk', hQ, hL, p1, p2, g1]
      by_cases g2 : L.num = IntKind.i64.wrap (Q.num + 1)
      case neg => simp [h0', hpos, hpos2, ht, hx, hwr, r88, hr2, hj, hk', hQ, hL, p1, p2, g1, g2]
      rw [e2] at ih'
      simp [h0', hpos, hpos2, ht, hx, hwr, r88, hr2, hj, hk', hQ, hL, p1, p2, g1, g2, hw2]
      exact ih'
theorem l54 (d : Nat) (l : List Lf) (c : List Int) (hl : l.length ≤ big) (hb : c.length ≤ big) : ∀ (n i : Nat), n + i = c.length → (∀ j, i = j + 1 → ∀ k, c[j]? = some k → inRange l k = true) →
    clC [] [4] (blk 0 (lp (evC (ev (d + 1)) b54_1) (clean [0, 1, 16, 17, 18]) ⟨lookS [(0, .ro 9 (l.map lS)), (1, .ro 1 (c.map iC)), (16, .ro 1 (c.map iC)), (17, I c.length), (18, I i)], lookM []⟩)) =
      ifb (seqFrom l c n i) (some (.nm, ⟨lookS [], lookM []⟩)) (some (.rt, ⟨lookS [(4, B false)], lookM []⟩)) := by
  intro n
  induction n with
  | zero =>
    intro i hi _
    have h0 : ¬ (i : Int) < (c.length : Int) := by omega
    rw [lp_step]
    simp [h0, seqFrom]
  | succ n ih =>
    intro i hi hprev
    have hlt : i < c.length := by omega
    have h0 : (i : Int) < (c.length : Int) := by omega
    obtain ⟨k, hx⟩ := get_lt hlt
    have hw' := wrap_nat (i := i) (by simp [big] at hb; omega)
    have hwr : IntKind.i64.wrap ((l.length : Int) - 1) = (l.length : Int) - 1 := IntWalk.i64_in _ (by simp [big] at hl; omega)
    rw [lp_step]
    simp only [seqFrom, seqAt, hx]
    by_cases hr : inRange l k = true
    case neg =>
      have hr' : inRange l k = false := by simpa using hr
      rw [hr']
      simp only [inRange] at hr'
      simp [h0, hx, hwr, r84, hr']
    have ih' := ih (i + 1) (by omega) (fun j e k2 hk2 => by
      have : j = i := by omega
      subst this
      rw [hx] at hk2; cases hk2; exact hr)
    rw [hr]
    have hr2 := hr
    simp only [inRange] at hr2
    have hr3 := hr2
    simp only [inR, Bool.and_eq_true, decide_eq_true_eq] at hr3
    obtain ⟨L, hL⟩ := get_lt (l := l) (i := k.toNat) (by omega)
    cases i with
    | zero =>
      have hx0 : c[0] = k := (List.getElem?_eq_some_iff.1 hx).2
      have hne : 0 < c.length := hlt
      simp at hw' ih'
      simp [hne, hx0, hwr, r84, hr2, hw', ih']
    | succ j =>
      obtain ⟨k', hk'⟩ := get_lt (l := c) (i := j) (by omega)
      have hp := hprev j rfl k' hk'
      simp only [inRange, inR, Bool.and_eq_true, decide_eq_true_eq] at hp
      obtain ⟨Q, hQ⟩ := get_lt (l := l) (i := k'.toNat) (by omega)
      have hpos : (0 : Int) < (j : Int) + 1 := by omega
      have hpos2 : (0 : Int) ≤ (j : Int) + 1 := by omega
      have h0' : (j : Int) + 1 < (c.length : Int) := by omega
      have ht : ((j : Int) + 1).toNat = j + 1 := by omega
      have hj : IntKind.i64.wrap (j : Int) = (j : Int) := IntWalk.i64_in _ (by simp [big] at hb; omega)
      have hw2 : IntKind.i64.wrap ((j : Int) + 1 + 1) = (j : Int) + 1 + 1 := IntWalk.i64_in _ (by simp [big] at hb; omega)
      have e2 : ((j + 1 + 1 : Nat) : Int) = (j : Int) + 1 + 1 := by omega
      have p1 : 0 ≤ k := by omega
      have p2 : 0 ≤ k' := by omega
      simp only [hk', follow, hQ, hL, W]
      by_cases g1 : L.fl = Q.fl
      case neg => simp [h0', hpos, hpos2, ht, hx, hwr, r84, hr2, hj, hk', hQ, hL, p1, p2, g1]
      by_cases g2 : L.num = IntKind.i64.wrap (Q.num + 1)
      case neg => simp [h0', hpos, hpos2, ht, hx, hwr, r84, hr2, hj, hk', hQ, hL, p1, p2, g1, g2]
      rw [e2] at ih'
      simp [h0', hpos, hpos2, ht, hx, hwr, r84, hr2, hj, hk', hQ, hL, p1, p2, g1, g2, hw2]
      exact ih'
def isSeq (l : List Lf) (c : List Int) : Bool := okLs l && (decide (¬ c.length = 0) && seqFrom l c c.length 0)
theorem r52 (d : Nat) (l : List Lf) (c : List Int) (hl : l.length ≤ big) (hw : ∀ L ∈ l, BdL L) (hb : c.length ≤ big) : ev (d + 7) 52 [.ro 9 (l.map lS), .ro 1 (c.map iC)] = some (B (isSeq l c), []) := by
  rw [s52 (d + 6) _ rfl]
  have e1 := r32 d l hl hw
  unfold isSeq okLs
  cases h1 : (okFrom l l.length 0 && decide (l.length ≤ 16))
  case false => rw [h1] at e1; simp [e1]
  rw [h1] at e1
  by_cases h2 : c.length = 0
  · have hc : c = [] := List.length_eq_zero_iff.1 h2
    subst hc
    simp [e1]
  have h2' : c ≠ [] := fun e => h2 (by rw [e]; rfl)
  have key := l52 (d + 5) l c hl hb c.length 0 (by omega) (fun j e => by omega)
  simp only [decide_eq_true h2, Bool.true_and]
  cases h3 : seqFrom l c c.length 0 <;> rw [h3] at key <;> simp at key <;> simp [e1, h2', key]
theorem r54 (d : Nat) (l : List Lf) (c : List Int) (hl : l.length ≤ big) (hw : ∀ L ∈ l, BdL L) (hb : c.length ≤ big) : ev (d + 8) 54 [.ro 9 (l.map lS), .ro 1 (c.map iC)] = some (B (isSeq l c), []) := by
  rw [s54 (d + 7) _ rfl]
  have e1 := r34 d l hl hw
  unfold isSeq okLs
  cases h1 : (okFrom l l.length 0 && decide (l.length ≤ 16))
  case false => rw [h1] at e1; simp [e1]
  rw [h1] at e1
  by_cases h2 : c.length = 0
  · have hc : c = [] := List.length_eq_zero_iff.1 h2
    subst hc
    simp [e1]
  have h2' : c ≠ [] := fun e => h2 (by rw [e]; rfl)
  have key := l54 (d + 6) l c hl hb c.length 0 (by omega) (fun j e => by omega)
  simp only [decide_eq_true h2, Bool.true_and]
  cases h3 : seqFrom l c c.length 0 <;> rw [h3] at key <;> simp at key <;> simp [e1, h2', key]
theorem r12 (d : Nat) (l : List (Lf × Bool)) (hb : l.length ≤ maxLen) (hw : ∀ q ∈ l, WfL q.1 ∧ (q.2 = true → q.1.df = [])) {x : LV} (hx : SV 9 (l.map lI) x) (c : List Int) (hc : c.length ≤ maxLen) {y : LV} (hy : SV 1 (c.map iC) y) : ev (d + 9) 12 [x, y] = some (B true, []) := by
  rw [s12 (d + 8) _ rfl]
  by_cases h0 : (1048576 : Int) < c.length
  · rcases hy with rfl | ⟨rfl, hn⟩
    · rcases hx with rfl | ⟨rfl, _⟩ <;> simp [h0]
    · have : c = [] := by simpa using hn
      subst this; simp at h0
  obtain ⟨k, hk, hs⟩ := r31 (d + 5) l hb hw hx
  by_cases h : k < 0
  · rcases hx with rfl | ⟨rfl, _⟩ <;> rcases hy with rfl | ⟨rfl, _⟩ <;> simp [h0, hk, h]
  obtain ⟨b1, b2⟩ := hs (by omega)
  have bb : l.length ≤ big := by simp only [big]; omega
  have bc : c.length ≤ big := by simp only [big]; omega
  have bl : (l.map (·.1)).length ≤ big := by simpa using bb
  have bw : ∀ L ∈ l.map (·.1), BdL L := by
    intro L hL
    obtain ⟨q, hq, rfl⟩ := List.mem_map.1 hL
    exact b2 q hq
  have t1 := r33 (d + 4) l bb (fun q hq => ⟨(b2 q hq).df, (hw q hq).2⟩) hx
  have t2 := r53 (d + 7) c bc hy
  have g1 := r52 (d + 1) _ c bl bw bc
  have g2 := r54 d _ c bl bw bc
  have q1 := r35 (d + 4) _ bl (fun L hL => (bw L hL).df)
  have q2 := r55 (d + 7) c bc
  have len : l.length = (l.map (·.1)).length := by simp
  generalize l.map (·.1) = ls at t1 g1 g2 q1 len
  generalize isSeq ls c = r at g1 g2
  rcases hx with rfl | ⟨rfl, _⟩ <;> rcases hy with rfl | ⟨rfl, _⟩ <;> cases r <;> simp [h0, hk, h, t1, t2, g1, g2, q1, q2, len]
end Go.Proofs.Ytmfcdjkeofohpaa.walkS
