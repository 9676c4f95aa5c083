/- What the functions about lists of leaves compute, and the row of ValidLeaves; no conditions. -/
import Derived.Test.YtejffoibihbnnaaWScore
namespace Go.Proofs.Ytejffoibihbnnaa.walkS
open Go Go.Proofs.Ytejffoibihbnnaa.Ev
set_option linter.unusedSimpArgs false
abbrev bW (b : Bx) : List Value := [.int .i64 b.1, .int .i64 b.2.1, .int .i64 b.2.2.1, .int .i64 b.2.2.2]
theorem low_bC (l : List Bx) : low (l.map bC) = some (l.map bW) := low_map (fun _ => rfl) l
theorem lift_bW (l : List Bx) : Ev.lift (l.map bW) = l.map bC := lift_map (fun _ => rfl) l
attribute [simp] low_bC lift_bW
/-- a leaf as a row, the last cell apart -/
abbrev lR (L : Lf) (x : Cell) : List Cell := [.sc (.string L.id), .sc (.string L.fl), .sc (.int .i64 L.num), .sc (.string L.sp), .sc (.int .i64 L.sh), .sc (.int .i64 L.gr), .sc (.int .i64 L.wd), .sc (.int .i64 L.ln), x]
abbrev lC (L : Lf) : List Cell := lR L (.sl true 29 4 (L.df.map bW))
abbrev lS (L : Lf) : List Cell := lR L (.sl false 29 4 (L.df.map bW))
/-- as it comes in: no defects may be nil -/
def lI (p : Lf × Bool) : List Cell := lR p.1 (ifb p.2 .nl (.sl false 0 4 (p.1.df.map bW)))
def zL : List Cell := [.sc (.string ⟨#[]⟩), .sc (.string ⟨#[]⟩), .sc (.int .i64 0), .sc (.string ⟨#[]⟩), .sc (.int .i64 0), .sc (.int .i64 0), .sc (.int .i64 0), .sc (.int .i64 0), .nl]
abbrev zLx : List Cell := [.sc (.string ⟨#[]⟩), .sc (.string ⟨#[]⟩), .sc (.int .i64 0), .sc (.string ⟨#[]⟩), .sc (.int .i64 0), .sc (.int .i64 0), .sc (.int .i64 0), .sc (.int .i64 0), .nl]
theorem shut_lC (l : List Lf) : shut (l.map lC) = l.map lS := by
  simp only [shut, List.map_map]
  exact List.map_congr_left fun a _ => rfl
theorem shut_lS (l : List Lf) : shut (l.map lS) = l.map lS := shut_map (fun _ => rfl) l
attribute [simp high] shut_lC shut_lS
def lf (p : Lf × Bool) : List Cell := lC p.1
theorem l30 (d : Nat) (l : List (Lf × Bool)) (hb : l.length ≤ big) (hw : ∀ q ∈ l, q.1.df.length ≤ big ∧ (q.2 = true → q.1.df = [])) : ∀ (n i : Nat), n + i = l.length →
    clC [3] [2] (blk 0 (lp (evC (ev (d + 3)) b30_1) (clean [0, 3, 4]) ⟨lookS [(0, .ro 9 (l.map lI)), (3, .rf (.sl 3) none 0 l.length), (4, I i)], lookM [(.sl 3, some (.arr 35 9 (fill lf zL l i)))]⟩)) =
      some (.nm, ⟨lookS [(3, .rf (.sl 3) none 0 l.length)], lookM [(.sl 3, some (.arr 35 9 (l.map lf)))]⟩) := by
  intro n
  induction n with
  | zero =>
    intro i hi
    have h0 : ¬ (i : Int) < (l.length : Int) := by omega
    have he : fill lf zL l i = l.map lf := by rw [show i = l.length by omega]; exact fill_end
    rw [lp_step, he]
    simp [h0]
  | succ n ih =>
    intro i hi
    have hlt : i < l.length := by omega
    have h0 : (i : Int) < (l.length : Int) := by omega
    obtain ⟨x, hx⟩ := get_lt hlt
    obtain ⟨L, b⟩ := x
    obtain ⟨w1, w2⟩ := hw (L, b) (List.mem_of_getElem? hx)
    have hs := fill_set (f := lf) (z := zL) hx
    have hg : (fill lf zL l i)[i]? = some zLx := fill_get (f := lf) (z := zL) hlt
    have hl : ∀ a, ((fill lf zL l i).set i a)[i]? = some a := fun a => List.getElem?_set_self (by rw [fill_len (by omega)]; exact hlt)
    have hw' := wrap_nat (i := i) (by simp [big] at hb; omega)
    have ih' := ih (i + 1) (by omega)
    rw [← hs] at ih'
    simp only [lf, lC, lR] at ih'
    simp at ih'
    rw [lp_step]
    have hsv : SV 4 (L.df.map bC) (roC (ifb b .nl (.sl false 0 4 (L.df.map bW)))) := by
      cases b
      · exact .inl (by simp [roC])
      · exact .inr ⟨rfl, by rw [w2 rfl]; rfl⟩
    have h19 := r17 d L w1 hsv
    cases b
    · simp [roC] at h19
      simp [h0, hx, hg, hl, hw', h19, lI, ih']
    · simp [roC] at h19
      simp [h0, hx, hg, hl, hw', h19, lI, ih']
theorem r30 (d : Nat) (l : List (Lf × Bool)) (hb : l.length ≤ big) (hw : ∀ q ∈ l, q.1.df.length ≤ big ∧ (q.2 = true → q.1.df = [])) {x : LV} (hx : SV 9 (l.map lI) x) : ev (d + 4) 30 [x] = some (.ow 35 9 ((l.map (·.1)).map lC), []) := by
  rw [s30 (d + 3) _ rfl]
  have em : (l.map (·.1)).map lC = l.map lf := by rw [List.map_map]; rfl
  rw [em]
  rcases hx with rfl | ⟨rfl, h⟩
  · have key := l30 d l hb hw l.length 0 (by omega)
    have hz : List.replicate l.length zLx = fill lf zL l 0 := fill_zero (f := lf) (z := zL) (l := l)
    simp at key
    simp [hb, hz, key]
  · have hl : l = [] := by simpa using h
    subst hl
    simp [big]
    rw [lp_step]
    simp
/-- what is known of a leaf that is left with enough -/
structure BdA (L : Lf) : Prop extends BdL L where
  sp : L.sp.size ≤ big
theorem l28 (d : Nat) (l : List (Lf × Bool)) (hb : l.length ≤ maxLen) (hw : ∀ q ∈ l, WfL q.1 ∧ (q.2 = true → q.1.df = [])) : ∀ (n i : Nat) (m : Int), n + i = l.length → 0 ≤ m ∧ m ≤ 1048576 →
    (∃ k, clC [1] [4] (blk 0 (lp (evC (ev (d + 2)) b28_1) (clean [0, 1, 5]) ⟨lookS [(0, .ro 9 (l.map lI)), (1, I m), (5, I i)], lookM []⟩)) = some (.nm, ⟨lookS [(1, I k)], lookM []⟩) ∧ (0 ≤ k ∧ k ≤ 1048576) ∧ ∀ q ∈ l.drop i, BdL q.1) ∨
    clC [1] [4] (blk 0 (lp (evC (ev (d + 2)) b28_1) (clean [0, 1, 5]) ⟨lookS [(0, .ro 9 (l.map lI)), (1, I m), (5, I i)], lookM []⟩)) = some (.rt, ⟨lookS [(4, I (-1))], lookM []⟩) := by
  intro n
  induction n with
  | zero =>
    intro i m hi hm
    have h0 : ¬ (i : Int) < (l.length : Int) := by omega
    have h1 : l.drop i = [] := List.drop_eq_nil_of_le (by omega)
    rw [lp_step, h1]
    exact .inl ⟨m, by simp [h0], hm, fun q hq => by simp at hq⟩
  | succ n ih =>
    intro i m hi hm
    have hlt : i < l.length := by omega
    have h0 : (i : Int) < (l.length : Int) := by omega
    obtain ⟨x, hx⟩ := get_lt hlt
    obtain ⟨L, b⟩ := x
    obtain ⟨w1, w2⟩ := hw (L, b) (List.mem_of_getElem? hx)
    have hmx : maxLen = 9223372036854775807 := by decide
    have hw' : IntKind.i64.wrap ((i : Int) + 1) = ((i + 1 : Nat) : Int) := by rw [IntWalk.i64_in _ (by omega)]; rfl
    have hsv : SV 4 (L.df.map bC) (roC (ifb b .nl (.sl false 0 4 (L.df.map bW)))) := by
      cases b
      · exact .inl (by simp [roC])
      · exact .inr ⟨rfl, by rw [w2 rfl]; rfl⟩
    obtain ⟨k, hk, hs⟩ := r15 d L m hsv
    rw [lp_step]
    by_cases hc : k < 0
    · right
      cases b
      · simp [roC] at hk; simp [h0, hx, lI, hk, hc]
      · simp [roC] at hk; simp [h0, hx, lI, hk, hc]
    · obtain ⟨q1, q2, q3, _, q5, q6⟩ := szL_bounds hm w1 (hs (by omega))
      have ih' := ih (i + 1) k (by omega) ⟨q5, q6⟩
      have hdr : ∀ q ∈ l.drop i, q = (L, b) ∨ q ∈ l.drop (i + 1) := by
        intro q hq
        rw [drop_get hx] at hq
        simpa using hq
      rcases ih' with ⟨k2, hk2, hk3, hall⟩ | hk2
      · left
        refine ⟨k2, ?_, hk3, fun q hq => ?_⟩
        · simp at hk2
          cases b
          · simp [roC] at hk; simp [h0, hx, lI, hk, hc, hw', hk2]
          · simp [roC] at hk; simp [h0, hx, lI, hk, hc, hw', hk2]
        · rcases hdr q hq with rfl | hq
          · exact ⟨q1, q2, q3⟩
          · exact hall q hq
      · right
        simp at hk2
        cases b
        · simp [roC] at hk; simp [h0, hx, lI, hk, hc, hw', hk2]
        · simp [roC] at hk; simp [h0, hx, lI, hk, hc, hw', hk2]
theorem r28b (d : Nat) (l : List (Lf × Bool)) (hb : l.length ≤ maxLen) (hw : ∀ q ∈ l, WfL q.1 ∧ (q.2 = true → q.1.df = [])) {x : LV} (hx : SV 9 (l.map lI) x) : ∃ k, ev (d + 3) 28 [x, I 1048576] = some (I k, []) ∧ (0 ≤ k → k ≤ 1048576 ∧ l.length ≤ 1048576 ∧ ∀ q ∈ l, BdL q.1) := by
  rw [s28 (d + 2) _ rfl]
  have hm : maxLen = 9223372036854775807 := by decide
  have hw' : IntKind.i64.wrap (1048576 - (l.length : Int)) = 1048576 - l.length := IntWalk.i64_in _ (by omega)
  by_cases h : 1048576 - (l.length : Int) < 0
  · refine ⟨-1, ?_, by omega⟩
    rcases hx with rfl | ⟨rfl, hl⟩
    · simp [hw', h]
    · have hl : l = [] := by simpa using hl
      subst hl; simp at h
  · rcases hx with rfl | ⟨rfl, hl⟩
    · rcases l28 d l hb hw l.length 0 (1048576 - l.length) (by omega) (by omega) with ⟨k, hk, hk3, hall⟩ | hk
      · simp at hk
        rw [List.drop_zero] at hall
        exact ⟨k, by simp [hw', h, hk], fun _ => ⟨hk3.2, by omega, hall⟩⟩
      · simp at hk; exact ⟨-1, by simp [hw', h, hk], by omega⟩
    · have hl : l = [] := by simpa using hl
      subst hl
      refine ⟨1048576, ?_, by simp⟩
      have e : IntKind.i64.wrap 1048576 = 1048576 := by decide
      simp [e]
      rw [lp_step]
      simp
theorem r28 (d : Nat) (l : List (Lf × Bool)) (hb : l.length ≤ maxLen) (hw : ∀ q ∈ l, WfL q.1 ∧ (q.2 = true → q.1.df = [])) {x : LV} (hx : SV 9 (l.map lI) x) : ∃ k, ev (d + 3) 28 [x, I 1048576] = some (I k, []) ∧ (0 ≤ k → l.length ≤ 1048576 ∧ ∀ q ∈ l, BdL q.1) := by
  obtain ⟨k, h1, h2⟩ := r28b d l hb hw hx
  exact ⟨k, h1, fun h => (h2 h).2⟩
theorem l32 (d : Nat) (l : List Lf) (hb : l.length ≤ big) (hw : ∀ L ∈ l, L.df.length ≤ big) : ∀ (n i : Nat), n + i = l.length →
    clC [] [4] (blk 0 (lp (evC (ev (d + 3)) b32_1) (clean [0, 1, 5]) ⟨lookS [(0, .ro 9 (l.map lS)), (1, .ro 9 (l.map lS)), (5, I i)], lookM []⟩)) = some (.nm, ⟨lookS [], lookM []⟩) := by
  intro n
  induction n with
  | zero =>
    intro i hi
    have h0 : ¬ (i : Int) < (l.length : Int) := by omega
    rw [lp_step]
    simp [h0]
  | succ n ih =>
    intro i hi
    have hlt : i < l.length := by omega
    have h0 : (i : Int) < (l.length : Int) := by omega
    obtain ⟨L, hx⟩ := get_lt hlt
    have hw' := wrap_nat (i := i) (by simp [big] at hb; omega)
    have ih' := ih (i + 1) (by omega)
    have h21 := r20 d L (hw L (List.mem_of_getElem? hx))
    simp at ih'
    rw [lp_step]
    simp [h0, hx, hw', h21, ih']
theorem r32 (d : Nat) (l : List Lf) (hb : l.length ≤ big) (hw : ∀ L ∈ l, L.df.length ≤ big) : ev (d + 4) 32 [.ro 9 (l.map lS), .ro 9 (l.map lS)] = some (B true, []) := by
  rw [s32 (d + 3) _ rfl]
  have key := l32 d l hb hw l.length 0 (by omega)
  simp at key
  simp [key]
/-! ### lists of leaves that are valid -/
def okAt (l : List Lf) (i : Nat) : Bool :=
  match l[i]? with
  | some L => okL L && (match i with | 0 => true | k + 1 => (match l[k]? with | some Q => less Q.id L.id | none => true))
  | none => true
def okFrom (l : List Lf) : Nat → Nat → Bool
  | 0, _ => true
  | n + 1, i => okAt l i && okFrom l n (i + 1)
theorem l101 (d : Nat) (l : List Lf) (hb : l.length ≤ big) (hw : ∀ L ∈ l, BdL L) : ∀ (n i : Nat), n + i = l.length →
    clC [0] [2] (blk 0 (lp (evC (ev (d + 4)) b101_1) (clean [0, 3]) ⟨lookS [(0, .ro 9 (l.map lS)), (3, I i)], lookM []⟩)) =
      ifb (okFrom l n i) (some (.nm, ⟨lookS [(0, .ro 9 (l.map lS))], lookM []⟩)) (some (.rt, ⟨lookS [(2, B false)], lookM []⟩)) := by
  intro n
  induction n with
  | zero =>
    intro i hi
    have h0 : ¬ (i : Int) < (l.length : Int) := by omega
    rw [lp_step]
    simp [h0, okFrom]
  | succ n ih =>
    intro i hi
    have hlt : i < l.length := by omega
    have h0 : (i : Int) < (l.length : Int) := by omega
    obtain ⟨L, hx⟩ := get_lt hlt
    have bL := hw L (List.mem_of_getElem? hx)
    have h82 := r74 d L bL.df bL.id bL.fl
    have hw' := wrap_nat (i := i) (by simp [big] at hb; omega)
    have ih' := ih (i + 1) (by omega)
    simp at ih'
    rw [lp_step]
    simp only [okFrom, okAt, hx]
    cases hL : okL L
    · rw [hL] at h82
      simp [h0, hx, h82]
    · rw [hL] at h82
      cases i with
      | zero =>
        have hx0 : l[0] = L := (List.getElem?_eq_some_iff.1 hx).2
        have hne : 0 < l.length := hlt
        simp at hw' ih'
        simp [hne, hx0, h82, hw', ih']
      | succ k =>
        obtain ⟨Q, hq⟩ := get_lt (l := l) (i := k) (by omega)
        have hpos : (0 : Int) < (k : Int) + 1 := by omega
        have hpos2 : (0 : Int) ≤ (k : Int) + 1 := by omega
        have h0' : (k : Int) + 1 < (l.length : Int) := by omega
        have ht : ((k : Int) + 1).toNat = k + 1 := by omega
        have hk : IntKind.i64.wrap (k : Int) = (k : Int) := IntWalk.i64_in _ (by simp [big] at hb; omega)
        have hw2 : IntKind.i64.wrap ((k : Int) + 1 + 1) = (k : Int) + 1 + 1 := IntWalk.i64_in _ (by simp [big] at hb; omega)
        have e2 : ((k + 1 + 1 : Nat) : Int) = (k : Int) + 1 + 1 := by omega
        simp only [hq]
        cases hc : less Q.id L.id
        · simp only [less] at hc
          simp [h0', hpos, hpos2, ht, hx, h82, hk, hq, hc]
        · simp only [less] at hc
          have ih2 := ih (k + 1 + 1) (by omega)
          rw [e2] at ih2
          simp [h0', hpos, hpos2, ht, hx, h82, hk, hq, hc, hw2]
          exact ih2
theorem r101 (d : Nat) (l : List Lf) (hb : l.length ≤ big) (hw : ∀ L ∈ l, BdL L) : ev (d + 5) 101 [.ro 9 (l.map lS)] = some (B (okFrom l l.length 0 && decide (l.length ≤ 16)), []) := by
  rw [s101 (d + 4) _ rfl]
  have key := l101 d l hb hw l.length 0 (by omega)
  have e16 : ((l.length : Int) ≤ 16) = (l.length ≤ 16) := by apply propext; omega
  cases h : okFrom l l.length 0 <;> rw [h] at key <;> simp at key <;> simp [key, e16]
theorem l104 (d : Nat) (l : List Lf) (hb : l.length ≤ big) (hw : ∀ L ∈ l, BdL L) : ∀ (n i : Nat), n + i = l.length →
    clC [0] [2] (blk 0 (lp (evC (ev (d + 6)) b104_1) (clean [0, 5, 6, 7]) ⟨lookS [(0, .ro 9 (l.map lS)), (5, .ro 9 (l.map lS)), (6, I l.length), (7, I i)], lookM []⟩)) =
      ifb (okFrom l n i) (some (.nm, ⟨lookS [(0, .ro 9 (l.map lS))], lookM []⟩)) (some (.rt, ⟨lookS [(2, B false)], lookM []⟩)) := by
  intro n
  induction n with
  | zero =>
    intro i hi
    have h0 : ¬ (i : Int) < (l.length : Int) := by omega
    rw [lp_step]
    simp [h0, okFrom]
  | succ n ih =>
    intro i hi
    have hlt : i < l.length := by omega
    have h0 : (i : Int) < (l.length : Int) := by omega
    obtain ⟨L, hx⟩ := get_lt hlt
    have bL := hw L (List.mem_of_getElem? hx)
    have h82 := r78 d L bL.df bL.id bL.fl
    have hw' := wrap_nat (i := i) (by simp [big] at hb; omega)
    have ih' := ih (i + 1) (by omega)
    simp at ih'
    rw [lp_step]
    simp only [okFrom, okAt, hx]
    cases hL : okL L
    · rw [hL] at h82
      simp [h0, hx, h82]
    · rw [hL] at h82
      cases i with
      | zero =>
        have hx0 : l[0] = L := (List.getElem?_eq_some_iff.1 hx).2
        have hne : 0 < l.length := hlt
        simp at hw' ih'
        simp [hne, hx0, h82, hw', ih']
      | succ k =>
        obtain ⟨Q, hq⟩ := get_lt (l := l) (i := k) (by omega)
        have hpos : (0 : Int) < (k : Int) + 1 := by omega
        have hpos2 : (0 : Int) ≤ (k : Int) + 1 := by omega
        have h0' : (k : Int) + 1 < (l.length : Int) := by omega
        have ht : ((k : Int) + 1).toNat = k + 1 := by omega
        have hk : IntKind.i64.wrap (k : Int) = (k : Int) := IntWalk.i64_in _ (by simp [big] at hb; omega)
        have hw2 : IntKind.i64.wrap ((k : Int) + 1 + 1) = (k : Int) + 1 + 1 := IntWalk.i64_in _ (by simp [big] at hb; omega)
        have e2 : ((k + 1 + 1 : Nat) : Int) = (k : Int) + 1 + 1 := by omega
        simp only [hq]
        cases hc : less Q.id L.id
        · simp only [less] at hc
          simp [h0', hpos, hpos2, ht, hx, h82, hk, hq, hc]
        · simp only [less] at hc
          have ih2 := ih (k + 1 + 1) (by omega)
          rw [e2] at ih2
          simp [h0', hpos, hpos2, ht, hx, h82, hk, hq, hc, hw2]
          exact ih2
theorem r104 (d : Nat) (l : List Lf) (hb : l.length ≤ big) (hw : ∀ L ∈ l, BdL L) : ev (d + 7) 104 [.ro 9 (l.map lS)] = some (B (okFrom l l.length 0 && decide (l.length ≤ 16)), []) := by
  rw [s104 (d + 6) _ rfl]
  have key := l104 d l hb hw l.length 0 (by omega)
  have e16 : ((l.length : Int) ≤ 16) = (l.length ≤ 16) := by apply propext; omega
  cases h : okFrom l l.length 0 <;> rw [h] at key <;> simp at key <;> simp [key, e16]
/-! ### the leaves as they come in -/
abbrev LT := ByteArray × ByteArray × Int × ByteArray × Int × Int × Int × Int × (List Bx × Bool)
def conv (p : LT) : Lf × Bool := (⟨p.1, p.2.1, p.2.2.1, p.2.2.2.1, p.2.2.2.2.1, p.2.2.2.2.2.1, p.2.2.2.2.2.2.1, p.2.2.2.2.2.2.2.1, p.2.2.2.2.2.2.2.2.1⟩, p.2.2.2.2.2.2.2.2.2)
theorem conv_sv {l : List LT} {R : LT → List Cell} (hR : ∀ p, R p = lI (conv p)) {x : LV} (h : SV 9 (l.map R) x) : SV 9 ((l.map conv).map lI) x := by
  rw [List.map_map]
  have : l.map R = l.map (lI ∘ conv) := List.map_congr_left fun p _ => hR p
  rw [← this]; exact h
theorem conv_wf {l : List LT} (h : ∀ p ∈ l, p.1.size ≤ maxLen ∧ p.2.1.size ≤ maxLen ∧ p.2.2.2.1.size ≤ maxLen ∧ (p.2.2.2.2.2.2.2.2.1.length ≤ maxLen ∧ (p.2.2.2.2.2.2.2.2.2 = true → p.2.2.2.2.2.2.2.2.1 = []))) : ∀ q ∈ l.map conv, WfL q.1 ∧ (q.2 = true → q.1.df = []) := by
  intro q hq
  obtain ⟨p, hp, rfl⟩ := List.mem_map.1 hq
  obtain ⟨h1, h2, h3, h4, h5⟩ := h p hp
  exact ⟨⟨h1, h2, h3, h4⟩, h5⟩
end Go.Proofs.Ytejffoibihbnnaa.walkS
