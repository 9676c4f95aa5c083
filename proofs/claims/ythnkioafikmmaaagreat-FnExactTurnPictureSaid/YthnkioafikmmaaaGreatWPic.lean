/- Drawings and pictures; no conditions. -/
import Derived.Test.YthnkioafikmmaaaGreatWInt
import Derived.Test.YthnkioafikmmaaaGreatWMean
namespace Go.Proofs.YthnkioafikmmaaaGreat.walkS
open Go Go.Proofs.YthnkioafikmmaaaGreat.Ev
set_option linter.unusedSimpArgs false
abbrev Pt := Int × Int
abbrev pC (p : Pt) : List Cell := [.sc (.int .i64 p.1), .sc (.int .i64 p.2)]
abbrev zP : List Cell := [.sc (.int .i64 0), .sc (.int .i64 0)]
theorem pC_shut (p : Pt) : (pC p).map shutC = pC p := rfl
theorem shut_pC (l : List Pt) : shut (l.map pC) = l.map pC := shut_map pC_shut l
attribute [simp high] shut_pC
theorem r81 (d : Nat) (a b : Int) : ev (d + 1) 81 [.ag [I a, I b]] = some (.ag [I a, I b], []) := by
  rw [s81 d _ rfl]
  simp
theorem r97 (d : Nat) (a b : Int) : ev (d + 1) 97 [.ag [I a, I b], .ag [I a, I b]] = some (B true, []) := by
  rw [s97 d _ rfl]
  simp
theorem l49 (d : Nat) (l : List Pt) (hb : l.length ≤ big) : ∀ (n i : Nat), n + i = l.length →
    clC [3] [2] (blk 0 (lp (evC (ev (d + 1)) b49_1) (clean [0, 3, 4]) ⟨lookS [(0, .ro 2 (l.map pC)), (3, .rf (.sl 3) none 0 l.length), (4, I i)], lookM [(.sl 3, some (.arr 72 2 (fill pC zP l i)))]⟩)) =
      some (.nm, ⟨lookS [(3, .rf (.sl 3) none 0 l.length)], lookM [(.sl 3, some (.arr 72 2 (l.map pC)))]⟩) := by
  intro n
  induction n with
  | zero =>
    intro i hi
    have h0 : ¬ (i : Int) < (l.length : Int) := by omega
    have he : fill pC zP l i = l.map pC := by rw [show i = l.length by omega]; exact fill_end
    rw [lp_step, he]
    simp [h0]
  | succ n ih =>
    intro i hi
    have hlt : i < l.length := by omega
    have h0 : (i : Int) < (l.length : Int) := by omega
    obtain ⟨x, hx⟩ := get_lt hlt
    have hs := fill_set (f := pC) (z := zP) hx
    have hg := fill_get (f := pC) (z := zP) hlt
    have hw := wrap_nat (i := i) (by simp [big] at hb; omega)
    have ih' := ih (i + 1) (by omega)
    rw [← hs] at ih'
    simp at ih'
    rw [lp_step]
    simp [h0, hx, hg, hw, r81, ih']
theorem r49 (d : Nat) (l : List Pt) (hb : l.length ≤ big) {x : LV} (hx : SV 2 (l.map pC) x) : ev (d + 2) 49 [x] = some (.ow 72 2 (l.map pC), []) := by
  rw [s49 (d + 1) _ rfl]
  rcases hx with rfl | ⟨rfl, h⟩
  · have key := l49 d l hb l.length 0 (by omega)
    have hz := fill_zero (f := pC) (z := zP) (l := l)
    simp at key
    simp [hb, hz, key]
  · have hl : l = [] := by simpa using h
    subst hl
    simp [big]
    rw [lp_step]
    simp
theorem l56 (d : Nat) (l : List Pt) (hb : l.length ≤ big) : ∀ (n i : Nat), n + i = l.length →
    clC [] [4] (blk 0 (lp (evC (ev (d + 1)) b56_1) (clean [0, 1, 5]) ⟨lookS [(0, .ro 2 (l.map pC)), (1, .ro 2 (l.map pC)), (5, I i)], lookM []⟩)) = some (.nm, ⟨lookS [], lookM []⟩) := by
  intro n
  induction n with
  | zero =>
    intro i hi
    have h0 : ¬ (i : Int) < (l.length : Int) := by omega
    rw [lp_step]
    simp [h0]
  | succ n ih =>
    intro i hi
    have hlt : i < l.length := by omega
    have h0 : (i : Int) < (l.length : Int) := by omega
    obtain ⟨x, hx⟩ := get_lt hlt
    have hw := wrap_nat (i := i) (by simp [big] at hb; omega)
    have ih' := ih (i + 1) (by omega)
    simp at ih'
    rw [lp_step]
    simp [h0, hx, hw, r97, ih']
theorem r56 (d : Nat) (l : List Pt) (hb : l.length ≤ big) : ev (d + 2) 56 [.ro 2 (l.map pC), .ro 2 (l.map pC)] = some (B true, []) := by
  rw [s56 (d + 1) _ rfl]
  have key := l56 d l hb l.length 0 (by omega)
  simp at key
  simp [key]
/-! ### a slice as it comes in, under one name -/
def svV (b : Bool) (st : Nat) (rows : List (List Cell)) : LV := match b with | true => .nl | false => .ro st rows
theorem SV.sv {st : Nat} {rows : List (List Cell)} {x : LV} (h : SV st rows x) : ∃ b, x = svV b st rows := by
  rcases h with rfl | ⟨rfl, _⟩
  · exact ⟨false, rfl⟩
  · exact ⟨true, rfl⟩
theorem snap0_sv (m : Mem) (b : Bool) (st : Nat) (rows : List (List Cell)) : snap0 m (svV b st rows) = some (svV b st rows) := by cases b <;> rfl
theorem plain_sv (b : Bool) (st : Nat) (rows : List (List Cell)) : plainB (svV b st rows) = true := by cases b <;> rfl
theorem own_sv (b : Bool) (st : Nat) (rows : List (List Cell)) : ownB0 (svV b st rows) = false := by cases b <;> rfl
attribute [simp ↓] snap0_sv plain_sv own_sv
/-! ### faces -/
abbrev Fc := ByteArray × List Int
abbrev fR (f : Fc) (x : Cell) : List Cell := [.sc (.string f.1), x]
abbrev fC (f : Fc) : List Cell := fR f (.sl true 2 1 (f.2.map iW))
abbrev fS (f : Fc) : List Cell := fR f (.sl false 2 1 (f.2.map iW))
def fI (p : Fc × Bool) : List Cell := fR p.1 (ifb p.2 .nl (.sl false 0 1 (p.1.2.map iW)))
def zF : List Cell := [.sc (.string ⟨#[]⟩), .nl]
abbrev zFx : List Cell := [.sc (.string ⟨#[]⟩), .nl]
theorem shut_fC (l : List Fc) : shut (l.map fC) = l.map fS := by
  simp only [shut, List.map_map]
  exact List.map_congr_left fun a _ => rfl
theorem shut_fS (l : List Fc) : shut (l.map fS) = l.map fS := shut_map (fun _ => rfl) l
attribute [simp high] shut_fC shut_fS
theorem r82 (d : Nat) (f : Fc) (hb : f.2.length ≤ big) {x : LV} (hx : SV 1 (f.2.map iC) x) : ev (d + 2) 82 [.ag [T f.1, x]] = some (.ag [T f.1, .ow 2 1 (f.2.map iC)], []) := by
  rw [s82 (d + 1) _ rfl]
  have h := r137 d f.2 hb hx
  rcases hx with rfl | ⟨rfl, _⟩ <;> simp [h]
def ff (p : Fc × Bool) : List Cell := fC p.1
theorem l50 (d : Nat) (l : List (Fc × Bool)) (hb : l.length ≤ big) (hw : ∀ q ∈ l, q.1.2.length ≤ big ∧ (q.2 = true → q.1.2 = [])) : ∀ (n i : Nat), n + i = l.length →
    clC [3] [2] (blk 0 (lp (evC (ev (d + 2)) b50_1) (clean [0, 3, 4]) ⟨lookS [(0, .ro 2 (l.map fI)), (3, .rf (.sl 3) none 0 l.length), (4, I i)], lookM [(.sl 3, some (.arr 77 2 (fill ff zF l i)))]⟩)) =
      some (.nm, ⟨lookS [(3, .rf (.sl 3) none 0 l.length)], lookM [(.sl 3, some (.arr 77 2 (l.map ff)))]⟩) := by
  intro n
  induction n with
  | zero =>
    intro i hi
    have h0 : ¬ (i : Int) < (l.length : Int) := by omega
    have he : fill ff zF l i = l.map ff := by rw [show i = l.length by omega]; exact fill_end
    rw [lp_step, he]
    simp [h0]
  | succ n ih =>
    intro i hi
    have hlt : i < l.length := by omega
    have h0 : (i : Int) < (l.length : Int) := by omega
    obtain ⟨x, hx⟩ := get_lt hlt
    obtain ⟨F, b⟩ := x
    obtain ⟨w1, w2⟩ := hw (F, b) (List.mem_of_getElem? hx)
    have hs := fill_set (f := ff) (z := zF) hx
    have hg : (fill ff zF l i)[i]? = some zFx := fill_get (f := ff) (z := zF) hlt
    have hl : ∀ a, ((fill ff zF l i).set i a)[i]? = some a := fun a => List.getElem?_set_self (by rw [fill_len (by omega)]; exact hlt)
    have hw' := wrap_nat (i := i) (by simp [big] at hb; omega)
    have ih' := ih (i + 1) (by omega)
    rw [← hs] at ih'
    simp only [ff, fC, fR] at ih'
    simp at ih'
    rw [lp_step]
    have hsv : SV 1 (F.2.map iC) (roC (ifb b .nl (.sl false 0 1 (F.2.map iW)))) := by
      cases b
      · exact .inl (by simp [roC])
      · exact .inr ⟨rfl, by rw [w2 rfl]; rfl⟩
    have h19 := r82 d F w1 hsv
    cases b
    · simp [roC] at h19
      simp [h0, hx, hg, hl, hw', h19, fI, ih']
    · simp [roC] at h19
      simp [h0, hx, hg, hl, hw', h19, fI, ih']
theorem r50 (d : Nat) (l : List (Fc × Bool)) (hb : l.length ≤ big) (hw : ∀ q ∈ l, q.1.2.length ≤ big ∧ (q.2 = true → q.1.2 = [])) {x : LV} (hx : SV 2 (l.map fI) x) : ev (d + 3) 50 [x] = some (.ow 77 2 ((l.map (·.1)).map fC), []) := by
  rw [s50 (d + 2) _ rfl]
  have em : (l.map (·.1)).map fC = l.map ff := by rw [List.map_map]; rfl
  rw [em]
  rcases hx with rfl | ⟨rfl, h⟩
  · have key := l50 d l hb hw l.length 0 (by omega)
    have hz : List.replicate l.length zFx = fill ff zF l 0 := fill_zero (f := ff) (z := zF) (l := l)
    simp at key
    simp [hb, hz, key]
  · have hl : l = [] := by simpa using h
    subst hl
    simp [big]
    rw [lp_step]
    simp
theorem r98 (d : Nat) (f : Fc) (hb : f.2.length ≤ big) : ev (d + 2) 98 [.ag [T f.1, .ro 1 (f.2.map iC)], .ag [T f.1, .ro 1 (f.2.map iC)]] = some (B true, []) := by
  rw [s98 (d + 1) _ rfl]
  have h := r150 d f.2 hb
  simp [h]
theorem l57 (d : Nat) (l : List Fc) (hb : l.length ≤ big) (hw : ∀ f ∈ l, f.2.length ≤ big) : ∀ (n i : Nat), n + i = l.length →
    clC [] [4] (blk 0 (lp (evC (ev (d + 2)) b57_1) (clean [0, 1, 5]) ⟨lookS [(0, .ro 2 (l.map fS)), (1, .ro 2 (l.map fS)), (5, I i)], lookM []⟩)) = some (.nm, ⟨lookS [], lookM []⟩) := by
  intro n
  induction n with
  | zero =>
    intro i hi
    have h0 : ¬ (i : Int) < (l.length : Int) := by omega
    rw [lp_step]
    simp [h0]
  | succ n ih =>
    intro i hi
    have hlt : i < l.length := by omega
    have h0 : (i : Int) < (l.length : Int) := by omega
    obtain ⟨f, hx⟩ := get_lt hlt
    have hw' := wrap_nat (i := i) (by simp [big] at hb; omega)
    have ih' := ih (i + 1) (by omega)
    have h21 := r98 d f (hw f (List.mem_of_getElem? hx))
    simp at ih'
    rw [lp_step]
    simp [h0, hx, hw', h21, ih']
theorem r57 (d : Nat) (l : List Fc) (hb : l.length ≤ big) (hw : ∀ f ∈ l, f.2.length ≤ big) : ev (d + 3) 57 [.ro 2 (l.map fS), .ro 2 (l.map fS)] = some (B true, []) := by
  rw [s57 (d + 2) _ rfl]
  have key := l57 d l hb hw l.length 0 (by omega)
  simp at key
  simp [key]
/-! ### drawings -/
structure Dr where
  w : Int
  h : Int
  pts : List Pt
  fcs : List Fc
abbrev dA (D : Dr) (x y : LV) : List LV := [I D.w, I D.h, x, y]
abbrev dV (D : Dr) : List LV := dA D (.ro 2 (D.pts.map pC)) (.ro 2 (D.fcs.map fS))
structure BdD (D : Dr) : Prop where
  pts : D.pts.length ≤ big
  fcs : D.fcs.length ≤ big
  ring : ∀ f ∈ D.fcs, f.2.length ≤ big
def sameD (A C : Dr) : Bool := decide (A.w = C.w) && (decide (A.h = C.h) && (decide (A.pts = C.pts) && decide (A.fcs = C.fcs)))
/-! ### pictures -/
structure Pi where
  d : Dr
  vs : List Vn
abbrev qV (Q : Pi) : List LV := [I Q.d.w, I Q.d.h, .ro 2 (Q.d.pts.map pC), .ro 2 (Q.d.fcs.map fS), .ro 3 (Q.vs.map vC)]
def samePi (A C : Pi) : Bool := sameD A.d C.d && decide (A.vs = C.vs)
/-! ### the laws' copies -/
theorem r20 (d : Nat) (w h : Int) (pts : List Pt) (fcs : List (Fc × Bool)) (hp : pts.length ≤ big) (hf : fcs.length ≤ big) (hw : ∀ q ∈ fcs, q.1.2.length ≤ big ∧ (q.2 = true → q.1.2 = [])) {x y : LV} (hx : SV 2 (pts.map pC) x) (hy : SV 2 (fcs.map fI) y) :
    ev (d + 4) 20 [.ag [I w, I h, x, y]] = some (.ag [I w, I h, .ow 72 2 (pts.map pC), .ow 77 2 ((fcs.map (·.1)).map fC)], []) := by
  rw [s20 (d + 3) _ rfl]
  have h1 := r49 (d + 1) pts hp hx
  have h2 := r50 d fcs hf hw hy
  generalize (fcs.map (·.1)).map fC = rows at h2 ⊢
  rcases hx with rfl | ⟨rfl, _⟩ <;> rcases hy with rfl | ⟨rfl, _⟩ <;> simp [h1, h2]
theorem r8 (d : Nat) (w h : Int) (pts : List Pt) (fcs : List (Fc × Bool)) (vs : List Vn) (hp : pts.length ≤ big) (hf : fcs.length ≤ big) (hw : ∀ q ∈ fcs, q.1.2.length ≤ big ∧ (q.2 = true → q.1.2 = [])) (hv : vs.length ≤ big) {x y z : LV} (hx : SV 2 (pts.map pC) x) (hy : SV 2 (fcs.map fI) y) (hz : SV 3 (vs.map vC) z) :
    ev (d + 5) 8 [.ag [I w, I h, x, y, z]] = some (.ag [I w, I h, .ow 72 2 (pts.map pC), .ow 77 2 ((fcs.map (·.1)).map fC), .ow 61 3 (vs.map vC)], []) := by
  rw [s8 (d + 4) _ rfl]
  have h1 := r20 d w h pts fcs hp hf hw hx hy
  have h2 := r28 (d + 2) vs hv hz
  generalize (fcs.map (·.1)).map fC = rows at h1 ⊢
  rcases hx with rfl | ⟨rfl, _⟩ <;> rcases hy with rfl | ⟨rfl, _⟩ <;> rcases hz with rfl | ⟨rfl, _⟩ <;> simp [h1, h2]
theorem r22 (d : Nat) (D : Dr) (hb : BdD D) : ev (d + 4) 22 [.ag (dV D), .ag (dV D)] = some (B true, []) := by
  rw [s22 (d + 3) _ rfl]
  have h1 := r56 (d + 1) D.pts hb.pts
  have h2 := r57 d D.fcs hb.fcs hb.ring
  simp [h1, h2]
theorem r11 (d : Nat) (Q : Pi) (hb : BdD Q.d) (hv : Q.vs.length ≤ big) : ev (d + 5) 11 [.ag (qV Q), .ag (qV Q)] = some (B true, []) := by
  rw [s11 (d + 4) _ rfl]
  have h1 := r22 d Q.d hb
  have h2 := r32 (d + 2) Q.vs hv
  simp [h1, h2]
/-! ### what is left -/
theorem n127 (d : Nat) (l : List Int) (n : Int) {x : LV} (hx : SV 1 (l.map iC) x) : ev (d + 1) 127 [x, I n] = some (I (sz1 n l.length), []) := by
  rw [s127 d _ rfl]
  unfold sz1
  rcases hx with rfl | ⟨rfl, h⟩
  · by_cases hc : W (n - l.length) < 0 <;> simp only [W] at hc <;> simp [hc, W]
  · have hl : l = [] := by simpa using h
    subst hl
    by_cases hc : W (n - 0) < 0 <;> simp only [W, Int.sub_zero] at hc <;> simp [hc, W]
theorem n46 (d : Nat) (l : List Pt) (n : Int) {x : LV} (hx : SV 2 (l.map pC) x) : ev (d + 1) 46 [x, I n] = some (I (sz1 n l.length), []) := by
  rw [s46 d _ rfl]
  unfold sz1
  rcases hx with rfl | ⟨rfl, h⟩
  · by_cases hc : W (n - l.length) < 0 <;> simp only [W] at hc <;> simp [hc, W]
  · have hl : l = [] := by simpa using h
    subst hl
    by_cases hc : W (n - 0) < 0 <;> simp only [W, Int.sub_zero] at hc <;> simp [hc, W]
/-- a face as it comes in -/
structure WfF (p : Fc × Bool) : Prop where
  name : p.1.1.size ≤ maxLen
  ring : p.1.2.length ≤ maxLen
  nil : p.2 = true → p.1.2 = []
theorem r75 (d : Nat) (f : Fc) (n : Int) (hn : 0 ≤ n ∧ n ≤ 1048576) (h1 : f.1.size ≤ maxLen) (h2 : f.2.length ≤ maxLen) {x : LV} (hx : SV 1 (f.2.map iC) x) :
    ∃ k, ev (d + 2) 75 [.ag [T f.1, x], I n] = some (I k, []) ∧ (0 ≤ k → k ≤ 1048576 ∧ f.2.length ≤ big ∧ f.1.size ≤ big) := by
  rw [s75 (d + 1) _ rfl]
  by_cases g1 : W (n - f.1.size) < 0
  · exact ⟨-1, by simp only [W] at g1; rcases hx with rfl | ⟨rfl, _⟩ <;> simp [g1], by omega⟩
  have e1 : sz1 n f.1.size = W (n - f.1.size) := by unfold sz1; rw [if_neg g1]
  have b1 := sz1_ok hn h1 (by rw [e1]; omega)
  have r := n127 d f.2 (W (n - f.1.size)) hx
  rw [← e1] at r
  by_cases g2 : sz1 (sz1 n f.1.size) f.2.length < 0
  · refine ⟨-1, ?_, by omega⟩
    rw [e1] at r g2
    simp only [W] at g1 g2 r
    rcases hx with rfl | ⟨rfl, _⟩ <;> simp [g1, r, g2]
  · have b2 := sz1_ok (by omega) h2 (by omega : 0 ≤ sz1 (sz1 n f.1.size) f.2.length)
    refine ⟨sz1 (sz1 n f.1.size) f.2.length, ?_, fun _ => ⟨by omega, by simp only [big]; omega, by simp only [big]; omega⟩⟩
    rw [e1] at r g2 ⊢
    simp only [W] at g1 g2 r ⊢
    rcases hx with rfl | ⟨rfl, _⟩ <;> simp [g1, r, g2]
theorem l47 (d : Nat) (l : List (Fc × Bool)) (hb : l.length ≤ maxLen) (hw : ∀ q ∈ l, WfF q) : ∀ (n i : Nat) (m : Int), n + i = l.length → 0 ≤ m ∧ m ≤ 1048576 →
    (∃ k, clC [1] [4] (blk 0 (lp (evC (ev (d + 2)) b47_1) (clean [0, 1, 5]) ⟨lookS [(0, .ro 2 (l.map fI)), (1, I m), (5, I i)], lookM []⟩)) = some (.nm, ⟨lookS [(1, I k)], lookM []⟩) ∧ (0 ≤ k ∧ k ≤ 1048576) ∧ ∀ q ∈ l.drop i, q.1.2.length ≤ big ∧ q.1.1.size ≤ big) ∨
    clC [1] [4] (blk 0 (lp (evC (ev (d + 2)) b47_1) (clean [0, 1, 5]) ⟨lookS [(0, .ro 2 (l.map fI)), (1, I m), (5, I i)], lookM []⟩)) = some (.rt, ⟨lookS [(4, I (-1))], lookM []⟩) := by
  intro n
  induction n with
  | zero =>
    intro i m hi hm
    have h0 : ¬ (i : Int) < (l.length : Int) := by omega
    have h1 : l.drop i = [] := List.drop_eq_nil_of_le (by omega)
    rw [lp_step, h1]
    exact .inl ⟨m, by simp [h0], hm, fun q hq => by simp at hq⟩
  | succ n ih =>
    intro i m hi hm
    have hlt : i < l.length := by omega
    have h0 : (i : Int) < (l.length : Int) := by omega
    obtain ⟨x, hx⟩ := get_lt hlt
    obtain ⟨F, b⟩ := x
    have wf := hw (F, b) (List.mem_of_getElem? hx)
    have hmx : maxLen = 9223372036854775807 := by decide
    have hw' : IntKind.i64.wrap ((i : Int) + 1) = ((i + 1 : Nat) : Int) := by rw [IntWalk.i64_in _ (by omega)]; rfl
    have hsv : SV 1 (F.2.map iC) (roC (ifb b .nl (.sl false 0 1 (F.2.map iW)))) := by
      cases b
      · exact .inl (by simp [roC])
      · exact .inr ⟨rfl, by rw [wf.nil rfl]; rfl⟩
    obtain ⟨k, hk, hs⟩ := r75 d F m hm wf.name wf.ring hsv
    rw [lp_step]
    by_cases hc : k < 0
    · right
      cases b
      · simp [roC] at hk; simp [h0, hx, fI, hk, hc]
      · simp [roC] at hk; simp [h0, hx, fI, hk, hc]
    · obtain ⟨q1, q2⟩ := hs (by omega)
      have hdr : ∀ q ∈ l.drop i, q = (F, b) ∨ q ∈ l.drop (i + 1) := by
        intro q hq
        rw [drop_get hx] at hq
        simpa using hq
      rcases ih (i + 1) k (by omega) ⟨by omega, q1⟩ with ⟨k2, hk2, hk3, hall⟩ | hk2
      · left
        refine ⟨k2, ?_, hk3, fun q hq => ?_⟩
        · simp at hk2
          cases b
          · simp [roC] at hk; simp [h0, hx, fI, hk, hc, hw', hk2]
          · simp [roC] at hk; simp [h0, hx, fI, hk, hc, hw', hk2]
        · rcases hdr q hq with rfl | hq
          · exact q2
          · exact hall q hq
      · right
        simp at hk2
        cases b
        · simp [roC] at hk; simp [h0, hx, fI, hk, hc, hw', hk2]
        · simp [roC] at hk; simp [h0, hx, fI, hk, hc, hw', hk2]
theorem r47 (d : Nat) (l : List (Fc × Bool)) (hb : l.length ≤ maxLen) (hw : ∀ q ∈ l, WfF q) (n : Int) (hn : 0 ≤ n ∧ n ≤ 1048576) {x : LV} (hx : SV 2 (l.map fI) x) : ∃ k, ev (d + 3) 47 [x, I n] = some (I k, []) ∧ (0 ≤ k → k ≤ 1048576 ∧ l.length ≤ big ∧ ∀ q ∈ l, q.1.2.length ≤ big ∧ q.1.1.size ≤ big) := by
  rw [s47 (d + 2) _ rfl]
  have hm : maxLen = 9223372036854775807 := by decide
  have hw' : IntKind.i64.wrap (n - (l.length : Int)) = n - l.length := IntWalk.i64_in _ (by omega)
  by_cases h : n - (l.length : Int) < 0
  · refine ⟨-1, ?_, by omega⟩
    rcases hx with rfl | ⟨rfl, hl⟩
    · simp [hw', h]
    · have hl : l = [] := by simpa using hl
      subst hl; simp at h; omega
  · rcases hx with rfl | ⟨rfl, hl⟩
    · rcases l47 d l hb hw l.length 0 (n - l.length) (by omega) (by omega) with ⟨k, hk, hk2, hall⟩ | hk
      · simp at hk
        rw [List.drop_zero] at hall
        exact ⟨k, by simp [hw', h, hk], fun _ => ⟨hk2.2, by simp only [big]; omega, hall⟩⟩
      · simp at hk; exact ⟨-1, by simp [hw', h, hk], by omega⟩
    · have hl : l = [] := by simpa using hl
      subst hl
      refine ⟨n, ?_, fun _ => ⟨hn.2, by simp, by simp⟩⟩
      have e : IntKind.i64.wrap n = n := IntWalk.i64_in _ (by omega)
      have e2 : ¬ n < 0 := by omega
      simp [e, e2]
      rw [lp_step]
      simp
theorem r18 (d : Nat) (w h : Int) (pts : List Pt) (fcs : List (Fc × Bool)) (hp : pts.length ≤ maxLen) (hf : fcs.length ≤ maxLen) (hw : ∀ q ∈ fcs, WfF q) (n : Int) (hn : 0 ≤ n ∧ n ≤ 1048576) {x y : LV} (hx : SV 2 (pts.map pC) x) (hy : SV 2 (fcs.map fI) y) :
    ∃ k, ev (d + 4) 18 [.ag [I w, I h, x, y], I n] = some (I k, []) ∧ (0 ≤ k → k ≤ 1048576 ∧ pts.length ≤ big ∧ fcs.length ≤ big ∧ ∀ q ∈ fcs, q.1.2.length ≤ big ∧ q.1.1.size ≤ big) := by
  rw [s18 (d + 3) _ rfl]
  have r1 := n46 (d + 2) pts n hx
  by_cases g1 : sz1 n pts.length < 0
  · exact ⟨-1, by rcases hx with rfl | ⟨rfl, _⟩ <;> rcases hy with rfl | ⟨rfl, _⟩ <;> simp [r1, g1], by omega⟩
  have b1 := sz1_ok hn hp (by omega)
  obtain ⟨k, hk, hs⟩ := r47 d fcs hf hw (sz1 n pts.length) (by omega) hy
  by_cases g2 : k < 0
  · exact ⟨-1, by rcases hx with rfl | ⟨rfl, _⟩ <;> rcases hy with rfl | ⟨rfl, _⟩ <;> simp [r1, g1, hk, g2], by omega⟩
  · refine ⟨k, by rcases hx with rfl | ⟨rfl, _⟩ <;> rcases hy with rfl | ⟨rfl, _⟩ <;> simp [r1, g1, hk, g2], fun h0 => ?_⟩
    obtain ⟨q1, q2, q3⟩ := hs h0
    exact ⟨q1, by simp only [big]; omega, q2, q3⟩
theorem k25 (d : Nat) (l : List Vn) (hb : l.length ≤ maxLen) (hw : ∀ v ∈ l, v.1.size ≤ maxLen) : ∀ (n i : Nat) (m : Int), n + i = l.length → 0 ≤ m ∧ m ≤ 1048576 →
    (∃ k, clC [1] [4] (blk 0 (lp (evC (ev (d + 1)) b25_1) (clean [0, 1, 5]) ⟨lookS [(0, .ro 3 (l.map vC)), (1, I m), (5, I i)], lookM []⟩)) = some (.nm, ⟨lookS [(1, I k)], lookM []⟩) ∧ 0 ≤ k ∧ k ≤ 1048576) ∨
    clC [1] [4] (blk 0 (lp (evC (ev (d + 1)) b25_1) (clean [0, 1, 5]) ⟨lookS [(0, .ro 3 (l.map vC)), (1, I m), (5, I i)], lookM []⟩)) = some (.rt, ⟨lookS [(4, I (-1))], lookM []⟩) := by
  intro n
  induction n with
  | zero =>
    intro i m hi hm
    have h0 : ¬ (i : Int) < (l.length : Int) := by omega
    rw [lp_step]
    exact .inl ⟨m, by simp [h0], hm⟩
  | succ n ih =>
    intro i m hi hm
    have hlt : i < l.length := by omega
    have h0 : (i : Int) < (l.length : Int) := by omega
    obtain ⟨x, hx⟩ := get_lt hlt
    have hmx : maxLen = 9223372036854775807 := by decide
    have hw' : IntKind.i64.wrap ((i : Int) + 1) = ((i + 1 : Nat) : Int) := by rw [IntWalk.i64_in _ (by omega)]; rfl
    rw [lp_step]
    by_cases hc : sz1 m x.1.size < 0
    · right; simp [h0, hx, z62, hc]
    · have hb2 := sz1_ok hm (hw x (List.mem_of_getElem? hx)) (by omega)
      rcases ih (i + 1) (sz1 m x.1.size) (by omega) (by omega) with ⟨k, hk, hk2⟩ | hk
      · simp at hk
        exact .inl ⟨k, by simp [h0, hx, hw', z62, hc, hk], hk2⟩
      · simp at hk
        exact .inr (by simp [h0, hx, hw', z62, hc, hk])
theorem m25 (d : Nat) (l : List Vn) (hb : l.length ≤ maxLen) (hw : ∀ v ∈ l, v.1.size ≤ maxLen) (n : Int) (hn : 0 ≤ n ∧ n ≤ 1048576) {x : LV} (hx : SV 3 (l.map vC) x) : ∃ k, ev (d + 2) 25 [x, I n] = some (I k, []) ∧ (0 ≤ k → k ≤ 1048576 ∧ l.length ≤ big) := by
  rw [s25 (d + 1) _ rfl]
  have hm : maxLen = 9223372036854775807 := by decide
  have hw' : IntKind.i64.wrap (n - (l.length : Int)) = n - l.length := IntWalk.i64_in _ (by omega)
  by_cases h : n - (l.length : Int) < 0
  · refine ⟨-1, ?_, by omega⟩
    rcases hx with rfl | ⟨rfl, hl⟩
    · simp [hw', h]
    · have hl : l = [] := by simpa using hl
      subst hl; simp at h; omega
  · rcases hx with rfl | ⟨rfl, hl⟩
    · rcases k25 d l hb hw l.length 0 (n - l.length) (by omega) (by omega) with ⟨k, hk, hk2⟩ | hk
      · simp at hk; exact ⟨k, by simp [hw', h, hk], fun _ => ⟨hk2.2, by simp only [big]; omega⟩⟩
      · simp at hk; exact ⟨-1, by simp [hw', h, hk], by omega⟩
    · have hl : l = [] := by simpa using hl
      subst hl
      refine ⟨n, ?_, fun _ => ⟨hn.2, by simp⟩⟩
      have e : IntKind.i64.wrap n = n := IntWalk.i64_in _ (by omega)
      have e2 : ¬ n < 0 := by omega
      simp [e, e2]
      rw [lp_step]
      simp
/-- a picture as it comes in -/
structure Pin where
  w : Int
  h : Int
  pts : List Pt
  fcs : List (Fc × Bool)
  vs : List Vn
structure WfP (p : Pin) (x y z : LV) : Prop where
  pts : p.pts.length ≤ maxLen
  fcs : p.fcs.length ≤ maxLen
  face : ∀ q ∈ p.fcs, WfF q
  vs : p.vs.length ≤ maxLen
  name : ∀ v ∈ p.vs, v.1.size ≤ maxLen
  x : SV 2 (p.pts.map pC) x
  y : SV 2 (p.fcs.map fI) y
  z : SV 3 (p.vs.map vC) z
abbrev pA (p : Pin) (x y z : LV) : List LV := [I p.w, I p.h, x, y, z]
def pOf (p : Pin) : Pi := ⟨⟨p.w, p.h, p.pts, p.fcs.map (·.1)⟩, p.vs⟩
structure BdP (p : Pin) : Prop where
  pts : p.pts.length ≤ big
  fcs : p.fcs.length ≤ big
  ring : ∀ q ∈ p.fcs, q.1.2.length ≤ big
  vs : p.vs.length ≤ big
  name : ∀ q ∈ p.fcs, q.1.1.size ≤ big
theorem BdP.d {p : Pin} (h : BdP p) : BdD (pOf p).d := ⟨h.pts, by simpa [pOf] using h.fcs, fun f hf => by
  obtain ⟨q, hq, rfl⟩ := List.mem_map.1 hf
  exact h.ring q hq⟩
theorem r6 (d : Nat) (p : Pin) {x y z : LV} (w : WfP p x y z) (n : Int) (hn : 0 ≤ n ∧ n ≤ 1048576) : ∃ k, ev (d + 5) 6 [.ag (pA p x y z), I n] = some (I k, []) ∧ (0 ≤ k → k ≤ 1048576 ∧ BdP p) := by
  rw [s6 (d + 4) _ rfl]
  obtain ⟨k1, h1, s1⟩ := r18 d p.w p.h p.pts p.fcs w.pts w.fcs w.face n hn w.x w.y
  have hx := w.x
  have hy := w.y
  have hz := w.z
  by_cases g1 : k1 < 0
  · exact ⟨-1, by rcases hx with rfl | ⟨rfl, _⟩ <;> rcases hy with rfl | ⟨rfl, _⟩ <;> rcases hz with rfl | ⟨rfl, _⟩ <;> simp [h1, g1], by omega⟩
  obtain ⟨q1, q2, q3, q4⟩ := s1 (by omega)
  obtain ⟨k2, h2, s2⟩ := m25 (d + 2) p.vs w.vs w.name k1 (by omega) w.z
  by_cases g2 : k2 < 0
  · exact ⟨-1, by rcases hx with rfl | ⟨rfl, _⟩ <;> rcases hy with rfl | ⟨rfl, _⟩ <;> rcases hz with rfl | ⟨rfl, _⟩ <;> simp [h1, g1, h2, g2], by omega⟩
  · refine ⟨k2, by rcases hx with rfl | ⟨rfl, _⟩ <;> rcases hy with rfl | ⟨rfl, _⟩ <;> rcases hz with rfl | ⟨rfl, _⟩ <;> simp [h1, g1, h2, g2], fun h0 => ?_⟩
    obtain ⟨u1, u2⟩ := s2 h0
    exact ⟨u1, q2, q3, fun q hq => (q4 q hq).1, u2, fun q hq => (q4 q hq).2⟩
/-! ### the arguments as they are opened -/
abbrev FT := ByteArray × (List Int × Bool)
def convF (p : FT) : Fc × Bool := ((p.1, p.2.1), p.2.2)
theorem convF_sv {l : List FT} {R : FT → List Cell} (hR : ∀ p, R p = fI (convF p)) {x : LV} (h : SV 2 (l.map R) x) : SV 2 ((l.map convF).map fI) x := by
  rw [List.map_map]
  have : l.map R = l.map (fI ∘ convF) := List.map_congr_left fun p _ => hR p
  rw [← this]; exact h
theorem convF_wf {l : List FT} (h : ∀ p ∈ l, p.1.size ≤ maxLen ∧ (p.2.1.length ≤ maxLen ∧ (p.2.2 = true → p.2.1 = []))) : ∀ q ∈ l.map convF, WfF q := by
  intro q hq
  obtain ⟨p, hp, rfl⟩ := List.mem_map.1 hq
  obtain ⟨h1, h2, h3⟩ := h p hp
  exact ⟨h1, h2, h3⟩
end Go.Proofs.YthnkioafikmmaaaGreat.walkS
