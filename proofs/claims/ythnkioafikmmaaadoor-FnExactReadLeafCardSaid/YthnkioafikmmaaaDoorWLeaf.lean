/- What the functions about leaves compute; no conditions. -/
import Derived.Test.YthnkioafikmmaaaDoorWRows
import Derived.Test.YthnkioafikmmaaaDoorWVeneer
namespace Go.Proofs.YthnkioafikmmaaaDoor.walkS
open Go Go.Proofs.YthnkioafikmmaaaDoor.Ev
set_option linter.unusedSimpArgs false
abbrev Bx := Int × Int × Int × Int
abbrev bC (b : Bx) : List Cell := [.sc (.int .i64 b.1), .sc (.int .i64 b.2.1), .sc (.int .i64 b.2.2.1), .sc (.int .i64 b.2.2.2)]
abbrev bV (b : Bx) : List LV := [I b.1, I b.2.1, I b.2.2.1, I b.2.2.2]
abbrev zB : List Cell := [.sc (.int .i64 0), .sc (.int .i64 0), .sc (.int .i64 0), .sc (.int .i64 0)]
theorem bC_shut (b : Bx) : (bC b).map shutC = bC b := rfl
theorem shut_bC (l : List Bx) : shut (l.map bC) = l.map bC := shut_map bC_shut l
attribute [simp high] shut_bC
structure Lf where
  id : ByteArray
  fl : ByteArray
  num : Int
  sp : ByteArray
  sh : Int
  gr : Int
  wd : Int
  ln : Int
  df : List Bx
  deriving DecidableEq
abbrev lA (L : Lf) (x : LV) : List LV := [T L.id, T L.fl, I L.num, T L.sp, I L.sh, I L.gr, I L.wd, I L.ln, x]
abbrev lV (L : Lf) : List LV := lA L (.ro 4 (L.df.map bC))
/-- what is left behind a leaf, if anything is -/
def szL (n k : Int) (L : Lf) : Prop :=
  0 ≤ sz1 n L.id.size ∧ 0 ≤ sz1 (sz1 n L.id.size) L.fl.size ∧ 0 ≤ sz1 (sz1 (sz1 n L.id.size) L.fl.size) L.sp.size ∧ 0 ≤ k ∧ k = sz1 (sz1 (sz1 (sz1 n L.id.size) L.fl.size) L.sp.size) L.df.length
theorem szL_ok {n k : Int} {L : Lf} (hn : 0 ≤ n ∧ n ≤ 1048576) (h1 : L.id.size ≤ maxLen) (h2 : L.fl.size ≤ maxLen) (h3 : L.sp.size ≤ maxLen) (h4 : L.df.length ≤ maxLen) (h : szL n k L) : L.df.length ≤ 1048576 ∧ 0 ≤ k ∧ k ≤ 1048576 ∧ L.df.length ≤ big := by
  obtain ⟨a1, a2, a3, a4, a5⟩ := h
  obtain ⟨b1, c1⟩ := sz1_ok hn h1 a1
  obtain ⟨b2, c2⟩ := sz1_ok (by omega) h2 a2
  obtain ⟨b3, c3⟩ := sz1_ok (by omega) h3 a3
  rw [a5] at a4
  obtain ⟨b4, c4⟩ := sz1_ok (by omega) h4 a4
  refine ⟨by omega, by omega, by omega, by simp only [big]; omega⟩
theorem r77 (d : Nat) (a b c e : Int) : ev (d + 1) 77 [.ag [I a, I b, I c, I e], .ag [I a, I b, I c, I e]] = some (B true, []) := by
  rw [s77 d _ rfl]
  simp 
theorem l46 (d : Nat) (l : List Bx) (hb : l.length ≤ big) : ∀ (n i : Nat), n + i = l.length →
    clC [] [4] (blk 0 (lp (evC (ev (d + 1)) b46_1) (clean [0, 1, 5]) ⟨lookS [(0, .ro 4 (l.map bC)), (1, .ro 4 (l.map bC)), (5, I i)], lookM []⟩)) = some (.nm, ⟨lookS [], lookM []⟩) := by
  intro n
  induction n with
  | zero =>
    intro i hi
    have h0 : ¬ (i : Int) < (l.length : Int) := by omega
    rw [lp_step]
    simp [h0]
  | succ n ih =>
    intro i hi
    have hlt : i < l.length := by omega
    have h0 : (i : Int) < (l.length : Int) := by omega
    obtain ⟨x, hx⟩ := get_lt hlt
    have hw := wrap_nat (i := i) (by simp [big] at hb; omega)
    have ih' := ih (i + 1) (by omega)
    simp at ih'
    rw [lp_step]
    simp [h0, hx, hw, r77, ih']
theorem r46 (d : Nat) (l : List Bx) (hb : l.length ≤ big) : ev (d + 2) 46 [.ro 4 (l.map bC), .ro 4 (l.map bC)] = some (B true, []) := by
  rw [s46 (d + 1) _ rfl]
  have key := l46 d l hb l.length 0 (by omega)
  simp at key
  simp [key]
theorem r23 (d : Nat) (s : ByteArray) (a g : Int) : ev (d + 1) 23 [.ag (V s a g), .ag (V s a g)] = some (B true, []) := by
  rw [s23 d _ rfl]
  simp 
theorem r20 (d : Nat) (L : Lf) (hb : L.df.length ≤ big) : ev (d + 3) 20 [.ag (lV L), .ag (lV L)] = some (B true, []) := by
  rw [s20 (d + 2) _ rfl]
  have r77 := r46 d L.df hb
  simp [r77, r23]
end Go.Proofs.YthnkioafikmmaaaDoor.walkS
