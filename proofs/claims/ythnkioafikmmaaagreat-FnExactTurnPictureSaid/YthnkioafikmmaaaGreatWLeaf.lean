/- What the functions about leaves compute; no conditions. -/
import Derived.Test.YthnkioafikmmaaaGreatWRows
import Derived.Test.YthnkioafikmmaaaGreatWVeneer
namespace Go.Proofs.YthnkioafikmmaaaGreat.walkS
open Go Go.Proofs.YthnkioafikmmaaaGreat.Ev
set_option linter.unusedSimpArgs false
abbrev Bx := Int × Int × Int × Int
abbrev bC (b : Bx) : List Cell := [.sc (.int .i64 b.1), .sc (.int .i64 b.2.1), .sc (.int .i64 b.2.2.1), .sc (.int .i64 b.2.2.2)]
abbrev bV (b : Bx) : List LV := [I b.1, I b.2.1, I b.2.2.1, I b.2.2.2]
abbrev zB : List Cell := [.sc (.int .i64 0), .sc (.int .i64 0), .sc (.int .i64 0), .sc (.int .i64 0)]
theorem bC_shut (b : Bx) : (bC b).map shutC = bC b := rfl
theorem shut_bC (l : List Bx) : shut (l.map bC) = l.map bC := shut_map bC_shut l
attribute [simp high] shut_bC
structure Lf where
  id : ByteArray
  fl : ByteArray
  num : Int
  sp : ByteArray
  sh : Int
  gr : Int
  wd : Int
  ln : Int
  df : List Bx
  deriving DecidableEq
abbrev lA (L : Lf) (x : LV) : List LV := [T L.id, T L.fl, I L.num, T L.sp, I L.sh, I L.gr, I L.wd, I L.ln, x]
abbrev lV (L : Lf) : List LV := lA L (.ro 4 (L.df.map bC))
theorem z62 (d : Nat) (s : ByteArray) (a g n : Int) : ev (d + 1) 62 [.ag (V s a g), I n] = some (I (sz1 n s.size), []) := by
  rw [s62 d _ rfl]
  unfold sz1
  by_cases hc : W (n - s.size) < 0 <;> simp only [W] at hc <;> simp [hc, W]
/-- what is left behind a leaf, if anything is -/
def szL (n k : Int) (L : Lf) : Prop :=
  0 ≤ sz1 n L.id.size ∧ 0 ≤ sz1 (sz1 n L.id.size) L.fl.size ∧ 0 ≤ sz1 (sz1 (sz1 n L.id.size) L.fl.size) L.sp.size ∧ 0 ≤ k ∧ k = sz1 (sz1 (sz1 (sz1 n L.id.size) L.fl.size) L.sp.size) L.df.length
theorem szL_ok {n k : Int} {L : Lf} (hn : 0 ≤ n ∧ n ≤ 1048576) (h1 : L.id.size ≤ maxLen) (h2 : L.fl.size ≤ maxLen) (h3 : L.sp.size ≤ maxLen) (h4 : L.df.length ≤ maxLen) (h : szL n k L) : L.df.length ≤ 1048576 ∧ 0 ≤ k ∧ k ≤ 1048576 ∧ L.df.length ≤ big := by
  obtain ⟨a1, a2, a3, a4, a5⟩ := h
  obtain ⟨b1, c1⟩ := sz1_ok hn h1 a1
  obtain ⟨b2, c2⟩ := sz1_ok (by omega) h2 a2
  obtain ⟨b3, c3⟩ := sz1_ok (by omega) h3 a3
  rw [a5] at a4
  obtain ⟨b4, c4⟩ := sz1_ok (by omega) h4 a4
  refine ⟨by omega, by omega, by omega, by simp only [big]; omega⟩
theorem r70 (d : Nat) (s : ByteArray) (a g : Int) : ev (d + 1) 70 [.ag (V s a g), .ag (V s a g)] = some (B true, []) := by
  rw [s70 d _ rfl]
  simp 
end Go.Proofs.YthnkioafikmmaaaGreat.walkS
