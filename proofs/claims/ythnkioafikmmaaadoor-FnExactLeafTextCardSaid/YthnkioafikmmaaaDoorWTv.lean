/- The rows VeneerText and ReadVeneer; no conditions. -/
import Derived.Test.YthnkioafikmmaaaDoorWTl
import Derived.Test.YthnkioafikmmaaaDoorWLeaf
namespace Go.Proofs.YthnkioafikmmaaaDoor.walkS
open Go Go.Proofs.YthnkioafikmmaaaDoor.Ev
open Go.Lib
set_option linter.unusedSimpArgs false
set_option linter.unusedVariables false
abbrev blank : ByteArray := ⟨#[32]⟩
/-- a veneer as text -/
def vnB (s : ByteArray) (a g : Int) : ByteArray := s ++ blank ++ decB a ++ blank ++ decB g
theorem okS_in {s : ByteArray} {a g : Int} (h : okS s a g = true) : (0 ≤ a ∧ a ≤ 100) ∧ 0 ≤ g ∧ g ≤ 179 := by
  unfold okS inR at h
  simp only [Bool.and_eq_true, decide_eq_true_eq] at h
  exact ⟨h.2.1, h.2.2.2⟩
def vtB (s : ByteArray) (a g : Int) : ByteArray := ifb (okS s a g) (vnB s a g) ⟨#[]⟩
theorem vnB_sizes {s : ByteArray} {a g : Int} (hs : s.size ≤ 1048576) (h : okS s a g = true) : s.size + 1 ≤ 9000000000000000000 ∧ s.size + 1 + (decB a).size ≤ 9000000000000000000 ∧ s.size + 1 + (decB a).size + 1 ≤ 9000000000000000000 ∧ s.size + 1 + (decB a).size + 1 + (decB g).size ≤ 9000000000000000000 := by
  obtain ⟨h1, h2⟩ := okS_in h
  have d1 := decB_size (n := a) (by omega) (by omega)
  have d2 := decB_size (n := g) (by omega) (by omega)
  omega
theorem sz32 : (⟨#[32]⟩ : ByteArray).size = 1 := rfl
theorem r32 (d : Nat) (s : ByteArray) (a g : Int) (rest : List LV) (hs : s.size ≤ 1048576) (h : okS s a g = true) : ev (d + 2) 32 [.rp (T s :: I a :: I g :: rest)] = some (T (vnB s a g), []) := by
  rw [s32 (d + 1) _ rfl]
  obtain ⟨h1, h2⟩ := okS_in h
  have p1 := r61 d a (by omega) (by omega)
  have p2 := r61 d g (by omega) (by omega)
  obtain ⟨z1, z2, z3, z4⟩ := vnB_sizes hs h
  simp [p1, p2, z1, z2, z3, z4, vnB, blank, sz32, ByteArray.size_append]
theorem r12 (d : Nat) (s : ByteArray) (a g : Int) (hs : s.size ≤ 1048576) : ev (d + 5) 12 [.ag (V s a g)] = some (T (vtB s a g), []) := by
  rw [s12 (d + 4) _ rfl]
  have p1 := r33 (d + 1) s a g
  rw [ok_same] at p1
  unfold vtB
  cases h : okS s a g
  · rw [h] at p1
    simp [p1]
  · rw [h] at p1
    obtain ⟨h1, h2⟩ := okS_in h
    have p2 := r34 (d + 3) a (by omega) (by omega)
    have p3 := r34 (d + 3) g (by omega) (by omega)
    obtain ⟨z1, z2, z3, z4⟩ := vnB_sizes hs h
    simp [p1, p2, p3, z1, z2, z3, z4, vnB, blank, sz32, ByteArray.size_append]
/-- the veneer with a text -/
def rvX (s a b : ByteArray) : (ByteArray × Int × Int) × Bool := ifb ((rdN a).2 && ((rdN b).2 && okS s (rdN a).1 (rdN b).1)) ((s, (rdN a).1, (rdN b).1), true) ((⟨#[]⟩, 0, 0), false)
def rvO (s : ByteArray) : (ByteArray × Int × Int) × Bool := match splitL s blank with | [a, b, c] => rvX a b c | _ => ((⟨#[]⟩, 0, 0), false)
end Go.Proofs.YthnkioafikmmaaaDoor.walkS
