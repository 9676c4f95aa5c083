/- The rows VeneerText and ReadVeneer; no conditions. -/
import Derived.Test.YthnkioafikmmaaaDoorWTl
import Derived.Test.YthnkioafikmmaaaDoorWLeaf
namespace Go.Proofs.YthnkioafikmmaaaDoor.walkS
open Go Go.Proofs.YthnkioafikmmaaaDoor.Ev
open Go.Lib
set_option linter.unusedSimpArgs false
set_option linter.unusedVariables false
abbrev blank : ByteArray := ⟨#[32]⟩
/-- a veneer as text -/
def vnB (s : ByteArray) (a g : Int) : ByteArray := s ++ blank ++ decB a ++ blank ++ decB g
theorem okS_in {s : ByteArray} {a g : Int} (h : okS s a g = true) : (0 ≤ a ∧ a ≤ 100) ∧ 0 ≤ g ∧ g ≤ 179 := by
  unfold okS inR at h
  simp only [Bool.and_eq_true, decide_eq_true_eq] at h
  exact ⟨h.2.1, h.2.2.2⟩
def vtB (s : ByteArray) (a g : Int) : ByteArray := ifb (okS s a g) (vnB s a g) ⟨#[]⟩
theorem vnB_sizes {s : ByteArray} {a g : Int} (hs : s.size ≤ 1048576) (h : okS s a g = true) : s.size + 1 ≤ 9000000000000000000 ∧ s.size + 1 + (decB a).size ≤ 9000000000000000000 ∧ s.size + 1 + (decB a).size + 1 ≤ 9000000000000000000 ∧ s.size + 1 + (decB a).size + 1 + (decB g).size ≤ 9000000000000000000 := by
  obtain ⟨h1, h2⟩ := okS_in h
  have d1 := decB_size (n := a) (by omega) (by omega)
  have d2 := decB_size (n := g) (by omega) (by omega)
  omega
theorem sz32 : (⟨#[32]⟩ : ByteArray).size = 1 := rfl
theorem r12 (d : Nat) (s : ByteArray) (a g : Int) (hs : s.size ≤ 1048576) : ev (d + 5) 12 [.ag (V s a g)] = some (T (vtB s a g), []) := by
  rw [s12 (d + 4) _ rfl]
  have p1 := r33 (d + 1) s a g
  rw [ok_same] at p1
  unfold vtB
  cases h : okS s a g
  · rw [h] at p1
    simp [p1]
  · rw [h] at p1
    obtain ⟨h1, h2⟩ := okS_in h
    have p2 := r34 (d + 3) a (by omega) (by omega)
    have p3 := r34 (d + 3) g (by omega) (by omega)
    obtain ⟨z1, z2, z3, z4⟩ := vnB_sizes hs h
    simp [p1, p2, p3, z1, z2, z3, z4, vnB, blank, sz32, ByteArray.size_append]
/-- the veneer with a text -/
def rvX (s a b : ByteArray) : (ByteArray × Int × Int) × Bool := ifb ((rdN a).2 && ((rdN b).2 && okS s (rdN a).1 (rdN b).1)) ((s, (rdN a).1, (rdN b).1), true) ((⟨#[]⟩, 0, 0), false)
def rvO (s : ByteArray) : (ByteArray × Int × Int) × Bool := match splitL s blank with | [a, b, c] => rvX a b c | _ => ((⟨#[]⟩, 0, 0), false)
theorem r22 (d : Nat) (s : ByteArray) (hs : s.size ≤ 1048576) : ev (d + 4) 22 [T s] = some (.tu [.ag (V (rvO s).1.1 (rvO s).1.2.1 (rvO s).1.2.2), B (rvO s).2], []) := by
  rw [s22 (d + 3) _ rfl]
  have p1 := p48 (d + 3) s 32 (by omega)
  have hz := pcs_size s 32
  unfold rvO
  generalize splitL s ⟨#[32]⟩ = xs at p1 hz ⊢
  rcases xs with _ | ⟨a, _ | ⟨b, _ | ⟨c, _ | ⟨e, xs⟩⟩⟩⟩
  · simp [p1]
  · simp [p1]
  · simp [p1]
  · have h1 := hz b (by simp)
    have h2 := hz c (by simp)
    have p2 := r49 d b (by simp only [big]; omega)
    have p3 := r49 d c (by simp only [big]; omega)
    have p4 := r33 d a (rdN b).1 (rdN c).1
    rw [ok_same] at p4
    simp only [rvX]
    generalize rdN b = x at p2 p4 ⊢
    generalize rdN c = y at p3 p4 ⊢
    obtain ⟨x1, x2⟩ := x
    obtain ⟨y1, y2⟩ := y
    simp only at p2 p3 p4 ⊢
    cases x2 <;> cases y2 <;> cases hk : okS a x1 y1 <;> rw [hk] at p4 <;> simp [p1, p2, p3, p4]
  · have h3 : ¬ ((xs.length : Int) + 1 + 1 + 1 + 1 = 3) := by omega
    simp [p1, h3]
theorem r47 (d : Nat) (s : ByteArray) (hs : s.size ≤ 1048576) : ev (d + 4) 47 [T s] = some (.tu [.ag (V (rvO s).1.1 (rvO s).1.2.1 (rvO s).1.2.2), B (rvO s).2], []) := by
  rw [s47 (d + 3) _ rfl]
  have p1 := r78 (d + 2) s 32 (by omega)
  have hz := pcs_size s 32
  unfold rvO
  generalize splitL s ⟨#[32]⟩ = xs at p1 hz ⊢
  simp at p1
  rcases xs with _ | ⟨a, _ | ⟨b, _ | ⟨c, _ | ⟨e, xs⟩⟩⟩⟩
  · simp at p1; simp [p1]
  · simp at p1; simp [p1]
  · simp at p1; simp [p1]
  · have h1 := hz b (by simp)
    have h2 := hz c (by simp)
    have p2 := r79 (d + 1) b (by simp only [big]; omega)
    have p3 := r79 (d + 1) c (by simp only [big]; omega)
    have p4 := r31 d a (rdN b).1 (rdN c).1 []
    simp only [rvX]
    generalize rdN b = x at p2 p4 ⊢
    generalize rdN c = y at p3 p4 ⊢
    obtain ⟨x1, x2⟩ := x
    obtain ⟨y1, y2⟩ := y
    simp only at p2 p3 p4 ⊢
    simp at p1
    cases x2 <;> cases y2 <;> cases hk : okS a x1 y1 <;> rw [hk] at p4 <;> simp [p1, p2, p3, p4]
  · have h3 : ¬ ((xs.length : Int) + 1 + 1 + 1 + 1 = 3) := by omega
    simp at p1
    simp [p1, h3]
end Go.Proofs.YthnkioafikmmaaaDoor.walkS
