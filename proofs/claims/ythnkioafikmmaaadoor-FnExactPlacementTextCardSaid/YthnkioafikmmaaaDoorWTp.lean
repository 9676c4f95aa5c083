/- The rows PlacementText and ReadPlacement; no conditions. -/
import Derived.Test.YthnkioafikmmaaaDoorWTk
import Derived.Test.YthnkioafikmmaaaDoorWPlb
namespace Go.Proofs.YthnkioafikmmaaaDoor.walkS
open Go Go.Proofs.YthnkioafikmmaaaDoor.Ev
open Go.Lib
set_option linter.unusedSimpArgs false
set_option linter.unusedVariables false
theorem okG_in {p : Pl} (h : okG p = true) : ∀ x ∈ [p.1, p.2.1, p.2.2.1, p.2.2.2.1, p.2.2.2.2], inR x (-1000000000000) 1000000000000 = true := by
  unfold okG inR at h
  simp only [Bool.and_eq_true, decide_eq_true_eq] at h
  intro x hx
  unfold inR
  simp only [Bool.and_eq_true, decide_eq_true_eq]
  simp only [List.mem_cons, List.mem_nil_iff, or_false] at hx
  rcases hx with rfl | rfl | rfl | rfl | rfl <;> omega
def ptB (p : Pl) : ByteArray := ifb (okG p) (lsB [p.1, p.2.1, p.2.2.1, p.2.2.2.1, p.2.2.2.2]) ⟨#[]⟩
theorem r13 (d : Nat) (p : Pl) : ev (d + 5) 13 [.ag (gV p)] = some (T (ptB p), []) := by
  rw [s13 (d + 4) _ rfl]
  have p1 := r35 (d + 1) p
  unfold ptB
  cases h : okG p
  · rw [h] at p1
    simp [p1]
  · rw [h] at p1
    have p2 := r66 (d + 1) [p.1, p.2.1, p.2.2.1, p.2.2.2.1, p.2.2.2.2] (by simp) (okG_in h)
    have p3 : ev (d + 4) 36 [.rp (gV p)] = some (T (lsB [p.1, p.2.1, p.2.2.1, p.2.2.2.1, p.2.2.2.2]), []) := by
      rw [s36 (d + 3) _ rfl]
      simp [iC] at p2
      simp [shut, shutC, p2]
    simp [p1, p3]
theorem r15 (d : Nat) (p : Pl) : ev (d + 5) 15 [.ag (gV p)] = some (T (ptB p), []) := by
  rw [s15 (d + 4) _ rfl]
  have p1 := r37 (d + 1) p
  unfold ptB
  cases h : okG p
  · rw [h] at p1
    simp [p1]
  · rw [h] at p1
    have p2 := r38 (d + 1) [p.1, p.2.1, p.2.2.1, p.2.2.2.1, p.2.2.2.2] (by simp) (okG_in h)
    simp [iC] at p2
    simp [shut, shutC, p1, p2]
theorem r4 (d : Nat) (p : Pl) : ev (d + 6) 4 [.ag (gV p)] = some (B true, []) := by
  rw [s4 (d + 5) _ rfl]
  have t1 := r14 (d + 4) p.1 p.2.1 p.2.2.1 p.2.2.2.1 p.2.2.2.2
  have g1 := r13 d p
  have g2 := r15 d p
  simp [t1, g1, g2]
/-- the placement with a text -/
def rpX (r : Option (List Int)) : Pl × Bool := match r with | some [a, b, c, e, f] => ifb (okG (a, b, c, e, f)) ((a, b, c, e, f), true) ((0, 0, 0, 0, 0), false) | _ => ((0, 0, 0, 0, 0), false)
def rpO (s : ByteArray) : Pl × Bool := if s = ⟨#[45]⟩ then ((0, 0, 0, 0, 0), false) else rpX (rlO s)
end Go.Proofs.YthnkioafikmmaaaDoor.walkS
