/- The rows SameLeaf, ValidLeaf and DefectAt: they return true; no conditions. -/
import Derived.Test.YthnkioafikmmaaaDoorWMeet
namespace Go.Proofs.YthnkioafikmmaaaDoor.walkS
open Go Go.Proofs.YthnkioafikmmaaaDoor.Ev
set_option linter.unusedSimpArgs false
/-- what is known of a leaf that comes in -/
structure WfL (L : Lf) : Prop where
  id : L.id.size ≤ maxLen
  fl : L.fl.size ≤ maxLen
  sp : L.sp.size ≤ maxLen
  df : L.df.length ≤ maxLen
theorem szL_bounds {n k : Int} {L : Lf} (hn : 0 ≤ n ∧ n ≤ 1048576) (w : WfL L) (h : szL n k L) : L.df.length ≤ big ∧ L.id.size ≤ big ∧ L.fl.size ≤ big ∧ L.sp.size ≤ big ∧ 0 ≤ k ∧ k ≤ 1048576 := by
  obtain ⟨a1, a2, a3, a4, a5⟩ := h
  obtain ⟨b1, c1⟩ := sz1_ok hn w.id a1
  obtain ⟨b2, c2⟩ := sz1_ok (by omega) w.fl a2
  obtain ⟨b3, c3⟩ := sz1_ok (by omega) w.sp a3
  rw [a5] at a4
  obtain ⟨b4, c4⟩ := sz1_ok (by omega) w.df a4
  simp only [big]
  refine ⟨by omega, by omega, by omega, by omega, by omega, by omega⟩
end Go.Proofs.YthnkioafikmmaaaDoor.walkS
