/- What the program's GrainAngle computes is what the reference's computes, for all pairs of integers of 64 bits. -/
import Derived.Test.YtjdcohcdgdjobaaPFnExactGrainAnglex1
namespace Go.Proofs.Ytjdcohcdgdjobaa.Pure
open Go.RowKit Go.Proofs.Ytjdcohcdgdjobaa.PFnExactGrainAngle Go.Proofs.YtjdcohcdgdjobaaW.PrintWords Go.Proofs.YtjdcohcdgdjobaaW.PrintLast

theorem FnExactGrainAngle : laws_FnExactGrainAngle.Pure := by
  intro a b ha hb
  unfold laws_FnExactGrainAngle.f spec_GrainAngle.f impl_GrainAngle.f spec_l07Grain.f spec_l00In.f impl_within.f spec_l07Angle.f spec_l00Max.f spec_l00Min.f
  by_cases h1 : 0 ≤ a ∧ a ≤ 179
  · by_cases h2 : 0 ≤ b ∧ b ≤ 179
    · have w1 : wrap64 (a - b) = a - b := by unfold wrap64; omega
      have w2 : wrap64 (b - a) = b - a := by unfold wrap64; omega
      obtain ⟨h1a, h1b⟩ := h1
      obtain ⟨h2a, h2b⟩ := h2
      have e1 : (if a - b > b - a then (some (a - b)) else (some (b - a)) : Option Int) = some (mx (a - b) (b - a)) := by unfold mx; split <;> split <;> first | rfl | (congr 1; omega)
      simp only [ge_iff_le, h1a, h1b, h2a, h2b, if_pos, Option.bind_some, decide_true, w1, w2, e1]
      have e2 : ∀ m : Int, (if m < wrap64 (180 - m) then (some m) else (some (wrap64 (180 - m))) : Option Int) = some (mn m (wrap64 (180 - m))) := by intro m; unfold mn; split <;> split <;> first | rfl | (congr 1; omega)
      simp [e2]
    · rcases Int.lt_or_le b 0 with h | h
      · simp [h1.1, h1.2, show ¬ (0 ≤ b) by omega]
      · simp [h1.1, h1.2, h, show ¬ (b ≤ 179) by omega]
  · rcases Int.lt_or_le a 0 with h | h
    · simp [show ¬ (0 ≤ a) by omega]
    · simp [h, show ¬ (a ≤ 179) by omega]

end Go.Proofs.Ytjdcohcdgdjobaa.Pure
