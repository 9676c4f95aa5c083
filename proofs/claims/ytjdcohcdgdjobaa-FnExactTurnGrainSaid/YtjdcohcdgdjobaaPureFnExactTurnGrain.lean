/- What the program's TurnGrain computes is what the reference's computes, for all pairs of integers of 64 bits. -/
import Derived.Test.YtjdcohcdgdjobaaPFnExactTurnGrainx1
namespace Go.Proofs.Ytjdcohcdgdjobaa.Pure
open Go.RowKit Go.Proofs.Ytjdcohcdgdjobaa.PFnExactTurnGrain Go.Proofs.YtjdcohcdgdjobaaW.PrintWords Go.Proofs.YtjdcohcdgdjobaaW.PrintLast

theorem FnExactTurnGrain : laws_FnExactTurnGrain.Pure := by
  intro a b ha hb
  refine ⟨1, ?_⟩
  unfold laws_FnExactTurnGrain.f spec_TurnGrain.f impl_TurnGrain.f spec_l07Grain.f spec_l03Turn.f spec_l00In.f impl_within.f spec_l07Turned.f
  simp only [impl_TurnGrain.j0]
  by_cases h1 : 0 ≤ a ∧ a ≤ 179
  · obtain ⟨h1a, h1b⟩ := h1
    by_cases h2 : 0 ≤ b ∧ b ≤ 7
    · obtain ⟨h2a, h2b⟩ := h2
      by_cases h3 : b > 3
      · simp [h1a, h1b, h2a, h2b, h3, show b ≥ 4 by omega]
      · simp [h1a, h1b, h2a, h2b, h3, show ¬ b ≥ 4 by omega]
    · rcases Int.lt_or_le b 0 with h | h
      · simp [h1a, h1b, show ¬ (0 ≤ b) by omega]
      · simp [h1a, h1b, h, show ¬ (b ≤ 7) by omega]
  · rcases Int.lt_or_le a 0 with h | h
    · simp [show ¬ (0 ≤ a) by omega]
    · simp [h, show ¬ (a ≤ 179) by omega]

end Go.Proofs.Ytjdcohcdgdjobaa.Pure
