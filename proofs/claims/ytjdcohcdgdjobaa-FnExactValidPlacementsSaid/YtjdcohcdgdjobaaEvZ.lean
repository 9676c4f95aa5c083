/- All functions at once. -/
import Derived.Test.YtjdcohcdgdjobaaEvY
namespace Go.Proofs.Ytjdcohcdgdjobaa.Ev
open Go
set_option linter.unusedVariables false
set_option linter.unusedSimpArgs false

theorem evF_ok {P : Program} (hm : P.follows .mixedOrders = true) {F : Nat → Option Fn} {prim : CallF} (hF : ∀ f fn, F f = some fn → enterOk P f = true ∧ ∃ ks, cFn P f ks = some fn) (hp : CallOk P prim) : ∀ d, CallOk P (evF F prim d) := by
  intro d
  induction d with
  | zero => exact hp
  | succ d ih =>
    intro g args r h
    simp only [evF] at h
    split at h
    · rename_i fn hfn
      obtain ⟨h1, ks, h2⟩ := hF g fn hfn
      split at h
      · rename_i hl
        obtain ⟨k1, k2⟩ := fn_contract ih hm h2 hl h
        exact ⟨h1, k1, k2⟩
      · cases h
    · exact hp g args r h

theorem noPrim_ok (P : Program) : CallOk P (fun _ _ => none) := fun _ _ _ h => by cases h
end Go.Proofs.Ytjdcohcdgdjobaa.Ev
