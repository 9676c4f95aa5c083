/- What the program's SpeciesNames returns is what the reference's returns, in memory of its own; there is one case alone. -/
import Derived.Test.YtjdcohcdgdjobaaPFnExactSpeciesNamesx1
namespace Go.Proofs.Ytjdcohcdgdjobaa.Pure
open Go.RowKit Go.Proofs.Ytjdcohcdgdjobaa.PFnExactSpeciesNames Go.Proofs.YtjdcohcdgdjobaaW.PrintWords Go.Proofs.YtjdcohcdgdjobaaW.PrintLast

theorem FnExactSpeciesNames : laws_FnExactSpeciesNames.Pure := ⟨40, by decide +kernel⟩

end Go.Proofs.Ytjdcohcdgdjobaa.Pure
