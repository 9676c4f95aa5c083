/- What the functions that compare leaves compute, and the row of SameLeaf; no conditions. -/
import Derived.Test.YthnkioafikmmaaaDoorWLeaf
namespace Go.Proofs.YthnkioafikmmaaaDoor.walkS
open Go Go.Proofs.YthnkioafikmmaaaDoor.Ev
set_option linter.unusedSimpArgs false
/-- are two leaves alike? -/
def sameL (A C : Lf) : Bool := decide (A.id = C.id) && (decide (A.fl = C.fl) && (decide (A.num = C.num) && (eqq (A.sp, A.sh, A.gr) (C.sp, C.sh, C.gr) && (decide (A.wd = C.wd) && (decide (A.ln = C.ln) && decide (A.df = C.df))))))
end Go.Proofs.YthnkioafikmmaaaDoor.walkS
