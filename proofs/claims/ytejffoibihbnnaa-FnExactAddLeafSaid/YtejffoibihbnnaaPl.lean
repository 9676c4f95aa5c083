/- Contracts of the kit's shelf, laid at this program in plain words; no conditions. -/
import Derived.Shelf.Small.Strs
import Derived.Test.YtejffoibihbnnaaProg
import Derived.KernelRfl
namespace Go.Proofs.Ytejffoibihbnnaa
open Go Go.Proofs Go.Shelf
def compare_ren : Go.Shelf.Ren := ⟨fun | 106 => 194 | 213 => 255 | 265 => 294 | n => n, fun | 9 => 9 | 3 => 3 | n => n, fun | n => n⟩
theorem compare : Go.Proofs.Lays.n106 Try.prog compare_ren := {
  mixed := by kernel_rfl
  f106 := Try.func194.trans (congrArg some (by kernel_rfl))
  f213 := Try.func255.trans (congrArg some (by kernel_rfl))
  f265 := Try.func294.trans (congrArg some (by kernel_rfl))
  t3 := Try.underlying3
  a3 := Try.isAgg3
  z3 := Try.sizeOf3
  v3 := Try.zeroValue3
  t9 := Try.underlying9
  a9 := Try.isAgg9
  z9 := Try.sizeOf9
  v9 := Try.zeroValue9 }
end Go.Proofs.Ytejffoibihbnnaa
