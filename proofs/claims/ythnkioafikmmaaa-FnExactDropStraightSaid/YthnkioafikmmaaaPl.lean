/- Contracts of the kit's shelf, laid at this program in plain words; no conditions. -/
import Derived.Shelf.SlLaysE0
import Derived.Test.YthnkioafikmmaaaProg
import Derived.KernelRfl
namespace Go.Proofs.Ythnkioafikmmaaa
open Go Go.Proofs Go.Shelf
def deleteI_ren : Go.Shelf.Ren := ⟨fun | 45 => 76 | n => n, fun | 22 => 91 | 23 => 2 | 3 => 3 | 4 => 4 | 0 => 0 | n => n, fun | n => n⟩
theorem deleteI : Go.Proofs.SlLaysE0.n45 Try.prog deleteI_ren := {
  mixed := by kernel_rfl
  f45 := ⟨Try.f76.name, by decide, Try.func76.trans (congrArg some (by kernel_rfl))⟩
  t0 := Try.underlying0
  a0 := Try.isAgg0
  z0 := Try.sizeOf0
  v0 := Try.zeroValue0
  t3 := Try.underlying3
  a3 := Try.isAgg3
  z3 := Try.sizeOf3
  v3 := Try.zeroValue3
  t4 := Try.underlying4
  a4 := Try.isAgg4
  z4 := Try.sizeOf4
  v4 := Try.zeroValue4
  t22 := Try.underlying91
  a22 := Try.isAgg91
  z22 := Try.sizeOf91
  v22 := Try.zeroValue91 }
end Go.Proofs.Ythnkioafikmmaaa
