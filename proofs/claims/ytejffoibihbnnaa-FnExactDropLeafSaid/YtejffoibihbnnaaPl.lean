/- Contracts of the kit's shelf, laid at this program in plain words; no conditions. -/
import Derived.Shelf.SlLaysE0
import Derived.Shelf.Small.Strs
import Derived.Test.YtejffoibihbnnaaProg
import Derived.KernelRfl
namespace Go.Proofs.Ytejffoibihbnnaa
open Go Go.Proofs Go.Shelf
def deleteLeaf_ren : Go.Shelf.Ren := ⟨fun | 45 => 106 | n => n, fun | 22 => 57 | 23 => 35 | 3 => 3 | 4 => 4 | 0 => 0 | n => n, fun | n => n⟩
theorem deleteLeaf : Go.Proofs.SlLaysE0.n45 Try.prog deleteLeaf_ren := {
  mixed := by kernel_rfl
  f45 := ⟨Try.f106.name, by decide, Try.func106.trans (congrArg some (by kernel_rfl))⟩
  t0 := Try.underlying0
  a0 := Try.isAgg0
  z0 := Try.sizeOf0
  v0 := Try.zeroValue0
  t3 := Try.underlying3
  a3 := Try.isAgg3
  z3 := Try.sizeOf3
  v3 := Try.zeroValue3
  t4 := Try.underlying4
  a4 := Try.isAgg4
  z4 := Try.sizeOf4
  v4 := Try.zeroValue4
  t22 := Try.underlying57
  a22 := Try.isAgg57
  z22 := Try.sizeOf57
  v22 := Try.zeroValue57 }
def compare_ren : Go.Shelf.Ren := ⟨fun | 106 => 194 | 213 => 255 | 265 => 294 | n => n, fun | 9 => 9 | 3 => 3 | n => n, fun | n => n⟩
theorem compare : Go.Proofs.Lays.n106 Try.prog compare_ren := {
  mixed := by kernel_rfl
  f106 := Try.func194.trans (congrArg some (by kernel_rfl))
  f213 := Try.func255.trans (congrArg some (by kernel_rfl))
  f265 := Try.func294.trans (congrArg some (by kernel_rfl))
  t3 := Try.underlying3
  a3 := Try.isAgg3
  z3 := Try.sizeOf3
  v3 := Try.zeroValue3
  t9 := Try.underlying9
  a9 := Try.isAgg9
  z9 := Try.sizeOf9
  v9 := Try.zeroValue9 }
end Go.Proofs.Ytejffoibihbnnaa
