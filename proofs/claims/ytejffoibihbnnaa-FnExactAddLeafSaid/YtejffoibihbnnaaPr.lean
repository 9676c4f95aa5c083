/- The functions of Go's library whose contracts are the shelf's; no conditions. -/
import Derived.Test.YtejffoibihbnnaaEve
import Derived.Test.YtejffoibihbnnaaEvg
import Derived.Test.YtejffoibihbnnaaPl
import Derived.KernelRfl
namespace Go.Proofs.Ytejffoibihbnnaa.walkS
open Go Go.Proofs.Ytejffoibihbnnaa.Ev
def prim : CallF := fun f args => if f = mvN + 112 then pInsert 35 9 args else if f = 194 then pCompare args else none
open Go.Proofs in
def insertLeaf_ren : Go.Shelf.Ren := ⟨fun | 22 => 112 | 29 => 195 | 30 => 196 | n => n, fun | 24 => 57 | 9 => 35 | n => n, fun n => n⟩
open Go.Proofs in
theorem insertLeaf : InsK Try.prog insertLeaf_ren := {
  mixed := by kernel_rfl
  f22 := ⟨Try.f112.name, by decide, Try.func112.trans (congrArg some (by kernel_rfl))⟩
  ov := fun args w => run_callFunc_extern Try.func195 (by kernel_rfl) (by kernel_rfl) (by kernel_rfl) (by kernel_rfl) args w
  t0 := Try.underlying0
  a0 := Try.isAgg0
  z0 := Try.sizeOf0
  v0 := Try.zeroValue0
  t3 := Try.underlying3
  a3 := Try.isAgg3
  z3 := Try.sizeOf3
  v3 := Try.zeroValue3
  t4 := Try.underlying4
  a4 := Try.isAgg4
  z4 := Try.sizeOf4
  v4 := Try.zeroValue4
  t24 := Try.underlying57
  a24 := Try.isAgg57
  z24 := Try.sizeOf57
  v24 := Try.zeroValue57 }
theorem elILeaf : ElI Try.prog 35 9 := ElI.of (by decide) Try.sizeOf35 (by kernel_rfl)
theorem prim_ok : CallOk [] Try.prog prim := by
  have hmv : mvN = 2000000 := rfl
  have hwr : wrN = 1000000 := rfl
  intro g args r h
  unfold prim at h
  split at h
  · exfalso
    unfold pInsert at h
    repeat (first | cases h | split at h)
  split at h
  · rename_i e2
    subst e2
    exact ⟨by kernel_rfl, pCompare_ok compare h⟩
  cases h
theorem prim_okW : CallW [] Try.prog prim := by
  have hmv : mvN = 2000000 := rfl
  have hwr : wrN = 1000000 := rfl
  refine ⟨fun g ys r ys' hg hne hrv h => ?_, fun g ys r hg h => ?_⟩
  · unfold prim at h
    rw [if_neg (by omega)] at h
    rw [if_neg (by omega)] at h
    cases h
  · unfold prim at h
    split at h
    · rename_i e
      have e2 : g = 112 := by omega
      subst e2
      exact ⟨by kernel_rfl, pInsert_ok insertLeaf elILeaf h⟩
    rw [if_neg (by omega)] at h
    cases h
theorem prim_insertLeaf (e2 i : Nat) (rows vrows : List (List Cell)) (h1 : i ≤ rows.length) (h2 : 0 < vrows.length) (h3 : rows.length + vrows.length ≤ 1000000) (hk : known rows = true) (hv : known vrows = true) : prim (mvN + 112) [.ow 35 9 rows, .sc (.int .i64 i), .ow e2 9 vrows] = some (.ow 35 9 (rows.take i ++ (vrows ++ rows.drop i)), [.un]) := by
  unfold prim
  rw [if_pos rfl]
  exact pInsert_eq h1 h2 h3 hk hv
theorem prim_compare (a b : ByteArray) : prim (194) [.sc (.string a), .sc (.string b)] = some (.sc (.int .i64 (Lib.compareBytes a.data.toList b.data.toList)), []) := by
  unfold prim
  rw [if_neg (by decide)]
  rw [if_pos rfl]
  exact rfl
end Go.Proofs.Ytejffoibihbnnaa.walkS
