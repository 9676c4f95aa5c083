/- The functions of Go's library whose contracts are the shelf's; no conditions. -/
import Derived.Test.YthnkioafikmmaaaGreatEvh
import Derived.Test.YthnkioafikmmaaaGreatPl
import Derived.KernelRfl
namespace Go.Proofs.YthnkioafikmmaaaGreat.walkS
open Go Go.Proofs.YthnkioafikmmaaaGreat.Ev
set_option linter.unusedVariables false
def prim : CallF := fun f args => if f = wrN + 30 then pSortS args else if f = mvN + 31 then pCompactS args else none
theorem prim_ok : CallOk [] Tryz.prog prim := by
  have hmv : mvN = 2000000 := rfl
  have hwr : wrN = 1000000 := rfl
  have hpu : puN = 3000000 := rfl
  intro g args r h
  unfold prim at h
  split at h
  · exfalso
    unfold pSortS at h
    repeat (first | cases h | split at h)
  split at h
  · exfalso
    unfold pCompactS at h
    repeat (first | cases h | split at h)
  cases h
theorem prim_okW : CallW [] Tryz.prog prim := by
  have hmv : mvN = 2000000 := rfl
  have hwr : wrN = 1000000 := rfl
  have hpu : puN = 3000000 := rfl
  refine ⟨fun g ys r ys' hg hne hrv h => ?_, fun g ys r hg h => ?_, fun g ys r ys' lo hg hne hrv h => ?_⟩
  · unfold prim at h
    split at h
    · rename_i e
      have e2 : g = 30 := by omega
      subst e2
      exact ⟨by kernel_rfl, pSortS_ok sortS h⟩
    rw [if_neg (by omega)] at h
    cases h
  · unfold prim at h
    rw [if_neg (by omega)] at h
    split at h
    · rename_i e
      have e2 : g = 31 := by omega
      subst e2
      exact ⟨by kernel_rfl, pCompactS_ok compactS h⟩
    cases h
  · unfold prim at h
    rw [if_neg (by omega)] at h
    rw [if_neg (by omega)] at h
    cases h
theorem prim_sortS (e : Nat) (zs : List ByteArray) (h : zs.length ≤ big) : prim (wrN + 30) [.ow e 1 (zs.map bR)] = some (.tu [], [.ow e 1 ((sortB zs).map bR)]) := by
  unfold prim
  rw [if_pos rfl]
  exact pSortS_eq h
theorem prim_compactS (e : Nat) (zs : List ByteArray) (h : zs.length ≤ big) : prim (mvN + 31) [.ow e 1 (zs.map bR)] = some (.ow e 1 ((compB zs).map bR), [.un]) := by
  unfold prim
  rw [if_neg (by decide)]
  rw [if_pos rfl]
  exact pCompactS_eq h
end Go.Proofs.YthnkioafikmmaaaGreat.walkS
