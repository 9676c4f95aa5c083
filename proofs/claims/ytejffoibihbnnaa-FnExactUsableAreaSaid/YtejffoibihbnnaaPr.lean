/- The functions of Go's library whose contracts are the shelf's; no conditions. -/
import Derived.Test.YtejffoibihbnnaaEvb
import Derived.Test.YtejffoibihbnnaaPl
namespace Go.Proofs.Ytejffoibihbnnaa.walkS
open Go Go.Proofs.Ytejffoibihbnnaa.Ev
def prim : CallF := fun f args => if f = wrN + 118 then pSortI args else if f = mvN + 119 then pCompactI args else none
theorem prim_ok : CallOk [] Try.prog prim := by
  intro g args r h
  unfold prim at h
  split at h
  · exfalso
    unfold pSortI at h
    repeat (first | cases h | split at h)
  split at h
  · exfalso
    unfold pCompactI at h
    repeat (first | cases h | split at h)
  cases h
theorem prim_okW : CallW [] Try.prog prim := by
  have hmv : mvN = 2000000 := rfl
  have hwr : wrN = 1000000 := rfl
  refine ⟨fun g ys r ys' hg hne hrv h => ?_, fun g ys r hg h => ?_⟩
  · unfold prim at h
    split at h
    · rename_i e
      have e2 : g = 118 := by omega
      subst e2
      exact ⟨by kernel_rfl, pSortI_ok sortI h⟩
    rw [if_neg (by omega)] at h
    cases h
  · unfold prim at h
    rw [if_neg (by omega)] at h
    split at h
    · rename_i e
      have e2 : g = 119 := by omega
      subst e2
      exact ⟨by kernel_rfl, pCompactI_ok compactI h⟩
    cases h
theorem prim_sortI (e : Nat) (zs : List Int) (h : zs.length ≤ big) : prim (wrN + 118) [.ow e 1 (zs.map iR)] = some (.tu [], [.ow e 1 ((sortZ zs).map iR)]) := by
  unfold prim
  rw [if_pos rfl]
  exact pSortI_eq h
theorem prim_compactI (e : Nat) (zs : List Int) (h : zs.length ≤ big) : prim (mvN + 119) [.ow e 1 (zs.map iR)] = some (.ow e 1 ((Lib.compact zs).map iR), [.un]) := by
  unfold prim
  rw [if_neg (by decide)]
  rw [if_pos rfl]
  exact pCompactI_eq h
end Go.Proofs.Ytejffoibihbnnaa.walkS
