/- The functions of Go's library whose contracts are the shelf's; no conditions. -/
import Derived.Test.YthnkioafikmmaaaEvd
import Derived.Test.YthnkioafikmmaaaPl
import Derived.KernelRfl
namespace Go.Proofs.Ythnkioafikmmaaa.walkS
open Go Go.Proofs.Ythnkioafikmmaaa.Ev
set_option linter.unusedVariables false
def prim : CallF := fun f args => if f = mvN + 76 then pDelete 1 args else none
theorem elDI : ElK Try.prog 2 1 := ⟨by decide, ⟨_, Try.zeroValue2, rfl, by simp [Value.cells, Value.oneCell']⟩, Try.sizeOf2, Option.map_eq_some_iff.1 (by kernel_rfl : (Try.prog.info? 2).map (·.size) = some 1)⟩
theorem prim_ok : CallOk [] Try.prog prim := by
  have hmv : mvN = 2000000 := rfl
  have hwr : wrN = 1000000 := rfl
  have hpu : puN = 3000000 := rfl
  intro g args r h
  unfold prim at h
  split at h
  · exfalso
    unfold pDelete at h
    repeat (first | cases h | split at h)
  cases h
theorem prim_okW : CallW [] Try.prog prim := by
  have hmv : mvN = 2000000 := rfl
  have hwr : wrN = 1000000 := rfl
  have hpu : puN = 3000000 := rfl
  refine ⟨fun g ys r ys' hg hne hrv h => ?_, fun g ys r hg h => ?_, fun g ys r ys' lo hg hne hrv h => ?_⟩
  · unfold prim at h
    rw [if_neg (by omega)] at h
    cases h
  · unfold prim at h
    split at h
    · rename_i e
      have e2 : g = 76 := by omega
      subst e2
      exact ⟨by kernel_rfl, pDelete_ok deleteI elDI h⟩
    cases h
  · unfold prim at h
    rw [if_neg (by omega)] at h
    cases h
theorem prim_deleteI (e i j : Nat) (rows : List (List Cell)) (h1 : i ≤ j) (h2 : j ≤ rows.length) (hk : known rows = true) : prim (mvN + 76) [.ow e 1 rows, .sc (.int .i64 i), .sc (.int .i64 j)] = some (.ow e 1 (rows.take i ++ rows.drop j), [.un]) := by
  unfold prim
  rw [if_pos rfl]
  exact pDelete_eq h1 h2 hk
end Go.Proofs.Ythnkioafikmmaaa.walkS
