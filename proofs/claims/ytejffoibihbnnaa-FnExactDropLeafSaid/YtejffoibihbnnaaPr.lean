/- The functions of Go's library whose contracts are the shelf's; no conditions. -/
import Derived.Test.YtejffoibihbnnaaEvd
import Derived.Test.YtejffoibihbnnaaEve
import Derived.Test.YtejffoibihbnnaaPl
import Derived.KernelRfl
namespace Go.Proofs.Ytejffoibihbnnaa.walkS
open Go Go.Proofs.Ytejffoibihbnnaa.Ev
def prim : CallF := fun f args => if f = mvN + 106 then pDelete 9 args else if f = 194 then pCompare args else none
theorem elLeaf : ElK Try.prog 35 9 := ⟨by decide, ⟨_, Try.zeroValue35, rfl, by simp [Value.cells, Value.oneCell']⟩, Try.sizeOf35, Option.map_eq_some_iff.1 (by kernel_rfl : (Try.prog.info? 35).map (·.size) = some 9)⟩
theorem prim_ok : CallOk [] Try.prog prim := by
  have hmv : mvN = 2000000 := rfl
  have hwr : wrN = 1000000 := rfl
  intro g args r h
  unfold prim at h
  split at h
  · exfalso
    unfold pDelete at h
    repeat (first | cases h | split at h)
  split at h
  · rename_i e2
    subst e2
    exact ⟨by kernel_rfl, pCompare_ok compare h⟩
  cases h
theorem prim_okW : CallW [] Try.prog prim := by
  have hmv : mvN = 2000000 := rfl
  have hwr : wrN = 1000000 := rfl
  refine ⟨fun g ys r ys' hg hne hrv h => ?_, fun g ys r hg h => ?_⟩
  · unfold prim at h
    rw [if_neg (by omega)] at h
    rw [if_neg (by omega)] at h
    cases h
  · unfold prim at h
    split at h
    · rename_i e
      have e2 : g = 106 := by omega
      subst e2
      exact ⟨by kernel_rfl, pDelete_ok deleteLeaf elLeaf h⟩
    rw [if_neg (by omega)] at h
    cases h
theorem prim_deleteLeaf (e i j : Nat) (rows : List (List Cell)) (h1 : i ≤ j) (h2 : j ≤ rows.length) (hk : known rows = true) : prim (mvN + 106) [.ow e 9 rows, .sc (.int .i64 i), .sc (.int .i64 j)] = some (.ow e 9 (rows.take i ++ rows.drop j), [.un]) := by
  unfold prim
  rw [if_pos rfl]
  exact pDelete_eq h1 h2 hk
theorem prim_compare (a b : ByteArray) : prim (194) [.sc (.string a), .sc (.string b)] = some (.sc (.int .i64 (Lib.compareBytes a.data.toList b.data.toList)), []) := by
  unfold prim
  rw [if_neg (by decide)]
  rw [if_pos rfl]
  exact rfl
end Go.Proofs.Ytejffoibihbnnaa.walkS
