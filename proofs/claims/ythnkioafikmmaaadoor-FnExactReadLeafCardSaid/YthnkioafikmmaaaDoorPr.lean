/- The functions of Go's library whose contracts are the shelf's; no conditions. -/
import Derived.Test.YthnkioafikmmaaaDoorEvi
import Derived.Test.YthnkioafikmmaaaDoorEvj
import Derived.Test.YthnkioafikmmaaaDoorEvk
import Derived.Test.YthnkioafikmmaaaDoorEvl
import Derived.Test.YthnkioafikmmaaaDoorPl
import Derived.KernelRfl
namespace Go.Proofs.YthnkioafikmmaaaDoor.walkS
open Go Go.Proofs.YthnkioafikmmaaaDoor.Ev
set_option linter.unusedVariables false
/-- what lies in variables of the library's -/
def TT (m : Int) : Tab := [(0, (Lib.pow10Tab.map fun z => Value.int .u64 z).toArray), (1, #[Value.int .i64 m])]
theorem gpow : Tryd.prog.globalNamed "internal/strconv.uint64pow10" = some 0 := by kernel_rfl
theorem tpow {m : Int} : (0, (Lib.pow10Tab.map fun z => Value.int .u64 z).toArray) ∈ TT m := List.mem_cons_self
theorem tlen {m : Int} : (1, #[Value.int .i64 m]) ∈ TT m := List.mem_cons_of_mem _ List.mem_cons_self
open Go.Proofs in
theorem joinX : Builder.Extra Tryd.prog join_ren := {
  sizeBuilder := by kernel_rfl
  liesBuilder := by kernel_rfl
  t5 := Tryd.underlying5
  a5 := Tryd.isAgg5
  z5 := Tryd.sizeOf5
  v5 := Tryd.zeroValue5
  infoByte := by kernel_rfl
  cellsByte := by kernel_rfl
  sizeByte := by kernel_rfl
  neB5 := by decide }
def prim : CallF := fun f args => if f = 64 then pFormat args else if f = 45 then pJoin args else if f = 48 then pSplit 9 args else if f = 106 then pIndex args else none
theorem prim_ok (m : Int) : CallOk (TT m) Tryd.prog prim := by
  have hmv : mvN = 2000000 := rfl
  have hwr : wrN = 1000000 := rfl
  have hpu : puN = 3000000 := rfl
  intro g args r h
  unfold prim at h
  split at h
  · rename_i e2
    subst e2
    exact ⟨by kernel_rfl, pFormat_ok formatInt gpow tpow h⟩
  split at h
  · rename_i e2
    subst e2
    exact ⟨by kernel_rfl, pJoin_ok join joinX h⟩
  split at h
  · rename_i e2
    subst e2
    exact ⟨by kernel_rfl, pSplit_ok { split with } split.i9 (show (1, #[Value.int .i64 m]) ∈ TT m from tlen) h⟩
  split at h
  · rename_i e2
    subst e2
    exact ⟨by kernel_rfl, pIndex_ok index1 h⟩
  cases h
theorem prim_okW (m : Int) : CallW (TT m) Tryd.prog prim := by
  have hmv : mvN = 2000000 := rfl
  have hwr : wrN = 1000000 := rfl
  have hpu : puN = 3000000 := rfl
  refine ⟨fun g ys r ys' hg hne hrv h => ?_, fun g ys r hg h => ?_, fun g ys r ys' lo hg hne hrv h => ?_⟩
  · unfold prim at h
    rw [if_neg (by omega)] at h
    rw [if_neg (by omega)] at h
    rw [if_neg (by omega)] at h
    rw [if_neg (by omega)] at h
    cases h
  · unfold prim at h
    rw [if_neg (by omega)] at h
    rw [if_neg (by omega)] at h
    rw [if_neg (by omega)] at h
    rw [if_neg (by omega)] at h
    cases h
  · unfold prim at h
    rw [if_neg (by omega)] at h
    rw [if_neg (by omega)] at h
    rw [if_neg (by omega)] at h
    rw [if_neg (by omega)] at h
    cases h
theorem prim_formatInt (n : Int) (h0 : -9223372036854775808 ≤ n) (h1 : n ≤ 9223372036854775807) : prim (64) [.sc (.int .i64 n), .sc (.int .i64 10)] = some (.sc (.string ⟨(Lib.itoa n).toArray⟩), []) := by
  unfold prim
  rw [if_pos rfl]
  exact pFormat_eq h0 h1
theorem prim_join (xs : List ByteArray) (sep : ByteArray) (h1 : xs.length ≤ big) (h2 : (joinB xs sep).size ≤ big) : prim (45) [.ro 1 (xs.map bR), .sc (.string sep)] = some (.sc (.string (joinB xs sep)), []) := by
  unfold prim
  rw [if_neg (by decide)]
  rw [if_pos rfl]
  exact pJoin_eq h1 h2
theorem prim_split (s sep : ByteArray) (h1 : s.size ≤ big) (h2 : 1 ≤ sep.size) : prim (48) [.sc (.string s), .sc (.string sep)] = some (.ow 9 1 ((splitL s sep).map bR), []) := by
  unfold prim
  rw [if_neg (by decide)]
  rw [if_neg (by decide)]
  rw [if_pos rfl]
  exact pSplit_eq h1 h2
theorem prim_index1 (s : ByteArray) (c : UInt8) : prim (106) [.sc (.string s), .sc (.string ⟨#[c]⟩)] = some (.sc (.int .i64 (Lib.indexByte s.data.toList c)), []) := by
  unfold prim
  rw [if_neg (by decide)]
  rw [if_neg (by decide)]
  rw [if_neg (by decide)]
  rw [if_pos rfl]
  exact pIndex_eq
end Go.Proofs.YthnkioafikmmaaaDoor.walkS
