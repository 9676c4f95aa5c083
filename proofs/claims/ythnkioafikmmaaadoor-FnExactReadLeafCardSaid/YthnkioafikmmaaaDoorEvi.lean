/- Numbers as texts (strconv.FormatInt at base 10): the shelf's contract, in the simpler machine's words; the table lies beside. -/
import Derived.Test.YthnkioafikmmaaaDoorEve
import Derived.Shelf.Strconv.Itoa4
namespace Go.Proofs.YthnkioafikmmaaaDoor.Ev
set_option linter.unusedVariables false
set_option linter.unusedSimpArgs false
open Go Go.Shelf Go.Proofs Go.Sort

theorem FrN.grown (w : World) (k : Nat) (os : Array Obj) : FrN (fun b => w.heap.size ≤ b) w (grow (w.drewN k) os) := by
  refine ⟨rfl, rfl, rfl, ?_, fun b hb _ => ?_⟩
  · show w.heap.size ≤ (w.heap ++ os).size
    simp
  · show (w.heap ++ os)[b]? = w.heap[b]?
    rw [Array.getElem?_append_left hb]
def pFormat : List LV → Option (LV × List LV)
  | [.sc (.int .i64 n), .sc (.int .i64 b)] => if b = 10 ∧ -9223372036854775808 ≤ n ∧ n ≤ 9223372036854775807 then some (.sc (.string ⟨(Lib.itoa n).toArray⟩), []) else none
  | _ => none
theorem pFormat_eq {n : Int} (h0 : -9223372036854775808 ≤ n) (h1 : n ≤ 9223372036854775807) : pFormat [.sc (.int .i64 n), .sc (.int .i64 10)] = some (.sc (.string ⟨(Lib.itoa n).toArray⟩), []) := by
  simp only [pFormat]
  rw [if_pos ⟨trivial, h0, h1⟩]
section
variable {T : Tab} {P : Program} {ρ : Ren}
/-- a table that lies beside -/
theorem Tb.tabIs {N : Nat → Prop} {w : World} {name : String} {k : IntKind} {zs : List Int} {g : Nat} (h : Tb T N w) (hg : P.globalNamed name = some g) (hT : (g, (zs.map fun z => Value.int k z).toArray) ∈ T) : Lib.TabIs P w name k zs := by
  obtain ⟨⟨e, z, h1⟩, _⟩ := h _ hT
  unfold Lib.TabIs World.var?
  rw [hg]
  simp only [Option.bind_some, h1]
theorem pFormat_ok (L : LaysM.n173 P ρ) {g : Nat} (hg : P.globalNamed "internal/strconv.uint64pow10" = some g) (hT : (g, (Lib.pow10Tab.map fun z => Value.int .u64 z).toArray) ∈ T) {ys : List LV} {r : LV} (h : pFormat ys = some (r, [])) : small r = true ∧ Contract T P (ρ.f 173) ys r := by
  unfold pFormat at h
  split at h
  case h_2 => cases h
  rename_i n b
  split at h
  case isFalse => cases h
  rename_i hc
  obtain ⟨rfl, h0, h1⟩ := hc
  cases h
  refine ⟨rfl, prim_read (xs := [.int .i64 n, .int .i64 10]) rfl fun w hw => Calls.mono (Any.strconv_FormatInt_10 L n h0 h1 w (hw.tabIs hg hT)) fun e w' => ?_⟩
  rintro ⟨rfl, k, os, rfl⟩
  exact ⟨rfl, FrN.grown w k os⟩
end
end Go.Proofs.YthnkioafikmmaaaDoor.Ev
