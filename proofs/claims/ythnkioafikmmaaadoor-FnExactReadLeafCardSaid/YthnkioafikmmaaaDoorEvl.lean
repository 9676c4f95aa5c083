/- internal/stringslite.Index at a text of one byte: the shelf's contract, in the simpler machine's words. -/
import Derived.Test.YthnkioafikmmaaaDoorEvk
import Derived.Shelf.Strings.Search2
namespace Go.Proofs.YthnkioafikmmaaaDoor.Ev
set_option linter.unusedVariables false
set_option linter.unusedSimpArgs false
open Go Go.Shelf Go.Proofs

def pIndex : List LV → Option (LV × List LV)
  | [.sc (.string s), .sc (.string sep)] => if sep.size = 1 then some (.sc (.int .i64 (Lib.indexByte s.data.toList (sep.data.toList.headD 0))), []) else none
  | _ => none
theorem pIndex_eq {s : ByteArray} {c : UInt8} : pIndex [.sc (.string s), .sc (.string ⟨#[c]⟩)] = some (.sc (.int .i64 (Lib.indexByte s.data.toList c)), []) := by
  simp only [pIndex]
  rw [if_pos (show (⟨#[c]⟩ : ByteArray).size = 1 from rfl)]
  rfl
section
variable {T : Tab} {P : Program} {ρ : Ren}
theorem pIndex_ok (L : Lays.n219 P ρ) {ys : List LV} {r : LV} (h : pIndex ys = some (r, [])) : small r = true ∧ Contract T P (ρ.f 219) ys r := by
  unfold pIndex at h
  split at h
  case h_2 => cases h
  rename_i s sep
  split at h
  case isFalse => cases h
  rename_i hc
  obtain ⟨c, rfl⟩ := Lib.one_byte sep hc
  cases h
  refine ⟨rfl, prim_read (xs := [.string s, .string ⟨#[c]⟩]) rfl fun w _ => Calls.mono (Any.stringslite_Index_one L s c w) fun e w' => ?_⟩
  rintro ⟨rfl, rfl⟩
  exact ⟨rfl, FrN.refl _ _⟩
end
end Go.Proofs.YthnkioafikmmaaaDoor.Ev
