/- Lists of texts as rows of one cell. -/
import Derived.Test.YthnkioafikmmaaaDoorEva
import Derived.Sort.EncStr
namespace Go.Proofs.YthnkioafikmmaaaDoor.Ev
set_option linter.unusedVariables false
set_option linter.unusedSimpArgs false
open Go Go.Sort Go.Proofs

def strsOf : List (List Cell) → Option (List ByteArray)
  | [] => some []
  | [.sc (.string z)] :: l => (match strsOf l with | some zs => some (z :: zs) | none => none)
  | _ => none
def bR (s : ByteArray) : List Cell := [.sc (.string s)]
def toL (s : ByteArray) : List UInt8 := s.data.toList
def ofL (l : List UInt8) : ByteArray := ⟨l.toArray⟩
theorem ofL_toL (s : ByteArray) : ofL (toL s) = s := rfl
theorem encStr_ofL (l : List UInt8) : encStr l = .string (ofL l) := rfl
theorem strsOf_eq : ∀ {rows : List (List Cell)} {zs : List ByteArray}, strsOf rows = some zs → rows = ((zs.map toL).map encStr).map fun v => [Cell.sc v] := by
  intro rows
  induction rows with
  | nil => intro zs h; cases h; rfl
  | cons r rows ih =>
    intro zs h
    unfold strsOf at h
    split at h
    · rename_i q; cases q
    · rename_i z l q
      cases q
      cases hl : strsOf rows with
      | none => rw [hl] at h; cases h
      | some ws =>
        rw [hl] at h
        cases h
        rw [ih hl]; rfl
    · cases h
theorem strsOf_map : ∀ zs : List ByteArray, strsOf (zs.map bR) = some zs := by
  intro zs
  induction zs with
  | nil => rfl
  | cons z zs ih =>
    simp only [List.map_cons, bR, strsOf] at ih ⊢
    rw [ih]
theorem bR_map (ls : List (List UInt8)) : (ls.map ofL).map bR = (ls.map encStr).map fun v => [Cell.sc v] := by
  rw [List.map_map, List.map_map]; rfl
end Go.Proofs.YthnkioafikmmaaaDoor.Ev
