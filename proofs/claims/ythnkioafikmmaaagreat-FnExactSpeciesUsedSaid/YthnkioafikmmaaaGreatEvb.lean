/- Sorting and compacting numbers: the shelf's contracts, in the simpler machine's words. -/
import Derived.Test.YthnkioafikmmaaaGreatEva
import Derived.Shelf.SortM.Plain
import Derived.Shelf.SlicesG.CompactI
namespace Go.Proofs.YthnkioafikmmaaaGreat.Ev
open Go Go.Proofs Go.Shelf

def intsOf : List (List Cell) → Option (List Int)
  | [] => some []
  | [.sc (.int .i64 z)] :: l => (match intsOf l with | some zs => some (z :: zs) | none => none)
  | _ => none
def iR (z : Int) : List Cell := [.sc (.int .i64 z)]
theorem intsOf_eq : ∀ {rows : List (List Cell)} {zs : List Int}, intsOf rows = some zs → rows = (zs.map (Value.int .i64)).map fun v => [Cell.sc v] := by
  intro rows
  induction rows with
  | nil => intro zs h; cases h; rfl
  | cons r rows ih =>
    intro zs h
    unfold intsOf at h
    split at h
    · rename_i q; cases q
    · rename_i z l q
      cases q
      cases hl : intsOf rows with
      | none => rw [hl] at h; cases h
      | some ws =>
        rw [hl] at h
        cases h
        rw [ih hl]; rfl
    · cases h
theorem intsOf_map : ∀ zs : List Int, intsOf (zs.map iR) = some zs := by
  intro zs
  induction zs with
  | nil => rfl
  | cons z zs ih =>
    simp only [List.map_cons, iR, intsOf] at ih ⊢
    rw [ih]
theorem iR_map (zs : List Int) : zs.map iR = (zs.map (Value.int .i64)).map fun v => [Cell.sc v] := by
  rw [List.map_map]; rfl
def sortZ (zs : List Int) : List Int := zs.mergeSort fun x y => decide (x ≤ y)
def pSortI : List LV → Option (LV × List LV)
  | [.ow e 1 rows] => (match intsOf rows with | some zs => if zs.length ≤ big then some (.tu [], [.ow e 1 ((sortZ zs).map iR)]) else none | none => none)
  | _ => none
def pCompactI : List LV → Option (LV × List LV)
  | [.ow e 1 rows] => (match intsOf rows with | some zs => if zs.length ≤ big then some (.ow e 1 ((Lib.compact zs).map iR), [.un]) else none | none => none)
  | _ => none
theorem pSortI_eq {e : Nat} {zs : List Int} (h : zs.length ≤ big) : pSortI [.ow e 1 (zs.map iR)] = some (.tu [], [.ow e 1 ((sortZ zs).map iR)]) := by
  simp only [pSortI, intsOf_map, if_pos h]
theorem pCompactI_eq {e : Nat} {zs : List Int} (h : zs.length ≤ big) : pCompactI [.ow e 1 (zs.map iR)] = some (.ow e 1 ((Lib.compact zs).map iR), [.un]) := by
  simp only [pCompactI, intsOf_map, if_pos h]
theorem scI {zs : List Int} : ∀ v ∈ zs.map (Value.int .i64), isSc v = true := by
  intro v hv
  obtain ⟨z, _, rfl⟩ := List.mem_map.1 hv
  rfl
theorem compact_len {α : Type} [Inhabited α] [DecidableEq α] (zs : List α) : (Lib.compact zs).length ≤ zs.length := by
  unfold Lib.compact Lib.compactUpTo
  rw [List.length_map]
  exact Nat.le_trans (List.length_filter_le _ _) (by simp)
section
variable {T : Tab} {P : Program} {ρ : Ren}
theorem pSortI_ok (L : SlLaysM.n5 P ρ) {ys ys' : List LV} {r : LV} (h : pSortI ys = some (r, ys')) : ContractW T P (ρ.f 5) ys r ys' := by
  unfold pSortI at h
  split at h
  case h_2 => cases h
  rename_i e rows
  split at h
  case h_2 => cases h
  rename_i zs hz
  split at h
  case isFalse => cases h
  rename_i hb
  cases h
  rw [intsOf_eq hz, iR_map]
  refine prim_lend (xs := []) scI (by simp [sortZ]) fun w b cap cs h1 h2 h3 h4 h5 => ?_
  have hlt := (Array.getElem?_eq_some_iff.1 h1).1
  have key := AnyM.slices_Sort_int L b 0 cap zs w (holds_of h1 h5) hlt (by simp only [big] at hb; omega)
  rw [List.length_map]
  refine Calls.mono key fun en w' => ?_
  rintro ⟨rfl, n, os, hw⟩
  obtain ⟨k1, cs', k2, k3, k4⟩ := of_putRow (zs := sortZ zs) h1 (by rw [List.length_map] at h3; simp [sortZ]; omega) hw
  exact ⟨rfl, k1, cs', k2, k3.trans h2, k4⟩
theorem pCompactI_ok (L : SlLaysN.n43 P ρ) {ys ys' : List LV} {r : LV} (h : pCompactI ys = some (r, ys')) : small r = true ∧ ContractM T P (ρ.f 43) ys r := by
  unfold pCompactI at h
  split at h
  case h_2 => cases h
  rename_i e rows
  split at h
  case h_2 => cases h
  rename_i zs hz
  split at h
  case isFalse => cases h
  rename_i hb
  cases h
  refine ⟨rfl, ?_⟩
  rw [intsOf_eq hz, iR_map]
  have hcl := compact_len zs
  refine prim_give (xs := []) scI (by simpa using hcl) fun w b cap cs h1 h2 h3 h4 h5 => ?_
  have hlt := (Array.getElem?_eq_some_iff.1 h1).1
  rw [List.length_map] at h3
  have key := AnyG.slices_Compact_int L b 0 cap zs w (holds_of h1 h5) (by simp only [big] at hb; omega) h3
  rw [List.length_map, List.length_map]
  refine Calls.mono key fun en w' => ?_
  rintro ⟨rfl, n, hw⟩
  obtain ⟨k1, cs', k2, k3, k4⟩ := of_putRow (os := #[]) (zs := Lib.compact zs ++ List.replicate (zs.length - (Lib.compact zs).length) 0) h1 (by simp; omega) (hw.trans (Go.Sort.grow_empty _).symm)
  refine ⟨rfl, k1, cs', k2, k3.trans h2, fun k v hk => k4 k v ?_⟩
  rw [List.map_append, List.getElem?_append_left (List.getElem?_eq_some_iff.1 hk).1]
  exact hk
end
end Go.Proofs.YthnkioafikmmaaaGreat.Ev
