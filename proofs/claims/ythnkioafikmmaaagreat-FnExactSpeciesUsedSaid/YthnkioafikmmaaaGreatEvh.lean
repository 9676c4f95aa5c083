/- Sorting and compacting texts: the shelf's contracts, in the simpler machine's words. -/
import Derived.Test.YthnkioafikmmaaaGreatEvb
import Derived.Test.YthnkioafikmmaaaGreatEvm
import Derived.Shelf.SlicesG.CompactS
namespace Go.Proofs.YthnkioafikmmaaaGreat.Ev
set_option linter.unusedVariables false
set_option linter.unusedSimpArgs false
open Go Go.Proofs Go.Shelf Go.Sort

def sortB (zs : List ByteArray) : List ByteArray := ((zs.map toL).mergeSort fun x y => decide (x ≤ y)).map ofL
def compB (zs : List ByteArray) : List ByteArray := (Lib.compact (zs.map toL)).map ofL
def pSortS : List LV → Option (LV × List LV)
  | [.ow e 1 rows] => (match strsOf rows with | some zs => if zs.length ≤ big then some (.tu [], [.ow e 1 ((sortB zs).map bR)]) else none | none => none)
  | _ => none
def pCompactS : List LV → Option (LV × List LV)
  | [.ow e 1 rows] => (match strsOf rows with | some zs => if zs.length ≤ big then some (.ow e 1 ((compB zs).map bR), [.un]) else none | none => none)
  | _ => none
theorem pSortS_eq {e : Nat} {zs : List ByteArray} (h : zs.length ≤ big) : pSortS [.ow e 1 (zs.map bR)] = some (.tu [], [.ow e 1 ((sortB zs).map bR)]) := by
  simp only [pSortS, strsOf_map, if_pos h]
theorem pCompactS_eq {e : Nat} {zs : List ByteArray} (h : zs.length ≤ big) : pCompactS [.ow e 1 (zs.map bR)] = some (.ow e 1 ((compB zs).map bR), [.un]) := by
  simp only [pCompactS, strsOf_map, if_pos h]
theorem scB {zs : List (List UInt8)} : ∀ v ∈ zs.map encStr, isSc v = true := by
  intro v hv
  obtain ⟨z, _, rfl⟩ := List.mem_map.1 hv
  rfl
section
variable {T : Tab} {P : Program} {ρ : Ren}
theorem pSortS_ok (L : SlLaysM.n6 P ρ) {ys ys' : List LV} {r : LV} (h : pSortS ys = some (r, ys')) : ContractW T P (ρ.f 6) ys r ys' := by
  unfold pSortS at h
  split at h
  case h_2 => cases h
  rename_i e rows
  split at h
  case h_2 => cases h
  rename_i zs hz
  split at h
  case isFalse => cases h
  rename_i hb
  cases h
  rw [strsOf_eq hz]
  unfold sortB
  rw [bR_map]
  refine prim_lend (xs := []) scB (by simp) fun w b cap cs h1 h2 h3 h4 h5 => ?_
  have hlt := (Array.getElem?_eq_some_iff.1 h1).1
  have key := AnyM.slices_Sort_string L b 0 cap (zs.map toL) w (holds_of h1 h5) hlt (by simp only [big] at hb; simp; omega)
  rw [List.length_map]
  refine Calls.mono key fun en w' => ?_
  rintro ⟨rfl, n, os, hw⟩
  obtain ⟨k1, cs', k2, k3, k4⟩ := of_putRow (zs := (zs.map toL).mergeSort fun x y => decide (x ≤ y)) h1 (by simp at h3 ⊢; omega) hw
  exact ⟨rfl, k1, cs', k2, k3.trans h2, k4⟩
theorem pCompactS_ok (L : SlLaysN.n44 P ρ) {ys ys' : List LV} {r : LV} (h : pCompactS ys = some (r, ys')) : small r = true ∧ ContractM T P (ρ.f 44) ys r := by
  unfold pCompactS at h
  split at h
  case h_2 => cases h
  rename_i e rows
  split at h
  case h_2 => cases h
  rename_i zs hz
  split at h
  case isFalse => cases h
  rename_i hb
  cases h
  refine ⟨rfl, ?_⟩
  rw [strsOf_eq hz]
  unfold compB
  rw [bR_map]
  have hcl := compact_len (zs.map toL)
  refine prim_give (xs := []) scB (by simpa using hcl) fun w b cap cs h1 h2 h3 h4 h5 => ?_
  have hlt := (Array.getElem?_eq_some_iff.1 h1).1
  rw [List.length_map] at h3
  have key := AnyG.slices_Compact_string L b 0 cap (zs.map toL) w (holds_of h1 h5) (by simp only [big] at hb; simp; omega) h3
  simp only [List.length_map] at key ⊢
  refine Calls.mono key fun en w' => ?_
  rintro ⟨rfl, n, hw⟩
  obtain ⟨k1, cs', k2, k3, k4⟩ := of_putRow (os := #[]) (zs := Lib.compact (zs.map toL) ++ List.replicate (zs.length - (Lib.compact (zs.map toL)).length) []) h1 (by simp at h3 hcl ⊢; omega) (hw.trans (Go.Sort.grow_empty _).symm)
  refine ⟨rfl, k1, cs', k2, k3.trans h2, fun k v hk => k4 k v ?_⟩
  rw [List.map_append, List.getElem?_append_left (List.getElem?_eq_some_iff.1 hk).1]
  exact hk
end
end Go.Proofs.YthnkioafikmmaaaGreat.Ev
