/- Lists of texts sorted and compacted: the plain law; no conditions. -/
import Derived.Test.YthnkioafikmmaaaGreatWSc
import Derived.Test.YthnkioafikmmaaaGreatEvh
namespace Go.Proofs.YthnkioafikmmaaaGreat.walkS
open Go Go.Proofs.YthnkioafikmmaaaGreat.Ev
set_option linter.unusedSimpArgs false
set_option linter.unusedVariables false
theorem bl_lt : ∀ x y : List UInt8, Op.bytesLess x y = true ↔ x < y := by
  intro x
  induction x with
  | nil => intro y; cases y <;> simp [Op.bytesLess]
  | cons a x ih =>
    intro y
    cases y with
    | nil => simp [Op.bytesLess]
    | cons b y =>
      simp only [Op.bytesLess, Bool.or_eq_true, decide_eq_true_eq, Bool.and_eq_true, beq_iff_eq, ih, List.cons_lt_cons_iff]
theorem toL_ofL (l : List UInt8) : toL (ofL l) = l := by simp [toL, ofL]
theorem map_toL_ofL (l : List (List UInt8)) : (l.map ofL).map toL = l := by
  rw [List.map_map]
  exact (List.map_congr_left fun x _ => toL_ofL x).trans (List.map_id _)
theorem map_ofL_toL (l : List ByteArray) : (l.map toL).map ofL = l := by
  rw [List.map_map]
  exact (List.map_congr_left fun x _ => ofL_toL x).trans (List.map_id _)
theorem less_lt {x y : ByteArray} : Op.bytesLess x.toList y.toList = true ↔ toL x < toL y := by
  rw [bl_lt, ByteArray.toList_eq, ByteArray.toList_eq]
  exact Iff.rfl
theorem sortB_pw (l : List ByteArray) : ((l.map toL).mergeSort fun x y => decide (x ≤ y)).Pairwise (· ≤ ·) := by
  have := List.pairwise_mergeSort (le := fun x y : List UInt8 => decide (x ≤ y)) (fun a b c => by simp only [decide_eq_true_eq]; exact fun h h' => List.le_trans h h') (fun a b => by simp only [Bool.or_eq_true, decide_eq_true_eq]; exact List.le_total a b) (l.map toL)
  exact this.imp fun h => by simpa using h
theorem sortB_len (l : List ByteArray) : (sortB l).length = l.length := by unfold sortB; simp
/-- texts in strict order are what a list with the same members comes to -/
theorem uniqB_law {a l : List ByteArray} (ha : a.Pairwise (fun x y => Op.bytesLess x.toList y.toList = true)) (hm : ∀ z, z ∈ a ↔ z ∈ l) : compB (sortB l) = a := by
  unfold compB sortB
  rw [map_toL_ofL]
  obtain ⟨h1, h2⟩ := compact_sorted (le := fun x y : List UInt8 => x ≤ y) (fun _ _ _ h h' => List.le_trans h h') (fun _ _ h h' => List.le_antisymm h h') List.le_refl (sortB_pw l)
  have e : Lib.compact ((l.map toL).mergeSort fun x y => decide (x ≤ y)) = a.map toL := by
    refine strict_ext (le := fun x y : List UInt8 => x ≤ y) (fun _ _ h h' => List.le_antisymm h h') h1 ?_ fun z => ?_
    · refine List.pairwise_map.2 (ha.imp fun {x y} h => ?_)
      have h := less_lt.1 h
      exact ⟨List.le_of_lt h, fun e => by rw [e] at h; exact List.lt_irrefl _ h⟩
    · rw [h2, List.mem_mergeSort]
      constructor
      · intro q
        obtain ⟨x, hx, rfl⟩ := List.mem_map.1 q
        exact List.mem_map.2 ⟨x, (hm x).2 hx, rfl⟩
      · intro q
        obtain ⟨x, hx, rfl⟩ := List.mem_map.1 q
        exact List.mem_map.2 ⟨x, (hm x).1 hx, rfl⟩
  rw [e, map_ofL_toL]
end Go.Proofs.YthnkioafikmmaaaGreat.walkS
