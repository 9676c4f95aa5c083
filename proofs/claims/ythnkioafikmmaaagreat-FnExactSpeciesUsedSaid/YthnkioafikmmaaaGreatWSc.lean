/- Lists sorted and compacted: the plain law; no conditions. -/
import Derived.Test.YthnkioafikmmaaaGreatWInt
import Derived.Test.YthnkioafikmmaaaGreatEvb
namespace Go.Proofs.YthnkioafikmmaaaGreat.walkS
open Go Go.Proofs.YthnkioafikmmaaaGreat.Ev
set_option linter.unusedSimpArgs false
set_option linter.unusedVariables false
section
variable {α : Type} {le : α → α → Prop}
/-- two strictly ordered lists with the same members -/
theorem strict_ext (anti : ∀ x y, le x y → le y x → x = y) : ∀ {a b : List α}, a.Pairwise (fun x y => le x y ∧ x ≠ y) → b.Pairwise (fun x y => le x y ∧ x ≠ y) → (∀ z, z ∈ a ↔ z ∈ b) → a = b := by
  intro a
  induction a with
  | nil =>
    intro b _ _ h
    cases b with
    | nil => rfl
    | cons y t => exact absurd ((h y).2 (by simp)) (by simp)
  | cons x s ih =>
    intro b ha hb h
    cases b with
    | nil => exact absurd ((h x).1 (by simp)) (by simp)
    | cons y t =>
      obtain ⟨a1, a2⟩ := List.pairwise_cons.1 ha
      obtain ⟨b1, b2⟩ := List.pairwise_cons.1 hb
      have e : x = y := by
        rcases List.mem_cons.1 ((h x).1 (by simp)) with q | q
        · exact q
        rcases List.mem_cons.1 ((h y).2 (by simp)) with q' | q'
        · exact q'.symm
        exact anti x y (a1 y q').1 (b1 x q).1
      subst e
      rw [ih a2 b2 fun z => ?_]
      constructor
      · intro hz
        rcases List.mem_cons.1 ((h z).1 (by simp [hz])) with q | q
        · exact absurd q.symm (a1 z hz).2
        · exact q
      · intro hz
        rcases List.mem_cons.1 ((h z).2 (by simp [hz])) with q | q
        · exact absurd q.symm (b1 z hz).2
        · exact q
open Go.Lib in
theorem compact_facts [Inhabited α] [DecidableEq α] (tr : ∀ x y z, le x y → le y z → le x z) (anti : ∀ x y, le x y → le y x → x = y) (d : Array α) (hs : ∀ i j, i ≤ j → j < d.size → le d[i]! d[j]!) :
    ∀ m, m ≤ d.size → (compactUpTo d m).Pairwise (fun x y => le x y ∧ x ≠ y) ∧ ∀ z, z ∈ compactUpTo d m ↔ ∃ j, j < m ∧ d[j]! = z := by
  intro m
  induction m with
  | zero => intro _; exact ⟨by simp [compactUpTo], fun z => by simp [compactUpTo]⟩
  | succ m ih =>
    intro hm
    obtain ⟨i1, i2⟩ := ih (by omega)
    rw [compactUpTo_succ]
    by_cases hk : keeps d m = true
    · rw [if_pos hk]
      refine ⟨List.pairwise_append.2 ⟨i1, by simp, fun x hx y hy => ?_⟩, fun z => ?_⟩
      · rw [List.mem_singleton.1 hy]
        obtain ⟨j, hj, rfl⟩ := (i2 x).1 hx
        refine ⟨hs j m (by omega) (by omega), fun e => ?_⟩
        unfold keeps at hk
        rw [decide_eq_true_eq] at hk
        rcases hk with rfl | hk
        · omega
        · apply hk
          have q1 := hs j (m - 1) (by omega) (by omega)
          have q2 := hs (m - 1) m (by omega) (by omega)
          rw [e] at q1
          exact anti _ _ q1 q2
      · rw [List.mem_append, i2, List.mem_singleton]
        constructor
        · rintro (⟨j, hj, e⟩ | rfl)
          · exact ⟨j, by omega, e⟩
          · exact ⟨m, by omega, rfl⟩
        · rintro ⟨j, hj, rfl⟩
          by_cases e : j = m
          · subst e; exact .inr rfl
          · exact .inl ⟨j, by omega, rfl⟩
    · rw [if_neg hk, List.append_nil]
      refine ⟨i1, fun z => ?_⟩
      rw [i2]
      constructor
      · rintro ⟨j, hj, e⟩; exact ⟨j, by omega, e⟩
      · rintro ⟨j, hj, e⟩
        by_cases ej : j = m
        · subst ej
          unfold keeps at hk
          rw [decide_eq_true_eq, not_or] at hk
          refine ⟨j - 1, by omega, ?_⟩
          rw [← e]
          exact (Classical.not_not.1 hk.2).symm
        · exact ⟨j, by omega, e⟩
theorem compact_sorted [Inhabited α] [DecidableEq α] (tr : ∀ x y z, le x y → le y z → le x z) (anti : ∀ x y, le x y → le y x → x = y) (refl : ∀ x, le x x) {l : List α} (hs : l.Pairwise le) :
    (Lib.compact l).Pairwise (fun x y => le x y ∧ x ≠ y) ∧ ∀ z, z ∈ Lib.compact l ↔ z ∈ l := by
  have key := compact_facts tr anti l.toArray (fun i j hij hj => by
    have hj' : j < l.length := by simpa using hj
    have hi' : i < l.length := by omega
    have e1 : l.toArray[i]! = l[i] := by simp [hi']
    have e2 : l.toArray[j]! = l[j] := by simp [hj']
    rw [e1, e2]
    rcases Nat.lt_or_eq_of_le hij with h | h
    · exact (List.pairwise_iff_getElem.1 hs) i j hi' hj' h
    · subst h; exact refl _) l.length (by simp)
  refine ⟨key.1, fun z => ?_⟩
  have := key.2 z
  unfold Lib.compact
  rw [this]
  constructor
  · rintro ⟨j, hj, rfl⟩
    rw [show l.toArray[j]! = l[j] by simp [hj]]
    exact List.getElem_mem hj
  · intro hz
    obtain ⟨j, hj, e⟩ := List.getElem_of_mem hz
    exact ⟨j, hj, by rw [show l.toArray[j]! = l[j] by simp [hj]]; exact e⟩
end
theorem sortZ_pw (l : List Int) : (sortZ l).Pairwise (· ≤ ·) := by
  have := List.pairwise_mergeSort (le := fun x y : Int => decide (x ≤ y)) (fun a b c => by simp only [decide_eq_true_eq]; omega) (fun a b => by simp only [Bool.or_eq_true, decide_eq_true_eq]; omega) l
  exact this.imp fun h => by simpa using h
theorem sortZ_mem {l : List Int} {z : Int} : z ∈ sortZ l ↔ z ∈ l := List.mem_mergeSort
theorem sortZ_len (l : List Int) : (sortZ l).length = l.length := List.length_mergeSort l
theorem uniq_law {a l : List Int} (ha : a.Pairwise (· < ·)) (hm : ∀ z, z ∈ a ↔ z ∈ l) : Lib.compact (sortZ l) = a := by
  obtain ⟨h1, h2⟩ := compact_sorted (le := fun x y : Int => x ≤ y) (fun _ _ _ h h' => Int.le_trans h h') (fun _ _ h h' => Int.le_antisymm h h') Int.le_refl (sortZ_pw l)
  refine strict_ext (le := fun x y : Int => x ≤ y) (fun _ _ h h' => Int.le_antisymm h h') h1 (ha.imp fun {x y} h => ⟨by omega, by omega⟩) fun z => ?_
  rw [h2, sortZ_mem, hm]
end Go.Proofs.YthnkioafikmmaaaGreat.walkS
