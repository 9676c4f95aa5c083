/- Texts cut at a byte and joined again: the plain law; no conditions. -/
import Derived.Test.YthnkioafikmmaaaDoorWTx
import Derived.Test.YthnkioafikmmaaaDoorEvk
namespace Go.Proofs.YthnkioafikmmaaaDoor.walkS
open Go Go.Proofs.YthnkioafikmmaaaDoor.Ev Go.Lib
set_option linter.unusedSimpArgs false
set_option linter.unusedVariables false
/-- a list cut at each place where c stands -/
def spL (c : UInt8) : List UInt8 → List (List UInt8)
  | [] => [[]]
  | b :: l => if b = c then [] :: spL c l else (match spL c l with | h :: t => (b :: h) :: t | [] => [[b]])
theorem spL_ne (c : UInt8) (l : List UInt8) : spL c l ≠ [] := by
  cases l with
  | nil => simp [spL]
  | cons b l =>
    simp only [spL]
    split
    · simp
    · split <;> simp
theorem spL_same (c : UInt8) (l : List UInt8) : spL c (c :: l) = [] :: spL c l := by simp [spL]
theorem spL_other {b c : UInt8} (h : b ≠ c) {l x : List UInt8} {t : List (List UInt8)} (e : spL c l = x :: t) : spL c (b :: l) = (b :: x) :: t := by
  simp only [spL, if_neg h, e]
theorem spL_hit {c : UInt8} : ∀ {p r : List UInt8}, (∀ x ∈ p, x ≠ c) → spL c (p ++ c :: r) = p :: spL c r := by
  intro p
  induction p with
  | nil => intro r _; exact spL_same c r
  | cons b p ih =>
    intro r h
    exact spL_other (h b (by simp)) (ih fun x hx => h x (by simp [hx]))
theorem spL_miss {c : UInt8} : ∀ {p : List UInt8}, (∀ x ∈ p, x ≠ c) → spL c p = [p] := by
  intro p
  induction p with
  | nil => intro _; rfl
  | cons b p ih =>
    intro h
    exact spL_other (h b (by simp)) (ih fun x hx => h x (by simp [hx]))
theorem index_same (c : UInt8) (l : List UInt8) : index (c :: l) [c] = 0 := by
  rw [index]; simp [List.isPrefixOf]
theorem index_other {b c : UInt8} (h : b ≠ c) (l : List UInt8) : index (b :: l) [c] = if index l [c] == -1 then -1 else index l [c] + 1 := by
  have hp : ([c] : List UInt8).isPrefixOf (b :: l) = false := by simp [List.isPrefixOf, Ne.symm h]
  rw [index, hp]; simp
theorem index_cnt {c : UInt8} : ∀ {l : List UInt8}, c ∈ l → index l [c] ≠ -1 := by
  intro l
  induction l with
  | nil => intro h; cases h
  | cons b l ih =>
    intro h
    by_cases e : b = c
    · subst e; rw [index_same]; decide
    · have h2 : c ∈ l := by
        rcases List.mem_cons.1 h with q | q
        · exact absurd q.symm e
        · exact q
      have h3 := ih h2
      have h4 := index_ge l [c]
      rw [index_other e, if_neg (by simpa using h3)]
      omega
theorem splK (c : UInt8) : ∀ l : List UInt8, splitK [c] 0 (l.count c) l = spL c l := by
  intro l
  induction l with
  | nil => rfl
  | cons b l ih =>
    by_cases e : b = c
    · subst e
      rw [List.count_cons_self, splitK, index_same, spL_same, ← ih]
      simp
    · rw [List.count_cons_of_ne (by simpa using e)]
      by_cases h : c ∈ l
      · obtain ⟨k, hk⟩ : ∃ k, l.count c = k + 1 := ⟨l.count c - 1, by have := List.count_pos_iff.2 h; omega⟩
        rw [hk] at ih ⊢
        have h3 := index_cnt h
        have h4 := index_ge l [c]
        rw [splitK, if_neg (by simpa using h3)] at ih
        have h5 := spL_other e ih.symm
        have e3 : index (b :: l) [c] = index l [c] + 1 := by rw [index_other e, if_neg (by simpa using h3)]
        rw [h5, splitK, e3, if_neg (by simp; omega)]
        obtain ⟨j, hj⟩ : ∃ j : Nat, index l [c] = j := ⟨(index l [c]).toNat, by omega⟩
        rw [hj]
        have e1 : ((j : Int) + 1).toNat = j + 1 := by omega
        have e2 : ((j : Int)).toNat = j := by omega
        rw [e1, e2]
        simp
      · have h0 : l.count c = 0 := List.count_eq_zero.2 h
        rw [h0]
        rw [h0] at ih
        have h5 := spL_other (t := []) e (x := l) (by rw [← ih]; rfl)
        rw [h5]
        rfl
theorem splitL_eq (s : ByteArray) (c : UInt8) : splitL s ⟨#[c]⟩ = (spL c s.data.toList).map ofL := by
  have h := splitB_data ⟨#[c]⟩ 0 (countB s ⟨#[c]⟩) s
  have hc : countB s ⟨#[c]⟩ = s.data.toList.count c := count_one c s.data.toList
  have h2 : (splitL s ⟨#[c]⟩).map toL = spL c s.data.toList := by
    refine Eq.trans h ?_
    rw [hc]
    exact splK c _
  rw [← h2, List.map_map]
  exact ((List.map_congr_left fun x _ => ofL_toL x).trans (List.map_id _)).symm
theorem join_cons {x : List UInt8} {t : List (List UInt8)} (sep : List UInt8) (h : t ≠ []) : Lib.join (x :: t) sep = x ++ sep ++ Lib.join t sep := by
  cases t with
  | nil => exact absurd rfl h
  | cons y t => simp [Lib.join, List.intercalate, List.intersperse]
theorem joinL (c : UInt8) : ∀ l : List UInt8, Lib.join (spL c l) [c] = l := by
  intro l
  induction l with
  | nil => rfl
  | cons b l ih =>
    by_cases e : b = c
    · subst e
      rw [spL_same, join_cons _ (spL_ne _ _), ih]
      simp
    · obtain ⟨x, t, ht⟩ : ∃ x t, spL c l = x :: t := by
        cases hs : spL c l with
        | nil => exact absurd hs (spL_ne _ _)
        | cons x t => exact ⟨x, t, rfl⟩
      rw [spL_other e ht]
      rw [ht] at ih
      by_cases h : t = []
      · subst h
        have : x = l := by simpa [Lib.join] using ih
        rw [this]
        simp [Lib.join]
      · rw [join_cons _ h] at ih ⊢
        rw [← ih]
        simp
end Go.Proofs.YthnkioafikmmaaaDoor.walkS
