/- Texts split and joined; lists of numbers as texts and back; no conditions. -/
import Derived.Test.YthnkioafikmmaaaDoorWTn
namespace Go.Proofs.YthnkioafikmmaaaDoor.walkS
open Go Go.Proofs.YthnkioafikmmaaaDoor.Ev
set_option linter.unusedSimpArgs false
set_option linter.unusedVariables false
open Go.Lib
abbrev sC (b : ByteArray) : List Cell := [.sc (.string b)]
theorem sC_shut (b : ByteArray) : (sC b).map shutC = sC b := rfl
theorem shut_sC (l : List ByteArray) : shut (l.map sC) = l.map sC := shut_map sC_shut l
theorem shut_bR (l : List ByteArray) : shut (l.map bR) = l.map bR := shut_map sC_shut l
attribute [simp high] shut_sC shut_bR
/-- the pieces from a place on -/
def pcs (c : UInt8) (s : ByteArray) (fr : Nat) : List ByteArray := (spL c (s.data.toList.drop fr)).map ofL
theorem pcs_all (c : UInt8) (s : ByteArray) : pcs c s 0 = splitL s ⟨#[c]⟩ := by rw [splitL_eq]; rfl
theorem ext_ofL (s : ByteArray) (a b : Nat) : s.extract a b = ofL ((s.data.toList.drop a).take (b - a)) := by
  apply ba_ext
  rw [Lib.extract_data]
  rfl
theorem pcs_end {c : UInt8} {s : ByteArray} {fr : Nat} (hf : fr ≤ s.size) (h : ∀ x ∈ (s.data.toList.drop fr).take (s.size - fr), x ≠ c) : pcs c s fr = [s.extract fr s.size] := by
  unfold pcs
  rw [ext_ofL]
  have e : (s.data.toList.drop fr).take (s.size - fr) = s.data.toList.drop fr := List.take_of_length_le (by rw [List.length_drop, ← size_list]; exact Nat.le_refl _)
  rw [e] at h ⊢
  rw [spL_miss h]
  rfl
theorem pcs_hit {c : UInt8} {s : ByteArray} {fr i : Nat} (hf : fr ≤ i) (hi : s.data.toList[i]? = some c) (h : ∀ x ∈ (s.data.toList.drop fr).take (i - fr), x ≠ c) : pcs c s fr = s.extract fr i :: pcs c s (i + 1) := by
  unfold pcs
  have e : s.data.toList.drop fr = (s.data.toList.drop fr).take (i - fr) ++ c :: s.data.toList.drop (i + 1) := by
    conv => lhs; rw [← List.take_append_drop (i - fr) (s.data.toList.drop fr)]
    rw [List.drop_drop, show fr + (i - fr) = i by omega, drop_get hi]
  rw [ext_ofL]
  conv => lhs; rw [e, spL_hit h]
  rfl
theorem pcs_more {c : UInt8} {s : ByteArray} {fr i : Nat} {x : UInt8} (hf : fr ≤ i) (hx : s.data.toList[i]? = some x) (hne : x ≠ c) (h : ∀ x ∈ (s.data.toList.drop fr).take (i - fr), x ≠ c) : ∀ x ∈ (s.data.toList.drop fr).take (i + 1 - fr), x ≠ c := by
  intro y hy
  rw [show i + 1 - fr = (i - fr) + 1 by omega, List.take_add_one] at hy
  rcases List.mem_append.1 hy with hy | hy
  · exact h y hy
  · rw [List.getElem?_drop, show fr + (i - fr) = i by omega, hx] at hy
    simp at hy
    rw [hy]; exact hne
theorem l78 (d : Nat) (s : ByteArray) (c : UInt8) (hs : s.size ≤ 2000000) : ∀ (n i fr : Nat) (acc : List ByteArray), n + i = s.size → fr ≤ i → acc.length ≤ i → (∀ x ∈ (s.data.toList.drop fr).take (i - fr), x ≠ c) →
    ∃ (a' : List ByteArray) (f' : Nat), a' ++ [s.extract f' s.size] = acc ++ pcs c s fr ∧ f' ≤ s.size ∧ a'.length ≤ s.size ∧
      clC [0, 5, 6] [4] (blk 0 (lp (evC (ev d) b78_1) (clean [0, 1, 5, 6, 7]) ⟨lookS [(0, T s), (1, .sc (.int .u8 c.toNat)), (5, .rf (.sl 5) none 0 acc.length), (6, I fr), (7, I i)], lookM [(.sl 5, some (.arr 9 1 (acc.map sC)))]⟩)) =
        some (.nm, ⟨lookS [(0, T s), (5, .rf (.sl 5) none 0 a'.length), (6, I f')], lookM [(.sl 5, some (.arr 9 1 (a'.map sC)))]⟩) := by
  intro n
  induction n with
  | zero =>
    intro i fr acc hi hf ha hn
    have h0 : ¬ (i : Int) < (s.size : Int) := by omega
    have he : i = s.size := by omega
    refine ⟨acc, fr, by rw [pcs_end (by omega) (by rw [← he]; exact hn)], by omega, by omega, ?_⟩
    rw [lp_step]
    simp [h0]
  | succ n ih =>
    intro i fr acc hi hf ha hn
    have h0 : (i : Int) < (s.size : Int) := by omega
    have hl := size_list s
    obtain ⟨x, hx⟩ := get_lt (show i < s.data.toList.length by omega)
    have hw := wrap_nat (i := i) (by omega)
    by_cases hc : x = c
    · subst hc
      obtain ⟨a', f', e1, e2, e3, e4⟩ := ih (i + 1) (i + 1) (acc ++ [s.extract fr i]) (by omega) (Nat.le_refl _) (by simp; omega) (by simp)
      refine ⟨a', f', by rw [e1, pcs_hit hf hx hn]; simp, e2, e3, ?_⟩
      have hb : acc.length + 1 ≤ big := by simp only [big]; omega
      have c1 : fr ≤ i ∧ i ≤ s.size := ⟨hf, by omega⟩
      simp at e4
      rw [lp_step]
      simp [h0, hx, hw, hb, c1, e4]
    · obtain ⟨a', f', e1, e2, e3, e4⟩ := ih (i + 1) fr acc (by omega) (by omega) (by omega) (pcs_more hf hx hc hn)
      refine ⟨a', f', e1, e2, e3, ?_⟩
      have hne : ¬ (x.toNat : Int) = (c.toNat : Int) := fun q => hc (UInt8.toNat_inj.1 (by omega))
      simp at e4
      rw [lp_step]
      simp [h0, hx, hw, hne, e4]
theorem r78 (d : Nat) (s : ByteArray) (c : UInt8) (hs : s.size ≤ 2000000) : ev (d + 1) 78 [T s, .sc (.int .u8 c.toNat)] = some (.ow 9 1 ((splitL s ⟨#[c]⟩).map sC), []) := by
  rw [s78 d _ rfl]
  obtain ⟨a', f', e1, e2, e3, e4⟩ := l78 d s c hs s.size 0 0 [] (by omega) (Nat.le_refl _) (by simp) (by simp)
  rw [pcs_all, List.nil_append] at e1
  have hb : a'.length + 1 ≤ big := by simp only [big]; omega
  rw [← e1]
  simp at e4
  simp [e4, hb, e2]
theorem p48 (d : Nat) (s : ByteArray) (c : UInt8) (hs : s.size ≤ 2000000) : ev d 48 [T s, T ⟨#[c]⟩] = some (.ow 9 1 ((splitL s ⟨#[c]⟩).map sC), []) := by
  rw [q48R]
  exact prim_split s ⟨#[c]⟩ (by simp only [big]; omega) (Nat.le_refl _)
theorem p45 (d : Nat) (xs : List ByteArray) (sep : ByteArray) (h1 : xs.length ≤ big) (h2 : (joinB xs sep).size ≤ big) : ev d 45 [.ro 1 (xs.map sC), T sep] = some (T (joinB xs sep), []) := by
  rw [q45R]
  exact prim_join xs sep h1 h2
theorem pcs_size (s : ByteArray) (c : UInt8) : ∀ x ∈ splitL s ⟨#[c]⟩, x.size ≤ s.size := by
  rw [splitL_eq]
  have key : ∀ l : List UInt8, ∀ x ∈ spL c l, x.length ≤ l.length := by
    intro l
    induction l with
    | nil => intro x hx; simp [spL] at hx; rw [hx]; exact Nat.le_refl _
    | cons b l ih =>
      intro x hx
      by_cases e : b = c
      · subst e
        rw [spL_same] at hx
        rcases List.mem_cons.1 hx with rfl | hx
        · exact Nat.zero_le _
        · have := ih x hx; simp only [List.length_cons]; omega
      · obtain ⟨y, t, ht⟩ : ∃ y t, spL c l = y :: t := by
          cases hs : spL c l with
          | nil => exact absurd hs (spL_ne _ _)
          | cons y t => exact ⟨y, t, rfl⟩
        rw [spL_other e ht] at hx
        rw [ht] at ih
        rcases List.mem_cons.1 hx with rfl | hx
        · have := ih y (by simp); simp only [List.length_cons]; omega
        · have := ih x (by simp [hx]); simp only [List.length_cons]; omega
  intro x hx
  obtain ⟨y, hy, rfl⟩ := List.mem_map.1 hx
  rw [size_list]
  have := key _ y hy
  rw [size_list]
  exact this
end Go.Proofs.YthnkioafikmmaaaDoor.walkS
