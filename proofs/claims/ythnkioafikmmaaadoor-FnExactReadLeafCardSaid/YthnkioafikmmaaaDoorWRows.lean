/- Lists as rows: what all the walks share; no conditions. -/
import Derived.Test.YthnkioafikmmaaaDoorWBase
namespace Go.Proofs.YthnkioafikmmaaaDoor.walkS
open Go Go.Proofs.YthnkioafikmmaaaDoor.Ev
set_option linter.unusedSimpArgs false
/-- a choice by a Bool -/
def ifb {α : Type} (b : Bool) (x y : α) : α := match b with | true => x | false => y
theorem ifb_t {α : Type} (x y : α) : ifb true x y = x := rfl
theorem ifb_f {α : Type} (x y : α) : ifb false x y = y := rfl
attribute [simp] ifb_t ifb_f
/-- a slice that reads as these rows -/
def SV (st : Nat) (rows : List (List Cell)) (x : LV) : Prop := x = .ro st rows ∨ (x = .nl ∧ rows = [])
theorem shut_map {α : Type} {f : α → List Cell} (h : ∀ a, (f a).map shutC = f a) (l : List α) : shut (l.map f) = l.map f := by
  simp only [shut, List.map_map]
  refine List.map_congr_left fun a _ => h a
theorem take_map_len {α β : Type} (f : α → β) (l : List α) : (l.map f).take l.length = l.map f := by
  rw [List.take_of_length_le (by simp)]
def fill {α : Type} (f : α → List Cell) (z : List Cell) (l : List α) (i : Nat) : List (List Cell) := (l.take i).map f ++ List.replicate (l.length - i) z
section
variable {α : Type} {f : α → List Cell} {z : List Cell} {l : List α} {i : Nat} {x : α}
theorem fill_zero : List.replicate l.length z = fill f z l 0 := by simp [fill]
theorem fill_len (h : i ≤ l.length) : (fill f z l i).length = l.length := by simp [fill]; omega
theorem fill_get (h : i < l.length) : (fill f z l i)[i]? = some z := by
  have h1 : ((l.take i).map f).length = i := by simp; omega
  unfold fill
  rw [List.getElem?_append_right (by omega), h1, Nat.sub_self, List.getElem?_replicate, if_pos (by omega)]
theorem fill_set (h : l[i]? = some x) : (fill f z l i).set i (f x) = fill f z l (i + 1) := by
  have hlt : i < l.length := (List.getElem?_eq_some_iff.1 h).1
  have hx : l[i] = x := (List.getElem?_eq_some_iff.1 h).2
  have h1 : ((l.take i).map f).length = i := by simp; omega
  unfold fill
  rw [List.set_append_right _ _ (by omega), h1, Nat.sub_self]
  obtain ⟨k, hk⟩ : ∃ k, l.length - i = k + 1 := ⟨l.length - i - 1, by omega⟩
  have hk2 : l.length - (i + 1) = k := by omega
  rw [hk, hk2, List.replicate_succ, List.set_cons_zero, ← List.take_append_getElem hlt, List.map_append, List.append_assoc, hx]
  rfl
theorem fill_end : fill f z l l.length = l.map f := by simp [fill]
end
theorem drop_get {α : Type} {l : List α} {i : Nat} {x : α} (h : l[i]? = some x) : l.drop i = x :: l.drop (i + 1) := by
  have hlt : i < l.length := (List.getElem?_eq_some_iff.1 h).1
  rw [List.drop_eq_getElem_cons hlt]
  rw [List.getElem?_eq_getElem hlt] at h
  cases h; rfl
theorem get_lt {α : Type} {l : List α} {i : Nat} (h : i < l.length) : ∃ x, l[i]? = some x := ⟨_, List.getElem?_eq_getElem h⟩
theorem wrap_nat {i : Nat} (h : i < 4611686018427387904) : IntKind.i64.wrap ((i : Int) + 1) = ((i + 1 : Nat) : Int) := by
  rw [IntWalk.i64_in _ (by omega)]; rfl
attribute [simp] take_map_len
/-- what is left of a bound behind a length -/
def sz1 (n : Int) (k : Nat) : Int := if W (n - k) < 0 then -1 else W (n - k)
theorem sz1_ok {n : Int} {k : Nat} (hn : 0 ≤ n ∧ n ≤ 1048576) (hk : k ≤ maxLen) (h : 0 ≤ sz1 n k) : (k : Int) ≤ n ∧ sz1 n k = n - k := by
  have hm : (k : Int) ≤ 9223372036854775807 := by
    have : maxLen = 9223372036854775807 := by decide
    omega
  have hw : W (n - k) = n - k := IntWalk.i64_in _ (by omega)
  unfold sz1 at h ⊢
  rw [hw] at h ⊢
  split
  · rename_i h1; rw [if_pos h1] at h; omega
  · omega
end Go.Proofs.YthnkioafikmmaaaDoor.walkS
