/- Lists of numbers; no conditions. -/
import Derived.Test.YthnkioafikmmaaaGreatWRows
namespace Go.Proofs.YthnkioafikmmaaaGreat.walkS
open Go Go.Proofs.YthnkioafikmmaaaGreat.Ev
set_option linter.unusedSimpArgs false
abbrev iC (n : Int) : List Cell := [.sc (.int .i64 n)]
abbrev zI : List Cell := [.sc (.int .i64 0)]
theorem iC_shut (n : Int) : (iC n).map shutC = iC n := rfl
theorem shut_iC (l : List Int) : shut (l.map iC) = l.map iC := shut_map iC_shut l
attribute [simp high] shut_iC
abbrev iW (n : Int) : List Value := [.int .i64 n]
theorem low_iC (l : List Int) : low (l.map iC) = some (l.map iW) := low_map (fun _ => rfl) l
theorem lift_iW (l : List Int) : Ev.lift (l.map iW) = l.map iC := lift_map (fun _ => rfl) l
attribute [simp] low_iC lift_iW
theorem l137 (d : Nat) (l : List Int) (hb : l.length ≤ big) : ∀ (n i : Nat), n + i = l.length →
    clC [3] [2] (blk 0 (lp (evC (ev (d + 0)) b137_1) (clean [0, 3, 4]) ⟨lookS [(0, .ro 1 (l.map iC)), (3, .rf (.sl 3) none 0 l.length), (4, I i)], lookM [(.sl 3, some (.arr 2 1 (fill iC zI l i)))]⟩)) =
      some (.nm, ⟨lookS [(3, .rf (.sl 3) none 0 l.length)], lookM [(.sl 3, some (.arr 2 1 (l.map iC)))]⟩) := by
  intro n
  induction n with
  | zero =>
    intro i hi
    have h0 : ¬ (i : Int) < (l.length : Int) := by omega
    have he : fill iC zI l i = l.map iC := by rw [show i = l.length by omega]; exact fill_end
    rw [lp_step, he]
    simp [h0]
  | succ n ih =>
    intro i hi
    have hlt : i < l.length := by omega
    have h0 : (i : Int) < (l.length : Int) := by omega
    obtain ⟨x, hx⟩ := get_lt hlt
    have hs := fill_set (f := iC) (z := zI) hx
    have hg := fill_get (f := iC) (z := zI) hlt
    have hw := wrap_nat (i := i) (by simp [big] at hb; omega)
    have ih' := ih (i + 1) (by omega)
    rw [← hs] at ih'
    simp at ih'
    rw [lp_step]
    simp [h0, hx, hg, hw, ih']
theorem r137 (d : Nat) (l : List Int) (hb : l.length ≤ big) {x : LV} (hx : SV 1 (l.map iC) x) : ev (d + 1) 137 [x] = some (.ow 2 1 (l.map iC), []) := by
  rw [s137 (d + 0) _ rfl]
  rcases hx with rfl | ⟨rfl, h⟩
  · have key := l137 d l hb l.length 0 (by omega)
    have hz := fill_zero (f := iC) (z := zI) (l := l)
    simp at key
    simp [hb, hz, key]
  · have hl : l = [] := by simpa using h
    subst hl
    simp [big]
    rw [lp_step]
    simp
theorem l150 (d : Nat) (l : List Int) (hb : l.length ≤ big) : ∀ (n i : Nat), n + i = l.length →
    clC [] [4] (blk 0 (lp (evC (ev (d + 0)) b150_1) (clean [0, 1, 5]) ⟨lookS [(0, .ro 1 (l.map iC)), (1, .ro 1 (l.map iC)), (5, I i)], lookM []⟩)) = some (.nm, ⟨lookS [], lookM []⟩) := by
  intro n
  induction n with
  | zero =>
    intro i hi
    have h0 : ¬ (i : Int) < (l.length : Int) := by omega
    rw [lp_step]
    simp [h0]
  | succ n ih =>
    intro i hi
    have hlt : i < l.length := by omega
    have h0 : (i : Int) < (l.length : Int) := by omega
    obtain ⟨x, hx⟩ := get_lt hlt
    have hw := wrap_nat (i := i) (by simp [big] at hb; omega)
    have ih' := ih (i + 1) (by omega)
    simp at ih'
    rw [lp_step]
    simp [h0, hx, hw, ih']
theorem r150 (d : Nat) (l : List Int) (hb : l.length ≤ big) : ev (d + 1) 150 [.ro 1 (l.map iC), .ro 1 (l.map iC)] = some (B true, []) := by
  rw [s150 (d + 0) _ rfl]
  have key := l150 d l hb l.length 0 (by omega)
  simp at key
  simp [key]
theorem r150n (d : Nat) : ev (d + 1) 150 [.nl, .nl] = some (B true, []) := by
  rw [s150 d _ rfl]
  simp
  rw [lp_step]
  simp
abbrev jI (q : List Int) : List Cell := [.sl true 2 1 (q.map iW)]
abbrev jR (q : List Int) : List Cell := [.sl false 2 1 (q.map iW)]
theorem shut_jI (l : List (List Int)) : shut (l.map jI) = l.map jR := by
  simp only [shut, List.map_map]
  exact List.map_congr_left fun a _ => rfl
theorem shut_jR (l : List (List Int)) : shut (l.map jR) = l.map jR := shut_map (fun _ => rfl) l
attribute [simp high] shut_jI shut_jR
end Go.Proofs.YthnkioafikmmaaaGreat.walkS
