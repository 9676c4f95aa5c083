/- Functions of Go's library that read alone, and scalars alone: their contracts. -/
import Derived.Test.YthnkioafikmmaaaDoorEva
import Derived.Shelf.Small.Strs
namespace Go.Proofs.YthnkioafikmmaaaDoor.Ev
open Go Go.Shelf Go.Proofs

section
variable {T : Tab} {P : Program} {ρ : Ren}
theorem prim_read {f : Nat} {xs : List Value} {r : Value} (hr : isSc r = true) (H : ∀ w, Tb T (fun b => w.heap.size ≤ b) w → Calls P f xs.toArray w fun e w' => e = .returned r ∧ FrN (fun b => w.heap.size ≤ b) w w') : Contract T P f (xs.map .sc) (.sc r) := by
  intro S w vals G hS hargs hT
  have hv : vals = xs.toArray := by
    apply Array.ext'
    apply List.ext_getElem?
    intro k
    rw [Array.getElem?_toList]
    cases hx : xs[k]? with
    | none =>
      have : xs.length ≤ k := List.getElem?_eq_none_iff.1 hx
      rw [Array.getElem?_eq_none (by rw [hargs.1]; simpa using this)]
    | some x =>
      obtain ⟨u, u1, u2, _⟩ := hargs.2 k (.sc x) (by simp [hx])
      rw [u1]
      have : u = x := u2.1
      rw [this]
  subst hv
  refine Calls.mono (H w hT) fun e w' => ?_
  rintro ⟨rfl, hf⟩
  refine ⟨r, rfl, hf, fun mk _ => ⟨G, noMem, rfl, ⟨fun i e n rows hi => (by cases hi), fun i c hi => (by cases hi), fun p q hp => ?_, fun p hp => ?_, fun b hb => Nat.lt_of_lt_of_le (hS b hb) hf.size⟩, ⟨rfl, hr⟩, trivial, fun i hi => absurd rfl hi⟩⟩
  · exfalso
    cases p with
    | root i => rcases hp with ⟨_, q⟩ | ⟨_, _, _, q⟩ <;> cases q
    | chld i r c => obtain ⟨_, _, _, _, _, _, _, q, _⟩ := hp; cases q
  · exfalso
    cases p with
    | root i => rcases hp with ⟨_, q⟩ | ⟨_, _, _, q⟩ <;> cases q
    | chld i r c => obtain ⟨_, _, _, _, _, _, _, q, _⟩ := hp; cases q
def pCompare : List LV → Option (LV × List LV)
  | [.sc (.string a), .sc (.string b)] => some (.sc (.int .i64 (Lib.compareBytes a.data.toList b.data.toList)), [])
  | _ => none
theorem pCompare_ok (L : Lays.n106 P ρ) {ys : List LV} {r : LV} (h : pCompare ys = some (r, [])) : small r = true ∧ Contract T P (ρ.f 106) ys r := by
  unfold pCompare at h
  split at h
  case h_2 => cases h
  rename_i a b
  cases h
  refine ⟨rfl, prim_read (xs := [.string a, .string b]) rfl fun w _ => Calls.mono (Any.strings_Compare L a b w) fun e w' => ?_⟩
  rintro ⟨rfl, rfl⟩
  exact ⟨rfl, FrN.refl _ _⟩
end
end Go.Proofs.YthnkioafikmmaaaDoor.Ev
