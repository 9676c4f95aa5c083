/- strings.Join: the shelf's contract, in the simpler machine's words. -/
import Derived.Test.YthnkioafikmmaaaDoorEvm
import Derived.Test.YthnkioafikmmaaaDoorEvi
import Derived.Shelf.Strings.OnBuilder
namespace Go.Proofs.YthnkioafikmmaaaDoor.Ev
set_option linter.unusedVariables false
set_option linter.unusedSimpArgs false
open Go Go.Shelf Go.Proofs Go.Sort

theorem FrN.below {w w' : World} (h : Go.RowKit.Below w.heap.size w w') : FrN (fun b => w.heap.size ≤ b) w w' := ⟨h.os, h.tape, h.output, h.size, fun b hb _ => h.block b hb⟩
/-- texts with another between each two -/
def joinB (xs : List ByteArray) (sep : ByteArray) : ByteArray := ofL (Lib.join (xs.map toL) (toL sep))
def pJoin : List LV → Option (LV × List LV)
  | [.ro 1 rows, .sc (.string sep)] => (match strsOf rows with | some xs => if xs.length ≤ big ∧ (joinB xs sep).size ≤ big then some (.sc (.string (joinB xs sep)), []) else none | none => none)
  | _ => none
theorem pJoin_eq {xs : List ByteArray} {sep : ByteArray} (h1 : xs.length ≤ big) (h2 : (joinB xs sep).size ≤ big) : pJoin [.ro 1 (xs.map bR), .sc (.string sep)] = some (.sc (.string (joinB xs sep)), []) := by
  simp only [pJoin, strsOf_map, if_pos (And.intro h1 h2)]
section
variable {T : Tab} {P : Program} {ρ : Ren}
theorem prim_ret {S : Nat → Prop} {w w' : World} {G : Gh} {r : Value} (hr : isSc r = true) (hS : ∀ b, S b → b < w.heap.size) (hf : FrN (fun b => w.heap.size ≤ b) w w') :
    ∀ mk : Nat → Id, (∀ a b, mk a = mk b → a = b) → ∃ G' m', adds noMem (openV mk (.sc r)).2 = some m' ∧ Inv S (fun b => w.heap.size ≤ b) G' m' w' ∧ R G' S m' w' (openV mk (.sc r)).1 r ∧ wf m' (openV mk (.sc r)).1 ∧ ∀ i, m' i ≠ none → ∃ k, i = mk k := by
  intro mk _
  refine ⟨G, noMem, rfl, ⟨fun i e n rows hi => (by cases hi), fun i c hi => (by cases hi), fun p q hp => ?_, fun p hp => ?_, fun b hb => Nat.lt_of_lt_of_le (hS b hb) hf.size⟩, ⟨rfl, hr⟩, trivial, fun i hi => absurd rfl hi⟩
  · exfalso
    cases p with
    | root i => rcases hp with ⟨_, q⟩ | ⟨_, _, _, q⟩ <;> cases q
    | chld i r c => obtain ⟨_, _, _, _, _, _, _, q, _⟩ := hp; cases q
  · exfalso
    cases p with
    | root i => rcases hp with ⟨_, q⟩ | ⟨_, _, _, q⟩ <;> cases q
    | chld i r c => obtain ⟨_, _, _, _, _, _, _, q, _⟩ := hp; cases q
theorem pJoin_ok (L : Lays.n156 P ρ) (X : Builder.Extra P ρ) {ys : List LV} {r : LV} (h : pJoin ys = some (r, [])) : small r = true ∧ Contract T P (ρ.f 156) ys r := by
  unfold pJoin at h
  split at h
  case h_2 => cases h
  rename_i rows sep
  split at h
  case h_2 => cases h
  rename_i xs hxs
  split at h
  case isFalse => cases h
  rename_i hc
  cases h
  refine ⟨rfl, ?_⟩
  intro S w vals G hS hargs hT
  obtain ⟨hsz, hrl⟩ := hargs
  obtain ⟨u0, p0, q0, _⟩ := hrl 0 _ rfl
  obtain ⟨u1, p1, q1, _⟩ := hrl 1 _ rfl
  have e1 : u1 = .string sep := q1.1
  subst e1
  have hrows := strsOf_eq hxs
  have hlen : rows.length = xs.length := by rw [hrows]; simp
  obtain ⟨A, c, rfl, hle, hcell⟩ := q0
  have hv : vals = #[.slice (some A) rows.length c, .string sep] := by
    apply Array.ext'
    apply List.ext_getElem?
    intro k
    rw [Array.getElem?_toList]
    match k with
    | 0 => rw [p0]; rfl
    | 1 => rw [p1]; rfl
    | k + 2 =>
      have hs : vals.size = 2 := hsz
      rw [Array.getElem?_eq_none (by omega)]
      rfl
  subst hv
  rw [hlen] at hle ⊢
  have cells : ∀ (j : Nat) x, xs[j]? = some x → S A.block ∧ A.spot = none ∧ w.cell? (A.add j) = some (.string x) := by
    intro j x hj
    have hr : rows[j]? = some [.sc (.string x)] := by rw [hrows, List.getElem?_map, List.getElem?_map, List.getElem?_map, hj]; rfl
    obtain ⟨_, a, rfl, ⟨s1, s2⟩, hx⟩ := hcell j _ hr
    obtain ⟨u, v1, v2, _⟩ := hx 0 _ rfl
    subst v2
    exact ⟨s1, s2, by simpa using v1⟩
  have fin : ∀ (e : Ending) (w' : World), e = .returned (.string (joinB xs sep)) → Go.RowKit.Below w.heap.size w w' → ∃ v, e = .returned v ∧ FrN (fun b => w.heap.size ≤ b) w w' ∧
      ∀ mk : Nat → Id, (∀ a b, mk a = mk b → a = b) → ∃ G' m', adds noMem (openV mk (.sc (.string (joinB xs sep)))).2 = some m' ∧ Inv S (fun b => w.heap.size ≤ b) G' m' w' ∧ R G' S m' w' (openV mk (.sc (.string (joinB xs sep)))).1 v ∧ wf m' (openV mk (.sc (.string (joinB xs sep)))).1 ∧ ∀ i, m' i ≠ none → ∃ k, i = mk k :=
    fun e w' he hb => ⟨_, he, FrN.below hb, prim_ret (G := G) rfl hS (FrN.below hb)⟩
  rcases xs with _ | ⟨x, _ | ⟨y, zs⟩⟩
  · refine Calls.mono (Any.strings_Join_none L X (some A) c sep w) fun e w' => ?_
    rintro ⟨rfl, rfl⟩
    exact fin _ _ rfl (Go.RowKit.Below.refl _ _)
  · obtain ⟨s1, s2, s3⟩ := cells 0 x rfl
    obtain ⟨b, o, sp⟩ := A
    have s2 : sp = none := s2
    subst s2
    refine Calls.mono (Any.strings_Join_one L X b o c x sep w (by rw [Go.Proofs.YthnkioafikmmaaaDoor.Ev.add_lit, Nat.add_zero] at s3; exact s3)) fun e w' => ?_
    rintro ⟨rfl, rfl⟩
    refine fin _ _ ?_ (Go.RowKit.Below.refl _ _)
    unfold joinB
    simp [Lib.join, ofL, toL]
  · obtain ⟨s1, s2, s3⟩ := cells 0 x rfl
    obtain ⟨b, o, sp⟩ := A
    have s2 : sp = none := s2
    subst s2
    have hb := hS b s1
    have hcc := hc
    simp only [big] at hcc
    have hj : (Lib.join ((x :: y :: zs).map (·.data.toList)) sep.data.toList).length = (joinB (x :: y :: zs) sep).size := by
      unfold joinB ofL
      show _ = (Lib.join ((x :: y :: zs).map toL) (toL sep)).toArray.size
      rw [List.size_toArray]
      rfl
    refine Calls.mono (Any.strings_Join_many L X b o c (x :: y :: zs) sep w (fun j z hz => by
      obtain ⟨_, _, t3⟩ := cells j z hz
      rw [Go.Proofs.YthnkioafikmmaaaDoor.Ev.add_lit] at t3
      exact t3) hb (by simp) (by omega) hle (by rw [hj]; omega)) fun e w' => ?_
    rintro ⟨rfl, hbel⟩
    exact fin _ _ rfl hbel
end
end Go.Proofs.YthnkioafikmmaaaDoor.Ev
