/- A leaf's text is read back: the plain law; no conditions. -/
import Derived.Test.YthnkioafikmmaaaDoorWTf
namespace Go.Proofs.YthnkioafikmmaaaDoor.walkS
open Go Go.Proofs.YthnkioafikmmaaaDoor.Ev
open Go.Lib
set_option linter.unusedSimpArgs false
set_option linter.unusedVariables false
theorem rdN_text {s : ByteArray} {n : Int} (h : rdN s = (n, true)) : decB n = s := by
  unfold rdN at h
  cases hr : rdB s with
  | none => rw [hr] at h; simp at h
  | some m =>
    rw [hr] at h
    have : m = n := by simpa using h
    subst this
    exact rd_itoa hr
theorem rlF_text : ∀ {xs : List ByteArray} {r : List Int}, rlF xs = some r → r.map decB = xs := by
  intro xs
  induction xs with
  | nil => intro r h; cases h; rfl
  | cons x xs ih =>
    intro r h
    rw [rlF] at h
    split at h
    case isFalse => cases h
    rename_i hc
    obtain ⟨y, hy, rfl⟩ := Option.map_eq_some_iff.1 h
    rw [List.map_cons, ih hy]
    congr 1
    refine rdN_text (n := (rdN x).1) ?_
    rw [← hc.1]
theorem rlO_text {s : ByteArray} {r : List Int} (h : rlO s = some r) : joinB (r.map decB) comma = s := by
  unfold rlO at h
  split at h
  case isFalse => cases h
  rw [rlF_text h]
  exact joinB_split s 44
theorem rvO_text {s : ByteArray} {a : ByteArray} {x y : Int} (h : rvO s = ((a, x, y), true)) : vnB a x y = s := by
  have hj := joinB_split s 32
  unfold rvO at h
  split at h
  case h_2 => simp at h
  rename_i p q r e
  rw [e] at hj
  unfold rvX at h
  cases h1 : (rdN q).2 <;> cases h2 : (rdN r).2 <;> cases h3 : okS p (rdN q).1 (rdN r).1 <;> rw [h1, h2, h3] at h <;> simp at h
  obtain ⟨rfl, rfl, rfl⟩ := h
  have t1 := rdN_text (s := q) (n := (rdN q).1) (by rw [← h1])
  have t2 := rdN_text (s := r) (n := (rdN r).1) (by rw [← h2])
  unfold vnB
  rw [t1, t2, ← hj]
  have e2 : [p, q, r] = ([p] ++ [q]) ++ [r] := rfl
  rw [e2, joinB_snoc (by simp), joinB_snoc (by simp), joinB_one]
/-! ### a size -/
/-- what is ahead of the first c, what is behind it, and whether there is one -/
def ctO (c : UInt8) (s : ByteArray) : ByteArray × ByteArray × Bool := if Lib.indexByte s.data.toList c = -1 then (s, ⟨#[]⟩, false) else (s.extract 0 (Lib.indexByte s.data.toList c).toNat, s.extract ((Lib.indexByte s.data.toList c).toNat + 1) s.size, true)
def rsI (s : ByteArray) : Int × Int × Bool := ((rdN (ctO 120 s).1).1, (rdN (ctO 120 s).2.1).1, (ctO 120 s).2.2 && ((rdN (ctO 120 s).1).2 && (rdN (ctO 120 s).2.1).2))
def rsS (s : ByteArray) : Int × Int × Bool := match splitL s exB with | [p, q] => ((rdN p).1, (rdN q).1, (rdN p).2 && (rdN q).2) | _ => (0, 0, false)
theorem rd_no_x {s : ByteArray} (h : (120 : UInt8) ∈ s.data.toList) : (rdN s).2 = false := by
  have hx : (120 : UInt8) ∈ bdB s := by
    rw [whole s] at h
    rcases List.mem_append.1 h with h | h
    · split at h
      · simp at h
      · cases h
    · exact h
  unfold rdN rdB
  split
  · rename_i n hn
    split at hn
    · cases hn
    · exfalso
      unfold rawB at hn
      split at hn
      · cases hn
      · obtain ⟨v, hv, _⟩ := Option.map_eq_some_iff.1 hn
        exact absurd ((scan_val hv).1 _ hx) (by decide)
  · rfl
theorem spL_two {c : UInt8} {l : List UInt8} {a b : List UInt8} {t : List (List UInt8)} (h : spL c l = a :: b :: t) : c ∈ l := by
  apply Classical.byContradiction
  intro q
  rw [spL_miss fun x hx e => q (by rw [← e]; exact hx)] at h
  simp at h
theorem rs_same (s : ByteArray) : (rsI s).2.2 = (rsS s).2.2 ∧ ((rsS s).2.2 = true → rsI s = rsS s) := by
  by_cases hm : Lib.indexByte s.data.toList 120 = -1
  · have hc : ctO 120 s = (s, ⟨#[]⟩, false) := if_pos hm
    have hsp : splitL s exB = [s] := by
      rw [splitL_eq, spL_miss fun x hx e => ?_]
      · show [ofL s.data.toList] = [s]
        rw [show ofL s.data.toList = s from Lib.mk_data s]
      · obtain ⟨k, hk⟩ := List.getElem?_of_mem hx
        exact Lib.indexByte_none hm k (by rw [hk, e])
    have h1 : (rsI s).2.2 = false := by unfold rsI; rw [hc]; rfl
    have h2 : rsS s = (0, 0, false) := by unfold rsS; rw [hsp]
    rw [h1, h2]
    exact ⟨rfl, fun q => by cases q⟩
  · have hge := Lib.indexByte_ge s.data.toList 120
    obtain ⟨i, hi⟩ : ∃ i : Nat, Lib.indexByte s.data.toList 120 = i := ⟨(Lib.indexByte s.data.toList 120).toNat, by omega⟩
    obtain ⟨h1, h2⟩ := Lib.indexByte_some hi
    have hc : ctO 120 s = (s.extract 0 i, s.extract (i + 1) s.size, true) := by
      unfold ctO
      rw [if_neg hm, hi]
      rfl
    have hp := pcs_hit (c := 120) (s := s) (fr := 0) (i := i) (Nat.zero_le _) h1 (by
      intro x hx e
      rw [List.drop_zero, Nat.sub_zero] at hx
      obtain ⟨k, hk⟩ := List.getElem?_of_mem hx
      rw [List.getElem?_take] at hk
      split at hk
      · rename_i hki
        exact h2 k hki (by rw [hk, e])
      · cases hk)
    rw [pcs_all] at hp
    have hlt : i < s.size := by rw [size_list]; exact (List.getElem?_eq_some_iff.1 h1).1
    cases hr : spL 120 (s.data.toList.drop (i + 1)) with
    | nil => exact absurd hr (spL_ne _ _)
    | cons a t =>
      cases t with
      | nil =>
        have ha : a = s.data.toList.drop (i + 1) := by
          have := joinL 120 (s.data.toList.drop (i + 1))
          rw [hr] at this
          simpa [Lib.join] using this
        have hp2 : pcs 120 s (i + 1) = [s.extract (i + 1) s.size] := by
          unfold pcs
          rw [hr, ha, ext_ofL, List.take_of_length_le (by rw [List.length_drop, ← size_list]; exact Nat.le_refl _)]
          rfl
        rw [hp2] at hp
        have e1 : rsI s = ((rdN (s.extract 0 i)).1, (rdN (s.extract (i + 1) s.size)).1, true && ((rdN (s.extract 0 i)).2 && (rdN (s.extract (i + 1) s.size)).2)) := by unfold rsI; rw [hc]
        have e2 : rsS s = ((rdN (s.extract 0 i)).1, (rdN (s.extract (i + 1) s.size)).1, (rdN (s.extract 0 i)).2 && (rdN (s.extract (i + 1) s.size)).2) := by unfold rsS; rw [hp]
        rw [e1, e2, Bool.true_and]
        exact ⟨rfl, fun _ => rfl⟩
      | cons b t =>
        have hx := spL_two hr
        have hd : (rdN (s.extract (i + 1) s.size)).2 = false := rd_no_x (by rw [Lib.extract_to_end]; exact hx)
        have hp2 : pcs 120 s (i + 1) = ofL a :: ofL b :: t.map ofL := by unfold pcs; rw [hr]; rfl
        rw [hp2] at hp
        have e1 : (rsI s).2.2 = false := by unfold rsI; rw [hc]; simp [hd]
        have e2 : rsS s = (0, 0, false) := by unfold rsS; rw [hp]
        rw [e1, e2]
        exact ⟨rfl, fun q => by cases q⟩
theorem rsS_text {s : ByteArray} {a b : Int} (h : rsS s = (a, b, true)) : szB a b = s := by
  have hj := joinB_split s 120
  unfold rsS at h
  split at h
  case h_2 => simp at h
  rename_i p q e
  rw [e] at hj
  simp only [Prod.mk.injEq, Bool.and_eq_true] at h
  obtain ⟨rfl, rfl, h1, h2⟩ := h
  have t1 := rdN_text (s := p) (n := (rdN p).1) (by rw [← h1])
  have t2 := rdN_text (s := q) (n := (rdN q).1) (by rw [← h2])
  unfold szB
  rw [t1, t2, ← hj]
  have e2 : [p, q] = [p] ++ [q] := rfl
  rw [e2, joinB_snoc (by simp), joinB_one]
/-! ### boxes -/
def rbO (s : ByteArray) : Option Bx := if s = ⟨#[45]⟩ then none else match rlO s with | some [a, b, c, e] => some (a, b, c, e) | _ => none
theorem rbO_text {s : ByteArray} {b : Bx} (h : rbO s = some b) : bxB b = s := by
  unfold rbO at h
  split at h
  · cases h
  split at h
  case h_2 => cases h
  rename_i a b c e hr
  cases h
  unfold bxB
  rw [lsB_cons]
  exact rlO_text hr
def rbF : List ByteArray → Option (List Bx)
  | [] => some []
  | x :: xs => (rbO x).bind fun b => (rbF xs).map (b :: ·)
theorem rbF_text : ∀ {xs : List ByteArray} {r : List Bx}, rbF xs = some r → r.map bxB = xs := by
  intro xs
  induction xs with
  | nil => intro r h; cases h; rfl
  | cons x xs ih =>
    intro r h
    rw [rbF] at h
    obtain ⟨b, hb, h⟩ := Option.bind_eq_some_iff.1 h
    obtain ⟨y, hy, rfl⟩ := Option.map_eq_some_iff.1 h
    rw [List.map_cons, ih hy, rbO_text hb]
/-- a leaf's parts, read: none if one of them is no such text -/
def rlP : List ByteArray → Option Lf
  | a :: b :: n :: v :: z :: bs => if (rdN n).2 = true ∧ (rvO v).2 = true ∧ (rsS z).2.2 = true then (rbF bs).map fun df => ⟨a, b, (rdN n).1, (rvO v).1.1, (rvO v).1.2.1, (rvO v).1.2.2, (rsS z).1, (rsS z).2.1, df⟩ else none
  | _ => none
theorem rlP_text {xs : List ByteArray} {L : Lf} (h : rlP xs = some L) : lfP L = xs := by
  unfold rlP at h
  split at h
  case h_2 => cases h
  rename_i a b n v z bs
  split at h
  case isFalse => cases h
  rename_i hc
  obtain ⟨h1, h2, h3⟩ := hc
  obtain ⟨df, hdf, rfl⟩ := Option.map_eq_some_iff.1 h
  have t1 := rdN_text (s := n) (n := (rdN n).1) (by rw [← h1])
  have t2 := rvO_text (s := v) (a := (rvO v).1.1) (x := (rvO v).1.2.1) (y := (rvO v).1.2.2) (by rw [← h2])
  have t3 := rsS_text (s := z) (a := (rsS z).1) (b := (rsS z).2.1) (by rw [← h3])
  have t4 := rbF_text hdf
  unfold lfP
  simp only [t1, t2, t3, t4]
  rfl
/-- what is read is the text's leaf iff it is a leaf -/
theorem leaf_law {s : ByteArray} {L : Lf} (h : rlP (splitL s slash) = some L) : decide (ltB L = s) = okL L := by
  have ht := rlP_text h
  have hj := joinB_split s 47
  rw [← ht] at hj
  unfold ltB
  cases hk : okL L
  · have hne : (⟨#[]⟩ : ByteArray) ≠ s := by
      intro e
      subst e
      have hs : splitL (⟨#[]⟩ : ByteArray) slash = [⟨#[]⟩] := by rw [splitL_eq]; rfl
      rw [hs] at h
      cases h
    exact decide_eq_false hne
  · exact decide_eq_true hj
end Go.Proofs.YthnkioafikmmaaaDoor.walkS
