/- What the program's SpeciesWithin returns is what the reference's returns, in memory of its own, for all pairs of integers of 64 bits. -/
import Derived.Test.YtjdcohcdgdjobaaPFnExactSpeciesWithinx3
namespace Go.Proofs.Ytjdcohcdgdjobaa.Pure
open Go.RowKit Go.Proofs.Ytjdcohcdgdjobaa.PFnExactSpeciesWithin Go.Proofs.YtjdcohcdgdjobaaW.PrintWords Go.Proofs.YtjdcohcdgdjobaaW.PrintLast

theorem eq_self (d : Nat) : ∀ (k : Nat) (l : List ByteArray) (i : Int), 0 ≤ i → l.length < 1000 → (l.length : Int) - i = d → d < k → laws_eqStringS.l0 k l l i = some true := by
  induction d with
  | zero =>
    intro k l i h0 hl hd hk
    obtain ⟨k, rfl⟩ : ∃ m, k = m + 1 := ⟨k - 1, by omega⟩
    simp only [laws_eqStringS.l0]; rw [if_neg (by omega)]
  | succ d ih =>
    intro k l i h0 hl hd hk
    obtain ⟨k, rfl⟩ : ∃ m, k = m + 1 := ⟨k - 1, by omega⟩
    simp only [laws_eqStringS.l0]; rw [if_pos (by omega), if_pos h0, if_pos (by omega), if_pos trivial]
    rw [show wrap64 (i + 1) = i + 1 from by unfold wrap64; omega]
    exact ih k l (i + 1) (by omega) hl (by omega) (by omega)

/-- the marks of small numbers -/
def mk (x : Int) : ByteArray := (laws_markText.f 40 x).getD ByteArray.empty
theorem mark_small : ∀ n : Fin 12, laws_markText.f 40 (n.val : Int) = some (mk n.val) := by decide +kernel
theorem mark_at {k : Nat} (hk : 40 ≤ k) {x : Int} (h0 : 0 ≤ x) (h1 : x < 12) : laws_markText.f k x = some (mk x) := by
  have h := mark_small ⟨x.toNat, by omega⟩
  rw [show ((⟨x.toNat, by omega⟩ : Fin 12).val : Int) = x from by simp; omega] at h
  exact at_rounds (laws_markText.mono x) hk h

theorem held (d : Nat) : ∀ (k : Nat) (l : List ByteArray) (x i : Int), 0 ≤ i → 0 ≤ x → x + d ≤ 12 → l.length < 1000 → (l.length : Int) - i = d → d + 40 < k →
    (∀ j : Nat, i ≤ j → j < l.length → l.getD j ByteArray.empty = mk (x + (j - i))) → laws_heldStringS.l0 k l x i = some (x + d) := by
  induction d with
  | zero =>
    intro k l x i h0 hx hx1 hl hd hk hm
    obtain ⟨k, rfl⟩ : ∃ m, k = m + 1 := ⟨k - 1, by omega⟩
    simp only [laws_heldStringS.l0]; rw [if_neg (by omega)]; simp
  | succ d ih =>
    intro k l x i h0 hx hx1 hl hd hk hm
    obtain ⟨k, rfl⟩ : ∃ m, k = m + 1 := ⟨k - 1, by omega⟩
    simp only [laws_heldStringS.l0]; rw [if_pos (by omega), if_pos h0, mark_at (by omega) hx (by omega)]
    simp only [Option.bind_some]
    have e : rdOf ByteArray.empty l i = mk x := by
      have := hm i.toNat (by omega) (by omega)
      unfold rdOf; rw [this]; congr 1; omega
    rw [e, if_pos rfl]
    rw [show wrap64 (i + 1) = i + 1 from by unfold wrap64; omega, show wrap64 (x + 1) = x + 1 from by unfold wrap64; omega]
    rw [ih k l (x + 1) (i + 1) (by omega) (by omega) (by omega) hl (by omega) (by omega) (fun j hj hjl => by rw [hm j (by omega) hjl]; congr 1; omega)]
    congr 1; omega

theorem marks (d : Nat) : ∀ (k : Nat) (l : List ByteArray) (x i : Int), 0 ≤ i → 0 ≤ x → x + d ≤ 12 → l.length < 1000 → (l.length : Int) - i = d → d + 40 < k →
    ∃ l', laws_markStringS.l0 k l x i = some (x + d, l') ∧ l'.length = l.length ∧ (∀ j : Nat, (j : Int) < i → l'.getD j ByteArray.empty = l.getD j ByteArray.empty) ∧
      (∀ j : Nat, i ≤ j → j < l.length → l'.getD j ByteArray.empty = mk (x + (j - i))) := by
  induction d with
  | zero =>
    intro k l x i h0 hx hx1 hl hd hk
    obtain ⟨k, rfl⟩ : ∃ m, k = m + 1 := ⟨k - 1, by omega⟩
    refine ⟨l, ?_, rfl, fun _ _ => rfl, fun j h1 h2 => by omega⟩
    simp only [laws_markStringS.l0]; rw [if_neg (by omega)]; simp
  | succ d ih =>
    intro k l x i h0 hx hx1 hl hd hk
    obtain ⟨k, rfl⟩ : ∃ m, k = m + 1 := ⟨k - 1, by omega⟩
    obtain ⟨l', e, hlen, hlow, hhigh⟩ := ih k (l.set i.toNat (mk x)) (x + 1) (i + 1) (by omega) (by omega) (by omega) (by simpa using hl) (by simp; omega) (by omega)
    refine ⟨l', ?_, by simpa using hlen, fun j hj => ?_, fun j h1 h2 => ?_⟩
    · simp only [laws_markStringS.l0]; rw [if_pos (by omega), mark_at (by omega) hx (by omega)]
      simp only [Option.bind_some]
      rw [if_pos h0, show wrap64 (i + 1) = i + 1 from by unfold wrap64; omega, show wrap64 (x + 1) = x + 1 from by unfold wrap64; omega, e]
      congr 2; omega
    · rw [hlow j (by omega)]; simp only [List.getD_eq_getElem?_getD]; rw [List.getElem?_set_ne (by omega)]
    · by_cases hj : (j : Int) = i
      · rw [hlow j (by omega)]; simp only [List.getD_eq_getElem?_getD]
        rw [show i.toNat = j from by omega, List.getElem?_set_self (by omega)]
        simp; congr 1; omega
      · rw [hhigh j (by omega) (by simpa using h2)]; congr 1; omega

/-- the two loops do the same -/
def names : List ByteArray := impl_SpeciesNames.f.getD []
def table : List (List Int) := spec_l07Table.f.getD []
theorem shade_at : ∀ i : Fin 10, impl_speciesShade.f (rdOf ByteArray.empty names (i.val : Int)) = some (rd (rd_L3 table (i.val : Int)) 0, true) ∧ 0 < ((rd_L3 table (i.val : Int)).length : Int) ∧ 0 ≤ rd (rd_L3 table (i.val : Int)) 0 ∧ rd (rd_L3 table (i.val : Int)) 0 ≤ 100 := by decide +kernel

theorem loops (x t : Int) (hx : 0 ≤ x ∧ x ≤ 100) (ht : 0 ≤ t ∧ t ≤ 100) (d : Nat) : ∀ (k : Nat) (out : List ByteArray) (i : Int), 0 ≤ i → 10 - i = d → d < k → out.length + d ≤ 10 →
    ∃ r, spec_SpeciesWithin.l0 k x t names table out i = some (r, 0) ∧ impl_SpeciesWithin.l0 k x t out names 10 i = some (r, 0) ∧ r.length ≤ 10 := by
  induction d with
  | zero =>
    intro k out i h0 hd hk ho
    obtain ⟨k, rfl⟩ : ∃ m, k = m + 1 := ⟨k - 1, by omega⟩
    refine ⟨out, ?_, ?_, by omega⟩
    · simp only [spec_SpeciesWithin.l0]; rw [if_neg (by rw [show names.length = 10 from by decide +kernel]; omega)]
    · simp only [impl_SpeciesWithin.l0]; rw [if_neg (by omega)]
  | succ d ih =>
    intro k out i h0 hd hk ho
    obtain ⟨k, rfl⟩ : ∃ m, k = m + 1 := ⟨k - 1, by omega⟩
    obtain ⟨s1, s2, s3, s4⟩ := shade_at ⟨i.toNat, by omega⟩
    rw [show (((⟨i.toNat, by omega⟩ : Fin 10).val : Nat) : Int) = i from by simp; omega] at s1 s2 s3 s4
    have hn : names.length = 10 := by decide +kernel
    have htb : table.length = 10 := by decide +kernel
    simp only [spec_SpeciesWithin.l0, impl_SpeciesWithin.l0]
    rw [if_pos (show i < (names.length : Int) by omega), if_pos h0, if_pos (show i < (table.length : Int) by omega), if_pos s2, if_pos (show i < 10 by omega), if_pos h0, if_pos (show i < (names.length : Int) by omega), s1]
    simp only [Option.bind_some]
    generalize rd (rd_L3 table i) 0 = sh at *
    rw [show wrap64 (i + 1) = i + 1 from by unfold wrap64; omega, show wrap64 (x - t) = x - t from by unfold wrap64; omega, show wrap64 (x + t) = x + t from by unfold wrap64; omega, show wrap64 (sh - x) = sh - x from by unfold wrap64; omega, show wrap64 (-t) = -t from by unfold wrap64; omega]
    unfold spec_l00In.f impl_within.f
    by_cases c : x - t ≤ sh ∧ sh ≤ x + t
    · obtain ⟨r, e1, e2, e3⟩ := ih k (out ++ [rdOf ByteArray.empty names i]) (i + 1) (by omega) (by omega) (by omega) (by simp; omega)
      refine ⟨r, ?_, ?_, e3⟩
      · rw [if_pos c.1, decide_eq_true c.2]; simp only [Option.bind_some, if_true]; rw [if_pos (by omega)]; exact e1
      · rw [if_pos (by omega), decide_eq_true (by omega)]; simp only [Option.bind_some, if_true]; rw [if_pos (by omega)]; exact e2
    · obtain ⟨r, e1, e2, e3⟩ := ih k out (i + 1) (by omega) (by omega) (by omega) (by omega)
      refine ⟨r, ?_, ?_, e3⟩
      · by_cases c1 : sh ≥ x - t
        · rw [if_pos c1, decide_eq_false (by omega)]; simp only [Option.bind_some, Bool.false_eq_true, if_false]; exact e1
        · rw [if_neg c1]; simp only [Option.bind_some, Bool.false_eq_true, if_false]; exact e1
      · by_cases c1 : sh - x ≥ -t
        · rw [if_pos c1, decide_eq_false (by omega)]; simp only [Option.bind_some, Bool.false_eq_true, if_false]; exact e2
        · rw [if_neg c1]; simp only [Option.bind_some, Bool.false_eq_true, if_false]; exact e2

/-- both sides: one list of at most ten names, and one code -/
theorem same (x t : Int) : ∃ r c, spec_SpeciesWithin.f 60 x t = some (r, c) ∧ impl_SpeciesWithin.f 60 x t = some (r, c) ∧ r.length ≤ 10 := by
  unfold spec_SpeciesWithin.f impl_SpeciesWithin.f
  have hbad1 : spec_SpeciesWithin.j0 60 x t true = some ([], 2) := by simp [spec_SpeciesWithin.j0]
  have hbad2 : impl_SpeciesWithin.j0 60 x t true = some ([], 2) := by simp [impl_SpeciesWithin.j0]
  have hw : ∀ a b c : Int, spec_l00In.f a b c = some (decide (b ≤ a ∧ a ≤ c)) := by
    intro a b c; unfold spec_l00In.f; split
    · rename_i h; simp [show b ≤ a from h]
    · rename_i h; simp [show ¬ b ≤ a from h]
  have hv : ∀ a b c : Int, impl_within.f a b c = some (decide (b ≤ a ∧ a ≤ c)) := by
    intro a b c; unfold impl_within.f; split
    · rename_i h; simp [show b ≤ a from h]
    · rename_i h; simp [show ¬ b ≤ a from h]
  rw [hw, hv]
  simp only [Option.bind_some]
  by_cases h1 : 0 ≤ x ∧ x ≤ 100
  · rw [decide_eq_true h1]
    simp only [if_true]
    rw [hw, hv]
    simp only [Option.bind_some]
    by_cases h2 : 0 ≤ t ∧ t ≤ 100
    · rw [decide_eq_true h2]
      obtain ⟨r, e1, e2, e3⟩ := loops x t h1 h2 10 59 [] 0 (by omega) (by omega) (by omega) (by simp)
      refine ⟨r, 0, ?_, ?_, e3⟩
      · simp only [spec_SpeciesWithin.j0, Bool.not_true, Bool.false_eq_true, if_false]
        rw [show spec_l07Names.f = some names from by decide +kernel, show spec_l07Table.f = some table from by decide +kernel]
        simp only [Option.bind_some]
        rw [e1]
      · simp only [impl_SpeciesWithin.j0, Bool.not_true, Bool.false_eq_true, if_false]
        rw [show impl_SpeciesNames.f = some names from by decide +kernel]
        simp only [Option.bind_some]
        rw [show (names.length : Int) = 10 from by decide +kernel, e2]
    · rw [decide_eq_false h2]
      exact ⟨[], 2, hbad1, hbad2, by simp⟩
  · rw [decide_eq_false h1]
    exact ⟨[], 2, hbad1, hbad2, by simp⟩

theorem FnExactSpeciesWithin : laws_FnExactSpeciesWithin.Pure := by
  intro x t _ _
  obtain ⟨r, c, e1, e2, hr⟩ := same x t
  have e1' : spec_SpeciesWithin.f 60 x t = some (r, c) := e1
  have e2' : ∀ k, 60 ≤ k → impl_SpeciesWithin.f k x t = some (r, c) := fun k hk => at_rounds (impl_SpeciesWithin.mono x t) hk e2
  have he : ∀ k, 20 ≤ k → laws_eqStringS.f k r r = some true := fun k hk => by
    unfold laws_eqStringS.f; rw [if_pos rfl]; exact eq_self r.length k r 0 (by omega) (by omega) (by omega) (by omega)
  obtain ⟨l', m1, m2, -, m4⟩ := marks r.length 60 r 1 0 (by omega) (by omega) (by omega) (by omega) (by omega) (by omega)
  have hm : laws_markStringS.f 60 r 1 = some (1 + (r.length : Int), l') := m1
  have hm' : ∀ k, 60 ≤ k → laws_markStringS.f k r 1 = some (1 + (r.length : Int), l') := fun k hk => at_rounds (laws_markStringS.mono r 1) hk hm
  have hh : ∀ k, 55 ≤ k → laws_heldStringS.f k l' 1 = some (1 + (r.length : Int)) := fun k hk => by
    unfold laws_heldStringS.f
    exact held r.length k l' 1 0 (by omega) (by omega) (by omega) (by omega) (by omega) (by omega) (fun j h1 h2 => m4 j h1 (by omega))
  have hc : (c != c) = false := by simp
  refine ⟨62, ?_⟩
  unfold laws_FnExactSpeciesWithin.f
  rw [at_rounds (spec_SpeciesWithin.mono x t) (show 60 ≤ 62 by omega) e1', e2' 62 (by omega)]
  simp only [Option.bind_some]
  rw [he 62 (by omega)]
  simp only [Option.bind_some, if_true]
  rw [hc]
  simp only [laws_FnExactSpeciesWithin.j0, Bool.false_eq_true, if_false]
  rw [hm' 61 (by omega)]
  simp only [Option.bind_some]
  rw [hh 61 (by omega)]
  simp only [Option.bind_some]
  rw [if_neg (by omega), if_pos trivial, e2' 61 (by omega)]
  simp only [Option.bind_some]
  rw [he 61 (by omega)]
  simp only [Option.bind_some, if_true]
  rw [hc]
  simp only [laws_FnExactSpeciesWithin.j1, Bool.false_eq_true, if_false]
  rw [hh 60 (by omega)]
  simp only [Option.bind_some]
  rw [if_neg (by omega), if_pos trivial]

end Go.Proofs.Ytjdcohcdgdjobaa.Pure
