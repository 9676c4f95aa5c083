/- ReadLeaf: its walks; no conditions. -/
import Derived.Test.YthnkioafikmmaaaDoorWTg
namespace Go.Proofs.YthnkioafikmmaaaDoor.walkS
open Go Go.Proofs.YthnkioafikmmaaaDoor.Ev
open Go.Lib
set_option linter.unusedSimpArgs false
set_option linter.unusedVariables false
set_option maxHeartbeats 2000000
attribute [simp] subI
theorem p106 (d : Nat) (s : ByteArray) (c : UInt8) : ev d 106 [T s, T ⟨#[c]⟩] = some (I (Lib.indexByte s.data.toList c), []) := by
  rw [q106R]
  exact prim_index1 s c
theorem r96 (d : Nat) (s : ByteArray) (hs : s.size ≤ 1048576) : ev (d + 1) 96 [T s, T ⟨#[120]⟩] = some (.tu [T (ctO 120 s).1, T (ctO 120 s).2.1, B (ctO 120 s).2.2], []) := by
  rw [s96 d _ rfl]
  have p1 := p106 d s 120
  unfold ctO
  by_cases hm : Lib.indexByte s.data.toList 120 = -1
  · rw [if_pos hm]
    rw [hm] at p1
    simp [p1]
  · rw [if_neg hm]
    have hge := Lib.indexByte_ge s.data.toList 120
    obtain ⟨i, hi⟩ : ∃ i : Nat, Lib.indexByte s.data.toList 120 = i := ⟨(Lib.indexByte s.data.toList 120).toNat, by omega⟩
    obtain ⟨h1, _⟩ := Lib.indexByte_some hi
    have hlt : i < s.size := by rw [size_list]; exact (List.getElem?_eq_some_iff.1 h1).1
    rw [hi] at p1 ⊢
    have c1 : i ≤ s.size := by omega
    have c2 : i + 1 ≤ s.size := by omega
    have w1 : IntKind.i64.wrap ((i : Int) + 1) = (i : Int) + 1 := IntWalk.i64_in _ (by omega)
    have n1 : ((i : Int) + 1).toNat = i + 1 := by omega
    have n2 : (0 : Int) ≤ (i : Int) + 1 := by omega
    simp [p1, c1, c2, w1, n1, n2, sz120]
theorem r83 (d : Nat) (s : ByteArray) (hs : s.size ≤ 1048576) : ev (d + 2) 83 [T s, T ⟨#[120]⟩] = some (.tu [T (ctO 120 s).1, T (ctO 120 s).2.1, B (ctO 120 s).2.2], []) := by
  rw [s83 (d + 1) _ rfl]
  have p1 := r96 d s hs
  simp [p1]
theorem ct_size (s : ByteArray) : (ctO 120 s).1.size ≤ s.size ∧ (ctO 120 s).2.1.size ≤ s.size := by
  unfold ctO
  split
  · exact ⟨Nat.le_refl _, Nat.zero_le _⟩
  · constructor
    · simp only [ByteArray.size_extract]; omega
    · simp only [ByteArray.size_extract]; omega
theorem r53 (d : Nat) (s : ByteArray) (hs : s.size ≤ 1048576) : ev (d + 4) 53 [T s] = some (.tu [I (rsI s).1, I (rsI s).2.1, B (rsI s).2.2], []) := by
  rw [s53 (d + 3) _ rfl]
  have p1 := r83 (d + 1) s hs
  obtain ⟨z1, z2⟩ := ct_size s
  have p2 := r49 d (ctO 120 s).1 (by simp only [big]; omega)
  have p3 := r49 d (ctO 120 s).2.1 (by simp only [big]; omega)
  unfold rsI
  generalize ctO 120 s = c at p1 p2 p3 ⊢
  obtain ⟨a, b, f⟩ := c
  simp only at p1 p2 p3 ⊢
  generalize rdN a = x at p2 ⊢
  generalize rdN b = y at p3 ⊢
  obtain ⟨x1, x2⟩ := x
  obtain ⟨y1, y2⟩ := y
  cases f <;> cases x2 <;> cases y2 <;> simp [p1, p2, p3]
theorem r82 (d : Nat) (s : ByteArray) (hs : s.size ≤ 1048576) : ev (d + 3) 82 [T s] = some (.tu [I (rsS s).1, I (rsS s).2.1, B (rsS s).2.2], []) := by
  rw [s82 (d + 2) _ rfl]
  have p1 := r78 (d + 1) s 120 (by omega)
  have hz := pcs_size s 120
  unfold rsS
  have hex : exB = ⟨#[120]⟩ := rfl
  rw [hex]
  generalize splitL s ⟨#[120]⟩ = xs at p1 hz ⊢
  simp at p1
  rcases xs with _ | ⟨a, _ | ⟨b, _ | ⟨c, xs⟩⟩⟩
  · simp at p1; simp [p1]
  · simp at p1; simp [p1]
  · have h1 := hz a (by simp)
    have h2 := hz b (by simp)
    have p2 := r79 d a (by simp only [big]; omega)
    have p3 := r79 d b (by simp only [big]; omega)
    simp only
    generalize rdN a = x at p2 ⊢
    generalize rdN b = y at p3 ⊢
    obtain ⟨x1, x2⟩ := x
    obtain ⟨y1, y2⟩ := y
    simp at p1
    cases x2 <;> cases y2 <;> simp [p1, p2, p3]
  · have h3 : ¬ ((xs.length : Int) + 1 + 1 + 1 = 2) := by omega
    simp at p1
    simp [p1, h3]
theorem r54 (d : Nat) (s : ByteArray) (hs : s.size ≤ 1048576) : ev (d + 5) 54 [T s] = some (.tu [.ag (bV ((rbO s).getD (0, 0, 0, 0))), B (rbO s).isSome], []) := by
  rw [s54 (d + 4) _ rfl]
  unfold rbO
  by_cases h : s = ⟨#[45]⟩
  · rw [if_pos h]
    have p1 := r51d (d + 3)
    subst h
    simp [p1]
  · rw [if_neg h]
    have p1 := r51 d s hs h
    generalize rlO s = r at p1 ⊢
    unfold oLn at p1
    rcases r with _ | r
    · simp [p1]
    rcases r with _ | ⟨a, _ | ⟨b, _ | ⟨c, _ | ⟨e, _ | ⟨x, r⟩⟩⟩⟩⟩
    · simp [p1]
    · simp [p1]
    · simp [p1]
    · simp [p1]
    · simp [p1]
    · have h3 : ¬ ((r.length : Int) + 1 + 1 + 1 + 1 + 1 = 4) := by omega
      simp [p1, h3]
/-! ### the boxes -/
def rbE {α : Type} (x : Option (List Bx)) (A : List Bx → α) (B : α) : α := match x with | some r => A r | none => B
theorem rbE_s {α : Type} (r : List Bx) (A : List Bx → α) (B : α) : rbE (some r) A B = A r := rfl
theorem rbE_n {α : Type} (A : List Bx → α) (B : α) : rbE none A B = B := rfl
attribute [simp] rbE_s rbE_n
theorem rbE_map {α : Type} (x : Option (List Bx)) (c : Bx) (A : List Bx → α) (B : α) : rbE (x.map (c :: ·)) A B = rbE x (fun r => A (c :: r)) B := by cases x <;> rfl
abbrev zLv : List LV := [T ⟨#[]⟩, T ⟨#[]⟩, I 0, T ⟨#[]⟩, I 0, I 0, I 0, I 0, .nl]
theorem l28 (d : Nat) (s : ByteArray) (bs : List ByteArray) (RW : List (List Cell)) (hRW : ∀ (i : Nat) (x : ByteArray), bs[i]? = some x → RW[5 + i]? = some (sC x)) (hl : bs.length ≤ 2000000) (hz : ∀ x ∈ bs, x.size ≤ 1048576) (id fl : ByteArray) (num : Int) (sp : ByteArray) (sh gr wd ln : Int) : ∀ (n i : Nat) (acc : List Bx), n + i = bs.length → acc.length = i → acc ≠ [] →
    clC [0, 2, 12] [2, 3] (blk 0 (lp (evC (ev (d + 5)) b28_1) (clean [0, 2, 12, 68, 69, 70]) ⟨lookS [(0, T s), (2, .bp (.sl 2) 0), (12, .bp (.sl 12) 0), (68, .rf (.sl 68) none 5 bs.length), (69, I bs.length), (70, I i)], lookM [((.sl 2), some (.box [T ⟨#[]⟩, T ⟨#[]⟩, I 0, T ⟨#[]⟩, I 0, I 0, I 0, I 0, .nl])), ((.sl 12), some (.box [T id, T fl, I num, T sp, I sh, I gr, I wd, I ln, .rf (.ce 12 8) none 0 acc.length])), ((.sl 68), some (.arr 9 1 RW)), ((.ce 12 8), some (.arr 75 4 (acc.map bC)))]⟩)) =
      rbE (rbF (bs.drop i)) (fun r => some (.nm, ⟨lookS [(0, T s), (2, .bp (.sl 2) 0), (12, .bp (.sl 12) 0)], lookM [((.sl 2), some (.box [T ⟨#[]⟩, T ⟨#[]⟩, I 0, T ⟨#[]⟩, I 0, I 0, I 0, I 0, .nl])), ((.sl 12), some (.box [T id, T fl, I num, T sp, I sh, I gr, I wd, I ln, .rf (.ce 12 8) none 0 (acc ++ r).length])), ((.ce 12 8), some (.arr 75 4 ((acc ++ r).map bC)))]⟩)) (some (.rt, ⟨lookS [(2, .bp (.sl 2) 0), (3, B false)], lookM [((.sl 2), some (.box [T ⟨#[]⟩, T ⟨#[]⟩, I 0, T ⟨#[]⟩, I 0, I 0, I 0, I 0, .nl]))]⟩)) := by
  intro n
  induction n with
  | zero =>
    intro i acc hi ha hne
    have h0 : ¬ (i : Int) < (bs.length : Int) := by omega
    rw [List.drop_eq_nil_of_le (by omega), lp_step]
    simp [h0, rbF]
  | succ n ih =>
    intro i acc hi ha hne
    have hlt : i < bs.length := by omega
    have h0 : (i : Int) < (bs.length : Int) := by omega
    obtain ⟨x, hx⟩ := get_lt hlt
    have hg := hRW i x hx
    have p1 := r54 d x (hz x (List.mem_of_getElem? hx))
    have hb : acc.length + 1 ≤ big := by simp only [big]; omega
    have hi1 := wrap_nat (i := i) (by omega)
    rw [drop_get hx, rbF]
    cases hbx : rbO x with
    | none =>
      rw [hbx] at p1
      rw [lp_step]
      simp [h0, hg, p1]
    | some b =>
      rw [hbx] at p1
      have ih' := ih (i + 1) (acc ++ [b]) (by omega) (by simp; omega) (by simp)
      simp only [Option.bind_some]
      rw [rbE_map]
      simp at ih' p1
      rw [lp_step]
      simp [h0, hg, p1, hb, hi1, ih']
/-- the first box of all -/
theorem l28c (d : Nat) (s : ByteArray) (b0 : ByteArray) (bs : List ByteArray) (RW : List (List Cell)) (hRW : ∀ (i : Nat) (x : ByteArray), (b0 :: bs)[i]? = some x → RW[5 + i]? = some (sC x)) (hl : (b0 :: bs).length ≤ 2000000) (hz : ∀ x ∈ b0 :: bs, x.size ≤ 1048576) (id fl : ByteArray) (num : Int) (sp : ByteArray) (sh gr wd ln : Int) :
    clC [0, 2, 12] [2, 3] (blk 0 (lp (evC (ev (d + 5)) b28_1) (clean [0, 2, 12, 68, 69, 70]) ⟨lookS [(0, T s), (2, .bp (.sl 2) 0), (12, .bp (.sl 12) 0), (68, .rf (.sl 68) none 5 (bs.length + 1)), (69, I ((bs.length : Int) + 1)), (70, I 0)], lookM [((.sl 2), some (.box [T ⟨#[]⟩, T ⟨#[]⟩, I 0, T ⟨#[]⟩, I 0, I 0, I 0, I 0, .nl])), ((.sl 12), some (.box [T id, T fl, I num, T sp, I sh, I gr, I wd, I ln, .nl])), ((.sl 68), some (.arr 9 1 RW))]⟩)) =
      rbE (rbF (b0 :: bs)) (fun r => some (.nm, ⟨lookS [(0, T s), (2, .bp (.sl 2) 0), (12, .bp (.sl 12) 0)], lookM [((.sl 2), some (.box [T ⟨#[]⟩, T ⟨#[]⟩, I 0, T ⟨#[]⟩, I 0, I 0, I 0, I 0, .nl])), ((.sl 12), some (.box [T id, T fl, I num, T sp, I sh, I gr, I wd, I ln, .rf (.ce 12 8) none 0 r.length])), ((.ce 12 8), some (.arr 75 4 (r.map bC)))]⟩)) (some (.rt, ⟨lookS [(2, .bp (.sl 2) 0), (3, B false)], lookM [((.sl 2), some (.box [T ⟨#[]⟩, T ⟨#[]⟩, I 0, T ⟨#[]⟩, I 0, I 0, I 0, I 0, .nl]))]⟩)) := by
  have h0 : (0 : Int) < (bs.length : Int) + 1 := by omega
  have hg := hRW 0 b0 rfl
  have p1 := r54 d b0 (hz b0 (by simp))
  have w1 : IntKind.i64.wrap 1 = 1 := by decide
  have hb1 : 1 ≤ big := by simp [big]
  rw [rbF]
  cases hbx : rbO b0 with
  | none =>
    rw [hbx] at p1
    rw [lp_step]
    simp at hg p1
    simp [h0, hg, p1]
  | some b =>
    rw [hbx] at p1
    have key := l28 d s (b0 :: bs) RW hRW hl hz id fl num sp sh gr wd ln bs.length 1 [b] (by simp) rfl (by simp)
    simp only [Option.bind_some]
    rw [rbE_map]
    simp at key hg p1
    rw [lp_step]
    simp [h0, hg, p1, w1, hb1, key]
theorem l28n (d : Nat) (s : ByteArray) (RW : List (List Cell)) (id fl : ByteArray) (num : Int) (sp : ByteArray) (sh gr wd ln : Int) :
    clC [0, 2, 12] [2, 3] (blk 0 (lp (evC (ev (d + 5)) b28_1) (clean [0, 2, 12, 68, 69, 70]) ⟨lookS [(0, T s), (2, .bp (.sl 2) 0), (12, .bp (.sl 12) 0), (68, .rf (.sl 68) none 5 0), (69, I 0), (70, I 0)], lookM [((.sl 2), some (.box [T ⟨#[]⟩, T ⟨#[]⟩, I 0, T ⟨#[]⟩, I 0, I 0, I 0, I 0, .nl])), ((.sl 12), some (.box [T id, T fl, I num, T sp, I sh, I gr, I wd, I ln, .nl])), ((.sl 68), some (.arr 9 1 RW))]⟩)) =
      some (.nm, ⟨lookS [(0, T s), (2, .bp (.sl 2) 0), (12, .bp (.sl 12) 0)], lookM [((.sl 2), some (.box [T ⟨#[]⟩, T ⟨#[]⟩, I 0, T ⟨#[]⟩, I 0, I 0, I 0, I 0, .nl])), ((.sl 12), some (.box [T id, T fl, I num, T sp, I sh, I gr, I wd, I ln, .nl]))]⟩) := by
  rw [lp_step]
  simp
theorem l52 (d : Nat) (ok : Bool) (bs : List ByteArray) (RW : List (List Cell)) (hRW : ∀ (i : Nat) (x : ByteArray), bs[i]? = some x → RW[i + 5]? = some (sC x)) (hl : bs.length ≤ 2000000) (hz : ∀ x ∈ bs, x.size ≤ 1048576) (id fl : ByteArray) (num : Int) (sp : ByteArray) (sh gr wd ln : Int) : ∀ (n i : Nat) (acc : List Bx), n + i = bs.length → acc.length = i → acc ≠ [] →
    clC [2, 12, 13] [2, 3] (blk 0 (lp (evC (ev (d + 4)) b52_1) (clean [2, 4, 12, 13, 14]) ⟨lookS [(2, .bp (.sl 2) 0), (4, .rf (.sl 4) none 0 (bs.length + 5)), (12, .bp (.sl 12) 0), (13, B ok), (14, I ((i : Int) + 5))], lookM [((.sl 2), some (.box [T ⟨#[]⟩, T ⟨#[]⟩, I 0, T ⟨#[]⟩, I 0, I 0, I 0, I 0, .nl])), ((.sl 4), some (.arr 9 1 RW)), ((.sl 12), some (.box [T id, T fl, I num, T sp, I sh, I gr, I wd, I ln, .rf (.ce 12 8) none 0 acc.length])), ((.ce 12 8), some (.arr 75 4 (acc.map bC)))]⟩)) =
      rbE (rbF (bs.drop i)) (fun r => some (.nm, ⟨lookS [(2, .bp (.sl 2) 0), (12, .bp (.sl 12) 0), (13, B ok)], lookM [((.sl 2), some (.box [T ⟨#[]⟩, T ⟨#[]⟩, I 0, T ⟨#[]⟩, I 0, I 0, I 0, I 0, .nl])), ((.sl 12), some (.box [T id, T fl, I num, T sp, I sh, I gr, I wd, I ln, .rf (.ce 12 8) none 0 (acc ++ r).length])), ((.ce 12 8), some (.arr 75 4 ((acc ++ r).map bC)))]⟩)) (some (.rt, ⟨lookS [(2, .bp (.sl 2) 0), (3, B false)], lookM [((.sl 2), some (.box [T ⟨#[]⟩, T ⟨#[]⟩, I 0, T ⟨#[]⟩, I 0, I 0, I 0, I 0, .nl]))]⟩)) := by
  intro n
  induction n with
  | zero =>
    intro i acc hi ha hne
    have h0 : ¬ (i : Int) + 5 < (bs.length : Int) + 5 := by omega
    have h00 : ¬ (i : Int) < (bs.length : Int) := by omega
    rw [List.drop_eq_nil_of_le (by omega), lp_step]
    simp [h0, h00, rbF]
  | succ n ih =>
    intro i acc hi ha hne
    have hlt : i < bs.length := by omega
    have h0 : (i : Int) + 5 < (bs.length : Int) + 5 ∧ (i : Int) < (bs.length : Int) ∧ (0 : Int) ≤ (i : Int) + 5 := by omega
    obtain ⟨x, hx⟩ := get_lt hlt
    have hg := hRW i x hx
    have tn : ((i : Int) + 5).toNat = i + 5 := by omega
    have hb : acc.length + 1 ≤ big := by simp only [big]; omega
    have hi1 : IntKind.i64.wrap ((i : Int) + 5 + 1) = (i : Int) + 1 + 5 := by rw [IntWalk.i64_in _ (by omega)]; omega
    rw [drop_get hx, rbF]
    by_cases h45 : x = ⟨#[45]⟩
    · have p1 := r50d (d + 3)
      have hbx : rbO x = none := by unfold rbO; rw [if_pos h45]
      rw [hbx]
      subst h45
      rw [lp_step]
      simp [h0, tn, hg, p1]
    · have p1 := r50 d x (hz x (List.mem_of_getElem? hx)) h45
      unfold rbO
      rw [if_neg h45]
      generalize rlO x = r at p1 ⊢
      unfold oLn at p1
      rcases r with _ | r
      · rw [lp_step]
        simp [h0, tn, hg, p1]
      rcases r with _ | ⟨a, _ | ⟨b, _ | ⟨c, _ | ⟨e, _ | ⟨y, r⟩⟩⟩⟩⟩
      · rw [lp_step]
        simp [h0, tn, hg, p1]
      · rw [lp_step]
        simp [h0, tn, hg, p1]
      · rw [lp_step]
        simp [h0, tn, hg, p1]
      · rw [lp_step]
        simp [h0, tn, hg, p1]
      · have ih' := ih (i + 1) (acc ++ [(a, b, c, e)]) (by omega) (by simp; omega) (by simp)
        simp only [Option.bind_some]
        rw [rbE_map]
        simp only [Int.natCast_add, Int.cast_ofNat_Int] at ih'
        simp at ih'
        rw [lp_step]
        simp [h0, tn, hg, p1, hb, hi1, ih']
      · have h3 : ¬ ((r.length : Int) + 1 + 1 + 1 + 1 + 1 = 4) := by omega
        rw [lp_step]
        simp [h0, tn, hg, p1, h3]
end Go.Proofs.YthnkioafikmmaaaDoor.walkS
