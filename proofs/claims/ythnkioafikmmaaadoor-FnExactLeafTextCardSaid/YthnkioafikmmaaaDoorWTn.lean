/- Numbers as texts and back; texts split; no conditions. -/
import Derived.Test.YthnkioafikmmaaaDoorWTt
import Derived.Test.YthnkioafikmmaaaDoorWInt
namespace Go.Proofs.YthnkioafikmmaaaDoor.walkS
open Go Go.Proofs.YthnkioafikmmaaaDoor.Ev
set_option linter.unusedSimpArgs false
set_option linter.unusedVariables false
open Go.Lib
abbrev uC (b : UInt8) : List Cell := [.sc (.int .u8 b.toNat)]
theorem uC_shut (b : UInt8) : (uC b).map shutC = uC b := rfl
theorem shut_uC (l : List UInt8) : shut (l.map uC) = l.map uC := shut_map uC_shut l
attribute [simp high] shut_uC
theorem u45 : uC 45 = [.sc (.int .u8 45)] := rfl
theorem u48 : uC 48 = [.sc (.int .u8 48)] := rfl
theorem nums_uC : ∀ l : List UInt8, numsOf (l.map uC) = some (l.map fun b => (b.toNat : Int)) := by
  intro l
  induction l with
  | nil => rfl
  | cons b l ih => simp only [List.map_cons, uC, numsOf, ih]
theorem str_uC (l : List UInt8) : strOfNums (l.map fun b => (b.toNat : Int)) = ofL l := by
  unfold strOfNums ofL
  rw [List.map_map]
  congr 1
  congr 1
  exact (List.map_congr_left fun b _ => by simp).trans (List.map_id _)
attribute [simp] nums_uC str_uC
theorem decB_zero : decB 0 = ⟨#[48]⟩ := by
  show (⟨(Lib.itoa 0).toArray⟩ : ByteArray) = _
  unfold Lib.itoa
  rw [if_neg (by decide), show (0 : Int).toNat = 0 from rfl, decDigits_one (by decide)]
  rfl
theorem decB_ofL (n : Int) : decB n = ofL (Lib.itoa n) := rfl
theorem tdiv_nat (c : Nat) : (c : Int).tdiv 10 = ((c / 10 : Nat) : Int) := by rw [Int.tdiv_eq_ediv_of_nonneg (by omega)]; omega
theorem tmod_nat (c : Nat) : (c : Int).tmod 10 = ((c % 10 : Nat) : Int) := by rw [Int.tmod_eq_emod_of_nonneg (by omega)]; omega
theorem natAbs_tdiv10 (m : Int) : (m.tdiv 10).natAbs = m.natAbs / 10 := by rw [Int.natAbs_tdiv]; rfl
theorem digit_u8 (c : Nat) : ((UInt8.ofNat (48 + c % 10)).toNat : Int) = 48 + ((c % 10 : Nat) : Int) := by
  have : (48 + c % 10) % 256 = 48 + c % 10 := by omega
  first | (simp [this]; done) | (simp [this]; omega)
theorem p64 (d : Nat) (n : Int) (h0 : -9223372036854775808 ≤ n) (h1 : n ≤ 9223372036854775807) : ev d 64 [I n, I 10] = some (T (decB n), []) := by
  rw [q64R]
  exact prim_formatInt n h0 h1
theorem r34 (d : Nat) (n : Int) (h0 : -9223372036854775808 ≤ n) (h1 : n ≤ 9223372036854775807) : ev (d + 1) 34 [I n] = some (T (decB n), []) := by
  rw [s34 d _ rfl]
  have p1 := p64 d n h0 h1
  simp [p1]
theorem l61 (d : Nat) (n : Int) : ∀ (k : Nat) (m : Int) (acc r : List UInt8), m.natAbs < 10 ^ k → m.natAbs ≤ 9223372036854775808 → acc.length + k ≤ 40 → acc ++ dgs k m.natAbs = r →
    clC [0, 3] [2] (blk 0 (lp (evC (ev d) b61_1) (clean [0, 3, 4]) ⟨lookS [(0, I n), (3, .rf (.sl 3) none 0 acc.length), (4, I m)], lookM [(.sl 3, some (.arr 5 1 (acc.map uC)))]⟩)) =
      some (.nm, ⟨lookS [(0, I n), (3, .rf (.sl 3) none 0 r.length)], lookM [(.sl 3, some (.arr 5 1 (r.map uC)))]⟩) := by
  intro k
  induction k with
  | zero =>
    intro m acc r hm hM hk hr
    have hz : m = 0 := by simp at hm; exact hm
    subst hz
    have hr : acc = r := by simpa [dgs] using hr
    subst hr
    rw [lp_step]
    simp
  | succ k ih =>
    intro m acc r hm hM hk hr
    by_cases hz : m = 0
    · subst hz
      have hr : acc = r := by simpa [dgs] using hr
      subst hr
      rw [lp_step]
      simp
    have hb : acc.length + 1 ≤ big := by simp only [big]; omega
    rw [Nat.pow_succ] at hm
    rw [dgs, if_neg (by omega)] at hr
    have ih' := ih (m.tdiv 10) (acc ++ [UInt8.ofNat (48 + m.natAbs % 10)]) r (by rw [natAbs_tdiv10]; omega) (by rw [natAbs_tdiv10]; omega) (by simp; omega) (by rw [natAbs_tdiv10, List.append_assoc]; exact hr)
    have hdg := digit_u8 m.natAbs
    generalize UInt8.ofNat (48 + m.natAbs % 10) = dg at *
    simp at ih'
    rcases Int.natAbs_eq m with e | e
    · generalize m.natAbs = c at *
      subst e
      have t1 := tdiv_nat c
      have t2 := tmod_nat c
      rw [t1] at ih'
      have w1 : IntKind.i64.wrap ((c : Int) / 10) = (c : Int) / 10 := IntWalk.i64_in _ (by omega)
      have w2 : IntKind.u8.wrap (IntKind.i64.wrap (48 + (c : Int) % 10)) = (dg.toNat : Int) := by
        rw [hdg, IntWalk.i64_in _ (by omega), IntWalk.u8_in _ (by omega)]
        omega
      have n0 : ¬ (c : Int) % 10 < 0 := by omega
      have hz2 : ¬ (c : Int) = 0 := by omega
      have hz2 := And.intro hz2 (show ¬ c = 0 by omega)
      rw [show ((c / 10 : Nat) : Int) = (c : Int) / 10 by omega] at t1 ih'
      rw [show ((c % 10 : Nat) : Int) = (c : Int) % 10 by omega] at t2
      rw [lp_step]
      simp [hz2, t1, t2, w1, w2, n0, hb, ih']
    · generalize m.natAbs = c at *
      subst e
      have q1 : (-(c : Int)).tdiv 10 = -((c : Int) / 10) := by rw [Int.neg_tdiv, tdiv_nat]; omega
      have q2 : (-(c : Int)).tmod 10 = -((c : Int) % 10) := by rw [Int.neg_tmod, tmod_nat]; omega
      rw [q1] at ih'
      have w1 : IntKind.i64.wrap (-((c : Int) / 10)) = -((c : Int) / 10) := IntWalk.i64_in _ (by omega)
      have w2 : IntKind.u8.wrap (IntKind.i64.wrap (48 + (c : Int) % 10)) = (dg.toNat : Int) := by
        rw [hdg, IntWalk.i64_in _ (by omega), IntWalk.u8_in _ (by omega)]
        omega
      have w3 : IntKind.i64.wrap ((c : Int) % 10) = (c : Int) % 10 := IntWalk.i64_in _ (by omega)
      have w4 : IntKind.i64.wrap (-((c : Int) % 10)) = -((c : Int) % 10) := IntWalk.i64_in _ (by omega)
      have hz2 : ¬ (c : Int) = 0 := by omega
      have hz2 := And.intro hz2 (show ¬ c = 0 by omega)
      rw [lp_step]
      by_cases n0 : (c : Int) % 10 = 0
      · rw [n0] at w2 q2
        have w5 : dg = 48 := UInt8.toNat_inj.1 (by have : (48 : UInt8).toNat = 48 := rfl; omega)
        subst w5
        simp [u48] at w2 q2 ih'
        simp [hz2, q1, q2, w1, w2, w4, n0, hb, ih']
      · have n1 : 0 < (c : Int) % 10 := by omega
        simp [hz2, q1, q2, w1, w2, w3, w4, n1, hb, ih']
theorem l61_2 (d : Nat) (ds : List UInt8) (hd : ds.length ≤ 100) : ∀ (n : Nat) (acc r : List UInt8), n ≤ ds.length → acc.length + n ≤ 100 → acc ++ (ds.take n).reverse = r →
    clC [6] [2] (blk 2 (lp (evC (ev d) b61_2) (clean [3, 6, 7]) ⟨lookS [(3, .rf (.sl 3) none 0 ds.length), (6, .rf (.sl 6) none 0 acc.length), (7, I ((n : Int) - 1))], lookM [(.sl 3, some (.arr 5 1 (ds.map uC))), (.sl 6, some (.arr 5 1 (acc.map uC)))]⟩)) =
      some (.nm, ⟨lookS [(6, .rf (.sl 6) none 0 r.length)], lookM [(.sl 6, some (.arr 5 1 (r.map uC)))]⟩) := by
  intro n
  induction n with
  | zero =>
    intro acc r hn hk hr
    have hr : acc = r := by simpa using hr
    subst hr
    rw [lp_step]
    simp
  | succ n ih =>
    intro acc r hn hk hr
    obtain ⟨x, hx⟩ := get_lt (show n < ds.length by omega)
    have ht : ds.take (n + 1) = ds.take n ++ [x] := by rw [List.take_add_one, hx]; rfl
    rw [ht, List.reverse_append] at hr
    have hb : acc.length + 1 ≤ big := by simp only [big]; omega
    have ih' := ih (acc ++ [x]) r (by omega) (by simp; omega) (by rw [List.append_assoc]; exact hr)
    simp at ih'
    have w1 : IntKind.i64.wrap ((n : Int) - 1) = (n : Int) - 1 := IntWalk.i64_in _ (by omega)
    have h0 : (0 : Int) ≤ (n : Int) := by omega
    have h2 : (n : Int) < (ds.length : Int) := by omega
    rw [lp_step]
    simp [h0, h2, hx, w1, hb, ih']
theorem dec_rev {n : Int} (h0 : -9223372036854775808 ≤ n) (h1 : n ≤ 9223372036854775807) (hz : n ≠ 0) : (dgs 20 n.natAbs ++ (if n < 0 then [45] else [])).reverse = Lib.itoa n := by
  have hd := dgs_ten 20 n.natAbs (by have : (10 : Nat) ^ 20 = 100000000000000000000 := by decide
                                     rw [this]; omega) (by omega)
  rw [List.reverse_append, hd]
  unfold Lib.itoa
  by_cases h : n < 0
  · rw [if_pos h, if_pos h]; rfl
  · rw [if_neg h, if_neg h, show n.toNat = n.natAbs by omega]; rfl
theorem r61 (d : Nat) (n : Int) (h0 : -9223372036854775808 ≤ n) (h1 : n ≤ 9223372036854775807) : ev (d + 1) 61 [I n] = some (T (decB n), []) := by
  rw [s61 d _ rfl]
  by_cases hz : n = 0
  · subst hz
    rw [decB_zero]
    simp
  have h20 : (10 : Nat) ^ 20 = 100000000000000000000 := by decide
  have k1 := l61 d n 20 n [] (dgs 20 n.natAbs) (by rw [h20]; omega) (by omega) (by simp) rfl
  have hr := dec_rev h0 h1 hz
  have hlen := dgs_len 20 n.natAbs
  simp at k1
  by_cases h : n < 0
  · rw [if_pos h] at hr
    generalize dgs 20 n.natAbs = ds at *
    have k2 := l61_2 d (ds ++ [45]) (by simp; omega) (ds ++ [45]).length [] (Lib.itoa n) (Nat.le_refl _) (by simp; omega) (by rw [List.take_length, hr]; rfl)
    have hb : ds.length + 1 ≤ big := by simp only [big]; omega
    have w1 : IntKind.i64.wrap ((ds.length : Int) + 1 - 1) = (ds.length : Int) + 1 - 1 := IntWalk.i64_in _ (by omega)
    simp [u45] at k2 w1
    simp [hz, k1, h, hb, w1, k2, decB_ofL]
  · rw [if_neg h, List.append_nil] at hr
    generalize dgs 20 n.natAbs = ds at *
    have k2 := l61_2 d ds (by omega) ds.length [] (Lib.itoa n) (Nat.le_refl _) (by simp; omega) (by rw [List.take_length, hr]; rfl)
    have w1 : IntKind.i64.wrap ((ds.length : Int) - 1) = (ds.length : Int) - 1 := IntWalk.i64_in _ (by omega)
    simp at k2 w1
    simp [hz, k1, h, w1, k2, decB_ofL]
theorem ng_pref {s : ByteArray} (h : 1 ≤ s.size) : decide (s.extract 0 1 = ⟨#[45]⟩) = ngB s := by
  have hl : (s.extract 0 1).data.toList = s.data.toList.take 1 := by rw [Lib.extract_data]; simp
  unfold ngB
  cases hs : s.data.toList with
  | nil => rw [size_list, hs] at h; simp at h
  | cons b l =>
    rw [hs] at hl
    have hl : (s.extract 0 1).data.toList = [b] := by simpa using hl
    by_cases e : b = 45
    · subst e
      have : s.extract 0 1 = ⟨#[45]⟩ := ba_ext hl
      simp [this]
    · have : s.extract 0 1 ≠ ⟨#[45]⟩ := fun q => by
        rw [q] at hl
        have : [(45 : UInt8)] = [b] := hl
        exact e (by simpa using this.symm)
      simp [this, e]
theorem ng_zero {s : ByteArray} (h : ¬ 1 ≤ s.size) : ngB s = false := by
  unfold ngB
  cases hs : s.data.toList with
  | nil => rfl
  | cons b l => rw [size_list, hs] at h; simp at h
def rdE {α : Type} (x : Option Nat) (A : Nat → α) (B : α) : α := match x with | some r => A r | none => B
theorem rdE_s {α : Type} (r : Nat) (A : Nat → α) (B : α) : rdE (some r) A B = A r := rfl
theorem rdE_n {α : Type} (A : Nat → α) (B : α) : rdE none A B = B := rfl
attribute [simp] rdE_s rdE_n
theorem scan_cons {x : UInt8} {l : List UInt8} {v : Nat} : scan (x :: l) v = if isDg x = true then scan l (v * 10 + (x.toNat - 48)) else none := rfl
theorem ten_step {i v : Nat} (hv : v < 10 ^ i) {e : Nat} (he : e < 10) : v * 10 + e < 10 ^ (i + 1) := by rw [Nat.pow_succ]; omega
theorem ten_big {i v : Nat} (hv : v < 10 ^ i) (hi : i ≤ 17) : v < 100000000000000000 := by
  have h1 : 10 ^ i ≤ 10 ^ 17 := Nat.pow_le_pow_right (by decide) hi
  have h2 : (10 : Nat) ^ 17 = 100000000000000000 := by decide
  omega
theorem rdg88 (d : Nat) (x : UInt8) : ev (d + 1) 88 [.sc (.int .u8 x.toNat)] = some (B (isDg x), []) := by
  rw [s88 d _ rfl]
  unfold isDg
  by_cases h1 : 48 ≤ x.toNat
  · have g1 : (48 : Int) ≤ (x.toNat : Int) := by omega
    by_cases h2 : x.toNat ≤ 57
    · have g2 : (x.toNat : Int) ≤ 57 := by omega
      simp [h1, h2, g1, g2]
    · have g2 : ¬ (x.toNat : Int) ≤ 57 := by omega
      simp [h1, h2, g1, g2]
  · have g1 : ¬ (48 : Int) ≤ (x.toNat : Int) := by omega
    simp [h1, g1]
def rdN (s : ByteArray) : Int × Bool := match rdB s with | some n => (n, true) | none => (0, false)
theorem rdN_long {s : ByteArray} (h : (bdB s).length < 1 ∨ 18 < (bdB s).length) : rdN s = (0, false) := by
  unfold rdN rdB rawB
  rw [if_pos h, ite_self]
theorem bd_ext (s : ByteArray) : (s.extract 1 s.size).data.toList = s.data.toList.drop 1 := Lib.extract_to_end s 1
theorem ext_size (s : ByteArray) : (s.extract 1 s.size).size = s.size - 1 := by rw [ByteArray.size_extract]; omega
theorem ng_size {s : ByteArray} (h : ngB s = true) : 1 ≤ s.size := by
  rw [size_list]
  unfold ngB at h
  cases hs : s.data.toList with
  | nil => rw [hs] at h; simp at h
  | cons b l => simp
end Go.Proofs.YthnkioafikmmaaaDoor.walkS
