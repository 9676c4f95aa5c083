/- Numbers as texts and back; texts split; no conditions. -/
import Derived.Test.YthnkioafikmmaaaDoorWTt
import Derived.Test.YthnkioafikmmaaaDoorWInt
namespace Go.Proofs.YthnkioafikmmaaaDoor.walkS
open Go Go.Proofs.YthnkioafikmmaaaDoor.Ev
set_option linter.unusedSimpArgs false
set_option linter.unusedVariables false
open Go.Lib
abbrev uC (b : UInt8) : List Cell := [.sc (.int .u8 b.toNat)]
theorem uC_shut (b : UInt8) : (uC b).map shutC = uC b := rfl
theorem shut_uC (l : List UInt8) : shut (l.map uC) = l.map uC := shut_map uC_shut l
attribute [simp high] shut_uC
theorem u45 : uC 45 = [.sc (.int .u8 45)] := rfl
theorem u48 : uC 48 = [.sc (.int .u8 48)] := rfl
theorem nums_uC : ∀ l : List UInt8, numsOf (l.map uC) = some (l.map fun b => (b.toNat : Int)) := by
  intro l
  induction l with
  | nil => rfl
  | cons b l ih => simp only [List.map_cons, uC, numsOf, ih]
theorem str_uC (l : List UInt8) : strOfNums (l.map fun b => (b.toNat : Int)) = ofL l := by
  unfold strOfNums ofL
  rw [List.map_map]
  congr 1
  congr 1
  exact (List.map_congr_left fun b _ => by simp).trans (List.map_id _)
attribute [simp] nums_uC str_uC
theorem decB_zero : decB 0 = ⟨#[48]⟩ := by
  show (⟨(Lib.itoa 0).toArray⟩ : ByteArray) = _
  unfold Lib.itoa
  rw [if_neg (by decide), show (0 : Int).toNat = 0 from rfl, decDigits_one (by decide)]
  rfl
theorem decB_ofL (n : Int) : decB n = ofL (Lib.itoa n) := rfl
theorem tdiv_nat (c : Nat) : (c : Int).tdiv 10 = ((c / 10 : Nat) : Int) := by rw [Int.tdiv_eq_ediv_of_nonneg (by omega)]; omega
theorem tmod_nat (c : Nat) : (c : Int).tmod 10 = ((c % 10 : Nat) : Int) := by rw [Int.tmod_eq_emod_of_nonneg (by omega)]; omega
theorem natAbs_tdiv10 (m : Int) : (m.tdiv 10).natAbs = m.natAbs / 10 := by rw [Int.natAbs_tdiv]; rfl
theorem digit_u8 (c : Nat) : ((UInt8.ofNat (48 + c % 10)).toNat : Int) = 48 + ((c % 10 : Nat) : Int) := by
  have : (48 + c % 10) % 256 = 48 + c % 10 := by omega
  first | (simp [this]; done) | (simp [this]; omega)
theorem p64 (d : Nat) (n : Int) (h0 : -9223372036854775808 ≤ n) (h1 : n ≤ 9223372036854775807) : ev d 64 [I n, I 10] = some (T (decB n), []) := by
  rw [q64R]
  exact prim_formatInt n h0 h1
theorem r34 (d : Nat) (n : Int) (h0 : -9223372036854775808 ≤ n) (h1 : n ≤ 9223372036854775807) : ev (d + 1) 34 [I n] = some (T (decB n), []) := by
  rw [s34 d _ rfl]
  have p1 := p64 d n h0 h1
  simp [p1]
theorem dec_rev {n : Int} (h0 : -9223372036854775808 ≤ n) (h1 : n ≤ 9223372036854775807) (hz : n ≠ 0) : (dgs 20 n.natAbs ++ (if n < 0 then [45] else [])).reverse = Lib.itoa n := by
  have hd := dgs_ten 20 n.natAbs (by have : (10 : Nat) ^ 20 = 100000000000000000000 := by decide
                                     rw [this]; omega) (by omega)
  rw [List.reverse_append, hd]
  unfold Lib.itoa
  by_cases h : n < 0
  · rw [if_pos h, if_pos h]; rfl
  · rw [if_neg h, if_neg h, show n.toNat = n.natAbs by omega]; rfl
theorem ng_pref {s : ByteArray} (h : 1 ≤ s.size) : decide (s.extract 0 1 = ⟨#[45]⟩) = ngB s := by
  have hl : (s.extract 0 1).data.toList = s.data.toList.take 1 := by rw [Lib.extract_data]; simp
  unfold ngB
  cases hs : s.data.toList with
  | nil => rw [size_list, hs] at h; simp at h
  | cons b l =>
    rw [hs] at hl
    have hl : (s.extract 0 1).data.toList = [b] := by simpa using hl
    by_cases e : b = 45
    · subst e
      have : s.extract 0 1 = ⟨#[45]⟩ := ba_ext hl
      simp [this]
    · have : s.extract 0 1 ≠ ⟨#[45]⟩ := fun q => by
        rw [q] at hl
        have : [(45 : UInt8)] = [b] := hl
        exact e (by simpa using this.symm)
      simp [this, e]
theorem ng_zero {s : ByteArray} (h : ¬ 1 ≤ s.size) : ngB s = false := by
  unfold ngB
  cases hs : s.data.toList with
  | nil => rfl
  | cons b l => rw [size_list, hs] at h; simp at h
theorem r95 (d : Nat) (s : ByteArray) : ev (d + 1) 95 [T s, T ⟨#[45]⟩] = some (B (ngB s), []) := by
  rw [s95 d _ rfl]
  have hz : (⟨#[45]⟩ : ByteArray).size = 1 := rfl
  by_cases h : 1 ≤ s.size
  · have e := ng_pref h
    have h2 : (1 : Int) ≤ (s.size : Int) := by omega
    simp [hz, h, h2, e]
  · have e := ng_zero h
    have h2 : ¬ (1 : Int) ≤ (s.size : Int) := by omega
    simp [hz, h2, e]
theorem r81 (d : Nat) (s : ByteArray) : ev (d + 2) 81 [T s, T ⟨#[45]⟩] = some (B (ngB s), []) := by
  rw [s81 (d + 1) _ rfl]
  simp [r95]
def rdE {α : Type} (x : Option Nat) (A : Nat → α) (B : α) : α := match x with | some r => A r | none => B
theorem rdE_s {α : Type} (r : Nat) (A : Nat → α) (B : α) : rdE (some r) A B = A r := rfl
theorem rdE_n {α : Type} (A : Nat → α) (B : α) : rdE none A B = B := rfl
attribute [simp] rdE_s rdE_n
theorem scan_cons {x : UInt8} {l : List UInt8} {v : Nat} : scan (x :: l) v = if isDg x = true then scan l (v * 10 + (x.toNat - 48)) else none := rfl
theorem ten_step {i v : Nat} (hv : v < 10 ^ i) {e : Nat} (he : e < 10) : v * 10 + e < 10 ^ (i + 1) := by rw [Nat.pow_succ]; omega
theorem ten_big {i v : Nat} (hv : v < 10 ^ i) (hi : i ≤ 17) : v < 100000000000000000 := by
  have h1 : 10 ^ i ≤ 10 ^ 17 := Nat.pow_le_pow_right (by decide) hi
  have h2 : (10 : Nat) ^ 17 = 100000000000000000 := by decide
  omega
theorem rdg88 (d : Nat) (x : UInt8) : ev (d + 1) 88 [.sc (.int .u8 x.toNat)] = some (B (isDg x), []) := by
  rw [s88 d _ rfl]
  unfold isDg
  by_cases h1 : 48 ≤ x.toNat
  · have g1 : (48 : Int) ≤ (x.toNat : Int) := by omega
    by_cases h2 : x.toNat ≤ 57
    · have g2 : (x.toNat : Int) ≤ 57 := by omega
      simp [h1, h2, g1, g2]
    · have g2 : ¬ (x.toNat : Int) ≤ 57 := by omega
      simp [h1, h2, g1, g2]
  · have g1 : ¬ (48 : Int) ≤ (x.toNat : Int) := by omega
    simp [h1, g1]
theorem l49 (d : Nat) (s0 s : ByteArray) (o : Nat) (ho : s.size ≤ o + 18) (ho1 : o ≤ 1) : ∀ (n i v : Nat), n + i = s.size → o ≤ i → v < 10 ^ (i - o) →
    clC [0, 4, 5] [2, 3] (blk 0 (lp (evC (ev d) b49_1) (clean [0, 4, 5, 6]) ⟨lookS [(0, T s0), (4, T s), (5, I v), (6, I i)], lookM []⟩)) =
      rdE (scan (s.data.toList.drop i) v) (fun r => some (.nm, ⟨lookS [(0, T s0), (4, T s), (5, I r)], lookM []⟩)) (some (.rt, ⟨lookS [(2, I 0), (3, B false)], lookM []⟩)) := by
  intro n
  induction n with
  | zero =>
    intro i v hi ho2 hv
    have h0 : ¬ (i : Int) < (s.size : Int) := by omega
    have hl := size_list s
    rw [List.drop_eq_nil_of_le (by omega), lp_step]
    simp [h0, scan]
  | succ n ih =>
    intro i v hi ho2 hv
    have h0 : (i : Int) < (s.size : Int) := by omega
    have hl := size_list s
    obtain ⟨x, hx⟩ := get_lt (show i < s.data.toList.length by omega)
    have hw := wrap_nat (i := i) (by have := ho; omega)
    have hvb := ten_big hv (by omega)
    rw [drop_get hx, scan_cons]
    by_cases hd : isDg x = true
    · obtain ⟨_, g2⟩ := dg_of hd
      have hd2 := hd
      unfold isDg at hd2
      simp only [Bool.and_eq_true, decide_eq_true_eq] at hd2
      have ih' := ih (i + 1) (v * 10 + (x.toNat - 48)) (by omega) (by omega) (by rw [show i + 1 - o = i - o + 1 by omega]; exact ten_step hv g2)
      have e1 : ((v * 10 + (x.toNat - 48) : Nat) : Int) = (v : Int) * 10 + ((x.toNat : Int) - 48) := by omega
      rw [e1] at ih'
      simp at ih'
      have w1 : IntKind.u8.wrap ((x.toNat : Int) - 48) = (x.toNat : Int) - 48 := IntWalk.u8_in _ (by omega)
      have w2 : IntKind.i64.wrap ((x.toNat : Int) - 48) = (x.toNat : Int) - 48 := IntWalk.i64_in _ (by omega)
      have w3 : IntKind.i64.wrap ((v : Int) * 10) = (v : Int) * 10 := IntWalk.i64_in _ (by omega)
      have w4 : IntKind.i64.wrap (10 * (v : Int)) = (v : Int) * 10 := by rw [Int.mul_comm]; exact w3
      have w5 : IntKind.i64.wrap ((v : Int) * 10 + ((x.toNat : Int) - 48)) = (v : Int) * 10 + ((x.toNat : Int) - 48) := IntWalk.i64_in _ (by omega)
      have c1 : ¬ (x.toNat : Int) < 48 := by omega
      have c2 : ¬ (57 : Int) < (x.toNat : Int) := by omega
      rw [if_pos hd, lp_step]
      simp [h0, hx, hw, w1, w2, w3, w4, w5, c1, c2, hd, ih']
    · rw [if_neg hd, lp_step]
      have hd2 := hd
      unfold isDg at hd2
      by_cases c1 : (x.toNat : Int) < 48
      · simp [h0, hx, c1, hd]
      · have c2 : (57 : Int) < (x.toNat : Int) := by
          simp only [Bool.and_eq_true, decide_eq_true_eq] at hd2
          omega
        simp [h0, hx, c1, c2, hd]
theorem l79 (d : Nat) (s0 s : ByteArray) (o : Nat) (ho : s.size ≤ o + 18) (ho1 : o ≤ 1) : ∀ (n i v : Nat), n + i = s.size → o ≤ i → v < 10 ^ (i - o) →
    clC [4, 5] [2, 3] (blk 0 (lp (evC (ev (d + 1)) b79_1) (clean [0, 4, 5, 6]) ⟨lookS [(0, T s), (4, I o), (5, I v), (6, I i)], lookM []⟩)) =
      rdE (scan (s.data.toList.drop i) v) (fun r => some (.nm, ⟨lookS [(4, I o), (5, I r)], lookM []⟩)) (some (.rt, ⟨lookS [(2, I 0), (3, B false)], lookM []⟩)) := by
  intro n
  induction n with
  | zero =>
    intro i v hi ho2 hv
    have h0 : ¬ (i : Int) < (s.size : Int) := by omega
    have hl := size_list s
    rw [List.drop_eq_nil_of_le (by omega), lp_step]
    simp [h0, scan]
  | succ n ih =>
    intro i v hi ho2 hv
    have h0 : (i : Int) < (s.size : Int) := by omega
    have hl := size_list s
    obtain ⟨x, hx⟩ := get_lt (show i < s.data.toList.length by omega)
    have hw := wrap_nat (i := i) (by have := ho; omega)
    have hvb := ten_big hv (by omega)
    rw [drop_get hx, scan_cons]
    by_cases hd : isDg x = true
    · obtain ⟨_, g2⟩ := dg_of hd
      have hd2 := hd
      unfold isDg at hd2
      simp only [Bool.and_eq_true, decide_eq_true_eq] at hd2
      have ih' := ih (i + 1) (v * 10 + (x.toNat - 48)) (by omega) (by omega) (by rw [show i + 1 - o = i - o + 1 by omega]; exact ten_step hv g2)
      have e1 : ((v * 10 + (x.toNat - 48) : Nat) : Int) = (v : Int) * 10 + ((x.toNat : Int) - 48) := by omega
      rw [e1] at ih'
      simp at ih'
      have w1 : IntKind.u8.wrap ((x.toNat : Int) - 48) = (x.toNat : Int) - 48 := IntWalk.u8_in _ (by omega)
      have w2 : IntKind.i64.wrap ((x.toNat : Int) - 48) = (x.toNat : Int) - 48 := IntWalk.i64_in _ (by omega)
      have w3 : IntKind.i64.wrap ((v : Int) * 10) = (v : Int) * 10 := IntWalk.i64_in _ (by omega)
      have w4 : IntKind.i64.wrap (10 * (v : Int)) = (v : Int) * 10 := by rw [Int.mul_comm]; exact w3
      have w5 : IntKind.i64.wrap ((v : Int) * 10 + ((x.toNat : Int) - 48)) = (v : Int) * 10 + ((x.toNat : Int) - 48) := IntWalk.i64_in _ (by omega)
      have c1 : ¬ (x.toNat : Int) < 48 := by omega
      have c2 : ¬ (57 : Int) < (x.toNat : Int) := by omega
      rw [if_pos hd, lp_step]
      simp [h0, hx, hw, w1, w2, w3, w4, w5, c1, c2, rdg88, hd, ih']
    · rw [if_neg hd, lp_step]
      have hd2 := hd
      unfold isDg at hd2
      by_cases c1 : (x.toNat : Int) < 48
      · simp [h0, hx, c1, rdg88, hd]
      · have c2 : (57 : Int) < (x.toNat : Int) := by
          simp only [Bool.and_eq_true, decide_eq_true_eq] at hd2
          omega
        simp [h0, hx, c1, c2, rdg88, hd]
def rdN (s : ByteArray) : Int × Bool := match rdB s with | some n => (n, true) | none => (0, false)
theorem rdN_long {s : ByteArray} (h : (bdB s).length < 1 ∨ 18 < (bdB s).length) : rdN s = (0, false) := by
  unfold rdN rdB rawB
  rw [if_pos h, ite_self]
theorem bd_ext (s : ByteArray) : (s.extract 1 s.size).data.toList = s.data.toList.drop 1 := Lib.extract_to_end s 1
theorem ext_size (s : ByteArray) : (s.extract 1 s.size).size = s.size - 1 := by rw [ByteArray.size_extract]; omega
theorem ng_size {s : ByteArray} (h : ngB s = true) : 1 ≤ s.size := by
  rw [size_list]
  unfold ngB at h
  cases hs : s.data.toList with
  | nil => rw [hs] at h; simp at h
  | cons b l => simp
theorem r49 (d : Nat) (s : ByteArray) (hs : s.size ≤ big) : ev (d + 3) 49 [T s] = some (.tu [I (rdN s).1, B (rdN s).2], []) := by
  rw [s49 (d + 2) _ rfl]
  have p1 := r81 d s
  have hl := size_list s
  simp only [big] at hs
  -- the digits alone
  obtain ⟨t, ht1, ht2, ht3⟩ : ∃ t : ByteArray, t.data.toList = bdB s ∧ t.size = (bdB s).length ∧ t = if ngB s = true then s.extract 1 s.size else s := by
    refine ⟨_, ?_, ?_, rfl⟩
    · unfold bdB
      by_cases h : ngB s = true
      · rw [if_pos h, if_pos h, bd_ext]
      · rw [if_neg h, if_neg h, List.drop_zero]
    · rw [size_list]
      congr 1
      unfold bdB
      by_cases h : ngB s = true
      · rw [if_pos h, if_pos h, bd_ext]
      · rw [if_neg h, if_neg h, List.drop_zero]
  have hlen : t.size = s.size - (if ngB s = true then 1 else 0) := by
    rw [ht2]
    unfold bdB
    rw [List.length_drop, ← hl]
  have fin : ∀ r : Int × Bool, r = rdN s → (∀ x : Option (LV × List LV), x = some (.tu [I r.1, B r.2], []) → x = some (.tu [I (rdN s).1, B (rdN s).2], [])) := fun r e x hx => by rw [hx, e]
  by_cases h1 : (bdB s).length < 1 ∨ 18 < (bdB s).length
  · have hr : rdN s = (0, false) := by
      unfold rdN rdB rawB
      rw [if_pos h1, ite_self]
    rw [hr]
    by_cases h : ngB s = true
    · rw [if_pos h] at ht3 hlen
      rw [h] at p1
      have z1 : (1 : Int) ≤ (s.size : Int) ∧ 1 ≤ s.size ∧ 0 < s.size ∧ ¬ s.size = 0 ∧ (0 : Int) < (s.size : Int) := by have := ng_size h; omega
      rcases h1 with h1 | h1
      · have c1 : (t.size : Int) < 1 := by omega
        simp [p1, z1, ht3.symm, c1]
      · have c1 : ¬ (t.size : Int) < 1 := by omega
        have c2 : (18 : Int) < (t.size : Int) := by omega
        simp [p1, z1, ht3.symm, c1, c2]
    · rw [if_neg h] at ht3 hlen
      have h' : ngB s = false := by simpa using h
      rw [h'] at p1
      subst ht3
      rcases h1 with h1 | h1
      · have c1 : (t.size : Int) < 1 := by omega
        simp [p1, c1]
      · have c1 : ¬ (t.size : Int) < 1 := by omega
        have c2 : (18 : Int) < (t.size : Int) := by omega
        simp [p1, c1, c2]
  · have key := l49 (d + 2) s t 0 (by omega) (by omega) t.size 0 0 (by omega) (by omega) (by simp)
    rw [List.drop_zero, ht1] at key
    have c1 : ¬ (t.size : Int) < 1 := by omega
    have c2 : ¬ (18 : Int) < (t.size : Int) := by omega
    cases hsc : scan (bdB s) 0 with
    | none =>
      have hr : rdN s = (0, false) := by
        unfold rdN rdB rawB
        rw [if_neg h1, hsc, Option.map_none, ite_self]
      rw [hr]
      rw [hsc] at key
      simp at key
      by_cases h : ngB s = true
      · rw [if_pos h] at ht3 hlen
        rw [h] at p1
        have z1 : (1 : Int) ≤ (s.size : Int) ∧ 1 ≤ s.size ∧ 0 < s.size ∧ ¬ s.size = 0 ∧ (0 : Int) < (s.size : Int) := by have := ng_size h; omega
        simp [p1, z1, ht3.symm, c1, c2, key]
      · rw [if_neg h] at ht3 hlen
        have h' : ngB s = false := by simpa using h
        rw [h'] at p1
        subst ht3
        simp [p1, c1, c2, key]
    | some v =>
      rw [hsc] at key
      simp at key
      have hraw : rawB s = some (if ngB s = true then -(v : Int) else (v : Int)) := by
        unfold rawB
        rw [if_neg h1, hsc]
        rfl
      have hb := raw_lt hraw
      have hlaw := rd_law hraw
      by_cases h : ngB s = true
      · rw [if_pos h] at ht3 hlen hb hlaw hraw
        rw [h] at p1
        have z1 : (1 : Int) ≤ (s.size : Int) ∧ 1 ≤ s.size ∧ 0 < s.size ∧ ¬ s.size = 0 ∧ (0 : Int) < (s.size : Int) := by have := ng_size h; omega
        have z2 : (t.size : Int) < (s.size : Int) := by omega
        have wn : IntKind.i64.wrap (0 - (v : Int)) = -(v : Int) := by rw [Int.zero_sub]; exact IntWalk.i64_in _ (by omega)
        have wn2 : IntKind.i64.wrap (-(v : Int)) = -(v : Int) := IntWalk.i64_in _ (by omega)
        have p2 := r34 (d + 1) (-(v : Int)) (by omega) (by omega)
        have hr : rdN s = if (bdB s).head? = some 48 ∧ 1 < s.size then (0, false) else (-(v : Int), true) := by
          unfold rdN rdB
          by_cases q : (bdB s).head? = some 48 ∧ 1 < s.size
          · rw [if_pos q, if_pos q]
          · rw [if_neg q, if_neg q, hraw]
        rw [hr]
        by_cases q : (bdB s).head? = some 48 ∧ 1 < s.size
        · have e : ¬ decB (-(v : Int)) = s := fun e => (hlaw.1 e) q
          rw [if_pos q]
          simp [p1, z1, ht3.symm, z2, c1, c2, key, wn, wn2, p2, e]
        · have e : decB (-(v : Int)) = s := hlaw.2 q
          rw [if_neg q]
          simp [p1, z1, ht3.symm, z2, c1, c2, key, wn, wn2, p2, e]
      · have h' : ngB s = false := by simpa using h
        rw [if_neg h] at ht3 hlen hb hlaw hraw
        rw [h'] at p1
        have p2 := r34 (d + 1) (v : Int) (by omega) (by omega)
        have hr : rdN s = if (bdB s).head? = some 48 ∧ 1 < s.size then (0, false) else ((v : Int), true) := by
          unfold rdN rdB
          by_cases q : (bdB s).head? = some 48 ∧ 1 < s.size
          · rw [if_pos q, if_pos q]
          · rw [if_neg q, if_neg q, hraw]
        rw [hr]
        subst ht3
        by_cases q : (bdB t).head? = some 48 ∧ 1 < t.size
        · have e : ¬ decB (v : Int) = t := fun e => (hlaw.1 e) q
          rw [if_pos q]
          simp [p1, c1, c2, key, p2, e]
        · have e : decB (v : Int) = t := hlaw.2 q
          rw [if_neg q]
          simp [p1, c1, c2, key, p2, e]
theorem r79 (d : Nat) (s : ByteArray) (hs : s.size ≤ big) : ev (d + 2) 79 [T s] = some (.tu [I (rdN s).1, B (rdN s).2], []) := by
  rw [s79 (d + 1) _ rfl]
  have hl := size_list s
  simp only [big] at hs
  by_cases hz : s.size = 0
  · have hnil : s.data.toList = [] := List.eq_nil_of_length_eq_zero (by omega)
    have hr : rdN s = (0, false) := by
      have hb : bdB s = [] := by unfold bdB; rw [hnil]; simp
      unfold rdN rdB rawB
      rw [hb]
      simp
    rw [hr]
    simp [hz]
  have z0 : (0 : Int) < (s.size : Int) ∧ 0 < s.size := by omega
  have z1 : ¬ (s.size : Int) = 0 ∧ ¬ s.size = 0 := by omega
  obtain ⟨b, hb⟩ := get_lt (show 0 < s.data.toList.length by omega)
  have hbl : ∃ l, s.data.toList = b :: l := by
    cases hq : s.data.toList with
    | nil => rw [hq] at hb; cases hb
    | cons x l => rw [hq] at hb; cases hb; exact ⟨l, rfl⟩
  obtain ⟨l, hbl⟩ := hbl
  have hw1 : (b :: l).length = s.size := by rw [← hbl, hl]
  simp only [List.length_cons] at hw1
  by_cases hn : b = 45
  · subst hn
    have hng : ngB s = true := by unfold ngB; rw [hbl]; rfl
    have hbd : bdB s = l := by unfold bdB; rw [if_pos hng, hbl]; rfl
    cases l with
    | nil =>
      have hr : rdN s = (0, false) := by
        unfold rdN rdB rawB
        rw [hbd]
        simp
      have e1 : (s.size : Int) = 1 ∧ s.size = 1 := by simp at hw1; omega
      rw [hr]
      simp [hbl, e1]
    | cons x l =>
      simp only [List.length_cons] at hw1
      have e1 : ¬ (s.size : Int) = 1 ∧ ¬ s.size = 1 := by omega
      have e2 : (1 : Int) < (s.size : Int) ∧ 1 < s.size := by omega
      have w1 : IntKind.i64.wrap ((s.size : Int) - 1) = (s.size : Int) - 1 := IntWalk.i64_in _ (by omega)
      have hx1 : s.data.toList[1]? = some x := by rw [hbl]; rfl
      by_cases h18 : 18 < (x :: l).length
      · have hr : rdN s = (0, false) := rdN_long (.inr (by rw [hbd]; exact h18))
        have e3 : (18 : Int) < (s.size : Int) - 1 := by simp only [List.length_cons] at h18; omega
        rw [hr]
        simp [hbl, z0, e1, w1, e3]
      · have e3 : ¬ (18 : Int) < (s.size : Int) - 1 := by simp only [List.length_cons] at h18; omega
        by_cases hx : x = 48
        · subst hx
          have hr : rdN s = (0, false) := by
            unfold rdN rdB
            rw [hbd, if_pos ⟨rfl, by omega⟩]
          rw [hr]
          simp [hbl, z0, e1, e2, w1, e3]
        · have hx2 : ¬ (x.toNat : Int) = 48 := fun q => hx (UInt8.toNat_inj.1 (by have : (48 : UInt8).toNat = 48 := rfl; omega))
          have key := l79 d s s 1 (by simp only [List.length_cons] at h18; omega) (by omega) (s.size - 1) 1 0 (by omega) (by omega) (by simp)
          rw [hbl] at key
          have hd1 : List.drop 1 ((45 : UInt8) :: x :: l) = x :: l := rfl
          rw [hd1] at key
          have hraw : rawB s = (scan (x :: l) 0).map fun (n : Nat) => -(n : Int) := by
            unfold rawB
            rw [hbd, if_neg (by simp only [List.length_cons] at h18 ⊢; omega)]
            simp [hng]
          have hrd : rdB s = rawB s := by
            unfold rdB
            rw [hbd, if_neg (by rintro ⟨q, _⟩; simp at q; exact hx q)]
          cases hsc : scan (x :: l) 0 with
          | none =>
            rw [hsc] at key hraw
            have hr : rdN s = (0, false) := by unfold rdN; rw [hrd, hraw]; rfl
            rw [hr]
            simp at key
            simp [hbl, z0, e1, e2, w1, e3, hx2, key]
          | some v =>
            rw [hsc] at key hraw
            have hr : rdN s = (-(v : Int), true) := by unfold rdN; rw [hrd, hraw]; rfl
            have hlt := raw_lt (n := -(v : Int)) hraw
            have wn2 : IntKind.i64.wrap (-(v : Int)) = -(v : Int) := IntWalk.i64_in _ (by omega)
            rw [hr]
            simp at key
            simp [hbl, z0, e1, e2, w1, e3, hx2, key, wn2]
  · have hng : ngB s = false := by unfold ngB; rw [hbl]; simp [hn]
    have hbd : bdB s = b :: l := by unfold bdB; rw [hng, hbl]; rfl
    have hn2 : ¬ (b.toNat : Int) = 45 := fun q => hn (UInt8.toNat_inj.1 (by have : (45 : UInt8).toNat = 45 := rfl; omega))
    have w0 : IntKind.i64.wrap ((s.size : Int) - 0) = (s.size : Int) := by rw [Int.sub_zero]; exact IntWalk.i64_in _ (by omega)
    have w00 : IntKind.i64.wrap (s.size : Int) = (s.size : Int) := IntWalk.i64_in _ (by omega)
    by_cases h18 : 18 < (b :: l).length
    · have hr : rdN s = (0, false) := rdN_long (.inr (by rw [hbd]; exact h18))
      have e3 : (18 : Int) < (s.size : Int) := by simp only [List.length_cons] at h18; omega
      rw [hr]
      simp [hbl, z0, z1, hn2, w0, w00, e3]
    · have e3 : ¬ (18 : Int) < (s.size : Int) := by simp only [List.length_cons] at h18; omega
      by_cases hx : b = 48 ∧ 1 < s.size
      · obtain ⟨rfl, hx⟩ := hx
        have e2 : (1 : Int) < (s.size : Int) ∧ 1 < s.size := by omega
        have hr : rdN s = (0, false) := by
          unfold rdN rdB
          rw [hbd, if_pos ⟨rfl, hx⟩]
        rw [hr]
        simp [hbl, z0, z1, w0, w00, e3, e2]
      · have key := l79 d s s 0 (by simp only [List.length_cons] at h18; omega) (by omega) s.size 0 0 (by omega) (by omega) (by simp)
        rw [hbl] at key
        have hd1 : List.drop 0 (b :: l) = b :: l := rfl
        rw [hd1] at key
        have hraw : rawB s = (scan (b :: l) 0).map fun (n : Nat) => (n : Int) := by
          unfold rawB
          rw [hbd, if_neg (by simp only [List.length_cons] at h18 ⊢; omega)]
          simp [hng]
        have hrd : rdB s = rawB s := by
          unfold rdB
          rw [hbd, if_neg (by rintro ⟨q, q2⟩; simp at q; exact hx ⟨q, q2⟩)]
        have hcase : (¬ (b.toNat : Int) = 48) ∨ ((b.toNat : Int) = 48 ∧ ¬ (1 : Int) < (s.size : Int)) := by
          by_cases q : b = 48
          · subst q; exact .inr ⟨rfl, fun q2 => hx ⟨rfl, by omega⟩⟩
          · exact .inl fun q2 => q (UInt8.toNat_inj.1 (by have : (48 : UInt8).toNat = 48 := rfl; omega))
        cases hsc : scan (b :: l) 0 with
        | none =>
          rw [hsc] at key hraw
          have hr : rdN s = (0, false) := by unfold rdN; rw [hrd, hraw]; rfl
          rw [hr]
          simp at key
          rcases hcase with q | ⟨q, q2⟩
          · simp [hbl, z0, z1, hn2, w0, w00, e3, q, key]
          · simp [hbl, z0, z1, hn2, w0, w00, e3, q, q2, key]
        | some v =>
          rw [hsc] at key hraw
          have hr : rdN s = ((v : Int), true) := by unfold rdN; rw [hrd, hraw]; rfl
          rw [hr]
          simp at key
          rcases hcase with q | ⟨q, q2⟩
          · simp [hbl, z0, z1, hn2, w0, w00, e3, q, key]
          · simp [hbl, z0, z1, hn2, w0, w00, e3, q, q2, key]
end Go.Proofs.YthnkioafikmmaaaDoor.walkS
