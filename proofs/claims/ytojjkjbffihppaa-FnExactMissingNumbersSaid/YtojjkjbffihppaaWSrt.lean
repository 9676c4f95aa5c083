/- Places of leaves in a list, sorted; no conditions. -/
import Derived.Test.YtojjkjbffihppaaWIns
import Derived.Test.YtojjkjbffihppaaWMatch
namespace Go.Proofs.Ytojjkjbffihppaa.walkS
open Go Go.Proofs.Ytojjkjbffihppaa.Ev
set_option linter.unusedSimpArgs false
set_option linter.unusedVariables false
/-- the number of the leaf at a place -/
def nmA (l : List Lf) (k : Int) : Int := match l[k.toNat]? with | some L => L.num | none => 0
theorem nmA_get {l : List Lf} {k : Int} {L : Lf} (h : l[k.toNat]? = some L) : nmA l k = L.num := by simp only [nmA, h]
/-- places of a list -/
def InL (l : List Lf) (A : List Int) : Prop := ∀ k ∈ A, 0 ≤ k ∧ k.toNat < l.length
def Nums (l : List Lf) : Prop := ∀ L ∈ l, 0 ≤ L.num ∧ L.num ≤ 999
theorem InL.get {l : List Lf} {A : List Int} (h : InL l A) {j : Nat} {k : Int} (hk : A[j]? = some k) : 0 ≤ k ∧ ∃ L, l[k.toNat]? = some L := by
  have := h k (List.mem_of_getElem? hk)
  exact ⟨this.1, get_lt this.2⟩
theorem nums_get {l : List Lf} (h : Nums l) {k : Nat} {L : Lf} (hk : l[k]? = some L) : 0 ≤ L.num ∧ L.num ≤ 999 := h L (List.mem_of_getElem? hk)
def isFl (s : ByteArray) (L : Lf) : Bool := decide (L.fl = s)
theorem wh_in (p : Lf → Bool) (l : List Lf) : ∀ (m : List Lf) (i : Nat), m = l.drop i → InL l (wh p m i) := by
  intro m
  induction m with
  | nil => intro i h k hk; simp [wh] at hk
  | cons L m ih =>
    intro i h k hk
    have hi : i < l.length := by
      have := congrArg List.length h
      simp at this; omega
    have hm : m = l.drop (i + 1) := by
      have := congrArg List.tail h
      simpa using this
    have ih' := ih (i + 1) hm
    cases hp : p L
    · simp only [wh, hp, ifb_f] at hk
      exact ih' k hk
    · simp only [wh, hp, ifb_t, List.mem_cons] at hk
      rcases hk with rfl | hk
      · exact ⟨by omega, by simpa using hi⟩
      · exact ih' k hk
theorem r121 (d : Nat) (l : List Lf) (x y : Int) (L M : Lf) (hn : Nums l) (hx : 0 ≤ x) (hy : 0 ≤ y) (hL : l[x.toNat]? = some L) (hM : l[y.toNat]? = some M) : ev (d + 1) 121 [I x, I y, .rp [.ro 9 (l.map lS)]] = some (I (L.num - M.num), []) := by
  rw [s121 d _ rfl]
  have a := nums_get hn hL
  have b := nums_get hn hM
  have w : IntKind.i64.wrap (L.num - M.num) = L.num - M.num := IntWalk.i64_in _ (by omega)
  simp [hL, hM, hx, hy, w]
theorem ckC_nil {st : St} : ckC [] (some st) = some (.nm, st) := rfl
attribute [simp] ckC_nil
abbrev cmpF (l : List Lf) : LV := .cl 121 [.rp [.ro 9 (l.map lS)]]
theorem l233_2 (d : Nat) (l : List Lf) (hn : Nums l) (A R : List Int) (x : Int) (hA : InL l (x :: A)) (b i N : Nat) (hN : A.length + 1 + R.length = N) (hb : N ≤ big) : ∀ n, n ≤ A.length → plc (nmA l) A x n = plc (nmA l) A x A.length →
    clC [0, 1, 2, 3, 8, 100000] [100000] (blk 2 (lp (evC (ev (d + 1)) b233_2) (clean [0, 1, 2, 3, 8, 9, 100000]) ⟨lookS [(0, .rf (.sl 0) none 0 N), (1, I 0), (2, I b), (3, cmpF l), (8, I i), (9, I n), (100000, .rf (.sl 0) none 0 N)], lookM [(.sl 0, some (.arr 2 1 ((put A x n ++ R).map iC)))]⟩)) =
      some (.nm, ⟨lookS [(0, .rf (.sl 0) none 0 N), (1, I 0), (2, I b), (3, cmpF l), (8, I i), (100000, .rf (.sl 0) none 0 N)], lookM [(.sl 0, some (.arr 2 1 ((ins (nmA l) A x ++ R).map iC)))]⟩) := by
  intro n
  induction n with
  | zero =>
    intro hi he
    have e0 : put A x 0 ++ R = ins (nmA l) A x ++ R := by
      unfold ins
      rw [← he]
      rfl
    rw [lp_step, e0]
    simp
  | succ n ih =>
    intro hi he
    obtain ⟨y, hy⟩ := get_lt (l := A) (i := n) (by omega)
    have g1 := put_get1 (A := A) (R := R) (x := x) (j := n + 1) (by omega)
    have g0 := put_get0 (R := R) (x := x) hy
    have sw := put_swap (R := R) (x := x) hy
    have hlen : (put A x (n + 1) ++ R).length = N := by rw [List.length_append, put_len]; exact hN
    obtain ⟨hx0, L, hL⟩ := hA.get (j := 0) (k := x) rfl
    obtain ⟨hy0, M, hM⟩ := hA.get (j := n + 1) (k := y) (by simpa using hy)
    have hc := r121 d l x y L M hn hx0 hy0 hL hM
    have kx := nmA_get hL
    have ky := nmA_get hM
    have p0 : (0 : Int) < (n : Int) + 1 := by omega
    have p1 : (0 : Int) ≤ (n : Int) + 1 := by omega
    have tn : ((n : Int) + 1).toNat = n + 1 := by omega
    have w0 : IntKind.i64.wrap (n : Int) = (n : Int) := wrap_in (by simp only [big] at hb; omega)
    have l1 : (n : Int) + 1 < (N : Int) := by omega
    have l0 : (n : Int) < (N : Int) := by omega
    have gs : ∀ a, (((put A x (n + 1) ++ R).map iC).set (n + 1) a)[n]? = some (iC y) := fun a => by
      rw [List.getElem?_set_ne (by omega), List.getElem?_map, g0]; rfl
    have sw2 : (((put A x (n + 1) ++ R).map iC).set (n + 1) (iC y)).set n (iC x) = (put A x n ++ R).map iC := by
      rw [← sw, List.map_set, List.map_set]
    generalize hP : put A x (n + 1) ++ R = P at g1 g0 hlen gs sw2
    have g1' : (P.map iC)[n + 1]? = some (iC x) := by rw [List.getElem?_map, g1]; rfl
    have g0' : (P.map iC)[n]? = some (iC y) := by rw [List.getElem?_map, g0]; rfl
    rw [plc_succ hy, kx, ky] at he
    rw [lp_step]
    by_cases hlt : L.num < M.num
    · rw [if_pos hlt] at he
      have ih' := ih (by omega) he
      have neg : L.num - M.num < 0 := by omega
      rw [← sw2] at ih'
      simp only [iC] at ih' gs g1' g0'
      simp at ih'
      simp [g1, g0, g1', g0', gs, hc, neg, p0, p1, tn, w0, l1, l0, hlen, ih']
    · rw [if_neg hlt] at he
      have neg : ¬ L.num - M.num < 0 := by omega
      have e0 : P = ins (nmA l) A x ++ R := by
        unfold ins
        rw [← he, hP]
      rw [← e0]
      simp [g1, g0, g1', g0', hc, neg, p0, p1, tn, w0, l1, l0, hlen]
theorem l233 (d : Nat) (l : List Lf) (hn : Nums l) (N : Nat) (hb : N ≤ big) : ∀ (n i : Nat) (A R : List Int), n + i = N → R.length = n → A.length = i → InL l (A ++ R) →
    clC [100000] [100000] (blk 0 (lp (evC (ev (d + 1)) b233_1) (clean [0, 1, 2, 3, 8, 100000]) ⟨lookS [(0, .rf (.sl 0) none 0 N), (1, I 0), (2, I N), (3, cmpF l), (8, I i), (100000, .rf (.sl 0) none 0 N)], lookM [(.sl 0, some (.arr 2 1 ((A ++ R).map iC)))]⟩)) =
      some (.nm, ⟨lookS [(100000, .rf (.sl 100000) none 0 N)], lookM [(.sl 100000, some (.arr 2 1 ((srt (nmA l) A R).map iC)))]⟩) := by
  intro n
  induction n with
  | zero =>
    intro i A R hi hR hA hI
    have h0 : ¬ (i : Int) < (N : Int) := by omega
    have e : R = [] := List.length_eq_zero_iff.1 hR
    subst e
    rw [lp_step]
    simp [h0, srt]
  | succ n ih =>
    intro i A R hi hR hA hI
    have h0 : (i : Int) < (N : Int) := by omega
    obtain ⟨x, R, rfl⟩ : ∃ x R', R = x :: R' := by
      cases R with
      | nil => simp at hR
      | cons x R' => exact ⟨x, R', rfl⟩
    have hR' : R.length = n := by simpa using hR
    have hI1 : InL l (x :: A) := fun k hk => hI k (by
      rcases List.mem_cons.1 hk with rfl | hk
      · simp
      · simp [hk])
    have hI2 : InL l (ins (nmA l) A x ++ R) := fun k hk => hI k (by
      rcases List.mem_append.1 hk with hk | hk
      · rcases mem_ins.1 hk with rfl | hk
        · simp
        · simp [hk]
      · simp [hk])
    have key := l233_2 d l hn A R x hI1 N i N (by omega) hb A.length (Nat.le_refl _) rfl
    rw [put_end] at key
    have hw := wrap_nat (i := i) (by simp only [big] at hb; omega)
    have ih' := ih (i + 1) (ins (nmA l) A x) R (by omega) hR' (by rw [ins_len, hA]) hI2
    rw [hA] at key
    simp only [Int.natCast_add, Int.cast_ofNat_Int] at ih'
    rw [lp_step]
    simp at key ih'
    simp [h0, key, hw, srt, ih']
theorem start_c1 (e n : Nat) (rows : List (List Cell)) (f : Nat) (vs : List LV) : startW [.ow e n rows, .cl f vs] = some ([.rf (mk0 0) none 0 rows.length, .cl f vs], ⟨startS [.rf (mk0 0) none 0 rows.length, .cl f vs], updM noMem (mk0 0) (some (.arr e n rows))⟩) := by
  rw [startW_eq («as» := [.rf (mk0 0) none 0 rows.length, .cl f vs]) (l := [(mk0 0, .arr e n rows)]) rfl]
  rfl
theorem start_c2 (e n : Nat) (rows : List (List Cell)) (u : Value) (f : Nat) (vs : List LV) : startW [.ow e n rows, .sc u, .cl f vs] = some ([.rf (mk0 0) none 0 rows.length, .sc u, .cl f vs], ⟨startS [.rf (mk0 0) none 0 rows.length, .sc u, .cl f vs], updM noMem (mk0 0) (some (.arr e n rows))⟩) := by
  rw [startW_eq («as» := [.rf (mk0 0) none 0 rows.length, .sc u, .cl f vs]) (l := [(mk0 0, .arr e n rows)]) rfl]
  rfl
theorem start_c3 (e n : Nat) (rows : List (List Cell)) (u v : Value) (f : Nat) (vs : List LV) : startW [.ow e n rows, .sc u, .sc v, .cl f vs] = some ([.rf (mk0 0) none 0 rows.length, .sc u, .sc v, .cl f vs], ⟨startS [.rf (mk0 0) none 0 rows.length, .sc u, .sc v, .cl f vs], updM noMem (mk0 0) (some (.arr e n rows))⟩) := by
  rw [startW_eq («as» := [.rf (mk0 0) none 0 rows.length, .sc u, .sc v, .cl f vs]) (l := [(mk0 0, .arr e n rows)]) rfl]
  rfl
set_option maxRecDepth 100000 in
theorem v233' (d : Nat) (l : List Lf) (hn : Nums l) (x : Int) (R : List Int) (hI : InL l (x :: R)) (hb : R.length + 1 ≤ big) : ev (d + 2) (wrN + 233) [.ow 2 1 ((x :: R).map iC), I 0, I ((R.length : Int) + 1), cmpF l] =
    some (.tu [], [.ow 2 1 ((srt (nmA l) [] (x :: R)).map iC), I 0, I ((R.length : Int) + 1)]) := by
  rw [v233 (d + 1) (start_c3 _ _ _ _ _ _ _) rfl]
  have key := l233 d l hn (R.length + 1) hb R.length 1 [x] R (by omega) rfl rfl hI
  have e : srt (nmA l) [] (x :: R) = srt (nmA l) [x] R := rfl
  have hl : (srt (nmA l) [x] R).length = R.length + 1 := by rw [srt_len]; simp; omega
  have w1 : IntKind.i64.wrap 1 = 1 := by decide
  rw [e]
  simp at key
  simp [w1, key, hl]
set_option maxRecDepth 100000 in
theorem v189' (d : Nat) (l : List Lf) (hn : Nums l) (x : Int) (R : List Int) (hI : InL l (x :: R)) (hb : R.length + 1 ≤ 16) : ev (d + 3) (wrN + 189) [.ow 2 1 ((x :: R).map iC), I ((R.length : Int) + 1), cmpF l] =
    some (.tu [], [.ow 2 1 ((srt (nmA l) [] (x :: R)).map iC), I ((R.length : Int) + 1)]) := by
  rw [v189 (d + 2) (start_c2 _ _ _ _ _ _) rfl]
  have c := v233' d l hn x R hI (by simp only [big]; omega)
  have h1 : ¬ (20 : Int) ≤ (R.length : Int) + 1 := by omega
  have h2 : ¬ (20 : Int) < (R.length : Int) + 1 := by omega
  have hl : (srt (nmA l) [] (x :: R)).length = R.length + 1 := by rw [srt_len]; simp
  simp at c
  simp
  rw [lp_step]
  simp [h1, c, hl]
  rw [lp_step]
  simp [h2, hl]
set_option maxRecDepth 100000 in
theorem v120' (d : Nat) (l : List Lf) (hn : Nums l) (x : Int) (R : List Int) (hI : InL l (x :: R)) (hb : R.length + 1 ≤ 16) : ev (d + 4) (wrN + 120) [.ow 2 1 ((x :: R).map iC), cmpF l] =
    some (.tu [], [.ow 2 1 ((srt (nmA l) [] (x :: R)).map iC)]) := by
  rw [v120 (d + 3) (start_c1 _ _ _ _ _) rfl]
  have c := v189' d l hn x R hI hb
  have hl : (srt (nmA l) [] (x :: R)).length = R.length + 1 := by rw [srt_len]; simp
  simp at c
  simp [c, hl]
end Go.Proofs.Ytojjkjbffihppaa.walkS
