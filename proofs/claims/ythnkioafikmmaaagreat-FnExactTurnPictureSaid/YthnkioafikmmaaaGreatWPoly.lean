/- Polygons; no conditions. -/
import Derived.Test.YthnkioafikmmaaaGreatWDraw
namespace Go.Proofs.YthnkioafikmmaaaGreat.walkS
open Go Go.Proofs.YthnkioafikmmaaaGreat.Ev
set_option linter.unusedSimpArgs false
set_option linter.unusedVariables false
theorem tm_nat {n m k : Nat} (h : k = n % m) : ((n : Nat) : Int).tmod (m : Int) = (k : Int) := by
  subst h
  rw [Int.tmod_eq_emod_of_nonneg (by omega)]
  rfl
/-- the corners, round and round -/
def pt (l : List Pt) (i : Nat) : Pt := (l[i % l.length]?).getD (0, 0)
theorem pt_get {l : List Pt} {i k : Nat} {x : Pt} (h : k = i % l.length) (hx : l[k]? = some x) : pt l i = x := by
  unfold pt
  rw [← h, hx]
  rfl
def inOk (l : List Pt) (i : Nat) : Nat → Nat → Bool
  | 0, _ => true
  | m + 1, j => ifb (decide ((j + 1) % l.length = i)) (inOk l i m (j + 1)) (ifb (touB (pt l i) (pt l (i + 1)) (pt l j) (pt l (j + 1))) false (inOk l i m (j + 1)))
def badAt (P Q R : Pt) : Bool := decide (P = Q) || (onB P Q R || onB Q R P)
def oOk (l : List Pt) : Nat → Nat → Bool
  | 0, _ => true
  | m + 1, i => ifb (badAt (pt l i) (pt l (i + 1)) (pt l (i + 2))) false (ifb (inOk l i (l.length - (i + 2)) (i + 2)) (oOk l m (i + 1)) false)
def dblF (l : List Pt) : Nat → Nat → Int → Int
  | 0, _, a => a
  | m + 1, i, a => dblF l m (i + 1) (W (a + W (W ((pt l i).1 * (pt l (i + 1)).2) - W ((pt l i).2 * (pt l (i + 1)).1))))
def polyOk (l : List Pt) : Bool := decide (3 ≤ l.length) && (decide (l.length ≤ 24) && (l.all okP && (oOk l l.length 0 && decide (0 < dblF l l.length 0 0))))
theorem l104 (d : Nat) (l : List Pt) (hb : l.length ≤ big) : ∀ (n i : Nat), n + i = l.length →
    clC [0, 3] [2] (blk 0 (lp (evC (ev (d + 2)) b104_1) (clean [0, 3, 4]) ⟨lookS [(0, .ro 2 (l.map pC)), (3, I l.length), (4, I i)], lookM []⟩)) =
      ifb ((l.drop i).all okP) (some (.nm, ⟨lookS [(0, .ro 2 (l.map pC)), (3, I l.length)], lookM []⟩)) (some (.rt, ⟨lookS [(2, B false)], lookM []⟩)) := by
  intro n
  induction n with
  | zero =>
    intro i hi
    have h0 : ¬ (i : Int) < (l.length : Int) := by omega
    have h1 : l.drop i = [] := List.drop_eq_nil_of_le (by omega)
    rw [lp_step, h1]
    simp [h0]
  | succ n ih =>
    intro i hi
    have hlt : i < l.length := by omega
    have h0 : (i : Int) < (l.length : Int) := by omega
    obtain ⟨x, hx⟩ := get_lt hlt
    have hw := wrap_nat (i := i) (by simp [big] at hb; omega)
    have hc := r153 d x
    have ih' := ih (i + 1) (by omega)
    rw [lp_step, drop_get hx, List.all_cons]
    simp only [Int.natCast_add, Int.cast_ofNat_Int] at ih'
    cases hk : okP x
    · rw [hk] at hc
      simp [h0, hx, hc]
    · rw [hk] at hc
      try simp at ih'
      simp [h0, hx, hc, hw, ih']
theorem l138 (d : Nat) (l : List Pt) (hb : l.length ≤ big) : ∀ (n i : Nat), n + i = l.length →
    clC [] [2] (blk 0 (lp (evC (ev (d + 2)) b138_1) (clean [5, 6, 7]) ⟨lookS [(5, .ro 2 (l.map pC)), (6, I l.length), (7, I i)], lookM []⟩)) =
      ifb ((l.drop i).all okP) (some (.nm, ⟨lookS [], lookM []⟩)) (some (.rt, ⟨lookS [(2, B false)], lookM []⟩)) := by
  intro n
  induction n with
  | zero =>
    intro i hi
    have h0 : ¬ (i : Int) < (l.length : Int) := by omega
    have h1 : l.drop i = [] := List.drop_eq_nil_of_le (by omega)
    rw [lp_step, h1]
    simp [h0]
  | succ n ih =>
    intro i hi
    have hlt : i < l.length := by omega
    have h0 : (i : Int) < (l.length : Int) := by omega
    obtain ⟨x, hx⟩ := get_lt hlt
    have hw := wrap_nat (i := i) (by simp [big] at hb; omega)
    have hc := r175 d x
    have ih' := ih (i + 1) (by omega)
    rw [lp_step, drop_get hx, List.all_cons]
    simp only [Int.natCast_add, Int.cast_ofNat_Int] at ih'
    cases hk : okP x
    · rw [hk] at hc
      simp [h0, hx, hc]
    · rw [hk] at hc
      try simp at ih'
      simp [h0, hx, hc, hw, ih']
theorem l104_3 (d : Nat) (l : List Pt) (hb : l.length ≤ big) (i : Nat) (hi : i < l.length) (P Q : Pt) (hP : pt l i = P) (hQ : pt l (i + 1) = Q) : ∀ (n j : Nat), n = l.length - j →
    clC [0, 3, 5] [2] (blk 4 (lp (evC (ev (d + 4)) b104_3) (clean [0, 3, 5, 6, 7, 9]) ⟨lookS [(0, .ro 2 (l.map pC)), (3, I l.length), (5, I i), (6, .bp (.sl 6) 0), (7, .bp (.sl 7) 0), (9, I j)], lookM [((.sl 6), some (.box (pV P))), ((.sl 7), some (.box (pV Q)))]⟩)) =
      ifb (inOk l i n j) (some (.nm, ⟨lookS [(0, .ro 2 (l.map pC)), (3, I l.length), (5, I i)], lookM []⟩)) (some (.rt, ⟨lookS [(2, B false)], lookM []⟩)) := by
  intro n
  induction n with
  | zero =>
    intro j hj
    have h0 : ¬ (j : Int) < (l.length : Int) := by omega
    rw [lp_step]
    simp [h0, inOk]
  | succ n ih =>
    intro j hj
    have hlt : j < l.length := by omega
    have h0 : (j : Int) < (l.length : Int) := by omega
    obtain ⟨C, hC⟩ := get_lt hlt
    obtain ⟨k, hk⟩ : ∃ k, k = (j + 1) % l.length := ⟨_, rfl⟩
    obtain ⟨E, hE⟩ := get_lt (l := l) (i := k) (by rw [hk]; exact Nat.mod_lt _ (by omega))
    have tm := tm_nat hk
    have p1 : pt l j = C := pt_get (Nat.mod_eq_of_lt hlt).symm hC
    have p2 : pt l (j + 1) = E := pt_get hk hE
    have hne : ¬ l = [] := by intro e; rw [e] at hlt; simp at hlt
    have hw := wrap_nat (i := j) (by simp [big] at hb; omega)
    have hc := r155 d P Q C E
    have ih' := ih (j + 1) (by omega)
    rw [lp_step]
    simp only [inOk, p1, p2, hP, hQ, ← hk]
    simp only [Int.natCast_add, Int.cast_ofNat_Int] at tm ih'
    by_cases hki : k = i
    · have hkI : (k : Int) = (i : Int) := by omega
      have hki := And.intro hki hkI
      try simp at ih'
      simp [h0, hne, tm, hki, hw, ih']
    · have hkI : ¬ (k : Int) = (i : Int) := by omega
      have hki := And.intro hki hkI
      cases ht : touB P Q C E
      · rw [ht] at hc
        try simp at ih'
        simp [h0, hne, tm, hki, hC, hE, hc, hw, ih']
      · rw [ht] at hc
        simp [h0, hne, tm, hki, hC, hE, hc, hw]
theorem l109_2 (d : Nat) (l : List Pt) (hb : l.length ≤ big) (i : Nat) (hi : i < l.length) (P Q : Pt) (hP : pt l i = P) (hQ : pt l (i + 1) = Q) : ∀ (n j : Nat), n = l.length - j →
    clC [0, 3, 23, 24] [2] (blk 2 (lp (evC (ev (d + 4)) b109_2) (clean [0, 3, 4, 5, 6, 8, 23, 24]) ⟨lookS [(0, .ro 2 (l.map pC)), (3, I l.length), (4, I i), (5, .bp (.sl 5) 0), (6, .bp (.sl 6) 0), (8, I j), (23, I l.length), (24, I i)], lookM [((.sl 5), some (.box (pV P))), ((.sl 6), some (.box (pV Q)))]⟩)) =
      ifb (inOk l i n j) (some (.nm, ⟨lookS [(0, .ro 2 (l.map pC)), (3, I l.length), (23, I l.length), (24, I i)], lookM []⟩)) (some (.rt, ⟨lookS [(2, B false)], lookM []⟩)) := by
  intro n
  induction n with
  | zero =>
    intro j hj
    have h0 : ¬ (j : Int) < (l.length : Int) := by omega
    rw [lp_step]
    simp [h0, inOk]
  | succ n ih =>
    intro j hj
    have hlt : j < l.length := by omega
    have h0 : (j : Int) < (l.length : Int) := by omega
    obtain ⟨C, hC⟩ := get_lt hlt
    obtain ⟨k, hk⟩ : ∃ k, k = (j + 1) % l.length := ⟨_, rfl⟩
    obtain ⟨E, hE⟩ := get_lt (l := l) (i := k) (by rw [hk]; exact Nat.mod_lt _ (by omega))
    have tm := tm_nat hk
    have p1 : pt l j = C := pt_get (Nat.mod_eq_of_lt hlt).symm hC
    have p2 : pt l (j + 1) = E := pt_get hk hE
    have hne : ¬ l = [] := by intro e; rw [e] at hlt; simp at hlt
    have hw := wrap_nat (i := j) (by simp [big] at hb; omega)
    have hc := r161 d P Q C E
    have ih' := ih (j + 1) (by omega)
    rw [lp_step]
    simp only [inOk, p1, p2, hP, hQ, ← hk]
    simp only [Int.natCast_add, Int.cast_ofNat_Int] at tm ih'
    by_cases hki : k = i
    · have hkI : (k : Int) = (i : Int) := by omega
      have hki := And.intro hki hkI
      try simp at ih'
      simp [h0, hne, tm, hki, hw, ih']
    · have hkI : ¬ (k : Int) = (i : Int) := by omega
      have hki := And.intro hki hkI
      cases ht : touB P Q C E
      · rw [ht] at hc
        try simp at ih'
        simp [h0, hne, tm, hki, hC, hE, hc, hw, ih']
      · rw [ht] at hc
        simp [h0, hne, tm, hki, hC, hE, hc, hw]
theorem l104_2 (d : Nat) (l : List Pt) (hb : l.length ≤ big) : ∀ (n i : Nat), n + i = l.length →
    clC [0] [2] (blk 2 (lp (evC (ev (d + 4)) b104_2) (clean [0, 3, 5]) ⟨lookS [(0, .ro 2 (l.map pC)), (3, I l.length), (5, I i)], lookM []⟩)) =
      ifb (oOk l n i) (some (.nm, ⟨lookS [(0, .ro 2 (l.map pC))], lookM []⟩)) (some (.rt, ⟨lookS [(2, B false)], lookM []⟩)) := by
  intro n
  induction n with
  | zero =>
    intro i hi
    have h0 : ¬ (i : Int) < (l.length : Int) := by omega
    rw [lp_step]
    simp [h0, oOk]
  | succ n ih =>
    intro i hi
    have hlt : i < l.length := by omega
    have h0 : (i : Int) < (l.length : Int) := by omega
    obtain ⟨P, hP⟩ := get_lt hlt
    obtain ⟨k, hk⟩ : ∃ k, k = (i + 1) % l.length := ⟨_, rfl⟩
    obtain ⟨Q, hQ⟩ := get_lt (l := l) (i := k) (by rw [hk]; exact Nat.mod_lt _ (by omega))
    obtain ⟨k2, hk2⟩ : ∃ k2, k2 = (i + 2) % l.length := ⟨_, rfl⟩
    obtain ⟨R, hR⟩ := get_lt (l := l) (i := k2) (by rw [hk2]; exact Nat.mod_lt _ (by omega))
    have tm := tm_nat hk
    have tm2 := tm_nat hk2
    have p1 : pt l i = P := pt_get (Nat.mod_eq_of_lt hlt).symm hP
    have p2 : pt l (i + 1) = Q := pt_get hk hQ
    have p3 : pt l (i + 2) = R := pt_get hk2 hR
    have hne : ¬ l = [] := by intro e; rw [e] at hlt; simp at hlt
    have hw := wrap_nat (i := i) (by simp [big] at hb; omega)
    have hw2 : IntKind.i64.wrap ((i : Int) + 2) = (i : Int) + 2 := IntWalk.i64_in _ (by simp [big] at hb; omega)
    have c1 := r154 (d + 1) P Q R
    have c2 := r154 (d + 1) Q R P
    have inn := l104_3 d l hb i hlt P Q p1 p2 (l.length - (i + 2)) (i + 2) rfl
    have ih' := ih (i + 1) (by omega)
    rw [lp_step]
    simp only [oOk, p1, p2, p3]
    simp only [Int.natCast_add, Int.cast_ofNat_Int] at tm tm2 ih' inn
    unfold badAt
    by_cases hPQ : P = Q
    · subst hPQ
      simp [h0, hne, tm, tm2, hP, hQ, hR, hw, hw2]
    cases h1 : onB P Q R
    case true =>
      rw [h1] at c1
      simp [h0, hne, tm, tm2, hP, hQ, hR, hw, hw2, hPQ, eqq_ne hPQ, c1]
    rw [h1] at c1
    cases h2 : onB Q R P
    case true =>
      rw [h2] at c2
      simp [h0, hne, tm, tm2, hP, hQ, hR, hw, hw2, hPQ, eqq_ne hPQ, c1, c2]
    rw [h2] at c2
    cases h3 : inOk l i (l.length - (i + 2)) (i + 2)
    · rw [h3] at inn
      try simp at inn
      simp [h0, hne, tm, tm2, hP, hQ, hR, hw, hw2, hPQ, eqq_ne hPQ, c1, c2, inn]
    · rw [h3] at inn
      try simp at inn ih'
      simp [h0, hne, tm, tm2, hP, hQ, hR, hw, hw2, hPQ, eqq_ne hPQ, c1, c2, inn, ih']
theorem l109 (d : Nat) (l : List Pt) (hb : l.length ≤ big) : ∀ (n i : Nat), n + i = l.length →
    clC [0] [2] (blk 0 (lp (evC (ev (d + 4)) b109_1) (clean [0, 3, 23, 24]) ⟨lookS [(0, .ro 2 (l.map pC)), (3, I l.length), (23, I l.length), (24, I i)], lookM []⟩)) =
      ifb (oOk l n i) (some (.nm, ⟨lookS [(0, .ro 2 (l.map pC))], lookM []⟩)) (some (.rt, ⟨lookS [(2, B false)], lookM []⟩)) := by
  intro n
  induction n with
  | zero =>
    intro i hi
    have h0 : ¬ (i : Int) < (l.length : Int) := by omega
    rw [lp_step]
    simp [h0, oOk]
  | succ n ih =>
    intro i hi
    have hlt : i < l.length := by omega
    have h0 : (i : Int) < (l.length : Int) := by omega
    obtain ⟨P, hP⟩ := get_lt hlt
    obtain ⟨k, hk⟩ : ∃ k, k = (i + 1) % l.length := ⟨_, rfl⟩
    obtain ⟨Q, hQ⟩ := get_lt (l := l) (i := k) (by rw [hk]; exact Nat.mod_lt _ (by omega))
    obtain ⟨k2, hk2⟩ : ∃ k2, k2 = (i + 2) % l.length := ⟨_, rfl⟩
    obtain ⟨R, hR⟩ := get_lt (l := l) (i := k2) (by rw [hk2]; exact Nat.mod_lt _ (by omega))
    have tm := tm_nat hk
    have tm2 := tm_nat hk2
    have p1 : pt l i = P := pt_get (Nat.mod_eq_of_lt hlt).symm hP
    have p2 : pt l (i + 1) = Q := pt_get hk hQ
    have p3 : pt l (i + 2) = R := pt_get hk2 hR
    have hne : ¬ l = [] := by intro e; rw [e] at hlt; simp at hlt
    have hw := wrap_nat (i := i) (by simp [big] at hb; omega)
    have hw2 : IntKind.i64.wrap ((i : Int) + 2) = (i : Int) + 2 := IntWalk.i64_in _ (by simp [big] at hb; omega)
    have c1 := r144 (d + 1) P Q R
    have c2 := r144 (d + 1) Q R P
    have inn := l109_2 d l hb i hlt P Q p1 p2 (l.length - (i + 2)) (i + 2) rfl
    have ih' := ih (i + 1) (by omega)
    rw [lp_step]
    simp only [oOk, p1, p2, p3]
    simp only [Int.natCast_add, Int.cast_ofNat_Int] at tm tm2 ih' inn
    unfold badAt
    by_cases hPQ : P = Q
    · subst hPQ
      simp [h0, hne, tm, tm2, hP, hQ, hR, hw, hw2]
    cases h1 : onB P Q R
    case true =>
      rw [h1] at c1
      simp [h0, hne, tm, tm2, hP, hQ, hR, hw, hw2, hPQ, eqq_ne hPQ, c1]
    rw [h1] at c1
    cases h2 : onB Q R P
    case true =>
      rw [h2] at c2
      simp [h0, hne, tm, tm2, hP, hQ, hR, hw, hw2, hPQ, eqq_ne hPQ, c1, c2]
    rw [h2] at c2
    cases h3 : inOk l i (l.length - (i + 2)) (i + 2)
    · rw [h3] at inn
      try simp at inn
      simp [h0, hne, tm, tm2, hP, hQ, hR, hw, hw2, hPQ, eqq_ne hPQ, c1, c2, inn]
    · rw [h3] at inn
      try simp at inn ih'
      simp [h0, hne, tm, tm2, hP, hQ, hR, hw, hw2, hPQ, eqq_ne hPQ, c1, c2, inn, ih']
theorem l156 (d : Nat) (l : List Pt) (hb : l.length ≤ big) : ∀ (n i : Nat) (a : Int), n + i = l.length →
    clC [3] [2] (blk 0 (lp (evC (ev d) b156_1) (clean [0, 3, 4]) ⟨lookS [(0, .ro 2 (l.map pC)), (3, I a), (4, I i)], lookM []⟩)) =
      some (.nm, ⟨lookS [(3, I (dblF l n i a))], lookM []⟩) := by
  intro n
  induction n with
  | zero =>
    intro i a hi
    have h0 : ¬ (i : Int) < (l.length : Int) := by omega
    rw [lp_step]
    simp [h0, dblF]
  | succ n ih =>
    intro i a hi
    have hlt : i < l.length := by omega
    have h0 : (i : Int) < (l.length : Int) := by omega
    obtain ⟨P, hP⟩ := get_lt hlt
    obtain ⟨k, hk⟩ : ∃ k, k = (i + 1) % l.length := ⟨_, rfl⟩
    obtain ⟨Q, hQ⟩ := get_lt (l := l) (i := k) (by rw [hk]; exact Nat.mod_lt _ (by omega))
    have tm := tm_nat hk
    have p1 : pt l i = P := pt_get (Nat.mod_eq_of_lt hlt).symm hP
    have p2 : pt l (i + 1) = Q := pt_get hk hQ
    have hne : ¬ l = [] := by intro e; rw [e] at hlt; simp at hlt
    have hw := wrap_nat (i := i) (by simp [big] at hb; omega)
    have ih' := ih (i + 1) (W (a + W (W (P.1 * Q.2) - W (P.2 * Q.1)))) (by omega)
    rw [lp_step]
    simp only [dblF, p1, p2]
    simp only [Int.natCast_add, Int.cast_ofNat_Int] at tm ih'
    simp only [W] at ih' ⊢
    try simp at ih'
    simp [h0, hne, tm, hP, hQ, hw, ih']
theorem l162 (d : Nat) (l : List Pt) (hb : l.length ≤ big) : ∀ (n i : Nat) (a : Int), n + i = l.length →
    clC [3] [2] (blk 0 (lp (evC (ev d) b162_1) (clean [0, 3, 7, 8, 9]) ⟨lookS [(0, .ro 2 (l.map pC)), (3, I a), (7, .ro 2 (l.map pC)), (8, I l.length), (9, I i)], lookM []⟩)) =
      some (.nm, ⟨lookS [(3, I (dblF l n i a))], lookM []⟩) := by
  intro n
  induction n with
  | zero =>
    intro i a hi
    have h0 : ¬ (i : Int) < (l.length : Int) := by omega
    rw [lp_step]
    simp [h0, dblF]
  | succ n ih =>
    intro i a hi
    have hlt : i < l.length := by omega
    have h0 : (i : Int) < (l.length : Int) := by omega
    obtain ⟨P, hP⟩ := get_lt hlt
    obtain ⟨k, hk⟩ : ∃ k, k = (i + 1) % l.length := ⟨_, rfl⟩
    obtain ⟨Q, hQ⟩ := get_lt (l := l) (i := k) (by rw [hk]; exact Nat.mod_lt _ (by omega))
    have tm := tm_nat hk
    have p1 : pt l i = P := pt_get (Nat.mod_eq_of_lt hlt).symm hP
    have p2 : pt l (i + 1) = Q := pt_get hk hQ
    have hne : ¬ l = [] := by intro e; rw [e] at hlt; simp at hlt
    have hw := wrap_nat (i := i) (by simp [big] at hb; omega)
    have ih' := ih (i + 1) (W (a + W (W (P.1 * Q.2) - W (P.2 * Q.1)))) (by omega)
    rw [lp_step]
    simp only [dblF, p1, p2]
    simp only [Int.natCast_add, Int.cast_ofNat_Int] at tm ih'
    simp only [W] at ih' ⊢
    try simp at ih'
    simp [h0, hne, tm, hP, hQ, hw, ih']
theorem r156 (d : Nat) (l : List Pt) (hb : l.length ≤ big) : ev (d + 1) 156 [.ro 2 (l.map pC)] = some (I (dblF l l.length 0 0), []) := by
  rw [s156 d _ rfl]
  have key := l156 d l hb l.length 0 0 (by omega)
  try simp at key
  simp [key]
theorem r162 (d : Nat) (l : List Pt) (hb : l.length ≤ big) : ev (d + 1) 162 [.ro 2 (l.map pC)] = some (I (dblF l l.length 0 0), []) := by
  rw [s162 d _ rfl]
  have key := l162 d l hb l.length 0 0 (by omega)
  try simp at key
  simp [key]
theorem r138 (d : Nat) (l : List Pt) (hb : l.length ≤ big) : ev (d + 3) 138 [.ro 2 (l.map pC)] = some (B (l.all okP), []) := by
  rw [s138 (d + 2) _ rfl]
  have key := l138 d l hb l.length 0 (by omega)
  rw [List.drop_zero] at key
  cases h : l.all okP <;> rw [h] at key <;> simp at key <;> simp [key]
theorem r104 (d : Nat) (l : List Pt) (hb : l.length ≤ big) : ev (d + 5) 104 [.ro 2 (l.map pC)] = some (B (polyOk l), []) := by
  rw [s104 (d + 4) _ rfl]
  have k1 := l104 (d + 2) l hb l.length 0 (by omega)
  have k2 := l104_2 d l hb l.length 0 (by omega)
  have k3 := r156 (d + 3) l hb
  rw [List.drop_zero] at k1
  unfold polyOk
  by_cases h1 : 3 ≤ l.length
  case neg =>
    have h1' : (l.length : Int) < 3 := by omega
    simp [h1, h1']
  have h1' : ¬ (l.length : Int) < 3 := by omega
  by_cases h2 : l.length ≤ 24
  case neg =>
    have h2' : (24 : Int) < (l.length : Int) := by omega
    simp [h1, h1', h2, h2']
  have h2' : ¬ (24 : Int) < (l.length : Int) := by omega
  cases h3 : l.all okP
  · rw [h3] at k1
    try simp at k1
    simp [h1, h1', h2, h2', k1]
  rw [h3] at k1
  cases h4 : oOk l l.length 0
  · rw [h4] at k2
    try simp at k1 k2
    simp [h1, h1', h2, h2', k1, k2]
  rw [h4] at k2
  try simp at k1 k2
  simp [h1, h1', h2, h2', k1, k2, k3]
theorem r109 (d : Nat) (l : List Pt) (hb : l.length ≤ big) : ev (d + 5) 109 [.ro 2 (l.map pC)] = some (B (polyOk l), []) := by
  rw [s109 (d + 4) _ rfl]
  have k1 := r138 (d + 1) l hb
  have k2 := l109 d l hb l.length 0 (by omega)
  have k3 := r162 (d + 3) l hb
  unfold polyOk
  by_cases h1 : 3 ≤ l.length
  case neg =>
    have h1' : (l.length : Int) < 3 := by omega
    simp [h1, h1']
  have h1' : ¬ (l.length : Int) < 3 := by omega
  by_cases h2 : l.length ≤ 24
  case neg =>
    have h2' : (24 : Int) < (l.length : Int) := by omega
    simp [h1, h1', h2, h2']
  have h2' : ¬ (24 : Int) < (l.length : Int) := by omega
  cases h3 : l.all okP
  · rw [h3] at k1
    simp [h1, h1', h2, h2', k1]
  rw [h3] at k1
  cases h4 : oOk l l.length 0
  · rw [h4] at k2
    try simp at k2
    simp [h1, h1', h2, h2', k1, k2]
  rw [h4] at k2
  try simp at k2
  simp [h1, h1', h2, h2', k1, k2, k3]
end Go.Proofs.YthnkioafikmmaaaGreat.walkS
