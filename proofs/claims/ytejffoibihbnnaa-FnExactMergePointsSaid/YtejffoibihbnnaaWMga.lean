/- Points near to each other become one: the plain law, rings, drawings with some of their points; no conditions. -/
import Derived.Test.YtejffoibihbnnaaWSnr
import Derived.Test.YtejffoibihbnnaaWSlv
import Derived.Test.YtejffoibihbnnaaWDux
namespace Go.Proofs.Ytejffoibihbnnaa.walkS
open Go Go.Proofs.Ytejffoibihbnnaa.Ev
set_option linter.unusedSimpArgs false
set_option linter.unusedVariables false
/-! ### rings without doubles beside each other -/
def lastE (acc : List Int) (x : Int) : Bool := decide (0 < acc.length) && decide (acc.getD (acc.length - 1) 0 = x)
def ddp : List Int → List Int → List Int
  | acc, [] => acc
  | acc, x :: r => ddp (ifb (lastE acc x) acc (acc ++ [x])) r
def trmC (R : List Int) : Bool := decide (1 < R.length) && decide (R.getD 0 0 = R.getD (R.length - 1) 0)
def trmL : Nat → List Int → List Int
  | 0, R => R
  | n + 1, R => ifb (trmC R) (trmL n (R.take (R.length - 1))) R
def onceL (R : List Int) : List Int := trmL (ddp [] R).length (ddp [] R)
theorem ddp_len : ∀ (r acc : List Int), (ddp acc r).length ≤ acc.length + r.length := by
  intro r
  induction r with
  | nil => intro acc; exact Nat.le_refl _
  | cons x r ih =>
    intro acc
    simp only [ddp]
    cases h : lastE acc x
    · have := ih (acc ++ [x])
      simp only [ifb_f]
      simp at this ⊢
      omega
    · have := ih acc
      simp only [ifb_t]
      simp at this ⊢
      omega
theorem trmL_len : ∀ (n : Nat) (R : List Int), (trmL n R).length ≤ R.length := by
  intro n
  induction n with
  | zero => intro R; exact Nat.le_refl _
  | succ n ih =>
    intro R
    simp only [trmL]
    cases h : trmC R
    · exact Nat.le_refl _
    · have := ih (R.take (R.length - 1))
      simp only [ifb_t]
      simp at this
      omega
theorem onceL_len (R : List Int) : (onceL R).length ≤ R.length := by
  have h1 := trmL_len (ddp [] R).length (ddp [] R)
  have h2 := ddp_len R []
  unfold onceL
  simp at h2
  omega
/-! ### the kept points -/
noncomputable def near (u : Int) (p q : Pt) : Bool := decide (dsI p q ≤ u)
noncomputable def fsI (u : Int) (p : Pt) : List Pt → Nat → Nat
  | [], i => i
  | q :: K, i => ifb (near u q p) i (fsI u p K (i + 1))
noncomputable def addK (u : Int) (p : Pt) (K : List Pt) : List Pt := ifb (decide (fsI u p K 0 < K.length)) K (K ++ [p])
noncomputable def mgK (u : Int) : List Pt → List Pt → List Pt
  | [], K => K
  | p :: ps, K => mgK u ps (addK u p K)
noncomputable def mgP (u : Int) : List Pt → List Pt → List Int
  | [], _ => []
  | p :: ps, K => (fsI u p K 0 : Int) :: mgP u ps (addK u p K)
theorem fsI_le (u : Int) (p : Pt) : ∀ (K : List Pt) (i : Nat), i ≤ fsI u p K i ∧ fsI u p K i ≤ i + K.length := by
  intro K
  induction K with
  | nil => intro i; simp [fsI]
  | cons q K ih =>
    intro i
    have := ih (i + 1)
    simp only [fsI, List.length_cons]
    cases near u q p
    · simp only [ifb_f]; omega
    · simp only [ifb_t]; omega
theorem fsI_app (u : Int) (p q : Pt) : ∀ (K : List Pt) (i : Nat), (fsI u p K i < i + K.length → fsI u p (K ++ [q]) i = fsI u p K i) ∧ (fsI u p K i = i + K.length → fsI u p (K ++ [q]) i = ifb (near u q p) (i + K.length) (i + K.length + 1)) := by
  intro K
  induction K with
  | nil => intro i; simp [fsI]
  | cons z K ih =>
    intro i
    have h := ih (i + 1)
    have h2 := fsI_le u p K (i + 1)
    simp only [fsI, List.cons_append, List.length_cons]
    cases near u z p
    · simp only [ifb_f]
      refine ⟨fun q1 => h.1 (by omega), fun q1 => ?_⟩
      rw [h.2 (by omega)]
      congr 1 <;> omega
    · simp only [ifb_t]
      exact ⟨fun _ => trivial, fun q1 => by omega⟩
noncomputable def bl (u : Int) (P : List Pt) (S : List Int) (p : Pt) : Nat → Nat → Nat
  | 0, b => b
  | m + 1, b => bl u P S p m (ifb (decide (S.getD m 0 = (m : Int)) && near u (pn P m) p) m b)
noncomputable def stL (u : Int) (P : List Pt) : Nat → Nat → List Int → List Int
  | 0, _, S => S
  | n + 1, i, S => stL u P n (i + 1) (S ++ [(bl u P S (pn P i) i i : Int)])
theorem bl_congr {u : Int} {P : List Pt} {S S' : List Int} {p : Pt} : ∀ (k b : Nat), (∀ m, m < k → S.getD m 0 = S'.getD m 0) → bl u P S p k b = bl u P S' p k b := by
  intro k
  induction k with
  | zero => intro b _; rfl
  | succ k ih =>
    intro b h
    simp only [bl]
    rw [h k (by omega)]
    exact ih _ fun m hm => h m (by omega)
theorem bl_le {u : Int} {P : List Pt} {S : List Int} {p : Pt} : ∀ (k b : Nat), k ≤ b → bl u P S p k b ≤ b := by
  intro k
  induction k with
  | zero => intro b _; exact Nat.le_refl _
  | succ k ih =>
    intro b h
    simp only [bl]
    cases decide (S.getD k 0 = (k : Int)) && near u (pn P k) p
    · exact ih b (by omega)
    · exact Nat.le_trans (ih k (Nat.le_refl _)) (by omega)
theorem getD_app_lt {S T : List Int} {m : Nat} (h : m < S.length) : (S ++ T).getD m 0 = S.getD m 0 := by
  rw [List.getD_eq_getElem?_getD, List.getD_eq_getElem?_getD, List.getElem?_append_left h]
/-- each point's stand, told by the stands ahead of it -/
def StOk (u : Int) (P : List Pt) (S : List Int) : Prop := ∀ j, j < S.length → S[j]? = some (bl u P S (pn P j) j j : Int)
theorem stL_ok {u : Int} {P : List Pt} : ∀ (n i : Nat) (S : List Int), S.length = i → StOk u P S → (stL u P n i S).length = i + n ∧ StOk u P (stL u P n i S) := by
  intro n
  induction n with
  | zero => intro i S hl h; exact ⟨by simp [stL, hl], h⟩
  | succ n ih =>
    intro i S hl h
    simp only [stL]
    have := ih (i + 1) (S ++ [(bl u P S (pn P i) i i : Int)]) (by simp [hl]) (fun j hj => by
      simp at hj
      have hc : bl u P (S ++ [(bl u P S (pn P i) i i : Int)]) (pn P j) j j = bl u P S (pn P j) j j := bl_congr _ _ fun m hm => getD_app_lt (by omega)
      rw [hc]
      by_cases e : j < i
      · rw [List.getElem?_append_left (by omega)]; exact h j (by omega)
      · have : j = i := by omega
        subst this
        rw [List.getElem?_append_right (by omega), hl, Nat.sub_self]
        rfl)
    refine ⟨by omega, this.2⟩
/-! kept by the stands -/
def kpS (S : List Int) (j : Nat) : Bool := decide (S.getD j 0 = (j : Int))
def kpG (P : List Pt) (kp : Nat → Bool) : Nat → Nat → List Pt
  | 0, _ => []
  | n + 1, i => ifb (kp i) (pn P i :: kpG P kp n (i + 1)) (kpG P kp n (i + 1))
def plG (kp : Nat → Bool) : Nat → Nat → Nat → List Int
  | 0, _, _ => []
  | n + 1, i, c => ifb (kp i) ((c : Int) :: plG kp n (i + 1) (c + 1)) (0 :: plG kp n (i + 1) c)
theorem plG_len (kp : Nat → Bool) : ∀ n i c, (plG kp n i c).length = n := by
  intro n
  induction n with
  | zero => intro i c; rfl
  | succ n ih => intro i c; cases h : kp i <;> simp [plG, h, ih]
def kq (P : List Pt) (kp : Nat → Bool) : Nat → List Pt
  | 0 => []
  | m + 1 => ifb (kp m) (kq P kp m ++ [pn P m]) (kq P kp m)
def cq (kp : Nat → Bool) : Nat → Nat
  | 0 => 0
  | m + 1 => ifb (kp m) (cq kp m + 1) (cq kp m)
theorem kq_len (P : List Pt) (kp : Nat → Bool) : ∀ m, (kq P kp m).length = cq kp m := by
  intro m
  induction m with
  | zero => rfl
  | succ m ih => simp only [kq, cq]; cases kp m <;> simp [ih]
theorem kq_kpG (P : List Pt) (kp : Nat → Bool) : ∀ n m, kq P kp m ++ kpG P kp n m = kq P kp (m + n) := by
  intro n
  induction n with
  | zero => intro m; simp [kpG]
  | succ n ih =>
    intro m
    have := ih (m + 1)
    rw [show m + (n + 1) = m + 1 + n by omega, ← this]
    simp only [kpG, kq]
    cases kp m <;> simp
theorem plG_get (kp : Nat → Bool) : ∀ n i j, j < n → kp (i + j) = true → (plG kp n i (cq kp i))[j]? = some (cq kp (i + j) : Int) := by
  intro n
  induction n with
  | zero => intro i j h; omega
  | succ n ih =>
    intro i j h hk
    simp only [plG]
    cases j with
    | zero =>
      rw [Nat.add_zero] at hk ⊢
      rw [hk]
      rfl
    | succ j =>
      have := ih (i + 1) j (by omega) (by rw [show i + 1 + j = i + (j + 1) by omega]; exact hk)
      rw [show i + 1 + j = i + (j + 1) by omega] at this
      have e : cq kp (i + 1) = ifb (kp i) (cq kp i + 1) (cq kp i) := rfl
      rw [e] at this
      cases hi : kp i
      · rw [hi] at this
        simp only [ifb_f] at this ⊢
        rw [List.getElem?_cons_succ]
        exact this
      · rw [hi] at this
        simp only [ifb_t] at this ⊢
        rw [List.getElem?_cons_succ]
        exact this
theorem first {u : Int} {P : List Pt} {S : List Int} (p : Pt) : ∀ m, (∃ k, k < m ∧ kpS S k = true ∧ fsI u p (kq P (kpS S) m) 0 = cq (kpS S) k ∧ cq (kpS S) k < (kq P (kpS S) m).length ∧ ∀ b, bl u P S p m b = k) ∨
    (fsI u p (kq P (kpS S) m) 0 = (kq P (kpS S) m).length ∧ ∀ b, bl u P S p m b = b) := by
  intro m
  induction m with
  | zero => exact .inr ⟨rfl, fun _ => rfl⟩
  | succ m ih =>
    have app := fsI_app u p (pn P m) (kq P (kpS S) m) 0
    simp only [Nat.zero_add] at app
    have e : (decide (S.getD m 0 = (m : Int)) && near u (pn P m) p) = (kpS S m && near u (pn P m) p) := rfl
    rcases ih with ⟨k, k1, k2, k3, k4, k5⟩ | ⟨k3, k5⟩
    · refine .inl ⟨k, by omega, k2, ?_, ?_, fun b => by simp only [bl]; exact k5 _⟩
      · simp only [kq]
        cases kpS S m
        · simpa using k3
        · simp only [ifb_t]; rw [app.1 (by omega)]; exact k3
      · simp only [kq]
        cases kpS S m
        · simpa using k4
        · simp; omega
    · cases hk : kpS S m
      · refine .inr ⟨?_, fun b => ?_⟩
        · simp only [kq, hk, ifb_f]; exact k3
        · simp only [bl]; rw [e, hk]; simp only [Bool.false_and, ifb_f]; exact k5 _
      · cases hn : near u (pn P m) p
        · refine .inr ⟨?_, fun b => ?_⟩
          · simp only [kq, hk, ifb_t]
            rw [app.2 k3, hn]
            simp
          · simp only [bl]; rw [e, hk, hn]; simp only [Bool.true_and, ifb_f]; exact k5 _
        · refine .inl ⟨m, by omega, hk, ?_, ?_, fun b => ?_⟩
          · simp only [kq, hk, ifb_t]
            rw [app.2 k3, hn, ← kq_len P]
            rfl
          · simp only [kq, hk, ifb_t]
            rw [← kq_len P]
            simp
          · simp only [bl]; rw [e, hk, hn]; simp only [Bool.true_and, ifb_t]; exact k5 _
theorem merge_at {u : Int} {P : List Pt} {S : List Int} (hl : S.length = P.length) (h : StOk u P S) {i : Nat} (hi : i < P.length) :
    ∃ s : Nat, S[i]? = some (s : Int) ∧ s ≤ i ∧ kpS S s = true ∧ fsI u (pn P i) (kq P (kpS S) i) 0 = cq (kpS S) s ∧ addK u (pn P i) (kq P (kpS S) i) = kq P (kpS S) (i + 1) := by
  have hS := h i (by omega)
  have hd : S.getD i 0 = ((bl u P S (pn P i) i i : Nat) : Int) := by rw [List.getD_eq_getElem?_getD, hS]; rfl
  rcases first (u := u) (P := P) (S := S) (pn P i) i with ⟨k, k1, k2, k3, k4, k5⟩ | ⟨k3, k5⟩
  · rw [k5] at hS hd
    refine ⟨k, hS, by omega, k2, k3, ?_⟩
    have : kpS S i = false := by unfold kpS; rw [hd]; exact decide_eq_false (by omega)
    simp only [kq, this, ifb_f]
    unfold addK
    rw [decide_eq_true (by omega)]
    rfl
  · rw [k5] at hS hd
    have : kpS S i = true := by unfold kpS; rw [hd]; exact decide_eq_true rfl
    refine ⟨i, hS, Nat.le_refl _, this, by rw [k3, kq_len], ?_⟩
    simp only [kq, this, ifb_t]
    unfold addK
    rw [decide_eq_false (by omega)]
    rfl
theorem merge_all {u : Int} {P : List Pt} {S : List Int} (hl : S.length = P.length) (h : StOk u P S) : ∀ (n i : Nat), n + i = P.length → mgK u (P.drop i) (kq P (kpS S) i) = kq P (kpS S) P.length ∧
    ∀ j, i + j < P.length → ∃ s : Nat, S[i + j]? = some (s : Int) ∧ s ≤ i + j ∧ kpS S s = true ∧ (mgP u (P.drop i) (kq P (kpS S) i))[j]? = some (cq (kpS S) s : Int) := by
  intro n
  induction n with
  | zero =>
    intro i hi
    have e : i = P.length := by omega
    rw [List.drop_eq_nil_of_le (by omega)]
    exact ⟨by rw [← e]; rfl, fun j hj => by omega⟩
  | succ n ih =>
    intro i hi
    have hlt : i < P.length := by omega
    obtain ⟨q, hq⟩ := get_lt hlt
    have hpn := pn_get hq
    obtain ⟨s, s1, s2, s3, s4, s5⟩ := merge_at hl h hlt
    rw [hpn] at s4 s5
    obtain ⟨ih1, ih2⟩ := ih (i + 1) (by omega)
    rw [drop_get hq]
    simp only [mgK, mgP]
    rw [s5]
    refine ⟨ih1, fun j hj => ?_⟩
    cases j with
    | zero => exact ⟨s, s1, by omega, s3, by rw [s4]; rfl⟩
    | succ j =>
      obtain ⟨t, t1, t2, t3, t4⟩ := ih2 j (by omega)
      rw [show i + 1 + j = i + (j + 1) by omega] at t1 t2
      exact ⟨t, t1, t2, t3, by simpa using t4⟩
/-- both ways keep the same points, and send each point to the same place -/
theorem merge_law (u : Int) (P : List Pt) : ∃ S, S = stL u P P.length 0 [] ∧ S.length = P.length ∧ kpG P (kpS S) P.length 0 = mgK u P [] ∧
    ∀ j, j < P.length → ∃ s : Nat, S[j]? = some (s : Int) ∧ s < P.length ∧ (plG (kpS S) P.length 0 0)[s]? = (mgP u P [])[j]? ∧ ∃ m : Nat, (mgP u P [])[j]? = some (m : Int) := by
  obtain ⟨hl, hok⟩ := stL_ok (u := u) (P := P) P.length 0 [] rfl (fun j hj => by simp at hj)
  rw [Nat.zero_add] at hl
  refine ⟨_, rfl, hl, ?_, fun j hj => ?_⟩
  · have h1 := kq_kpG P (kpS (stL u P P.length 0 [])) P.length 0
    have h2 := (merge_all hl hok P.length 0 (by omega)).1
    rw [Nat.zero_add] at h1
    exact h1.trans h2.symm
  · obtain ⟨s, s1, s2, s3, s4⟩ := (merge_all hl hok P.length 0 (by omega)).2 j (by omega)
    rw [Nat.zero_add] at s1 s2
    have g := plG_get (kpS (stL u P P.length 0 [])) P.length 0 s (by omega) (by rw [Nat.zero_add]; exact s3)
    rw [Nat.zero_add] at g
    exact ⟨s, s1, by omega, g.trans s4.symm, _, s4⟩
set_option linter.unusedSimpArgs false
set_option linter.unusedVariables false
theorem getD_of {l : List Int} {i : Nat} {x : Int} (h : l[i]? = some x) : l.getD i 0 = x := by rw [List.getD_eq_getElem?_getD, h]; rfl
theorem lg212_2 (d : Nat) : ∀ (n : Nat) (R r : List Int), R.length ≤ n → R.length ≤ big → trmL n R = r →
    clC [3] [2] (blk 2 (lp (evC (ev d) b212_2) (clean [3]) ⟨lookS [(3, .rf (.sl 3) none 0 R.length)], lookM [((.sl 3), some (.arr 2 1 (R.map iC)))]⟩)) = some (.nm, ⟨lookS [(3, .rf (.sl 3) none 0 r.length)], lookM [((.sl 3), some (.arr 2 1 (r.map iC)))]⟩) := by
  intro n
  induction n with
  | zero =>
    intro R r hn hb hr
    have h1' : ¬ (1 : Int) < (R.length : Int) := by omega
    have : R = r := hr
    subst this
    rw [lp_step]
    simp [h1']
  | succ n ih =>
    intro R r hn hb hr
    simp only [trmL] at hr
    rw [lp_step]
    by_cases h1 : 1 < R.length
    · have h1' : (1 : Int) < (R.length : Int) := by omega
      obtain ⟨q, hq⟩ : ∃ q, R.length = q + 1 := ⟨R.length - 1, by omega⟩
      obtain ⟨x, hx⟩ := get_lt (l := R) (i := 0) (by omega)
      obtain ⟨y, hy⟩ := get_lt (l := R) (i := q) (by omega)
      have hx0 : R[0] = x := (List.getElem?_eq_some_iff.1 hx).2
      have hy0 : R[q] = y := (List.getElem?_eq_some_iff.1 hy).2
      have hw2 : IntKind.i64.wrap (q : Int) = (q : Int) := wrap_in (by simp only [big] at hb; omega)
      have e : trmC R = decide (x = y) := by
        unfold trmC
        rw [decide_eq_true h1, getD_of hx, show R.length - 1 = q by omega, getD_of hy]
        rfl
      have hT : (R.take q).length = q := by simp; omega
      have hTm : (R.map iC).take q = (R.take q).map iC := by rw [List.map_take]
      rw [e, show R.length - 1 = q by omega] at hr
      have hq1 : (0 : Int) < (q : Int) := by omega
      have hq2 : (0 : Int) ≤ (q : Int) := by omega
      have hq0 : 0 < q := by omega
      have hq3 : (0 : Int) < (q : Int) + 1 := by omega
      have hq4 : (q : Int) < (q : Int) + 1 := by omega
      have hq6 : (1 : Int) < (q : Int) + 1 := by omega
      have hq5 : (q : Int) ≤ (q : Int) + 1 := by omega
      by_cases hxy : x = y
      · subst hxy
        rw [decide_eq_true rfl] at hr
        simp only [ifb_t] at hr
        have ih' := ih (R.take q) r (by omega) (by omega) hr
        rw [hT, ← hTm] at ih'
        try simp at hx
        simp [hq, hq0, hq1, hq2, hq3, hq4, hq5, hq6, hx, hx0, hw2, hy, hy0, ih']
      · rw [decide_eq_false hxy] at hr
        simp only [ifb_f] at hr
        subst hr
        try simp at hx
        simp [hq, hq0, hq1, hq2, hq3, hq4, hq5, hq6, hx, hx0, hw2, hy, hy0, hxy]
    · have h1' : ¬ (1 : Int) < (R.length : Int) := by omega
      have e : trmC R = false := by unfold trmC; rw [decide_eq_false h1]; rfl
      rw [e] at hr
      simp only [ifb_f] at hr
      subst hr
      simp [h1']
theorem rg212 (d : Nat) (R : List Int) (hb : R.length ≤ big) : ev (d + 1) 212 [.ro 1 (R.map iC)] = some (.ow 2 1 ((onceL R).map iC), []) := by
  have key : ∀ (n i : Nat) (acc r : List Int), n + i = R.length → ddp acc (R.drop i) = r → acc.length ≤ i →
      clC [3] [2] (blk 0 (lp (evC (ev d) b212_1) (clean [0, 3, 4]) ⟨lookS [(0, .ro 1 (R.map iC)), (3, .rf (.sl 3) none 0 acc.length), (4, I i)], lookM [((.sl 3), some (.arr 2 1 (acc.map iC)))]⟩)) =
        some (.nm, ⟨lookS [(3, .rf (.sl 3) none 0 r.length)], lookM [((.sl 3), some (.arr 2 1 (r.map iC)))]⟩) := by
    intro n
    induction n with
    | zero =>
      intro i acc r hi hr ha
      have h0 : ¬ (i : Int) < (R.length : Int) := by omega
      rw [List.drop_eq_nil_of_le (by omega)] at hr
      have : acc = r := hr
      subst this
      rw [lp_step]
      simp [h0]
    | succ n ih =>
      intro i acc r hi hr ha
      have hlt : i < R.length := by omega
      have h0 : (i : Int) < (R.length : Int) := by omega
      obtain ⟨x, hx⟩ := get_lt hlt
      have hw := wrap_nat (i := i) (by simp only [big] at hb; omega)
      have hb2 : acc.length + 1 ≤ big := by omega
      rw [drop_get hx] at hr
      simp only [ddp] at hr
      by_cases e : acc = []
      · subst e
        have hr : ddp [x] (R.drop (i + 1)) = r := hr
        have ih' := ih (i + 1) [x] r (by omega) hr (by simp)
        have hb1 : 1 ≤ big := by simp [big]
        simp only [Int.natCast_add, Int.cast_ofNat_Int] at ih'
        simp at ih'
        rw [lp_step]
        simp [h0, hx, hw, hb1, ih']
      · have hpos : 0 < acc.length := List.length_pos_iff.2 e
        obtain ⟨k, hk⟩ : ∃ k, acc.length = k + 1 := ⟨acc.length - 1, by omega⟩
        obtain ⟨y, hy⟩ := get_lt (l := acc) (i := k) (by omega)
        have hy0 : acc[k] = y := (List.getElem?_eq_some_iff.1 hy).2
        have el : lastE acc x = decide (y = x) := by
          unfold lastE
          rw [decide_eq_true hpos, show acc.length - 1 = k by omega, getD_of hy]
          rfl
        rw [el] at hr
        have hn0 : ¬ (k : Int) + 1 = 0 := by omega
        have hw2 : IntKind.i64.wrap (k : Int) = (k : Int) := wrap_in (by simp only [big] at hb; omega)
        have hka : (k : Int) < (k : Int) + 1 := by omega
        by_cases hxy : y = x
        · rw [decide_eq_true hxy] at hr
          simp only [ifb_t] at hr
          have ih' := ih (i + 1) acc r (by omega) hr (by omega)
          simp only [Int.natCast_add, Int.cast_ofNat_Int] at ih'
          try simp at ih'
          rw [hk] at ih' hb2 ⊢
          rw [lp_step]
          simp [h0, hx, hw, hb2, hk, hn0, e, hw2, hka, hy, hy0, hxy, ih']
        · rw [decide_eq_false hxy] at hr
          simp only [ifb_f] at hr
          have ih' := ih (i + 1) (acc ++ [x]) r (by omega) hr (by simp; omega)
          simp only [Int.natCast_add, Int.cast_ofNat_Int] at ih'
          simp [hk] at ih'
          rw [hk] at hb2 ⊢
          rw [lp_step]
          simp [h0, hx, hw, hb2, hk, hn0, e, hw2, hka, hy, hy0, hxy, ih']
  have k0 := key R.length 0 [] _ (by omega) rfl (Nat.le_refl _)
  rw [List.drop_zero] at k0
  have hl := ddp_len R []
  have fin := lg212_2 d (ddp [] R).length (ddp [] R) (onceL R) (Nat.le_refl _) (by simp at hl; omega) rfl
  generalize onceL R = o at fin ⊢
  generalize ddp [] R = A at k0 fin
  rw [s212 d _ rfl]
  simp at k0
  simp [k0, fin]
set_option linter.unusedSimpArgs false
set_option linter.unusedVariables false
set_option maxHeartbeats 1000000
def pOm : List Pt → LV
  | [] => .nl
  | p :: P => .ow 159 2 ((p :: P).map pC)
theorem pOm_ne {P : List Pt} (h : P ≠ []) : pOm P = .ow 159 2 (P.map pC) := by
  cases P with
  | nil => exact absurd rfl h
  | cons p P => rfl
def kgm (g : Int → Int) (f : Fc) : Fc := (f.1, onceL (f.2.map g))
theorem lm130A (d : Nat) (D : Dr) (rest : List LV) (hb : BdN D) (S : List Int) (hSl : S.length = D.pts.length) (kp : Nat → Bool) (hS : ∀ j : Nat, j < D.pts.length → ∃ s : Int, S[j]? = some s ∧ decide (s = (j : Int)) = kp j) : ∀ (n i : Nat) (acc rp : List Pt) (Q R r : List Int), n + i = D.pts.length → Q.length = i → R = Q ++ List.replicate n 0 → Q ++ plG kp n i acc.length = r → acc ++ kpG D.pts kp n i = rp → acc ≠ [] → acc.length ≤ i →
    clC [0, 1, 4, 5, 6] [4] (blk 0 (lp (evC (ev (d + 2)) b130_1) (clean [0, 1, 4, 5, 6, 7]) ⟨lookS [(0, .rp (dR D rest)), (1, .ro 1 (S.map iC)), (4, .bp (.sl 4) 0), (5, .bp (.sl 5) 0), (6, .rf (.sl 6) none 0 D.pts.length), (7, I i)], lookM [((.sl 4), some (.box z4)), ((.sl 5), some (.box [I D.w, I D.h, .rf (.ce 5 2) none 0 acc.length, .nl])), ((.sl 6), some (.arr 2 1 (R.map iC))), ((.ce 5 2), some (.arr 159 2 (acc.map pC)))]⟩)) =
      some (.nm, ⟨lookS [(0, .rp (dR D rest)), (1, .ro 1 (S.map iC)), (4, .bp (.sl 4) 0), (5, .bp (.sl 5) 0), (6, .rf (.sl 6) none 0 D.pts.length)], lookM [((.sl 4), some (.box z4)), ((.sl 5), some (.box [I D.w, I D.h, .rf (.ce 5 2) none 0 rp.length, .nl])), ((.sl 6), some (.arr 2 1 (r.map iC))), ((.ce 5 2), some (.arr 159 2 (rp.map pC)))]⟩) := by
  intro n
  induction n with
  | zero =>
    intro i acc rp Q R r hi hq hR hr hp hne ha
    have h0 : ¬ (i : Int) < (D.pts.length : Int) := by omega
    simp only [plG, kpG, List.append_nil, List.replicate_zero] at hR hr hp
    subst hR hr hp
    rw [lp_step]
    simp [h0]
  | succ n ih =>
    intro i acc rp Q R r hi hq hR hr hp hne ha
    have hlt : i < D.pts.length := by omega
    have h0 : (i : Int) < (D.pts.length : Int) := by omega
    have hpb := hb.pts
    obtain ⟨q, hx⟩ := get_lt hlt
    have hpn := pn_get hx
    have hw := wrap_nat (i := i) (by simp only [big] at hpb; omega)
    have hb2 : acc.length + 1 ≤ big := by omega
    have hl : R.length = D.pts.length := by rw [hR, List.length_append, List.length_replicate]; omega
    have hl2 : (i : Int) < (R.length : Int) := by omega
    have hg : R[i]? = some 0 := by rw [hR, List.getElem?_append_right (by omega), hq, Nat.sub_self]; rfl
    have hgm : (R.map iC)[i]? = some (iC 0) := by rw [List.getElem?_map, hg]; rfl
    have hsm : ∀ a, ((R.map iC).set i a)[i]? = some a := fun a => List.getElem?_set_self (by rw [List.length_map]; omega)
    obtain ⟨s, hc, hsk⟩ := hS i hlt
    have hSi : i < S.length := by omega
    have hSi2 : (i : Int) < (S.length : Int) := by omega
    rw [lp_step]
    cases hs : kp i
    · rw [hs] at hsk
      have hne1 : ¬ s = (i : Int) := of_decide_eq_false hsk
      have ih' := ih (i + 1) acc rp (Q ++ [0]) R r (by omega) (by simp; omega) (by rw [hR, List.replicate_succ, List.append_assoc]; rfl) (by simp only [plG, hs, ifb_f] at hr; rw [List.append_assoc]; exact hr) (by simp only [kpG, hs, ifb_f] at hp; exact hp) hne (by omega)
      simp only [Int.natCast_add, Int.cast_ofNat_Int] at ih'
      try simp at ih'
      simp [h0, hx, hc, hb2, hw, hl, hl2, hg, hgm, hsm, fillU, adsOf, List.mapM_cons, ih', hSi, hSi2, hne1, hSl]
    · rw [hs] at hsk
      have hne1 : s = (i : Int) := of_decide_eq_true hsk
      rw [hne1] at hc
      simp only [plG, kpG, hs, ifb_t, hpn] at hr hp
      have hset : R.set i (acc.length : Int) = (Q ++ [(acc.length : Int)]) ++ List.replicate n 0 := by
        rw [hR, List.set_append_right _ _ (by omega), hq, Nat.sub_self, List.replicate_succ, List.set_cons_zero, List.append_assoc]
        rfl
      have ih' := ih (i + 1) (acc ++ [q]) rp (Q ++ [(acc.length : Int)]) (R.set i (acc.length : Int)) r (by omega) (by simp [hq]) hset (by rw [List.append_assoc, List.length_append]; exact hr) (by rw [List.append_assoc]; exact hp) (by simp) (by simp; omega)
      have em : (R.set i (acc.length : Int)).map iC = (R.map iC).set i [.sc (.int .i64 (acc.length : Int))] := by rw [List.map_set]
      rw [em] at ih'
      simp only [Int.natCast_add, Int.cast_ofNat_Int] at ih'
      try simp at ih'
      simp [h0, hx, hc, hb2, hw, hl, hl2, hg, hgm, hsm, fillU, adsOf, List.mapM_cons, ih', hSi, hSi2, hne1, hSl]
theorem lm130C (d : Nat) (D : Dr) (rest : List LV) (hb : BdN D) (S : List Int) (hSl : S.length = D.pts.length) (kp : Nat → Bool) (hS : ∀ j : Nat, j < D.pts.length → ∃ s : Int, S[j]? = some s ∧ decide (s = (j : Int)) = kp j) : ∀ (n i : Nat) (rp : List Pt) (Q R r : List Int), n + i = D.pts.length → Q.length = i → R = Q ++ List.replicate n 0 → Q ++ plG kp n i 0 = r → kpG D.pts kp n i = rp → rp ≠ [] →
    clC [0, 1, 4, 5, 6] [4] (blk 0 (lp (evC (ev (d + 2)) b130_1) (clean [0, 1, 4, 5, 6, 7]) ⟨lookS [(0, .rp (dR D rest)), (1, .ro 1 (S.map iC)), (4, .bp (.sl 4) 0), (5, .bp (.sl 5) 0), (6, .rf (.sl 6) none 0 D.pts.length), (7, I i)], lookM [((.sl 4), some (.box z4)), ((.sl 5), some (.box [I D.w, I D.h, .nl, .nl])), ((.sl 6), some (.arr 2 1 (R.map iC)))]⟩)) =
      some (.nm, ⟨lookS [(0, .rp (dR D rest)), (1, .ro 1 (S.map iC)), (4, .bp (.sl 4) 0), (5, .bp (.sl 5) 0), (6, .rf (.sl 6) none 0 D.pts.length)], lookM [((.sl 4), some (.box z4)), ((.sl 5), some (.box [I D.w, I D.h, .rf (.ce 5 2) none 0 rp.length, .nl])), ((.sl 6), some (.arr 2 1 (r.map iC))), ((.ce 5 2), some (.arr 159 2 (rp.map pC)))]⟩) := by
  intro n
  induction n with
  | zero =>
    intro i rp Q R r hi hq hR hr hp hne
    exact absurd hp.symm hne
  | succ n ih =>
    intro i rp Q R r hi hq hR hr hp hne
    have hlt : i < D.pts.length := by omega
    have h0 : (i : Int) < (D.pts.length : Int) := by omega
    have hpb := hb.pts
    obtain ⟨q, hx⟩ := get_lt hlt
    have hpn := pn_get hx
    have hw := wrap_nat (i := i) (by simp only [big] at hpb; omega)
    have hb1 : 1 ≤ big := by simp [big]
    have hl : R.length = D.pts.length := by rw [hR, List.length_append, List.length_replicate]; omega
    have hl2 : (i : Int) < (R.length : Int) := by omega
    have hg : R[i]? = some 0 := by rw [hR, List.getElem?_append_right (by omega), hq, Nat.sub_self]; rfl
    have hgm : (R.map iC)[i]? = some (iC 0) := by rw [List.getElem?_map, hg]; rfl
    have hsm : ∀ a, ((R.map iC).set i a)[i]? = some a := fun a => List.getElem?_set_self (by rw [List.length_map]; omega)
    obtain ⟨s, hc, hsk⟩ := hS i hlt
    have hSi : i < S.length := by omega
    have hSi2 : (i : Int) < (S.length : Int) := by omega
    rw [lp_step]
    cases hs : kp i
    · rw [hs] at hsk
      have hne1 : ¬ s = (i : Int) := of_decide_eq_false hsk
      have ih' := ih (i + 1) rp (Q ++ [0]) R r (by omega) (by simp; omega) (by rw [hR, List.replicate_succ, List.append_assoc]; rfl) (by simp only [plG, hs, ifb_f] at hr; rw [List.append_assoc]; exact hr) (by simp only [kpG, hs, ifb_f] at hp; exact hp) hne
      simp only [Int.natCast_add, Int.cast_ofNat_Int] at ih'
      try simp at ih'
      simp [h0, hx, hc, hw, hl, hl2, hg, hgm, hsm, fillU, adsOf, List.mapM_cons, ih', hSi, hSi2, hne1, hSl]
    · rw [hs] at hsk
      have hne1 : s = (i : Int) := of_decide_eq_true hsk
      rw [hne1] at hc
      simp only [plG, kpG, hs, ifb_t, hpn] at hr hp
      have hset : R.set i 0 = (Q ++ [0]) ++ List.replicate n 0 := by
        rw [hR, List.set_append_right _ _ (by omega), hq, Nat.sub_self, List.replicate_succ, List.set_cons_zero, List.append_assoc]
        rfl
      have key := lm130A d D rest hb S hSl kp hS n (i + 1) [q] rp (Q ++ [0]) (R.set i 0) r (by omega) (by simp [hq]) hset (by rw [List.append_assoc]; exact hr) hp (by simp) (by simp)
      have em : (R.set i 0).map iC = (R.map iC).set i [.sc (.int .i64 0)] := by rw [List.map_set]
      rw [em] at key
      simp only [Int.natCast_add, Int.cast_ofNat_Int] at key
      try simp at key
      simp [h0, hx, hc, hb1, hw, hl, hl2, hg, hgm, hsm, fillU, adsOf, List.mapM_cons, key, hSi, hSi2, hne1, hSl]
theorem lm130R0 (d : Nat) (D : Dr) (rest : List LV) (S : List Int) (hSl : S.length = D.pts.length) (hb : BdN D) (Q : List Int) (hQl : Q.length = D.pts.length) (P : List Pt) (i : Nat) (f : Fc) (hf : D.fcs[i]? = some f) (FA : List Fc) (g : Int → Int) (hq : ∀ x ∈ f.2, 0 ≤ x ∧ x.toNat < D.pts.length ∧ ∃ s : Nat, S[x.toNat]? = some (s : Int) ∧ s < D.pts.length ∧ Q[s]? = some (g x)) : ∀ (n j : Nat) (acc r : List Int), n + j = f.2.length → acc ++ (f.2.drop j).map g = r → acc.length = j →
    clC [0, 1, 4, 5, 6, 8, 9] [4] (blk 4 (lp (evC (ev (d + 1)) b130_3) (clean [0, 1, 4, 5, 6, 8, 9, 10]) ⟨lookS [(0, .rp (dR D rest)), (1, .ro 1 (S.map iC)), (4, .bp (.sl 4) 0), (5, .bp (.sl 5) 0), (6, .rf (.sl 6) none 0 D.pts.length), (8, I i), (9, .rf (.sl 9) none 0 acc.length), (10, I j)], lookM [((.sl 4), some (.box z4)), ((.sl 5), some (.box [I D.w, I D.h, .rf (.ce 5 2) none 0 P.length, .nl])), ((.sl 6), some (.arr 2 1 (Q.map iC))), ((.sl 9), some (.arr 2 1 (acc.map iC))), ((.ce 5 2), some (.arr 159 2 (P.map pC)))]⟩)) =
      some (.nm, ⟨lookS [(0, .rp (dR D rest)), (1, .ro 1 (S.map iC)), (4, .bp (.sl 4) 0), (5, .bp (.sl 5) 0), (6, .rf (.sl 6) none 0 D.pts.length), (8, I i), (9, .rf (.sl 9) none 0 r.length)], lookM [((.sl 4), some (.box z4)), ((.sl 5), some (.box [I D.w, I D.h, .rf (.ce 5 2) none 0 P.length, .nl])), ((.sl 6), some (.arr 2 1 (Q.map iC))), ((.sl 9), some (.arr 2 1 (r.map iC))), ((.ce 5 2), some (.arr 159 2 (P.map pC)))]⟩) := by
  intro n
  induction n with
  | zero =>
    intro j acc r hj hr ha
    have h0 : ¬ (j : Int) < (f.2.length : Int) := by omega
    have hi0 := (List.getElem?_eq_some_iff.1 hf).1
    have hi1 : (i : Int) < (D.fcs.length : Int) := by omega
    rw [List.drop_eq_nil_of_le (by omega), List.map_nil, List.append_nil] at hr
    subst hr
    rw [lp_step]
    simp [h0, hf, hi1]
  | succ n ih =>
    intro j acc r hj hr ha
    have hlt : j < f.2.length := by omega
    have h0 : (j : Int) < (f.2.length : Int) := by omega
    have hi0 := (List.getElem?_eq_some_iff.1 hf).1
    have hi1 : (i : Int) < (D.fcs.length : Int) := by omega
    have hfb := hb.ring f (List.mem_of_getElem? hf)
    obtain ⟨x, hx⟩ := get_lt hlt
    obtain ⟨x0, x1, s, hSx, s1, x2⟩ := hq x (List.mem_of_getElem? hx)
    have x3 : x < (D.pts.length : Int) := by omega
    have x4 : (s : Int) < (Q.length : Int) := by omega
    have x5 : s < Q.length := by omega
    have x8 : Q[s] = g x := (List.getElem?_eq_some_iff.1 x2).2
    have hw := wrap_nat (i := j) (by simp only [big] at hfb; omega)
    have hb2 : acc.length + 1 ≤ big := by omega
    have s2 : (s : Int) < (D.pts.length : Int) := by omega
    have x6 : x < (S.length : Int) := by omega
    have x7 : x.toNat < S.length := by omega
    have x9 : S[x.toNat] = (s : Int) := (List.getElem?_eq_some_iff.1 hSx).2
    have ih' := ih (j + 1) (acc ++ [g x]) r (by omega) (by rw [drop_get hx] at hr; rw [List.append_assoc]; exact hr) (by simp; omega)
    simp only [Int.natCast_add, Int.cast_ofNat_Int] at ih'
    simp at ih'
    rw [lp_step]
    simp [h0, hf, hi1, hx, x0, x2, x3, x4, x5, x8, hQl, hw, hb2, ih', hSx, s2, s1, x6, x7, x9, hSl]
theorem lm130RA (d : Nat) (D : Dr) (rest : List LV) (S : List Int) (hSl : S.length = D.pts.length) (hb : BdN D) (Q : List Int) (hQl : Q.length = D.pts.length) (P : List Pt) (i : Nat) (f : Fc) (hf : D.fcs[i]? = some f) (FA : List Fc) (g : Int → Int) (hq : ∀ x ∈ f.2, 0 ≤ x ∧ x.toNat < D.pts.length ∧ ∃ s : Nat, S[x.toNat]? = some (s : Int) ∧ s < D.pts.length ∧ Q[s]? = some (g x)) : ∀ (n j : Nat) (acc r : List Int), n + j = f.2.length → acc ++ (f.2.drop j).map g = r → acc.length = j →
    clC [0, 1, 4, 5, 6, 8, 9] [4] (blk 4 (lp (evC (ev (d + 1)) b130_3) (clean [0, 1, 4, 5, 6, 8, 9, 10]) ⟨lookS [(0, .rp (dR D rest)), (1, .ro 1 (S.map iC)), (4, .bp (.sl 4) 0), (5, .bp (.sl 5) 0), (6, .rf (.sl 6) none 0 D.pts.length), (8, I i), (9, .rf (.sl 9) none 0 acc.length), (10, I j)], lookM [((.sl 4), some (.box z4)), ((.sl 5), some (.box [I D.w, I D.h, .rf (.ce 5 2) none 0 P.length, .rf (.ce 5 3) none 0 FA.length])), ((.sl 6), some (.arr 2 1 (Q.map iC))), ((.sl 9), some (.arr 2 1 (acc.map iC))), ((.ce 5 2), some (.arr 159 2 (P.map pC))), ((.ce 5 3), some (.arr 127 2 (FA.map fC)))]⟩)) =
      some (.nm, ⟨lookS [(0, .rp (dR D rest)), (1, .ro 1 (S.map iC)), (4, .bp (.sl 4) 0), (5, .bp (.sl 5) 0), (6, .rf (.sl 6) none 0 D.pts.length), (8, I i), (9, .rf (.sl 9) none 0 r.length)], lookM [((.sl 4), some (.box z4)), ((.sl 5), some (.box [I D.w, I D.h, .rf (.ce 5 2) none 0 P.length, .rf (.ce 5 3) none 0 FA.length])), ((.sl 6), some (.arr 2 1 (Q.map iC))), ((.sl 9), some (.arr 2 1 (r.map iC))), ((.ce 5 2), some (.arr 159 2 (P.map pC))), ((.ce 5 3), some (.arr 127 2 (FA.map fC)))]⟩) := by
  intro n
  induction n with
  | zero =>
    intro j acc r hj hr ha
    have h0 : ¬ (j : Int) < (f.2.length : Int) := by omega
    have hi0 := (List.getElem?_eq_some_iff.1 hf).1
    have hi1 : (i : Int) < (D.fcs.length : Int) := by omega
    rw [List.drop_eq_nil_of_le (by omega), List.map_nil, List.append_nil] at hr
    subst hr
    rw [lp_step]
    simp [h0, hf, hi1]
  | succ n ih =>
    intro j acc r hj hr ha
    have hlt : j < f.2.length := by omega
    have h0 : (j : Int) < (f.2.length : Int) := by omega
    have hi0 := (List.getElem?_eq_some_iff.1 hf).1
    have hi1 : (i : Int) < (D.fcs.length : Int) := by omega
    have hfb := hb.ring f (List.mem_of_getElem? hf)
    obtain ⟨x, hx⟩ := get_lt hlt
    obtain ⟨x0, x1, s, hSx, s1, x2⟩ := hq x (List.mem_of_getElem? hx)
    have x3 : x < (D.pts.length : Int) := by omega
    have x4 : (s : Int) < (Q.length : Int) := by omega
    have x5 : s < Q.length := by omega
    have x8 : Q[s] = g x := (List.getElem?_eq_some_iff.1 x2).2
    have hw := wrap_nat (i := j) (by simp only [big] at hfb; omega)
    have hb2 : acc.length + 1 ≤ big := by omega
    have s2 : (s : Int) < (D.pts.length : Int) := by omega
    have x6 : x < (S.length : Int) := by omega
    have x7 : x.toNat < S.length := by omega
    have x9 : S[x.toNat] = (s : Int) := (List.getElem?_eq_some_iff.1 hSx).2
    have ih' := ih (j + 1) (acc ++ [g x]) r (by omega) (by rw [drop_get hx] at hr; rw [List.append_assoc]; exact hr) (by simp; omega)
    simp only [Int.natCast_add, Int.cast_ofNat_Int] at ih'
    simp at ih'
    rw [lp_step]
    simp [h0, hf, hi1, hx, x0, x2, x3, x4, x5, x8, hQl, hw, hb2, ih', hSx, s2, s1, x6, x7, x9, hSl]
theorem lm130F (d : Nat) (D : Dr) (rest : List LV) (S : List Int) (hSl : S.length = D.pts.length) (hb : BdN D) (Q : List Int) (hQl : Q.length = D.pts.length) (P : List Pt) (g : Int → Int) (hqa : ∀ f ∈ D.fcs, ∀ x ∈ f.2, 0 ≤ x ∧ x.toNat < D.pts.length ∧ ∃ s : Nat, S[x.toNat]? = some (s : Int) ∧ s < D.pts.length ∧ Q[s]? = some (g x)) : ∀ (n i : Nat) (acc r : List Fc), n + i = D.fcs.length → acc ++ (D.fcs.drop i).map (kgm g) = r → acc.length = i → acc ≠ [] →
    clC [4, 5] [4] (blk 2 (lp (evC (ev (d + 1)) b130_2) (clean [0, 1, 4, 5, 6, 8]) ⟨lookS [(0, .rp (dR D rest)), (1, .ro 1 (S.map iC)), (4, .bp (.sl 4) 0), (5, .bp (.sl 5) 0), (6, .rf (.sl 6) none 0 D.pts.length), (8, I i)], lookM [((.sl 4), some (.box z4)), ((.sl 5), some (.box [I D.w, I D.h, .rf (.ce 5 2) none 0 P.length, .rf (.ce 5 3) none 0 acc.length])), ((.sl 6), some (.arr 2 1 (Q.map iC))), ((.ce 5 2), some (.arr 159 2 (P.map pC))), ((.ce 5 3), some (.arr 127 2 (acc.map fC)))]⟩)) =
      some (.nm, ⟨lookS [(4, .bp (.sl 4) 0), (5, .bp (.sl 5) 0)], lookM [((.sl 4), some (.box z4)), ((.sl 5), some (.box [I D.w, I D.h, .rf (.ce 5 2) none 0 P.length, .rf (.ce 5 3) none 0 r.length])), ((.ce 5 2), some (.arr 159 2 (P.map pC))), ((.ce 5 3), some (.arr 127 2 (r.map fC)))]⟩) := by
  intro n
  induction n with
  | zero =>
    intro i acc r hi hr ha hne
    have h0 : ¬ (i : Int) < (D.fcs.length : Int) := by omega
    rw [List.drop_eq_nil_of_le (by omega), List.map_nil, List.append_nil] at hr
    subst hr
    rw [lp_step]
    simp [h0]
  | succ n ih =>
    intro i acc r hi hr ha hne
    have hlt : i < D.fcs.length := by omega
    have h0 : (i : Int) < (D.fcs.length : Int) := by omega
    have hfb := hb.fcs
    obtain ⟨f, hf⟩ := get_lt hlt
    have hm := List.mem_of_getElem? hf
    have hrb := hb.ring f hm
    obtain ⟨R, hR⟩ : ∃ R, R = f.2.map g := ⟨_, rfl⟩
    have hrl : R.length ≤ big := by rw [hR, List.length_map]; exact hrb
    have hw := wrap_nat (i := i) (by simp only [big] at hfb; omega)
    have hb2 : acc.length + 1 ≤ big := by omega
    have key := lm130RA d D rest S hSl hb Q hQl P i f hf acc g (hqa f hm) f.2.length 0 [] R (by omega) (by rw [hR]; rfl) rfl
    simp at key
    have c := rg212 d R hrl
    have hol := onceL_len R
    obtain ⟨O, hO⟩ : ∃ O, O = onceL R := ⟨_, rfl⟩
    rw [← hO] at c hol
    have hol2 : O.length ≤ big := by omega
    have ih' := ih (i + 1) (acc ++ [(f.1, O)]) r (by omega) (by rw [drop_get hf] at hr; rw [List.append_assoc, hO, hR]; exact hr) (by simp; omega) (by simp)
    simp only [Int.natCast_add, Int.cast_ofNat_Int] at ih'
    simp at ih'
    rw [lp_step]
    simp [h0, hf, key, hrl, hw, hb2, fillU, adsOf, List.mapM_cons, ih', c, hol2]
theorem rm130 (d : Nat) (D : Dr) (rest : List LV) (hb : BdN D) (S : List Int) (hSl : S.length = D.pts.length) (kp : Nat → Bool) (hS : ∀ j : Nat, j < D.pts.length → ∃ s : Int, S[j]? = some s ∧ decide (s = (j : Int)) = kp j) (g : Int → Int)
    (hqa : ∀ f ∈ D.fcs, ∀ x ∈ f.2, 0 ≤ x ∧ x.toNat < D.pts.length ∧ ∃ s : Nat, S[x.toNat]? = some (s : Int) ∧ s < D.pts.length ∧ (plG kp D.pts.length 0 0)[s]? = some (g x)) (PP : List Pt) (hPP : kpG D.pts kp D.pts.length 0 = PP) (hne : D.pts ≠ [] → PP ≠ []) (FF : List Fc) (hFF : D.fcs.map (kgm g) = FF) (hF0 : D.pts = [] → D.fcs = []) :
    ev (d + 3) 130 [.rp (dR D rest), .ro 1 (S.map iC)] = some (.ag (dA ⟨D.w, D.h, PP, FF⟩ (pOm PP) (fO FF)), []) := by
  rw [s130 (d + 2) _ rfl]
  have hpb := hb.pts
  have hfb := hb.fcs
  by_cases hP : D.pts = []
  · have hF := hF0 hP
    have e1 : PP = [] := by rw [← hPP, hP]; rfl
    have e2 : FF = [] := by rw [← hFF, hF]; rfl
    have e3 : S = [] := List.eq_nil_of_length_eq_zero (by rw [hSl, hP]; rfl)
    subst e1 e2 e3
    have hl0 : D.pts.length = 0 := by rw [hP]; rfl
    have hb0 : 0 ≤ big := Nat.zero_le _
    simp [hl0, hP, pOm, fO]
    rw [lp_step]
    simp [hl0, hP]
    rw [lp_step]
    simp [hF]
  have hne := hne hP
  have hQl := plG_len kp D.pts.length 0 0
  have key := lm130C d D rest hb S hSl kp hS D.pts.length 0 PP [] _ (plG kp D.pts.length 0 0) (by omega) rfl rfl rfl hPP hne
  generalize plG kp D.pts.length 0 0 = Q at key hqa hQl
  have pe := pOm_ne hne
  by_cases hF : D.fcs = []
  · have e2 : FF = [] := by rw [← hFF, hF]; rfl
    subst e2
    try simp at key
    simp [key, hpb, pe, fO]
    rw [lp_step]
    simp [hF]
  · have hFn : FF ≠ [] := by rw [← hFF]; simpa using hF
    obtain ⟨f, F, hD⟩ : ∃ f F, D.fcs = f :: F := by
      cases h : D.fcs with
      | nil => exact absurd h hF
      | cons f F => exact ⟨f, F, rfl⟩
    have hf : D.fcs[0]? = some f := by rw [hD]; rfl
    have hm := List.mem_of_getElem? hf
    have hrb := hb.ring f hm
    obtain ⟨R, hR⟩ : ∃ R, R = f.2.map g := ⟨_, rfl⟩
    have hrl : R.length ≤ big := by rw [hR, List.length_map]; exact hrb
    have c := rg212 (d + 1) R hrl
    have hol := onceL_len R
    obtain ⟨O, hO⟩ : ∃ O, O = onceL R := ⟨_, rfl⟩
    rw [← hO] at c hol
    have hol2 : O.length ≤ big := by omega
    have key0 := lm130R0 (d + 1) D rest S hSl hb Q hQl PP 0 f hf [] g (hqa f hm) f.2.length 0 [] R (by omega) (by rw [hR]; rfl) rfl
    have keyF := lm130F (d + 1) D rest S hSl hb Q hQl PP g hqa F.length 1 [(f.1, O)] FF (by rw [hD]; simp) (by rw [← hFF, hD, hO, hR]; rfl) rfl (by simp)
    have hb1 : 1 ≤ big := by simp [big]
    have w1 : IntKind.i64.wrap 1 = 1 := by decide
    have hpos : 0 < D.fcs.length := List.length_pos_iff.2 hF
    have hpos2 : (0 : Int) < (D.fcs.length : Int) := by omega
    have hx0 : D.fcs[0] = f := (List.getElem?_eq_some_iff.1 hf).2
    have fe := fO_ne hFn
    simp at key key0 keyF
    simp [key, hpb, w1, fe, pe]
    rw [lp_step]
    simp [hpos, hpos2, hx0, key0, c, hb1, hrl, hol2, w1, fillU, adsOf, List.mapM_cons, keyF]
end Go.Proofs.Ytejffoibihbnnaa.walkS
