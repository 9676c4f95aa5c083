/- Contrasts of neighbours; no conditions. -/
import Derived.Test.YtmhddfikpfkeoaaWNe2
import Derived.Test.YtmhddfikpfkeoaaWVp
namespace Go.Proofs.Ytmhddfikpfkeoaa.walkS
open Go Go.Proofs.Ytmhddfikpfkeoaa.Ev
set_option linter.unusedSimpArgs false
set_option linter.unusedVariables false
def contr (a g a' g' : Int) : Int := W (mxI (W (a - a')) (W (a' - a)) + W ((angl g g').tdiv 6))
theorem r129 (d : Nat) (s s' : ByteArray) (a g a' g' : Int) : ev (d + 3) 129 [.rp (V s a g), .rp (V s' a' g')] = some (I (contr a g a' g'), []) := by
  rw [s129 (d + 2) _ rfl]
  simp [r154, r153, contr]
theorem r133 (d : Nat) (s s' : ByteArray) (a g a' g' : Int) (h : okA g g' = true) : ev (d + 3) 133 [.ag (V s a g), .ag (V s' a' g')] = some (I (contr a g a' g'), []) := by
  rw [s133 (d + 2) _ rfl]
  simp [r157, h, contr, mxI]
def prK (k : Nat) : List Int → List (List Int)
  | [] => []
  | m :: q => ifb (decide ((k : Int) < m)) ([(k : Int), m] :: prK k q) (prK k q)
def prs (F : List Fc) : Nat → Nat → List (List Int)
  | 0, _ => []
  | n + 1, k => prK k (near F k) ++ prs F n (k + 1)
theorem prK_len (k : Nat) : ∀ q, (prK k q).length ≤ q.length := by
  intro q
  induction q with
  | nil => exact Nat.le_refl _
  | cons m q ih =>
    cases h : decide ((k : Int) < m) <;> simp [prK, h] <;> omega
theorem near_len (F : List Fc) (k : Nat) : (near F k).length ≤ F.length := whN_len _ _ _
theorem prs_len (F : List Fc) : ∀ n k, (prs F n k).length ≤ F.length * n := by
  intro n
  induction n with
  | zero => intro k; simp [prs]
  | succ n ih =>
    intro k
    have h1 := prK_len k (near F k)
    have h2 := near_len F k
    have h3 := ih (k + 1)
    simp only [prs, List.length_append, Nat.mul_add]
    omega
theorem whN_mem {p : Nat → Bool} {x : Int} : ∀ {n i : Nat}, x ∈ whN p n i → ∃ j : Nat, x = (j : Int) ∧ i ≤ j ∧ j < i + n := by
  intro n
  induction n with
  | zero => intro i h; simp [whN] at h
  | succ n ih =>
    intro i h
    cases hp : p i
    · simp only [whN, hp, ifb_f] at h
      obtain ⟨j, h1, h2, h3⟩ := ih h
      exact ⟨j, h1, by omega, by omega⟩
    · simp only [whN, hp, ifb_t, List.mem_cons] at h
      rcases h with rfl | h
      · exact ⟨i, rfl, Nat.le_refl _, by omega⟩
      · obtain ⟨j, h1, h2, h3⟩ := ih h
        exact ⟨j, h1, by omega, by omega⟩
theorem near_mem {F : List Fc} {k : Nat} {x : Int} (h : x ∈ near F k) : 0 ≤ x ∧ x.toNat < F.length := by
  obtain ⟨j, rfl, h1, h2⟩ := whN_mem h
  constructor
  · omega
  · simpa using h2
theorem prK_mem {k : Nat} {p : List Int} : ∀ {q : List Int}, p ∈ prK k q → ∃ m ∈ q, p = [(k : Int), m] := by
  intro q
  induction q with
  | nil => intro h; simp [prK] at h
  | cons m q ih =>
    intro h
    cases hc : decide ((k : Int) < m)
    · simp only [prK, hc, ifb_f] at h
      obtain ⟨m', h1, h2⟩ := ih h
      exact ⟨m', by simp [h1], h2⟩
    · simp only [prK, hc, ifb_t, List.mem_cons] at h
      rcases h with rfl | h
      · exact ⟨m, by simp, rfl⟩
      · obtain ⟨m', h1, h2⟩ := ih h
        exact ⟨m', by simp [h1], h2⟩
theorem prs_mem {F : List Fc} {p : List Int} : ∀ {n k : Nat}, k + n ≤ F.length → p ∈ prs F n k → ∃ a b, p = [a, b] ∧ (0 ≤ a ∧ a.toNat < F.length) ∧ (0 ≤ b ∧ b.toNat < F.length) := by
  intro n
  induction n with
  | zero => intro k _ h; simp [prs] at h
  | succ n ih =>
    intro k hk h
    simp only [prs, List.mem_append] at h
    rcases h with h | h
    · obtain ⟨m, h1, rfl⟩ := prK_mem h
      exact ⟨_, _, rfl, ⟨by omega, by simp; omega⟩, near_mem h1⟩
    · exact ih (by omega) h
/-- a pair with its contrast -/
def vA (vs : List Vn) (k : Int) : Vn := (vs[k.toNat]?).getD (.empty, 0, 0)
def ctr (vs : List Vn) (a b : Int) : Int := contr (vA vs a).2.1 (vA vs a).2.2 (vA vs b).2.1 (vA vs b).2.2
def adC (vs : List Vn) : List Int → List Int
  | [a, b] => [a, b, ctr vs a b]
  | _ => []
def ctrs (Q : Pi) : List (List Int) := (prs Q.d.fcs Q.d.fcs.length 0).map (adC Q.vs)
theorem vA_get {vs : List Vn} {k : Int} {v : Vn} (h : vs[k.toNat]? = some v) : vA vs k = v := by unfold vA; rw [h]; rfl
theorem okVn_gr {v : Vn} (h : okVn v = true) : inR v.2.2 0 179 = true := by
  simp only [okVn, okS, Bool.and_eq_true] at h
  exact h.2.2.2
theorem l128_2 (d : Nat) (D : Dr) (rest : List LV) (k : Nat) (q : List Int) (hq : q.length ≤ 100) : ∀ (n i : Nat) (acc r : List (List Int)), n + i = q.length → acc ++ prK k (q.drop i) = r → acc.length ≤ 10000 + i →
    clC [0, 3, 4] [2] (blk 2 (lp (evC (ev (d + 2)) b128_2) (clean [0, 3, 4, 5, 6]) ⟨lookS [(0, .rp (dR D rest)), (3, .rf (.sl 3) none 0 acc.length), (4, I k), (5, .rf (.sl 5) none 0 q.length), (6, I i)], lookM [((.sl 3), some (.arr 24 1 (acc.map jI))), ((.sl 5), some (.arr 2 1 (q.map iC)))]⟩)) =
      some (.nm, ⟨lookS [(0, .rp (dR D rest)), (3, .rf (.sl 3) none 0 r.length), (4, I k)], lookM [((.sl 3), some (.arr 24 1 (r.map jI)))]⟩) := by
  intro n
  induction n with
  | zero =>
    intro i acc r hi hr ha
    have h0 : ¬ (i : Int) < (q.length : Int) := by omega
    rw [List.drop_eq_nil_of_le (by omega)] at hr
    have e : acc = r := by simpa [prK] using hr
    subst e
    rw [lp_step]
    simp [h0]
  | succ n ih =>
    intro i acc r hi hr ha
    have hlt : i < q.length := by omega
    have h0 : (i : Int) < (q.length : Int) := by omega
    obtain ⟨x, hx⟩ := get_lt hlt
    have hw := wrap_nat (i := i) (by omega)
    have hb2 : acc.length + 1 ≤ big := by simp only [big]; omega
    rw [drop_get hx] at hr
    have ej : jI [(k : Int), x] = [.sl true 2 1 [iW (k : Int), iW x]] := rfl
    have hlow : low [[Cell.sc (.int .i64 (k : Int))], [Cell.sc (.int .i64 x)]] = some [iW (k : Int), iW x] := rfl
    simp only [prK] at hr
    rw [lp_step]
    by_cases hc : (k : Int) < x
    · rw [decide_eq_true hc] at hr
      have ih' := ih (i + 1) (acc ++ [[(k : Int), x]]) r (by omega) (by rw [List.append_assoc]; exact hr) (by simp; omega)
      simp only [Int.natCast_add, Int.cast_ofNat_Int] at ih'
      simp at ih'
      rw [ej] at ih'
      simp [h0, hx, hc, hw, hb2, hlow, fillU, adsOf, List.mapM_cons, ih']
    · rw [decide_eq_false hc] at hr
      have ih' := ih (i + 1) acc r (by omega) hr (by omega)
      simp only [Int.natCast_add, Int.cast_ofNat_Int] at ih'
      simp [h0, hx, hc, hw, ih']
theorem l128 (d : Nat) (D : Dr) (rest : List LV) (hb : BdN D) (h24 : D.fcs.length ≤ 24) : ∀ (n k : Nat) (acc r : List (List Int)), n + k = D.fcs.length → acc ++ prs D.fcs n k = r → acc.length ≤ 24 * k →
    clC [3] [2] (blk 0 (lp (evC (ev (d + 2)) b128_1) (clean [0, 3, 4]) ⟨lookS [(0, .rp (dR D rest)), (3, .rf (.sl 3) none 0 acc.length), (4, I k)], lookM [((.sl 3), some (.arr 24 1 (acc.map jI)))]⟩)) =
      some (.nm, ⟨lookS [(3, .rf (.sl 3) none 0 r.length)], lookM [((.sl 3), some (.arr 24 1 (r.map jI)))]⟩) := by
  intro n
  induction n with
  | zero =>
    intro k acc r hi hr ha
    have h0 : ¬ (k : Int) < (D.fcs.length : Int) := by omega
    have e : acc = r := by simpa [prs] using hr
    subst e
    rw [lp_step]
    simp [h0]
  | succ n ih =>
    intro k acc r hi hr ha
    have hlt : k < D.fcs.length := by omega
    have h0 : (k : Int) < (D.fcs.length : Int) := by omega
    have hw := wrap_nat (i := k) (by omega)
    have c := r186 d D rest hb k hlt
    have nl := near_len D.fcs k
    have pl := prK_len k (near D.fcs k)
    simp only [prs] at hr
    have inn := l128_2 d D rest k (near D.fcs k) (by omega) (near D.fcs k).length 0 acc (acc ++ prK k (near D.fcs k)) (by omega) (by simp) (by omega)
    have ih' := ih (k + 1) (acc ++ prK k (near D.fcs k)) r (by omega) (by rw [List.append_assoc]; exact hr) (by rw [List.length_append]; omega)
    generalize acc ++ prK k (near D.fcs k) = acc' at inn ih'
    generalize near D.fcs k = q at c inn
    simp only [Int.natCast_add, Int.cast_ofNat_Int] at ih'
    simp at inn
    rw [lp_step]
    simp [h0, c, inn, hw, ih']
theorem r128 (d : Nat) (D : Dr) (rest : List LV) (hb : BdN D) (h24 : D.fcs.length ≤ 24) : ev (d + 3) 128 [.rp (dR D rest)] = some (.ow 24 1 ((prs D.fcs D.fcs.length 0).map jI), []) := by
  rw [s128 (d + 2) _ rfl]
  have key := l128 d D rest hb h24 D.fcs.length 0 [] _ (by omega) rfl (by simp)
  rw [List.nil_append] at key
  simp at key
  simp [key, fillU, adsOf]
theorem l66 (d : Nat) (Q : Pi) (ps : List (List Int)) (hpb : ps.length ≤ 10000) (hps : ∀ p ∈ ps, ∃ a b, p = [a, b] ∧ (0 ≤ a ∧ a.toNat < Q.vs.length) ∧ (0 ≤ b ∧ b.toNat < Q.vs.length)) : ∀ (n i : Nat) (acc r : List (List Int)), n + i = ps.length → acc ++ (ps.drop i).map (adC Q.vs) = r → acc.length ≤ i →
    clC [3] [2] (blk 0 (lp (evC (ev (d + 3)) b66_1) (clean [0, 3, 4, 5]) ⟨lookS [(0, .rp (qV Q)), (3, .rf (.sl 3) none 0 acc.length), (4, .rf (.sl 4) none 0 ps.length), (5, I i)], lookM [((.sl 3), some (.arr 24 1 (acc.map jI))), ((.sl 4), some (.arr 24 1 (ps.map jI)))]⟩)) =
      some (.nm, ⟨lookS [(3, .rf (.sl 3) none 0 r.length)], lookM [((.sl 3), some (.arr 24 1 (r.map jI)))]⟩) := by
  intro n
  induction n with
  | zero =>
    intro i acc r hi hr ha
    have h0 : ¬ (i : Int) < (ps.length : Int) := by omega
    rw [List.drop_eq_nil_of_le (by omega)] at hr
    have e : acc = r := by simpa using hr
    subst e
    rw [lp_step]
    simp [h0]
  | succ n ih =>
    intro i acc r hi hr ha
    have hlt : i < ps.length := by omega
    have h0 : (i : Int) < (ps.length : Int) := by omega
    obtain ⟨p, hx⟩ := get_lt hlt
    obtain ⟨a, b, rfl, ⟨a0, a1⟩, b0, b1⟩ := hps p (List.mem_of_getElem? hx)
    obtain ⟨u, hu⟩ := get_lt a1
    obtain ⟨v, hv⟩ := get_lt b1
    have hw := wrap_nat (i := i) (by omega)
    have hb2 : acc.length + 1 ≤ big := by simp only [big]; omega
    have cc := r129 d u.1 v.1 u.2.1 u.2.2 v.2.1 v.2.2
    have ec : ctr Q.vs a b = contr u.2.1 u.2.2 v.2.1 v.2.2 := by unfold ctr; rw [vA_get hu, vA_get hv]
    rw [← ec] at cc
    rw [drop_get hx, List.map_cons] at hr
    have ih' := ih (i + 1) (acc ++ [[a, b, ctr Q.vs a b]]) r (by omega) (by rw [List.append_assoc]; exact hr) (by simp; omega)
    generalize ctr Q.vs a b = c at cc ih'
    have ej : jI [a, b, c] = [.sl true 2 1 [iW a, iW b, iW c]] := rfl
    have hlow : low [[Cell.sc (.int .i64 a)], [Cell.sc (.int .i64 b)], [Cell.sc (.int .i64 c)]] = some [iW a, iW b, iW c] := rfl
    simp only [Int.natCast_add, Int.cast_ofNat_Int] at ih'
    simp at ih'
    rw [ej] at ih'
    rw [lp_step]
    simp [h0, hx, hu, hv, a0, b0, cc, hw, hb2, hlow, fillU, adsOf, List.mapM_cons, ih']
theorem okPi_fs {Q : Pi} (h : okPi Q = true) : drOk Q.d = true ∧ Q.vs.length = Q.d.fcs.length ∧ (∀ v ∈ Q.vs, okVn v = true) ∧ Q.d.fcs.length ≤ 24 := by
  simp only [okPi, Bool.and_eq_true, decide_eq_true_eq, List.all_eq_true] at h
  refine ⟨h.1, h.2.1, h.2.2, ?_⟩
  have := h.1
  simp only [drOk, Bool.and_eq_true, decide_eq_true_eq] at this
  exact this.2.2.2.2.1
theorem ctrs_len {Q : Pi} (h : okPi Q = true) : (ctrs Q).length ≤ 576 := by
  obtain ⟨_, _, _, h24⟩ := okPi_fs h
  have h1 := prs_len Q.d.fcs Q.d.fcs.length 0
  have h2 : Q.d.fcs.length * Q.d.fcs.length ≤ 24 * 24 := Nat.mul_le_mul h24 h24
  unfold ctrs
  rw [List.length_map]
  omega
theorem prs_in {Q : Pi} (h : okPi Q = true) : ∀ p ∈ prs Q.d.fcs Q.d.fcs.length 0, ∃ a b, p = [a, b] ∧ (0 ≤ a ∧ a.toNat < Q.vs.length) ∧ (0 ≤ b ∧ b.toNat < Q.vs.length) := by
  intro p hp
  obtain ⟨_, hl, _, _⟩ := okPi_fs h
  rw [hl]
  exact prs_mem (by omega) hp
theorem r66 (d : Nat) (Q : Pi) (hb : BdN Q.d) (ho : okPi Q = true) : ev (d + 4) 66 [.rp (qV Q)] = some (.ow 24 1 ((ctrs Q).map jI), []) := by
  rw [s66 (d + 3) _ rfl]
  obtain ⟨_, hl, _, h24⟩ := okPi_fs ho
  have c := r128 d Q.d [.ro 3 (Q.vs.map vC)] hb h24
  have h1 := prs_len Q.d.fcs Q.d.fcs.length 0
  have h2 : Q.d.fcs.length * Q.d.fcs.length ≤ 24 * 24 := Nat.mul_le_mul h24 h24
  have key := l66 d Q (prs Q.d.fcs Q.d.fcs.length 0) (by omega) (prs_in ho) (prs Q.d.fcs Q.d.fcs.length 0).length 0 [] (ctrs Q) (by omega) (by simp [ctrs]) (by simp)
  generalize prs Q.d.fcs Q.d.fcs.length 0 = ps at c key
  simp at key c
  simp [c, key, fillU, adsOf]
theorem l69_2n (d : Nat) (Q : Pi) (N : Nat) (L : List (List Int)) (k : Nat) (r : List (List Int)) :
    clC [1, 3, 11, 12, 13] [2] (blk 2 (lp (evC (ev (d + 3)) b69_2) (clean [1, 3, 4, 11, 12, 13, 18, 19, 20]) ⟨lookS [(1, .bp (.sl 1) 0), (3, .rf (.sl 3) none 0 r.length), (4, I k), (11, .rf (.sl 11) none 0 N), (12, I N), (13, I k), (18, .nl), (19, I 0), (20, I 0)], lookM [((.sl 1), some (.box (qV Q))), ((.sl 3), some (.arr 24 1 (r.map jI))), ((.sl 11), some (.arr 24 1 (L.map oR)))]⟩)) =
      some (.nm, ⟨lookS [(1, .bp (.sl 1) 0), (3, .rf (.sl 3) none 0 r.length), (11, .rf (.sl 11) none 0 N), (12, I N), (13, I k)], lookM [((.sl 1), some (.box (qV Q))), ((.sl 3), some (.arr 24 1 (r.map jI))), ((.sl 11), some (.arr 24 1 (L.map oR)))]⟩) := by
  rw [lp_step]
  simp
theorem l69_2 (d : Nat) (Q : Pi) (hv : ∀ v ∈ Q.vs, okVn v = true) (N : Nat) (L : List (List Int)) (k : Nat) (hk : k < Q.vs.length) (q : List Int) (hLk : L[k]? = some q) (hq0 : q ≠ []) (hq : q.length ≤ 100) (hqm : ∀ x ∈ q, 0 ≤ x ∧ x.toNat < Q.vs.length) : ∀ (n i : Nat) (acc r : List (List Int)), n + i = q.length → acc ++ (prK k (q.drop i)).map (adC Q.vs) = r → acc.length ≤ 10000 + i →
    clC [1, 3, 11, 12, 13] [2] (blk 2 (lp (evC (ev (d + 3)) b69_2) (clean [1, 3, 4, 11, 12, 13, 18, 19, 20]) ⟨lookS [(1, .bp (.sl 1) 0), (3, .rf (.sl 3) none 0 acc.length), (4, I k), (11, .rf (.sl 11) none 0 N), (12, I N), (13, I k), (18, .rf (.sl 11) (some (k, 0)) 0 q.length), (19, I q.length), (20, I i)], lookM [((.sl 1), some (.box (qV Q))), ((.sl 3), some (.arr 24 1 (acc.map jI))), ((.sl 11), some (.arr 24 1 (L.map oR)))]⟩)) =
      some (.nm, ⟨lookS [(1, .bp (.sl 1) 0), (3, .rf (.sl 3) none 0 r.length), (11, .rf (.sl 11) none 0 N), (12, I N), (13, I k)], lookM [((.sl 1), some (.box (qV Q))), ((.sl 3), some (.arr 24 1 (r.map jI))), ((.sl 11), some (.arr 24 1 (L.map oR)))]⟩) := by
  intro n
  induction n with
  | zero =>
    intro i acc r hi hr ha
    have h0 : ¬ (i : Int) < (q.length : Int) := by omega
    rw [List.drop_eq_nil_of_le (by omega)] at hr
    have e : acc = r := by simpa [prK] using hr
    subst e
    rw [lp_step]
    simp [h0]
  | succ n ih =>
    intro i acc r hi hr ha
    have hlt : i < q.length := by omega
    have h0 : (i : Int) < (q.length : Int) := by omega
    obtain ⟨x, hx⟩ := get_lt hlt
    have hw := wrap_nat (i := i) (by omega)
    have hb2 : acc.length + 1 ≤ big := by simp only [big]; omega
    rw [drop_get hx] at hr
    obtain ⟨x0, x1⟩ := hqm x (List.mem_of_getElem? hx)
    obtain ⟨u, hu⟩ := get_lt hk
    obtain ⟨v, hvx⟩ := get_lt x1
    have hok : okA u.2.2 v.2.2 = true := by
      unfold okA
      rw [okVn_gr (hv u (List.mem_of_getElem? hu)), okVn_gr (hv v (List.mem_of_getElem? hvx))]
      rfl
    have cc := r133 d u.1 v.1 u.2.1 u.2.2 v.2.1 v.2.2 hok
    have ec : ctr Q.vs k x = contr u.2.1 u.2.2 v.2.1 v.2.2 := by unfold ctr; rw [vA_get (by simpa using hu), vA_get hvx]
    rw [← ec] at cc
    have hor := oR_ne hq0
    simp only [prK] at hr
    rw [lp_step]
    by_cases hc : (k : Int) < x
    · rw [decide_eq_true hc] at hr
      have ih' := ih (i + 1) (acc ++ [[(k : Int), x, ctr Q.vs k x]]) r (by omega) (by rw [List.append_assoc]; exact hr) (by simp; omega)
      generalize ctr Q.vs k x = c at cc ih'
      have ej : jI [(k : Int), x, c] = [.sl true 2 1 [iW (k : Int), iW x, iW c]] := rfl
      have hlow : low [[Cell.sc (.int .i64 (k : Int))], [Cell.sc (.int .i64 x)], [Cell.sc (.int .i64 c)]] = some [iW (k : Int), iW x, iW c] := rfl
      simp only [Int.natCast_add, Int.cast_ofNat_Int] at ih'
      simp at ih'
      rw [ej] at ih'
      simp [h0, hLk, hor, hx, x0, hu, hvx, cc, hc, hw, hb2, hlow, fillU, adsOf, List.mapM_cons, ih']
    · rw [decide_eq_false hc] at hr
      have ih' := ih (i + 1) acc r (by omega) hr (by omega)
      simp only [Int.natCast_add, Int.cast_ofNat_Int] at ih'
      simp [h0, hLk, hor, hx, hc, hw, ih']
theorem l69 (d : Nat) (Q : Pi) (hv : ∀ v ∈ Q.vs, okVn v = true) (hl : Q.vs.length = Q.d.fcs.length) (N : Nat) (hN : Q.d.fcs.length = N) (h24 : N ≤ 24) (L : List (List Int)) (hLl : L.length = N) (hL : ∀ k, k < N → L[k]? = some (near Q.d.fcs k)) : ∀ (n k : Nat) (acc r : List (List Int)), n + k = N → acc ++ (prs Q.d.fcs n k).map (adC Q.vs) = r → acc.length ≤ 24 * k →
    clC [3] [2] (blk 0 (lp (evC (ev (d + 3)) b69_1) (clean [1, 3, 11, 12, 13]) ⟨lookS [(1, .bp (.sl 1) 0), (3, .rf (.sl 3) none 0 acc.length), (11, .rf (.sl 11) none 0 N), (12, I N), (13, I k)], lookM [((.sl 1), some (.box (qV Q))), ((.sl 3), some (.arr 24 1 (acc.map jI))), ((.sl 11), some (.arr 24 1 (L.map oR)))]⟩)) =
      some (.nm, ⟨lookS [(3, .rf (.sl 3) none 0 r.length)], lookM [((.sl 3), some (.arr 24 1 (r.map jI)))]⟩) := by
  intro n
  induction n with
  | zero =>
    intro k acc r hi hr ha
    have h0 : ¬ (k : Int) < (N : Int) := by omega
    have e : acc = r := by simpa [prs] using hr
    subst e
    rw [lp_step]
    simp [h0]
  | succ n ih =>
    intro k acc r hi hr ha
    have hlt : k < N := by omega
    have h0 : (k : Int) < (N : Int) := by omega
    have hw := wrap_nat (i := k) (by omega)
    have hLk := hL k hlt
    have nl := near_len Q.d.fcs k
    have pl := prK_len k (near Q.d.fcs k)
    have nm := fun x => near_mem (F := Q.d.fcs) (k := k) (x := x)
    simp only [prs, List.map_append] at hr
    have ih' := ih (k + 1) (acc ++ (prK k (near Q.d.fcs k)).map (adC Q.vs)) r (by omega) (by rw [List.append_assoc]; exact hr) (by rw [List.length_append, List.length_map]; omega)
    simp only [Int.natCast_add, Int.cast_ofNat_Int] at ih'
    rw [lp_step]
    by_cases hq0 : near Q.d.fcs k = []
    · rw [hq0] at hLk
      have e2 : acc ++ (prK k (near Q.d.fcs k)).map (adC Q.vs) = acc := by rw [hq0]; simp [prK]
      rw [e2] at ih'
      have inn := l69_2n d Q N L k acc
      have hor : oR [] = [Cell.nl] := rfl
      simp [h0, hLk, hor, inn, hw, ih']
    · have inn := l69_2 d Q hv N L k (by omega) (near Q.d.fcs k) hLk hq0 (by omega) (fun x hx => by rw [hl]; exact nm x hx) (near Q.d.fcs k).length 0 acc _ (by omega) rfl (by omega)
      rw [List.drop_zero] at inn
      generalize acc ++ (prK k (near Q.d.fcs k)).map (adC Q.vs) = acc' at inn ih'
      generalize near Q.d.fcs k = q at inn hLk hq0
      have hor := oR_ne hq0
      simp at inn
      simp [h0, hLk, hor, inn, hw, ih']
theorem nears_get (F : List Fc) : ∀ n k j, j < n → (nears F n k)[j]? = some (near F (k + j)) := by
  intro n
  induction n with
  | zero => intro k j h; omega
  | succ n ih =>
    intro k j h
    cases j with
    | zero => rfl
    | succ j =>
      simp only [nears, List.getElem?_cons_succ]
      rw [ih (k + 1) j (by omega)]
      congr 2
      omega
theorem r69 (d : Nat) (Q : Pi) (hb : BdN Q.d) (ho : okPi Q = true) : ev (d + 7) 69 [.ag (qV Q)] = some (.ow 24 1 ((ctrs Q).map jI), []) := by
  rw [s69 (d + 6) _ rfl]
  obtain ⟨_, hl, hv, h24⟩ := okPi_fs ho
  have c := r132 d Q.d hb
  have nl := nears_len Q.d.fcs Q.d.fcs.length 0
  have ng := nears_get Q.d.fcs Q.d.fcs.length 0
  have key := l69 (d + 3) Q hv hl Q.d.fcs.length rfl h24 (nears Q.d.fcs Q.d.fcs.length 0) nl (fun k hk => by have := ng k hk; rwa [Nat.zero_add] at this) Q.d.fcs.length 0 [] (ctrs Q) (by omega) (by simp [ctrs]) (by simp)
  generalize nears Q.d.fcs Q.d.fcs.length 0 = L at c key nl
  simp at key c
  simp [c, key, nl, fillU, adsOf]
end Go.Proofs.Ytmhddfikpfkeoaa.walkS
