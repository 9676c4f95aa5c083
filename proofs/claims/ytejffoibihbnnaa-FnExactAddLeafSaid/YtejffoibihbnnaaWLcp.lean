/- Lists of leaves: copies, and the place of a name; no conditions. -/
import Derived.Test.YtejffoibihbnnaaWLeaves
namespace Go.Proofs.Ytejffoibihbnnaa.walkS
open Go Go.Proofs.Ytejffoibihbnnaa.Ev
set_option linter.unusedSimpArgs false
set_option linter.unusedVariables false
/-! ### texts in order -/
theorem cb_lt : ∀ a b : List UInt8, Lib.compareBytes a b < 0 ↔ Op.bytesLess a b = true := by
  intro a
  induction a with
  | nil => intro b; cases b <;> simp [Lib.compareBytes, Op.bytesLess]
  | cons x a ih =>
    intro b
    cases b with
    | nil => simp [Lib.compareBytes, Op.bytesLess]
    | cons y b =>
      simp only [Lib.compareBytes, Op.bytesLess]
      by_cases h1 : x < y
      · simp [h1]
      · by_cases h2 : y < x
        · have : ¬ x = y := fun e => by subst e; exact h1 h2
          simp [h1, h2, this]
        · have : x = y := by
            have a1 : ¬ x.toNat < y.toNat := fun q => h1 (UInt8.lt_iff_toNat_lt.2 q)
            have a2 : ¬ y.toNat < x.toNat := fun q => h2 (UInt8.lt_iff_toNat_lt.2 q)
            exact UInt8.toNat_inj.1 (by omega)
          subst this
          simp [h1, ih]
theorem cb_eq : ∀ a b : List UInt8, Lib.compareBytes a b = 0 ↔ a = b := by
  intro a
  induction a with
  | nil => intro b; cases b <;> simp [Lib.compareBytes]
  | cons x a ih =>
    intro b
    cases b with
    | nil => simp [Lib.compareBytes]
    | cons y b =>
      simp only [Lib.compareBytes]
      by_cases h1 : x < y
      · have : ¬ x = y := fun e => by subst e; exact absurd (UInt8.lt_iff_toNat_lt.1 h1) (by omega)
        simp [h1, this]
      · by_cases h2 : y < x
        · have : ¬ x = y := fun e => by subst e; exact h1 h2
          simp [h1, h2, this]
        · have : x = y := by
            have a1 : ¬ x.toNat < y.toNat := fun q => h1 (UInt8.lt_iff_toNat_lt.2 q)
            have a2 : ¬ y.toNat < x.toNat := fun q => h2 (UInt8.lt_iff_toNat_lt.2 q)
            exact UInt8.toNat_inj.1 (by omega)
          subst this
          simp [h1, ih]
theorem bl_trans : ∀ a b c : List UInt8, Op.bytesLess a b = true → Op.bytesLess b c = true → Op.bytesLess a c = true := by
  intro a
  induction a with
  | nil =>
    intro b c h1 h2
    cases c with
    | nil => cases b <;> simp [Op.bytesLess] at h2
    | cons z c => rfl
  | cons x a ih =>
    intro b c h1 h2
    cases b with
    | nil => simp [Op.bytesLess] at h1
    | cons y b =>
      cases c with
      | nil => simp [Op.bytesLess] at h2
      | cons z c =>
        simp only [Op.bytesLess, Bool.or_eq_true, decide_eq_true_eq, Bool.and_eq_true, beq_iff_eq, UInt8.lt_iff_toNat_lt] at h1 h2 ⊢
        rcases h1 with h1 | ⟨rfl, h1⟩
        · rcases h2 with h2 | ⟨rfl, h2⟩
          · exact .inl (by omega)
          · exact .inl h1
        · rcases h2 with h2 | ⟨rfl, h2⟩
          · exact .inl h2
          · exact .inr ⟨rfl, ih b c h1 h2⟩
theorem bl_irr : ∀ a : List UInt8, Op.bytesLess a a = false := by
  intro a
  induction a with
  | nil => rfl
  | cons x a ih => simp [Op.bytesLess, ih]
def cmpB (a b : ByteArray) : Int := Lib.compareBytes a.data.toList b.data.toList
theorem cmpB_lt {a b : ByteArray} : cmpB a b < 0 ↔ less a b = true := by
  unfold cmpB less
  rw [cb_lt, ByteArray.toList_eq, ByteArray.toList_eq]
theorem ba_ext {a b : ByteArray} (h : a.data.toList = b.data.toList) : a = b := by
  obtain ⟨⟨x⟩⟩ := a
  obtain ⟨⟨y⟩⟩ := b
  simp at h
  rw [h]
theorem cmpB_eq {a b : ByteArray} : cmpB a b = 0 ↔ a = b := by
  unfold cmpB
  rw [cb_eq]
  exact ⟨ba_ext, fun h => by rw [h]⟩
theorem less_trans {a b c : ByteArray} (h1 : less a b = true) (h2 : less b c = true) : less a c = true := bl_trans _ _ _ h1 h2
theorem less_irr (a : ByteArray) : less a a = false := bl_irr _
/-- strictly in order -/
def Srt (l : List Lf) : Prop := ∀ (i j : Nat) (L Q : Lf), i < j → l[i]? = some L → l[j]? = some Q → less L.id Q.id = true
theorem okFrom_at {l : List Lf} : ∀ (n i : Nat), n + i = l.length → okFrom l n i = true → ∀ j, i ≤ j → j < l.length → okAt l j = true := by
  intro n
  induction n with
  | zero => intro i hi _ j h1 h2; omega
  | succ n ih =>
    intro i hi h j h1 h2
    simp only [okFrom, Bool.and_eq_true] at h
    by_cases e : j = i
    · subst e; exact h.1
    · exact ih (i + 1) (by omega) h.2 j (by omega) h2
theorem okLs_srt {l : List Lf} (h : okFrom l l.length 0 = true) : Srt l := by
  have step : ∀ (j : Nat) (L Q : Lf), l[j]? = some L → l[j + 1]? = some Q → less L.id Q.id = true := by
    intro j L Q h1 h2
    have := okFrom_at l.length 0 (by omega) h (j + 1) (by omega) (List.getElem?_eq_some_iff.1 h2).1
    simp only [okAt, h2, h1, Bool.and_eq_true] at this
    exact this.2
  intro i j
  induction j with
  | zero => intro L Q h; omega
  | succ j ih =>
    intro L Q hij h1 h2
    by_cases e : i = j
    · subst e; exact step i L Q h1 h2
    · obtain ⟨M, hM⟩ := get_lt (l := l) (i := j) (by have := (List.getElem?_eq_some_iff.1 h2).1; omega)
      exact less_trans (ih L M (by omega) h1 hM) (step j M Q hM h2)
/-! ### copies -/
theorem r111 (d : Nat) (L : Lf) (hb : L.df.length ≤ big) : ev (d + 1) 111 [.rp (lV L)] = some (.ag (lA L (.ow 29 4 (L.df.map bC))), []) := by
  rw [s111 d _ rfl]
  simp [hb]
theorem rcB197 (d : Nat) (l : List Bx) (hb : l.length ≤ big) : ev (d + 1) 197 [.ro 4 (l.map bC)] = some (.ow 29 4 (l.map bC), []) := by
  rw [s197 d _ rfl]
  simp [hb]
theorem rcL113 (d : Nat) (L : Lf) (hb : L.df.length ≤ big) : ev (d + 2) 113 [.ag (lV L)] = some (.ag (lA L (.ow 29 4 (L.df.map bC))), []) := by
  rw [s113 (d + 1) _ rfl]
  have c := rcB197 d L.df hb
  simp [c]
theorem l103 (d : Nat) (l : List Lf) (hb : l.length ≤ 2000000) (hw : ∀ L ∈ l, L.df.length ≤ big) : ∀ (n i : Nat) (acc r : List Lf), n + i = l.length → acc.length = i → acc ++ l.drop i = r →
    clC [3] [2] (blk 0 (lp (evC (ev (d + 1)) b103_1) (clean [0, 3, 4]) ⟨lookS [(0, .ro 9 (l.map lS)), (3, .rf (.sl 3) none 0 acc.length), (4, I i)], lookM [((.sl 3), some (.arr 35 9 (acc.map lC)))]⟩)) =
      some (.nm, ⟨lookS [(3, .rf (.sl 3) none 0 r.length)], lookM [((.sl 3), some (.arr 35 9 (r.map lC)))]⟩) := by
  intro n
  induction n with
  | zero =>
    intro i acc r hi ha hr
    have h0 : ¬ (i : Int) < (l.length : Int) := by omega
    rw [List.drop_eq_nil_of_le (by omega), List.append_nil] at hr
    subst hr
    rw [lp_step]
    simp [h0]
  | succ n ih =>
    intro i acc r hi ha hr
    have hlt : i < l.length := by omega
    have h0 : (i : Int) < (l.length : Int) := by omega
    obtain ⟨L, hL⟩ := get_lt hlt
    have hw1 := wrap_nat (i := i) (by omega)
    have hb2 : acc.length + 1 ≤ big := by simp only [big]; omega
    have c := r111 d L (hw L (List.mem_of_getElem? hL))
    rw [drop_get hL] at hr
    have ih' := ih (i + 1) (acc ++ [L]) r (by omega) (by simp; omega) (by rw [List.append_assoc]; exact hr)
    simp only [Int.natCast_add, Int.cast_ofNat_Int] at ih'
    simp at ih'
    rw [lp_step]
    simp [h0, hL, c, hw1, hb2, fillU, adsOf, List.mapM_cons, ih']
theorem r103 (d : Nat) (l : List Lf) (hb : l.length ≤ 2000000) (hw : ∀ L ∈ l, L.df.length ≤ big) : ev (d + 2) 103 [.ro 9 (l.map lS)] = some (.ow 35 9 (l.map lC), []) := by
  rw [s103 (d + 1) _ rfl]
  have key := l103 d l hb hw l.length 0 [] l (by omega) rfl (by simp)
  simp at key
  simp [key, fillU, adsOf]
theorem l107 (d : Nat) (l : List Lf) (hb : l.length ≤ 2000000) (hw : ∀ L ∈ l, L.df.length ≤ big) : ∀ (n i : Nat) (acc r : List Lf), n + i = l.length → acc.length = i → acc ++ l.drop i = r →
    clC [3] [2] (blk 0 (lp (evC (ev (d + 2)) b107_1) (clean [3, 7, 8, 9]) ⟨lookS [(3, .rf (.sl 3) none 0 acc.length), (7, .ro 9 (l.map lS)), (8, I l.length), (9, I i)], lookM [((.sl 3), some (.arr 35 9 (acc.map lC)))]⟩)) =
      some (.nm, ⟨lookS [(3, .rf (.sl 3) none 0 r.length)], lookM [((.sl 3), some (.arr 35 9 (r.map lC)))]⟩) := by
  intro n
  induction n with
  | zero =>
    intro i acc r hi ha hr
    have h0 : ¬ (i : Int) < (l.length : Int) := by omega
    rw [List.drop_eq_nil_of_le (by omega), List.append_nil] at hr
    subst hr
    rw [lp_step]
    simp [h0]
  | succ n ih =>
    intro i acc r hi ha hr
    have hlt : i < l.length := by omega
    have h0 : (i : Int) < (l.length : Int) := by omega
    obtain ⟨L, hL⟩ := get_lt hlt
    have hw1 := wrap_nat (i := i) (by omega)
    have hb2 : acc.length + 1 ≤ big := by simp only [big]; omega
    have c := rcL113 d L (hw L (List.mem_of_getElem? hL))
    rw [drop_get hL] at hr
    have ih' := ih (i + 1) (acc ++ [L]) r (by omega) (by simp; omega) (by rw [List.append_assoc]; exact hr)
    simp only [Int.natCast_add, Int.cast_ofNat_Int] at ih'
    simp at ih'
    rw [lp_step]
    simp [h0, hL, c, hw1, hb2, fillU, adsOf, List.mapM_cons, ih']
theorem r107 (d : Nat) (l : List Lf) (hb : l.length ≤ 2000000) (hw : ∀ L ∈ l, L.df.length ≤ big) : ev (d + 3) 107 [.ro 9 (l.map lS)] = some (.ow 35 9 (l.map lC), []) := by
  rw [s107 (d + 2) _ rfl]
  have key := l107 d l hb hw l.length 0 [] l (by omega) rfl (by simp)
  simp at key
  simp [key, fillU, adsOf]
/-! ### the place of a name -/
def fndI (s : ByteArray) : Nat → List Lf → Int
  | _, [] => -1
  | i, L :: l => ifb (decide (L.id = s)) (i : Int) (fndI s (i + 1) l)
theorem l102 (d : Nat) (l : List Lf) (hb : l.length ≤ 2000000) (s : ByteArray) : ∀ (n i : Nat) (v : Int), n + i = l.length → fndI s i (l.drop i) = v →
    clC [] [4] (blk 0 (lp (evC (ev d) b102_1) (clean [0, 1, 5]) ⟨lookS [(0, .ro 9 (l.map lS)), (1, T s), (5, I i)], lookM []⟩)) =
      ifb (decide (v < 0)) (some (.nm, ⟨lookS [], lookM []⟩)) (some (.rt, ⟨lookS [(4, I v)], lookM []⟩)) := by
  intro n
  induction n with
  | zero =>
    intro i v hi hv
    have h0 : ¬ (i : Int) < (l.length : Int) := by omega
    rw [List.drop_eq_nil_of_le (by omega)] at hv
    have e : (-1 : Int) = v := hv
    subst e
    rw [lp_step]
    simp [h0]
  | succ n ih =>
    intro i v hi hv
    have hlt : i < l.length := by omega
    have h0 : (i : Int) < (l.length : Int) := by omega
    obtain ⟨L, hL⟩ := get_lt hlt
    have hw := wrap_nat (i := i) (by omega)
    rw [drop_get hL] at hv
    simp only [fndI] at hv
    rw [lp_step]
    by_cases e : L.id = s
    · rw [decide_eq_true e] at hv
      have e2 : (i : Int) = v := hv
      subst e2
      have hi0 : ¬ (i : Int) < 0 := by omega
      simp [h0, hL, e, hi0]
    · rw [decide_eq_false e] at hv
      have ih' := ih (i + 1) v (by omega) hv
      simp only [Int.natCast_add, Int.cast_ofNat_Int] at ih'
      simp [h0, hL, hw, e, ih']
theorem r102 (d : Nat) (l : List Lf) (hb : l.length ≤ 2000000) (s : ByteArray) : ev (d + 1) 102 [.ro 9 (l.map lS), T s] = some (I (ifb (decide (fndI s 0 l < 0)) (-1) (fndI s 0 l)), []) := by
  rw [s102 d _ rfl]
  have key := l102 d l hb s l.length 0 _ (by omega) rfl
  rw [List.drop_zero] at key
  by_cases h : fndI s 0 l < 0
  · rw [decide_eq_true h] at key ⊢
    simp at key
    simp [key]
  · rw [decide_eq_false h] at key ⊢
    simp at key
    simp [key]
theorem p194 (d : Nat) (a b : ByteArray) : ev d 194 [T a, T b] = some (I (cmpB a b), []) := by
  rw [q194R]
  exact prim_compare a b
theorem rc193 (d : Nat) (L : Lf) (s : ByteArray) : ev (d + 1) 193 [.ag (lV L), T s] = some (I (cmpB L.id s), []) := by
  rw [s193 d _ rfl]
  have c := p194 d L.id s
  simp [c]
/-- ahead of place r lie the lesser names, from it on the others -/
def PlAt (l : List Lf) (s : ByteArray) (r : Nat) : Prop := r ≤ l.length ∧ (∀ (k : Nat) (L : Lf), k < r → l[k]? = some L → cmpB L.id s < 0) ∧ ∀ (k : Nat) (L : Lf), r ≤ k → l[k]? = some L → ¬ cmpB L.id s < 0
set_option maxHeartbeats 1000000 in
theorem l192 (l : List Lf) (hb : l.length ≤ 2000000) (hS : Srt l) (s : ByteArray) : ∀ (n i j : Nat), j - i ≤ n → i ≤ j → j ≤ l.length → (∀ (k : Nat) (L : Lf), k < i → l[k]? = some L → cmpB L.id s < 0) → (∀ (k : Nat) (L : Lf), j ≤ k → l[k]? = some L → ¬ cmpB L.id s < 0) →
    ∃ r, PlAt l s r ∧ ∀ d, clC [0, 1, 2, 8, 9] [6, 7] (blk 0 (lp (evC (ev (d + 1)) b192_1) (clean [0, 1, 2, 8, 9, 10]) ⟨lookS [(0, .ro 9 (l.map lS)), (1, T s), (2, .cl 193 []), (8, I l.length), (9, I i), (10, I j)], lookM []⟩)) =
      some (.nm, ⟨lookS [(0, .ro 9 (l.map lS)), (1, T s), (2, .cl 193 []), (8, I l.length), (9, I r)], lookM []⟩) := by
  intro n
  induction n with
  | zero =>
    intro i j hn hij hj h1 h2
    have e : j = i := by omega
    subst e
    refine ⟨j, ⟨hj, h1, h2⟩, fun d => ?_⟩
    rw [lp_step]
    simp
  | succ n ih =>
    intro i j hn hij hj h1 h2
    by_cases e : i = j
    · subst e
      refine ⟨i, ⟨hj, h1, h2⟩, fun d => ?_⟩
      rw [lp_step]
      simp
    have hlt : (i : Int) < (j : Int) := by omega
    obtain ⟨L, hL⟩ := get_lt (l := l) (i := (i + j) / 2) (by omega)
    have w1 : IntKind.i64.wrap ((i : Int) + (j : Int)) = (i : Int) + (j : Int) := IntWalk.i64_in _ (by omega)
    have w2 : IntKind.u64.wrap ((i : Int) + (j : Int)) = (i : Int) + (j : Int) := by
      unfold IntKind.wrap IntKind.signed IntKind.bits
      simp
      omega
    have f1 : ((i : Int) + (j : Int)).fdiv 2 = (((i + j) / 2 : Nat) : Int) := by
      rw [Int.fdiv_eq_ediv_of_nonneg _ (by omega)]; omega
    have w3 : IntKind.i64.wrap ((((i + j) / 2 : Nat)) : Int) = (((i + j) / 2 : Nat) : Int) := IntWalk.i64_in _ (by omega)
    have hm0 : (0 : Int) ≤ (((i + j) / 2 : Nat) : Int) := by omega
    have hm2 : (((i + j) / 2 : Nat) : Int) < (l.length : Int) := by omega
    have w4 := wrap_nat (i := (i + j) / 2) (by omega)
    have hmb : i ≤ (i + j) / 2 ∧ (i + j) / 2 < j := by omega
    generalize hm : (i + j) / 2 = m at hL f1 w3 hm0 hm2 w4 hmb
    by_cases hc : cmpB L.id s < 0
    · obtain ⟨r, hr, hd⟩ := ih (m + 1) j (by omega) (by omega) hj (fun k Q hk hQ => by
        by_cases e2 : k = m
        · subst e2; rw [hL] at hQ; cases hQ; exact hc
        · exact cmpB_lt.2 (less_trans (hS k m Q L (by omega) hQ hL) (cmpB_lt.1 hc))) h2
      refine ⟨r, hr, fun d => ?_⟩
      have hd' := hd d
      have c := rc193 d L s
      simp only [Int.natCast_add, Int.cast_ofNat_Int] at hd'
      rw [lp_step]
      simp [hlt, w1, w2, f1, w3, w4, hL, c, hc, hd']
    · obtain ⟨r, hr, hd⟩ := ih i m (by omega) (by omega) (by omega) h1 (fun k Q hk hQ => by
        by_cases e2 : k = m
        · subst e2; rw [hL] at hQ; cases hQ; exact hc
        · intro q
          exact hc (cmpB_lt.2 (less_trans (hS m k L Q (by omega) hL hQ) (cmpB_lt.1 q))))
      refine ⟨r, hr, fun d => ?_⟩
      have hd' := hd d
      have c := rc193 d L s
      rw [lp_step]
      simp [hlt, w1, w2, f1, w3, w4, hL, c, hc, hd']
def hasAt (l : List Lf) (s : ByteArray) (r : Nat) : Bool := match l[r]? with | some L => decide (L.id = s) | none => false
theorem r105 (l : List Lf) (hb : l.length ≤ 2000000) (hS : Srt l) (s : ByteArray) : ∃ r, PlAt l s r ∧ ∀ d, ev (d + 3) 105 [.ro 9 (l.map lS), T s] = some (.tu [I r, B (hasAt l s r)], []) := by
  obtain ⟨r, hr, hd⟩ := l192 l hb hS s l.length 0 l.length (by omega) (by omega) (Nat.le_refl _) (fun k L hk _ => by omega) (fun k L hk hL => by have := (List.getElem?_eq_some_iff.1 hL).1; omega)
  refine ⟨r, hr, fun d => ?_⟩
  have key := hd d
  have b : ev (d + 2) 192 [.ro 9 (l.map lS), T s, .cl 193 []] = some (.tu [I r, B (hasAt l s r)], []) := by
    rw [s192 (d + 1) _ rfl]
    simp at key
    by_cases hlt : r < l.length
    · obtain ⟨L, hL⟩ := get_lt hlt
      have h0 : (r : Int) < (l.length : Int) := by omega
      have c := rc193 d L s
      have e : hasAt l s r = decide (L.id = s) := by unfold hasAt; rw [hL]
      rw [e]
      by_cases q : L.id = s
      · have q2 : cmpB L.id s = 0 := cmpB_eq.2 q
        rw [q2] at c
        rw [decide_eq_true q]
        simp [key, h0, hL, c]
      · have q2 : ¬ cmpB L.id s = 0 := fun z => q (cmpB_eq.1 z)
        simp [key, h0, hL, c, q, q2]
    · have h0 : ¬ (r : Int) < (l.length : Int) := by omega
      have e : hasAt l s r = false := by unfold hasAt; rw [List.getElem?_eq_none (by omega)]
      rw [e]
      simp [key, h0]
  rw [s105 (d + 2) _ rfl]
  simp [b]
theorem fndI_none {s : ByteArray} : ∀ {l : List Lf} {i : Nat}, (∀ L ∈ l, L.id ≠ s) → fndI s i l = -1 := by
  intro l
  induction l with
  | nil => intro i _; rfl
  | cons L l ih =>
    intro i h
    simp only [fndI]
    rw [decide_eq_false (h L (by simp))]
    simp only [ifb_f]
    exact ih fun Q hQ => h Q (by simp [hQ])
theorem fndI_at {s : ByteArray} : ∀ {l : List Lf} {i r : Nat} {L : Lf}, l[r]? = some L → L.id = s → (∀ (k : Nat) (Q : Lf), k < r → l[k]? = some Q → Q.id ≠ s) → fndI s i l = (i : Int) + r := by
  intro l
  induction l with
  | nil => intro i r L h; simp at h
  | cons P l ih =>
    intro i r L h1 h2 h3
    simp only [fndI]
    cases r with
    | zero =>
      cases h1
      rw [decide_eq_true h2]
      simp
    | succ r =>
      rw [decide_eq_false (h3 0 P (by omega) rfl)]
      simp only [ifb_f]
      have := ih (i := i + 1) (by simpa using h1) h2 (fun k Q hk hQ => h3 (k + 1) Q (by omega) (by simpa using hQ))
      rw [this]; omega
/-- both searches find the same -/
theorem fnd_place {l : List Lf} (hS : Srt l) {s : ByteArray} {r : Nat} (h : PlAt l s r) : fndI s 0 l = ifb (hasAt l s r) (r : Int) (-1) := by
  obtain ⟨h1, h2, h3⟩ := h
  unfold hasAt
  cases hL : l[r]? with
  | none =>
    simp only [ifb_f]
    refine fndI_none fun Q hQ e => ?_
    obtain ⟨k, hk⟩ := List.getElem?_of_mem hQ
    have hkr : k < r := by have := (List.getElem?_eq_some_iff.1 hk).1; have := List.getElem?_eq_none_iff.1 hL; omega
    have := h2 k Q hkr hk
    rw [cmpB_eq.2 e] at this
    omega
  | some L =>
    by_cases e : L.id = s
    · simp only [decide_eq_true e, ifb_t]
      rw [fndI_at hL e fun k Q hk hQ q => by
        have := h2 k Q hk hQ
        rw [cmpB_eq.2 q] at this
        omega]
      omega
    · simp only [decide_eq_false e, ifb_f]
      refine fndI_none fun Q hQ q => ?_
      obtain ⟨k, hk⟩ := List.getElem?_of_mem hQ
      by_cases hkr : k < r
      · have := h2 k Q hkr hk
        rw [cmpB_eq.2 q] at this
        omega
      · by_cases e2 : k = r
        · subst e2; rw [hL] at hk; cases hk; exact e q
        · have := hS r k L Q (by omega) hL hk
          rw [q] at this
          exact h3 r L (Nat.le_refl _) hL (cmpB_lt.2 this)
end Go.Proofs.Ytejffoibihbnnaa.walkS
