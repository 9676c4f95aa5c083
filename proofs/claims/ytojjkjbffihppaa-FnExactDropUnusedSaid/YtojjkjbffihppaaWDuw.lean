/- DropUnused, given and restated; no conditions. -/
import Derived.Test.YtojjkjbffihppaaWDux
namespace Go.Proofs.Ytojjkjbffihppaa.walkS
open Go Go.Proofs.Ytojjkjbffihppaa.Ev
set_option linter.unusedSimpArgs false
set_option linter.unusedVariables false
theorem whN_in {p : Nat → Bool} {j : Nat} (hp : p j = true) : ∀ m i, i ≤ j → j < i + m → (j : Int) ∈ whN p m i := by
  intro m
  induction m with
  | zero => intro i h1 h2; omega
  | succ m ih =>
    intro i h1 h2
    simp only [whN]
    by_cases h : i = j
    · subst h; rw [hp]; simp
    · have := ih (i + 1) (by omega) (by omega)
      cases p i <;> simp [this]
theorem whN_p {p : Nat → Bool} {j : Nat} : ∀ m i, (j : Int) ∈ whN p m i → p j = true := by
  intro m
  induction m with
  | zero => intro i h; cases h
  | succ m ih =>
    intro i h
    simp only [whN] at h
    cases hp : p i <;> rw [hp] at h
    · exact ih _ h
    · simp only [ifb_t, List.mem_cons] at h
      rcases h with h | h
      · have e : j = i := by omega
        rw [e]; exact hp
      · exact ih _ h
theorem ixR_not {R : List Int} {p : Int} (h : p ∉ R) : ∀ m k, k + m ≤ R.length → ixR R p m k = -1 := by
  intro m
  induction m with
  | zero => intro k _; rfl
  | succ m ih =>
    intro k hk
    simp only [ixR]
    obtain ⟨x, hx⟩ := get_lt (l := R) (i := k) (by omega)
    have e : rn R k = x := rn_get (Nat.mod_eq_of_lt (by omega)).symm hx
    have hne : ¬ x = p := fun e => h (e ▸ List.mem_of_getElem? hx)
    rw [e, decide_eq_false hne]
    exact ih (k + 1) (by omega)
theorem hasR_not {R : List Int} {p : Int} (h : p ∉ R) : hasR R p = false := hasR_neg (by rw [ixR_not h _ _ (by omega)]; decide)
def unL (D : Dr) : List Int := whN (fun p => !used D p (-1)) D.pts.length 0
theorem unL_has (D : Dr) (j : Nat) (hj : j < D.pts.length) : hasR (unL D) (j : Int) = !us D j := by
  cases h : us D j
  · exact hasR_mem (whN_in (p := fun p => !used D p (-1)) (by unfold us at h; show (!used D (j : Int) (-1)) = true; rw [h]; rfl) _ _ (by omega) (by omega))
  · refine hasR_not fun hm => ?_
    have := whN_p _ _ hm
    unfold us at h
    simp [h] at this
def stF (D : Dr) : Nat → Nat → List Int
  | 0, _ => []
  | n + 1, i => ifb (us D i) ((i : Int) :: stF D n (i + 1)) (-1 :: stF D n (i + 1))
theorem stF_len (D : Dr) : ∀ n i, (stF D n i).length = n := by
  intro n
  induction n with
  | zero => intro i; rfl
  | succ n ih => intro i; cases h : us D i <;> simp [stF, h, ih]
theorem stF_get (D : Dr) : ∀ n i j, j < n → (stF D n i)[j]? = some (ifb (us D (i + j)) ((i + j : Nat) : Int) (-1)) := by
  intro n
  induction n with
  | zero => intro i j h; omega
  | succ n ih =>
    intro i j h
    cases j with
    | zero => cases h : us D i <;> simp [stF, h]
    | succ j =>
      have e : i + (j + 1) = i + 1 + j := by omega
      rw [e, ← ih (i + 1) j (by omega)]
      cases h : us D i <;> simp [stF, h]
theorem stF_at {D : Dr} {n i : Nat} {acc r : List Int} (h : acc ++ stF D (n + 1) i = r) : acc ++ [ifb (us D i) (i : Int) (-1)] ++ stF D n (i + 1) = r := by
  rw [← h, List.append_assoc]
  cases h : us D i <;> simp [stF, h]
theorem us_nil {D : Dr} (hF : D.fcs = []) (i : Nat) : us D i = false := by unfold us used; rw [hF]; rfl
theorem kpF_nil {D : Dr} (hF : D.fcs = []) : ∀ n i, kpF D n i = [] := by
  intro n
  induction n with
  | zero => intro i; rfl
  | succ n ih => intro i; simp [kpF, us_nil hF, ih]
theorem keep_nil {D : Dr} (hF : D.fcs = []) : keepD D = ⟨D.w, D.h, [], []⟩ := by unfold keepD kpD; rw [kpF_nil hF, hF]; rfl
theorem keep_ne {D : Dr} (h : drOk D = true) (hb : D.pts.length ≤ big) (hF : D.fcs ≠ []) : kpD D ≠ [] := by
  obtain ⟨f, F, hD⟩ : ∃ f F, D.fcs = f :: F := by
    cases h : D.fcs with
    | nil => exact absurd h hF
    | cons f F => exact ⟨f, F, rfl⟩
  have hr := drOk_ring h
  have hf : f ∈ D.fcs := by rw [hD]; simp
  obtain ⟨x, hx⟩ := get_lt (l := f.2) (i := 0) (by have := (hr f hf).pos; omega)
  obtain ⟨_, b, c⟩ := us_mem hb hr hf (List.mem_of_getElem? hx)
  obtain ⟨m, _, h2⟩ := pq_ok b c
  intro e
  rw [e] at h2
  cases h2
theorem plQ_get {D : Dr} (h : drOk D = true) (hb : D.pts.length ≤ big) : ∀ f ∈ D.fcs, ∀ x ∈ f.2, 0 ≤ x ∧ x.toNat < D.pts.length ∧ (plF D D.pts.length 0 0)[x.toNat]? = some (pq D x) := by
  intro f hf x hx
  obtain ⟨a, b, _⟩ := us_mem hb (drOk_ring h) hf hx
  obtain ⟨y, hy⟩ := get_lt (l := plF D D.pts.length 0 0) (i := x.toNat) (by rw [plF_len]; exact b)
  exact ⟨a, b, by unfold pq; rw [hy]; rfl⟩
theorem keep_one {D : Dr} (h : drOk D = true) (hb : D.pts.length ≤ big) : ∀ f ∈ D.fcs, ∀ (i k : Nat) (x : Int), i < k → (f.2.map (pq D))[i]? = some x → (f.2.map (pq D))[k]? = some x → False := by
  intro f hf
  have := drOk_ring (drOk_keep hb h) (f.1, f.2.map (pq D)) (List.mem_map.2 ⟨f, hf, rfl⟩)
  exact this.one
def pO : List Pt → LV
  | [] => .nl
  | p :: P => .ow 127 2 ((p :: P).map pC)
theorem pO_ne {P : List Pt} (h : P ≠ []) : pO P = .ow 127 2 (P.map pC) := by
  cases P with
  | nil => exact absurd rfl h
  | cons p P => rfl
def oU : Option Dr → LV
  | none => .ag z4
  | some D => .ag (dA D (pO D.pts) (fO D.fcs))
def duOf (D : Dr) : Option Dr × Int := ifb (drOk D) (some (keepD D), 0) (none, 1)
theorem keep_b {D : Dr} (hb : BdN D) : BdN (keepD D) := by
  have hp := hb.pts
  refine ⟨⟨Nat.le_trans (kpF_len D _ _) hp, by unfold keepD; rw [List.length_map]; exact hb.fcs, fun f hf => ?_⟩, fun f hf => ?_⟩ <;> (obtain ⟨g, hg, rfl⟩ := List.mem_map.1 hf)
  · rw [List.length_map]; exact hb.ring g hg
  · exact hb.name g hg
set_option maxHeartbeats 1000000 in
theorem r60 (d : Nat) (D : Dr) (hb : BdN D) : ev (d + 8) 60 [.ag (dV D)] = some (.tu [oU (duOf D).1, I (duOf D).2], []) := by
  rw [s60 (d + 7) _ rfl]
  have c1 := r104 (d + 1) D hb
  have hpb := hb.pts
  have hfb := hb.fcs
  unfold duOf
  cases h0 : drOk D
  · rw [h0] at c1
    simp [c1, oU]
  rw [h0] at c1
  have c2 := r118 (d + 1) D hb
  have hU := unL_has D
  have hUb : (unL D).length ≤ big := Nat.le_trans (whN_len _ _ _) hpb
  change ev _ _ _ = some (.ow _ 1 ((unL D).map iC), []) at c2
  generalize unL D = U at c2 hU hUb
  simp only [ifb_t]
  have hval := h0
  simp only [drOk, Bool.and_eq_true] at hval
  by_cases hF : D.fcs = []
  · have key := l60N (d + 5) D hb U hUb hU D.pts.length 0 [] _ (by omega) rfl rfl (kpF_nil hF _ _)
    have c3 := m134w d D.w D.h hval.1 hval.2.1
    rw [keep_nil hF]
    try simp at key
    simp [c1, c2, key, hpb, oU, pO, fO]
    rw [lp_step]
    simp [hF, c3]
  · have hne := keep_ne h0 hpb hF
    have hqa := plQ_get h0 hpb
    have hQl := plF_len D D.pts.length 0 0
    have key := l60C (d + 5) D hb U hUb hU D.pts.length 0 (kpD D) [] _ (plF D D.pts.length 0 0) (by omega) rfl rfl rfl rfl hne
    have bK := keep_b hb
    have hK := drOk_keep hpb h0
    obtain ⟨FF, hFF⟩ : ∃ FF, FF = D.fcs.map (kf D) := ⟨_, rfl⟩
    have eK : keepD D = ⟨D.w, D.h, kpD D, FF⟩ := by rw [hFF]; rfl
    have hFn : FF ≠ [] := by rw [hFF]; simpa using hF
    rw [eK] at bK hK ⊢
    generalize plF D D.pts.length 0 0 = Q at key hqa hQl
    generalize kpD D = PP at key bK hK hne
    obtain ⟨f, F, hD⟩ : ∃ f F, D.fcs = f :: F := by
      cases h : D.fcs with
      | nil => exact absurd h hF
      | cons f F => exact ⟨f, F, rfl⟩
    have hf : D.fcs[0]? = some f := by rw [hD]; rfl
    have hm := List.mem_of_getElem? hf
    have hrb := hb.ring f hm
    obtain ⟨R, hR⟩ : ∃ R, R = f.2.map (pq D) := ⟨_, rfl⟩
    have hrl : R.length ≤ big := by rw [hR, List.length_map]; exact hrb
    have key0 := l60R0 (d + 6) D hb Q hQl PP 0 f hf [] (hqa f hm) f.2.length 0 [] R (by omega) (by rw [hR]; rfl) rfl
    have keyF := l60F (d + 6) D hb Q hQl PP hqa F.length 1 [(f.1, R)] FF (by rw [hD]; simp) (by rw [hFF, hD, hR]; rfl) rfl (by simp)
    have c3 := m134' d ⟨D.w, D.h, PP, FF⟩ bK hFn
    unfold ckd at c3
    rw [hK] at c3
    have hb1 : 1 ≤ big := by simp [big]
    have w1 : IntKind.i64.wrap 1 = 1 := by decide
    have hpos : 0 < D.fcs.length := List.length_pos_iff.2 hF
    have hpos2 : (0 : Int) < (D.fcs.length : Int) := by omega
    have hx0 : D.fcs[0] = f := (List.getElem?_eq_some_iff.1 hf).2
    have fe := fO_ne hFn
    have pe := pO_ne hne
    simp [fe] at c3
    simp at key key0 keyF
    simp [c1, c2, key, hpb, w1, oU, fe, pe]
    rw [lp_step]
    simp [hpos, hpos2, hx0, key0, hb1, hrl, w1, fillU, adsOf, List.mapM_cons, keyF, c3]
set_option maxHeartbeats 1000000 in
theorem r137 (d : Nat) (D : Dr) (rest : List LV) (hb : BdN D) (h0 : drOk D = true) : ev (d + 3) 137 [.rp (dR D rest), .ro 1 ((stF D D.pts.length 0).map iC)] = some (.ag (dA (keepD D) (pO (keepD D).pts) (fO (keepD D).fcs)), []) := by
  rw [s137 (d + 2) _ rfl]
  have hpb := hb.pts
  have hfb := hb.fcs
  have hSl := stF_len D D.pts.length 0
  have hS : ∀ j : Nat, j < D.pts.length → (stF D D.pts.length 0)[j]? = some (ifb (us D j) (j : Int) (-1)) := fun j hj => by
    rw [stF_get D _ _ _ hj, Nat.zero_add]
  have hSa : ∀ f ∈ D.fcs, ∀ x ∈ f.2, (stF D D.pts.length 0)[x.toNat]? = some x := fun f hf x hx => by
    obtain ⟨a, b, c⟩ := us_mem hpb (drOk_ring h0) hf hx
    rw [hS x.toNat b, c]
    simp only [ifb_t]
    congr 1
    omega
  generalize stF D D.pts.length 0 = S at hSl hS hSa
  by_cases hF : D.fcs = []
  · have key := l137N d D rest hb S hSl hS D.pts.length 0 [] _ (by omega) rfl rfl (kpF_nil hF _ _)
    rw [keep_nil hF]
    try simp at key
    simp [key, hpb, pO, fO]
    rw [lp_step]
    simp [hF]
  · have hne := keep_ne h0 hpb hF
    have hqa := plQ_get h0 hpb
    have hQl := plF_len D D.pts.length 0 0
    have key := l137C d D rest hb S hSl hS D.pts.length 0 (kpD D) [] _ (plF D D.pts.length 0 0) (by omega) rfl rfl rfl rfl hne
    have hone := keep_one h0 hpb
    obtain ⟨FF, hFF⟩ : ∃ FF, FF = D.fcs.map (kf D) := ⟨_, rfl⟩
    have eK : keepD D = ⟨D.w, D.h, kpD D, FF⟩ := by rw [hFF]; rfl
    have hFn : FF ≠ [] := by rw [hFF]; simpa using hF
    rw [eK]
    generalize plF D D.pts.length 0 0 = Q at key hqa hQl
    generalize kpD D = PP at key hne
    obtain ⟨f, F, hD⟩ : ∃ f F, D.fcs = f :: F := by
      cases h : D.fcs with
      | nil => exact absurd h hF
      | cons f F => exact ⟨f, F, rfl⟩
    have hf : D.fcs[0]? = some f := by rw [hD]; rfl
    have hm := List.mem_of_getElem? hf
    have hrb := hb.ring f hm
    obtain ⟨R, hR⟩ : ∃ R, R = f.2.map (pq D) := ⟨_, rfl⟩
    have hrl : R.length ≤ big := by rw [hR, List.length_map]; exact hrb
    have key0 := l137R0 (d + 1) D rest S hSl hb Q hQl PP 0 f hf [] (hSa f hm) (hqa f hm) f.2.length 0 [] R (by omega) (by rw [hR]; rfl) rfl
    have keyF := l137F (d + 1) D rest S hSl hb Q hQl PP hSa hone hqa F.length 1 [(f.1, R)] FF (by rw [hD]; simp) (by rw [hFF, hD, hR]; rfl) rfl (by simp)
    have c := r196 (d + 1) R hrl (by rw [hR]; exact hone f hm)
    have hb1 : 1 ≤ big := by simp [big]
    have w1 : IntKind.i64.wrap 1 = 1 := by decide
    have hpos : 0 < D.fcs.length := List.length_pos_iff.2 hF
    have hpos2 : (0 : Int) < (D.fcs.length : Int) := by omega
    have hx0 : D.fcs[0] = f := (List.getElem?_eq_some_iff.1 hf).2
    have fe := fO_ne hFn
    have pe := pO_ne hne
    simp at key key0 keyF
    simp [key, hpb, w1, fe, pe]
    rw [lp_step]
    simp [hpos, hpos2, hx0, key0, c, hb1, hrl, w1, fillU, adsOf, List.mapM_cons, keyF]
theorem l59 (d : Nat) (D : Dr) (hb : BdN D) : ∀ (n i : Nat) (acc r : List Int), n + i = D.pts.length → acc ++ stF D n i = r → acc.length ≤ i →
    clC [1, 2, 4] [2, 3] (blk 0 (lp (evC (ev (d + 2)) b59_1) (clean [1, 2, 4, 5]) ⟨lookS [(1, .bp (.sl 1) 0), (2, .bp (.sl 2) 0), (4, .rf (.sl 4) none 0 acc.length), (5, I i)], lookM [((.sl 1), some (.box (dV D))), ((.sl 2), some (.box z4)), ((.sl 4), some (.arr 2 1 (acc.map iC)))]⟩)) =
      some (.nm, ⟨lookS [(1, .bp (.sl 1) 0), (2, .bp (.sl 2) 0), (4, .rf (.sl 4) none 0 r.length)], lookM [((.sl 1), some (.box (dV D))), ((.sl 2), some (.box z4)), ((.sl 4), some (.arr 2 1 (r.map iC)))]⟩) := by
  intro n
  induction n with
  | zero =>
    intro i acc r hi hr ha
    have h0 : ¬ (i : Int) < (D.pts.length : Int) := by omega
    simp only [stF, List.append_nil] at hr
    subst hr
    rw [lp_step]
    simp [h0]
  | succ n ih =>
    intro i acc r hi hr ha
    have h0 : (i : Int) < (D.pts.length : Int) := by omega
    have hpb := hb.pts
    have hw := wrap_nat (i := i) (by simp only [big] at hpb; omega)
    have hb2 : acc.length + 1 ≤ big := by omega
    have c := r115 d D [] hb (i : Int) (-1)
    have hr' := stF_at hr
    change ev _ _ _ = some (B (us D i), []) at c
    rw [lp_step]
    cases hs : us D i
    · rw [hs] at c hr'
      have ih' := ih (i + 1) (acc ++ [-1]) r (by omega) hr' (by simp; omega)
      simp only [Int.natCast_add, Int.cast_ofNat_Int] at ih'
      simp at ih'
      simp [h0, c, hw, hb2, ih']
    · rw [hs] at c hr'
      have ih' := ih (i + 1) (acc ++ [(i : Int)]) r (by omega) hr' (by simp; omega)
      simp only [Int.natCast_add, Int.cast_ofNat_Int] at ih'
      simp at ih'
      simp [h0, c, hw, hb2, ih']
set_option maxHeartbeats 1000000 in
theorem r59 (d : Nat) (D : Dr) (hb : BdN D) : ev (d + 8) 59 [.ag (dV D)] = some (.tu [oU (duOf D).1, I (duOf D).2], []) := by
  rw [s59 (d + 7) _ rfl]
  have c1 := r96 (d + 1) D [] hb
  unfold duOf
  cases h0 : drOk D
  · rw [h0] at c1
    simp [c1, oU]
  rw [h0] at c1
  have c2 := r137 (d + 4) D [] hb h0
  have key := l59 (d + 5) D hb D.pts.length 0 [] (stF D D.pts.length 0) (by omega) rfl (by simp)
  generalize stF D D.pts.length 0 = S at c2 key
  generalize keepD D = K at c2 ⊢
  simp only [ifb_t, oU]
  try simp at key
  cases hp : K.pts <;> cases hf : K.fcs <;> rw [hp, hf] at c2 <;> simp only [pO, fO] at c2 ⊢ <;> simp at c2 ⊢ <;> simp [c1, key, c2]
end Go.Proofs.Ytojjkjbffihppaa.walkS
