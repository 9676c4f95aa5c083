/- The row MergePoints; no conditions. -/
import Derived.Test.YtejffoibihbnnaaWMga
namespace Go.Proofs.Ytejffoibihbnnaa.walkS
open Go Go.Proofs.Ytejffoibihbnnaa.Ev
set_option linter.unusedSimpArgs false
set_option linter.unusedVariables false
noncomputable def gM (D : Dr) (u : Int) (x : Int) : Int := (mgP u D.pts []).getD x.toNat 0
noncomputable def mgD (D : Dr) (u : Int) : Dr := ⟨D.w, D.h, mgK u D.pts [], D.fcs.map (kgm (gM D u))⟩
noncomputable def mgOf (D : Dr) (u : Int) : Option Dr × Int := ifb (decide (tolc D u = 0)) (ifb (drOk (mgD D u)) (some (mgD D u), 0) (none, 6)) (none, tolc D u)
def oM : Option Dr → LV
  | none => .ag z4
  | some D => .ag (dA D (pOm D.pts) (fO D.fcs))
theorem tolc_ok {D : Dr} {u : Int} (h : tolc D u = 0) : drOk D = true := by
  unfold tolc at h
  cases ho : drOk D
  · rw [ho] at h; simp at h
  · rfl
theorem dr_okP {D : Dr} (h : drOk D = true) : ∀ p ∈ D.pts, okP p = true := by
  intro p hp
  obtain ⟨i, hi⟩ := List.getElem?_of_mem hp
  simp only [drOk, Bool.and_eq_true] at h
  have h3 := ((pOk_iff D.w D.h D.pts D.pts.length 0).1 h.2.2.2.1 i (by omega) (by have := (List.getElem?_eq_some_iff.1 hi).1; omega)).1
  rw [pn_get hi] at h3
  have hw := h.1
  have hh := h.2.1
  unfold okP
  unfold inR at *
  simp only [Bool.and_eq_true, decide_eq_true_eq] at *
  omega
theorem mgK_le (u : Int) : ∀ (ps K : List Pt), (mgK u ps K).length ≤ K.length + ps.length ∧ K.length ≤ (mgK u ps K).length := by
  intro ps
  induction ps with
  | nil => intro K; simp [mgK]
  | cons p ps ih =>
    intro K
    have h := ih (addK u p K)
    have h2 : K.length ≤ (addK u p K).length ∧ (addK u p K).length ≤ K.length + 1 := by
      unfold addK
      cases decide (fsI u p K 0 < K.length) <;> simp
    simp only [mgK, List.length_cons]
    omega
theorem mgK_ne {u : Int} {P : List Pt} (h : P ≠ []) : mgK u P [] ≠ [] := by
  cases P with
  | nil => exact absurd rfl h
  | cons p ps =>
    intro e
    have h1 := (mgK_le u ps (addK u p [])).2
    have h2 : addK u p [] = [p] := rfl
    rw [h2] at h1
    have h3 : mgK u ps [p] = [] := e
    rw [h3] at h1
    simp at h1
theorem mgD_b {D : Dr} (hb : BdN D) (u : Int) : BdN (mgD D u) := by
  have hp := hb.pts
  refine ⟨⟨?_, by unfold mgD; rw [List.length_map]; exact hb.fcs, fun f hf => ?_⟩, fun f hf => ?_⟩
  · have := (mgK_le u D.pts []).1
    simp at this
    exact Nat.le_trans this hp
  · obtain ⟨g, hg, rfl⟩ := List.mem_map.1 hf
    have := onceL_len (g.2.map (gM D u))
    rw [List.length_map] at this
    exact Nat.le_trans this (hb.ring g hg)
  · obtain ⟨g, hg, rfl⟩ := List.mem_map.1 hf
    exact hb.name g hg
theorem dr_nil {D : Dr} (h : drOk D = true) (hP : D.pts = []) : D.fcs = [] := by
  cases hF : D.fcs with
  | nil => rfl
  | cons f F =>
    exfalso
    have hr := drOk_ring h f (by rw [hF]; simp)
    have hp := hr.pos
    obtain ⟨x, hx⟩ := get_lt (l := f.2) (i := 0) (by omega)
    have hi := hr.inr x (List.mem_of_getElem? hx)
    rw [hP] at hi
    unfold inR at hi
    simp at hi
    have : (W (-1) : Int) = -1 := by decide
    omega
theorem ring_in {D : Dr} (hb : BdN D) (h : drOk D = true) : ∀ f ∈ D.fcs, ∀ x ∈ f.2, 0 ≤ x ∧ x.toNat < D.pts.length := by
  intro f hf x hx
  have hi := (drOk_ring h f hf).inr x hx
  have hl : D.pts ≠ [] := fun e => by have := dr_nil h e; rw [this] at hf; simp at hf
  have hp : 0 < D.pts.length := List.length_pos_iff.2 hl
  have hpb := hb.pts
  simp only [big] at hpb
  have hw : W ((D.pts.length : Int) - 1) = (D.pts.length : Int) - 1 := wrap_in (by omega)
  unfold inR at hi
  rw [hw] at hi
  simp only [Bool.and_eq_true, decide_eq_true_eq] at hi
  omega
noncomputable def ckO (T : Dr) : Option Dr × Int := ifb (drOk T) (some T, 0) (none, 6)
theorem mM124 (d : Nat) (T : Dr) (hb : BdN T) (hn : T.pts = [] → T.fcs = [] ∧ drOk T = true) : ev (d + 7) (mvN + 124) [.ag (dA T (pOm T.pts) (fO T.fcs))] = some (.tu [oM (ckO T).1, I (ckO T).2], [.un]) := by
  by_cases hP : T.pts = []
  · obtain ⟨h1, h2⟩ := hn hP
    have h3 := h2
    simp only [drOk, Bool.and_eq_true] at h3
    have c := m124w d T.w T.h h3.1 h3.2.1
    unfold ckO
    rw [h2, hP, h1]
    simp only [ifb_t, oM, hP, h1, pOm, fO]
    exact c
  · have pe := pOm_ne hP
    have hh : oM (ckO T).1 = (ckd T).1 ∧ (ckO T).2 = (ckd T).2 := by
      unfold ckO ckd
      cases drOk T
      · exact ⟨rfl, rfl⟩
      · simp only [ifb_t, oM, pe, and_self]
    rw [hh.1, hh.2, pe]
    by_cases hF : T.fcs = []
    · have := m124'n d T hb hF
      rw [hF]
      exact this
    · rw [fO_ne hF]
      exact m124' d T hb hF
theorem mM93 (d : Nat) (T : Dr) (hb : BdN T) (hn : T.pts = [] → T.fcs = [] ∧ drOk T = true) : ev (d + 7) (mvN + 93) [.ag (dA T (pOm T.pts) (fO T.fcs))] = some (.tu [oM (ckO T).1, I (ckO T).2], [.un]) := by
  by_cases hP : T.pts = []
  · obtain ⟨h1, h2⟩ := hn hP
    have h3 := h2
    simp only [drOk, Bool.and_eq_true] at h3
    have c := m93w d T.w T.h h3.1 h3.2.1
    unfold ckO
    rw [h2, hP, h1]
    simp only [ifb_t, oM, hP, h1, pOm, fO]
    exact c
  · have pe := pOm_ne hP
    have hh : oM (ckO T).1 = (ckd T).1 ∧ (ckO T).2 = (ckd T).2 := by
      unfold ckO ckd
      cases drOk T
      · exact ⟨rfl, rfl⟩
      · simp only [ifb_t, oM, pe, and_self]
    rw [hh.1, hh.2, pe]
    by_cases hF : T.fcs = []
    · have := m93'n d T hb hF
      rw [hF]
      exact this
    · rw [fO_ne hF]
      exact m93' d T hb hF
theorem mgD_n {D : Dr} {u : Int} (h : drOk D = true) : (mgD D u).pts = [] → (mgD D u).fcs = [] ∧ drOk (mgD D u) = true := by
  intro hp
  have hP : D.pts = [] := by
    by_cases e : D.pts = []
    · exact e
    · exact absurd hp (mgK_ne e)
  have hF := dr_nil h hP
  have e : mgD D u = D := by
    unfold mgD
    rw [hP, hF]
    cases D
    simp only at hP hF
    subst hP hF
    rfl
  rw [e]
  exact ⟨hF, h⟩
theorem l49_2 (d : Nat) (D : Dr) (u : Int) (hb : BdN D) (hok : ∀ p ∈ D.pts, okP p = true) (S : List Int) (i : Nat) (p : Pt) (hSl : S.length = i) (hi : D.pts[i]? = some p) : ∀ (m : Nat) (k : Int) (b v : Nat), k + 1 = m → m ≤ i → bl u D.pts S p m b = v →
    clC [1, 2, 4, 7, 8, 9] [4, 5] (blk 2 (lp (evC (ev (d + 2)) b49_2) (clean [1, 2, 4, 7, 8, 9, 10]) ⟨lookS [(1, I u), (2, .bp (.sl 2) 0), (4, .bp (.sl 4) 0), (7, .rf (.sl 7) none 0 S.length), (8, I i), (9, I b), (10, I k)], lookM [((.sl 2), some (.box (dV D))), ((.sl 4), some (.box z4)), ((.sl 7), some (.arr 2 1 (S.map iC)))]⟩)) =
      some (.nm, ⟨lookS [(1, I u), (2, .bp (.sl 2) 0), (4, .bp (.sl 4) 0), (7, .rf (.sl 7) none 0 S.length), (8, I i), (9, I v)], lookM [((.sl 2), some (.box (dV D))), ((.sl 4), some (.box z4)), ((.sl 7), some (.arr 2 1 (S.map iC)))]⟩) := by
  intro m
  induction m with
  | zero =>
    intro k b v hk hm hv
    have e : k = -1 := by omega
    subst e
    have : b = v := hv
    subst this
    rw [lp_step]
    simp
  | succ m ih =>
    intro k b v hk hm hv
    have e : k = (m : Int) := by omega
    subst e
    have hpb := hb.pts
    have hil := (List.getElem?_eq_some_iff.1 hi).1
    obtain ⟨q, hq⟩ := get_lt (l := D.pts) (i := m) (by omega)
    obtain ⟨s, hs⟩ := get_lt (l := S) (i := m) (by omega)
    have c := r129 d q p (hok q (List.mem_of_getElem? hq)) (hok p (List.mem_of_getElem? hi))
    have h0 : (0 : Int) ≤ (m : Int) := by omega
    have h1 : (m : Int) < (S.length : Int) := by omega
    have h2 : (m : Int) < (D.pts.length : Int) := by omega
    have h3 : (i : Int) < (D.pts.length : Int) := by omega
    have h4 : m < S.length := by omega
    have h5 : m < D.pts.length := by omega
    have q0 : D.pts[m] = q := (List.getElem?_eq_some_iff.1 hq).2
    have p0 : D.pts[i] = p := (List.getElem?_eq_some_iff.1 hi).2
    have s0 : S[m] = s := (List.getElem?_eq_some_iff.1 hs).2
    have hw : IntKind.i64.wrap ((m : Int) - 1) = (m : Int) - 1 := IntWalk.i64_in _ (by simp only [big] at hpb; omega)
    simp only [bl] at hv
    rw [getD_of hs, pn_get hq] at hv
    rw [lp_step]
    by_cases hsm : s = (m : Int)
    · rw [decide_eq_true hsm] at hv
      simp only [Bool.true_and] at hv
      unfold near at hv
      by_cases hn : dsI q p ≤ u
      · rw [decide_eq_true hn] at hv
        have ih' := ih ((m : Int) - 1) m v (by omega) (by omega) hv
        simp [h0, h1, h2, h3, hs, hq, hi, q0, p0, s0, hsm, c, hn, hw, ih']
      · rw [decide_eq_false hn] at hv
        have ih' := ih ((m : Int) - 1) b v (by omega) (by omega) hv
        simp [h0, h1, h2, h3, hs, hq, hi, q0, p0, s0, hsm, c, hn, hw, ih']
    · rw [decide_eq_false hsm] at hv
      have ih' := ih ((m : Int) - 1) b v (by omega) (by omega) hv
      simp [h0, h1, h2, h3, hs, hq, hi, q0, p0, s0, hsm, hw, ih']
theorem l49 (d : Nat) (D : Dr) (u : Int) (hb : BdN D) (hok : ∀ p ∈ D.pts, okP p = true) : ∀ (n i : Nat) (S r : List Int), n + i = D.pts.length → S.length = i → stL u D.pts n i S = r →
    clC [2, 4, 7] [4, 5] (blk 0 (lp (evC (ev (d + 2)) b49_1) (clean [1, 2, 4, 7, 8]) ⟨lookS [(1, I u), (2, .bp (.sl 2) 0), (4, .bp (.sl 4) 0), (7, .rf (.sl 7) none 0 S.length), (8, I i)], lookM [((.sl 2), some (.box (dV D))), ((.sl 4), some (.box z4)), ((.sl 7), some (.arr 2 1 (S.map iC)))]⟩)) =
      some (.nm, ⟨lookS [(2, .bp (.sl 2) 0), (4, .bp (.sl 4) 0), (7, .rf (.sl 7) none 0 r.length)], lookM [((.sl 2), some (.box (dV D))), ((.sl 4), some (.box z4)), ((.sl 7), some (.arr 2 1 (r.map iC)))]⟩) := by
  intro n
  induction n with
  | zero =>
    intro i S r hi hl hr
    have h0 : ¬ (i : Int) < (D.pts.length : Int) := by omega
    have : S = r := hr
    subst this
    rw [lp_step]
    simp [h0]
  | succ n ih =>
    intro i S r hi hl hr
    have hlt : i < D.pts.length := by omega
    have h0 : (i : Int) < (D.pts.length : Int) := by omega
    have hpb := hb.pts
    obtain ⟨p, hp⟩ := get_lt hlt
    have hw := wrap_nat (i := i) (by simp only [big] at hpb; omega)
    have hw2 : IntKind.i64.wrap ((i : Int) - 1) = (i : Int) - 1 := IntWalk.i64_in _ (by simp only [big] at hpb; omega)
    have hb2 : S.length + 1 ≤ big := by omega
    simp only [stL] at hr
    rw [pn_get hp] at hr
    have key := l49_2 d D u hb hok S i p hl hp i ((i : Int) - 1) i _ (by omega) (Nat.le_refl _) rfl
    generalize bl u D.pts S p i i = v at hr key
    have ih' := ih (i + 1) (S ++ [(v : Int)]) r (by omega) (by simp; omega) hr
    simp only [Int.natCast_add, Int.cast_ofNat_Int] at ih'
    simp at ih' key
    rw [lp_step]
    simp [h0, hw, hw2, key, hb2, ih']
theorem gM_at {D : Dr} {u : Int} {j m : Nat} (h : (mgP u D.pts [])[j]? = some (m : Int)) {x : Int} (hx : x.toNat = j) : gM D u x = (m : Int) := by
  unfold gM
  rw [hx]
  exact getD_of h
set_option maxHeartbeats 1000000 in
theorem r49 (d : Nat) (D : Dr) (hb : BdN D) (u : Int) : ev (d + 8) 49 [.ag (dV D), I u] = some (.tu [oM (mgOf D u).1, I (mgOf D u).2], []) := by
  rw [s49 (d + 7) _ rfl]
  have c1 := r128 d D [] hb u
  unfold mgOf
  by_cases h0 : tolc D u = 0
  case neg =>
    rw [decide_eq_false h0]
    simp [c1, h0, oM]
  rw [decide_eq_true h0]
  rw [h0] at c1
  have hok := tolc_ok h0
  simp only [ifb_t]
  obtain ⟨S, hS, hSl, hK, hAt⟩ := merge_law u D.pts
  have key := l49 (d + 5) D u hb (dr_okP hok) D.pts.length 0 [] S (by omega) rfl hS.symm
  have c2 := rm130 (d + 4) D [] hb S hSl (kpS S) (fun j hj => by
    obtain ⟨s, hs⟩ := get_lt (l := S) (i := j) (by omega)
    exact ⟨s, hs, by unfold kpS; rw [getD_of hs]⟩) (gM D u) (fun f hf x hx => by
    obtain ⟨x0, x1⟩ := ring_in hb hok f hf x hx
    obtain ⟨s, s1, s2, s3, m, s4⟩ := hAt x.toNat x1
    exact ⟨x0, x1, s, s1, s2, by rw [s3, s4, gM_at s4 rfl]⟩) _ hK mgK_ne _ rfl (dr_nil hok)
  have bT := mgD_b hb u
  have nT := mgD_n (u := u) hok
  have eT : (⟨D.w, D.h, mgK u D.pts [], D.fcs.map (kgm (gM D u))⟩ : Dr) = mgD D u := rfl
  have e2 : mgK u D.pts [] = (mgD D u).pts := rfl
  have e3 : D.fcs.map (kgm (gM D u)) = (mgD D u).fcs := rfl
  rw [eT, e2, e3] at c2
  have c3 := mM124 d (mgD D u) bT nT
  have eo : ifb (drOk (mgD D u)) (some (mgD D u), (0 : Int)) (none, 6) = ckO (mgD D u) := rfl
  rw [eo]
  generalize mgD D u = T at c2 c3 ⊢
  generalize ckO T = o at c3 ⊢
  obtain ⟨o, c⟩ := o
  try simp at key
  cases o with
  | none =>
    simp only [oM] at c3 ⊢
    cases hp : T.pts <;> cases hf : T.fcs <;> rw [hp, hf] at c2 c3 <;> simp only [pOm, fO] at c2 c3 ⊢ <;> simp at c2 c3 ⊢ <;> simp [c1, key, c2, c3]
  | some Q =>
    simp only [oM] at c3 ⊢
    cases hqp : Q.pts <;> cases hqf : Q.fcs <;> rw [hqp, hqf] at c3 <;> cases hp : T.pts <;> cases hf : T.fcs <;> rw [hp, hf] at c2 c3 <;> simp only [pOm, fO] at c2 c3 ⊢ <;> simp at c2 c3 ⊢ <;> simp [c1, key, c2, c3]
set_option linter.unusedSimpArgs false
set_option linter.unusedVariables false
set_option maxHeartbeats 1000000
def fxP (p : Pt → Bool) : Nat → List Pt → Int
  | _, [] => -1
  | i, q :: l => ifb (p q) (i : Int) (fxP p (i + 1) l)
theorem fxP_neg (p : Pt → Bool) : ∀ (l : List Pt) (i : Nat), l.any p = false → fxP p i l = -1 := by
  intro l
  induction l with
  | nil => intro i _; rfl
  | cons q l ih =>
    intro i h
    rw [List.any_cons, Bool.or_eq_false_iff] at h
    simp only [fxP, h.1, ifb_f]
    exact ih (i + 1) h.2
theorem l132 (d : Nat) (f : Nat) (vs us : List LV) (p : Pt → Bool) (l : List Pt) (hp : ∀ g : Pt, g ∈ l → ev d f [.ag (pV g), .rp vs, .rp us] = some (B (p g), [])) (hb : l.length ≤ big) : ∀ (n i : Nat), n + i = l.length →
    clC [] [4] (blk 0 (lp (evC (ev d) b132_1) (clean [0, 1, 7, 8]) ⟨lookS [(0, .ro 2 (l.map pC)), (1, .cl f [.rp vs, .rp us]), (7, I l.length), (8, I i)], lookM []⟩)) =
      ifb ((l.drop i).any p) (some (.rt, ⟨lookS [(4, I (fxP p i (l.drop i)))], lookM []⟩)) (some (.nm, ⟨lookS [], lookM []⟩)) := by
  intro n
  induction n with
  | zero =>
    intro i hi
    have h0 : ¬ (i : Int) < (l.length : Int) := by omega
    have h1 : l.drop i = [] := List.drop_eq_nil_of_le (by omega)
    rw [lp_step, h1]
    simp [h0]
  | succ n ih =>
    intro i hi
    have hlt : i < l.length := by omega
    have h0 : (i : Int) < (l.length : Int) := by omega
    obtain ⟨x, hx⟩ := get_lt hlt
    have hw := wrap_nat (i := i) (by simp [big] at hb; omega)
    have ih' := ih (i + 1) (by omega)
    have hpx := hp x (List.mem_of_getElem? hx)
    rw [lp_step, drop_get hx, List.any_cons]
    simp only [fxP]
    try simp at ih' hpx
    cases hc : p x
    · rw [hc] at hpx
      simp [h0, hx, hw, hpx, ih']
    · rw [hc] at hpx
      simp [h0, hx, hpx]
theorem r132 (d : Nat) (f : Nat) (vs us : List LV) (p : Pt → Bool) (l : List Pt) (hp : ∀ g : Pt, g ∈ l → ev d f [.ag (pV g), .rp vs, .rp us] = some (B (p g), [])) (hb : l.length ≤ big) : ev (d + 1) 132 [.ro 2 (l.map pC), .cl f [.rp vs, .rp us]] = some (I (fxP p 0 l), []) := by
  rw [s132 d _ rfl]
  have key := l132 d f vs us p l hp hb l.length 0 (by omega)
  rw [List.drop_zero] at key
  cases h : l.any p <;> rw [h] at key <;> simp at key
  · simp [key, fxP_neg p l 0 h]
  · simp [key]
theorem rn132 (d : Nat) (f : Nat) (vs us : List LV) : ev (d + 1) 132 [.nl, .cl f [.rp vs, .rp us]] = some (I (-1), []) := by
  rw [s132 d _ rfl]
  simp
  rw [lp_step]
  simp
theorem r133 (d : Nat) (p q : Pt) (u : Int) (hp : okP p = true) (hq : okP q = true) : ev (d + 5) 133 [.ag (pV q), .rp (pV p), .rp [I u]] = some (B (near u q p), []) := by
  rw [s133 (d + 4) _ rfl]
  have c := r134 d q p hq hp
  unfold near
  simp [c]
theorem fxP_fsI (u : Int) (p : Pt) : ∀ (K : List Pt) (i : Nat), fxP (fun q => near u q p) i K = ifb (decide (fsI u p K i < i + K.length)) (fsI u p K i : Int) (-1) := by
  intro K
  induction K with
  | nil => intro i; simp [fxP, fsI]
  | cons q K ih =>
    intro i
    have := ih (i + 1)
    simp only [fxP, fsI, List.length_cons]
    rcases Bool.eq_false_or_eq_true (near u q p) with hn | hn
    · simp only [hn, ifb_t]
      rw [decide_eq_true (by omega)]
      rfl
    · simp only [hn, ifb_f]
      rw [this, show i + 1 + K.length = i + (K.length + 1) by omega]
theorem l50 (d : Nat) (D : Dr) (u : Int) (hb : BdN D) (hok : ∀ p ∈ D.pts, okP p = true) : ∀ (n i : Nat) (K rK : List Pt) (Q rQ : List Int), n + i = D.pts.length → Q.length = i → K ≠ [] → K.length ≤ i → (∀ q ∈ K, okP q = true) → mgK u (D.pts.drop i) K = rK → Q ++ mgP u (D.pts.drop i) K = rQ →
    clC [2, 4, 7, 8] [4, 5] (blk 0 (lp (evC (ev (d + 6)) b50_1) (clean [2, 3, 4, 7, 8, 31, 32, 33]) ⟨lookS [(2, .bp (.sl 2) 0), (3, .bp (.sl 3) 0), (4, .bp (.sl 4) 0), (7, .bp (.sl 7) 0), (8, .rf (.sl 8) none 0 Q.length), (31, .ro 2 (D.pts.map pC)), (32, I D.pts.length), (33, I i)], lookM [((.sl 2), some (.box (dV D))), ((.sl 3), some (.box [I u])), ((.sl 4), some (.box z4)), ((.sl 7), some (.box [I D.w, I D.h, .rf (.ce 7 2) none 0 K.length, .nl])), ((.sl 8), some (.arr 2 1 (Q.map iC))), ((.ce 7 2), some (.arr 159 2 (K.map pC)))]⟩)) =
      some (.nm, ⟨lookS [(2, .bp (.sl 2) 0), (4, .bp (.sl 4) 0), (7, .bp (.sl 7) 0), (8, .rf (.sl 8) none 0 rQ.length)], lookM [((.sl 2), some (.box (dV D))), ((.sl 4), some (.box z4)), ((.sl 7), some (.box [I D.w, I D.h, .rf (.ce 7 2) none 0 rK.length, .nl])), ((.sl 8), some (.arr 2 1 (rQ.map iC))), ((.ce 7 2), some (.arr 159 2 (rK.map pC)))]⟩) := by
  intro n
  induction n with
  | zero =>
    intro i K rK Q rQ hi hq hne hk hKo hK hQ
    have h0 : ¬ (i : Int) < (D.pts.length : Int) := by omega
    rw [List.drop_eq_nil_of_le (by omega)] at hK hQ
    simp only [mgK, mgP, List.append_nil] at hK hQ
    subst hK hQ
    rw [lp_step]
    simp [h0]
  | succ n ih =>
    intro i K rK Q rQ hi hq hne hk hKo hK hQ
    have hlt : i < D.pts.length := by omega
    have h0 : (i : Int) < (D.pts.length : Int) := by omega
    have hpb := hb.pts
    obtain ⟨p, hp⟩ := get_lt hlt
    have hpo := hok p (List.mem_of_getElem? hp)
    have hw := wrap_nat (i := i) (by simp only [big] at hpb; omega)
    have hb2 : Q.length + 1 ≤ big := by omega
    have hb3 : K.length + 1 ≤ big := by omega
    rw [drop_get hp] at hK hQ
    simp only [mgK, mgP] at hK hQ
    have c := r132 (d + 5) 133 (pV p) [I u] (fun q => near u q p) K (fun q hq => r133 d p q u hpo (hKo q hq)) (by omega)
    rw [fxP_fsI, Nat.zero_add] at c
    have hfl := (fsI_le u p K 0).2
    rw [lp_step]
    by_cases ha : fsI u p K 0 < K.length
    · have e : addK u p K = K := by unfold addK; rw [decide_eq_true ha]; rfl
      rw [e] at hK hQ
      rw [decide_eq_true ha] at c
      generalize fsI u p K 0 = a at c hQ
      have a0 : ¬ (a : Int) < 0 := by omega
      have ih' := ih (i + 1) K rK (Q ++ [(a : Int)]) rQ (by omega) (by simp; omega) hne (by omega) hKo hK (by rw [List.append_assoc]; exact hQ)
      simp only [Int.natCast_add, Int.cast_ofNat_Int] at ih'
      simp at ih'
      try simp at c
      simp [h0, hp, hw, c, a0, hb2, fillU, adsOf, List.mapM_cons, ih']
    · have e : addK u p K = K ++ [p] := by unfold addK; rw [decide_eq_false ha]; rfl
      have e2 : fsI u p K 0 = K.length := by omega
      rw [e] at hK hQ
      rw [e2] at hQ
      rw [decide_eq_false ha] at c
      have ih' := ih (i + 1) (K ++ [p]) rK (Q ++ [(K.length : Int)]) rQ (by omega) (by simp; omega) (by simp) (by simp; omega) (fun q hq => by
        rcases List.mem_append.1 hq with h | h
        · exact hKo q h
        · rw [List.mem_singleton.1 h]; exact hpo) hK (by rw [List.append_assoc]; exact hQ)
      simp only [Int.natCast_add, Int.cast_ofNat_Int] at ih'
      simp at ih'
      try simp at c
      simp [h0, hp, hw, c, hb2, hb3, fillU, adsOf, List.mapM_cons, ih']
theorem l50C (d : Nat) (D : Dr) (u : Int) (hb : BdN D) (hok : ∀ p ∈ D.pts, okP p = true) (hP : D.pts ≠ []) (rK : List Pt) (rQ : List Int) (hK : mgK u D.pts [] = rK) (hQ : mgP u D.pts [] = rQ) :
    clC [2, 4, 7, 8] [4, 5] (blk 0 (lp (evC (ev (d + 6)) b50_1) (clean [2, 3, 4, 7, 8, 31, 32, 33]) ⟨lookS [(2, .bp (.sl 2) 0), (3, .bp (.sl 3) 0), (4, .bp (.sl 4) 0), (7, .bp (.sl 7) 0), (8, .rf (.sl 8) none 0 0), (31, .ro 2 (D.pts.map pC)), (32, I D.pts.length), (33, I 0)], lookM [((.sl 2), some (.box (dV D))), ((.sl 3), some (.box [I u])), ((.sl 4), some (.box z4)), ((.sl 7), some (.box [I D.w, I D.h, .nl, .nl])), ((.sl 8), some (.arr 2 1 []))]⟩)) =
      some (.nm, ⟨lookS [(2, .bp (.sl 2) 0), (4, .bp (.sl 4) 0), (7, .bp (.sl 7) 0), (8, .rf (.sl 8) none 0 rQ.length)], lookM [((.sl 2), some (.box (dV D))), ((.sl 4), some (.box z4)), ((.sl 7), some (.box [I D.w, I D.h, .rf (.ce 7 2) none 0 rK.length, .nl])), ((.sl 8), some (.arr 2 1 (rQ.map iC))), ((.ce 7 2), some (.arr 159 2 (rK.map pC)))]⟩) := by
  have hpos : 0 < D.pts.length := List.length_pos_iff.2 hP
  have h0 : (0 : Int) < (D.pts.length : Int) := by omega
  obtain ⟨p, hp⟩ := get_lt (l := D.pts) (i := 0) hpos
  have hp0 : D.pts[0] = p := (List.getElem?_eq_some_iff.1 hp).2
  have hpo := hok p (List.mem_of_getElem? hp)
  have hd := drop_get hp
  rw [List.drop_zero] at hd
  rw [hd] at hK hQ
  have hK' : mgK u (D.pts.drop 1) [p] = rK := hK
  have hQ' : [(0 : Int)] ++ mgP u (D.pts.drop 1) [p] = rQ := hQ
  have key := l50 d D u hb hok (D.pts.length - 1) 1 [p] rK [(0 : Int)] rQ (by omega) rfl (by simp) (by simp) (fun q hq => by rw [List.mem_singleton.1 hq]; exact hpo) hK' hQ'
  have c := rn132 (d + 5) 133 (pV p) [I u]
  have hb1 : 1 ≤ big := by simp [big]
  have w1 : IntKind.i64.wrap 1 = 1 := by decide
  simp at key
  try simp at c
  try simp at hp
  rw [lp_step]
  simp [h0, hpos, hp, hp0, c, hb1, w1, fillU, adsOf, List.mapM_cons, key]
theorem l50R0 (d : Nat) (D : Dr) (hb : BdN D) (Q : List Int) (hQl : Q.length = D.pts.length) (P : List Pt) (i : Nat) (f : Fc) (hf : D.fcs[i]? = some f) (FA : List Fc) (g : Int → Int) (hq : ∀ x ∈ f.2, 0 ≤ x ∧ x.toNat < D.pts.length ∧ Q[x.toNat]? = some (g x)) : ∀ (n j : Nat) (acc r : List Int), n + j = f.2.length → ddp acc ((f.2.drop j).map g) = r → acc.length ≤ j →
    clC [4, 7, 8, 13, 14, 58, 59, 60] [4, 5] (blk 4 (lp (evC (ev d) b50_3) (clean [4, 7, 8, 13, 14, 58, 59, 60, 66, 67, 68]) ⟨lookS [(4, .bp (.sl 4) 0), (7, .bp (.sl 7) 0), (8, .rf (.sl 8) none 0 D.pts.length), (13, .bp (.sl 13) 0), (14, .rf (.sl 14) none 0 acc.length), (58, .ro 2 (D.fcs.map fS)), (59, I D.fcs.length), (60, I i), (66, .ro 1 (f.2.map iC)), (67, I f.2.length), (68, I j)], lookM [((.sl 4), some (.box z4)), ((.sl 7), some (.box [I D.w, I D.h, .rf (.ce 7 2) none 0 P.length, .nl])), ((.sl 8), some (.arr 2 1 (Q.map iC))), ((.sl 13), some (.box [T f.1, .ro 1 (f.2.map iC)])), ((.sl 14), some (.arr 2 1 (acc.map iC))), ((.ce 7 2), some (.arr 159 2 (P.map pC)))]⟩)) =
      some (.nm, ⟨lookS [(4, .bp (.sl 4) 0), (7, .bp (.sl 7) 0), (8, .rf (.sl 8) none 0 D.pts.length), (13, .bp (.sl 13) 0), (14, .rf (.sl 14) none 0 r.length), (58, .ro 2 (D.fcs.map fS)), (59, I D.fcs.length), (60, I i)], lookM [((.sl 4), some (.box z4)), ((.sl 7), some (.box [I D.w, I D.h, .rf (.ce 7 2) none 0 P.length, .nl])), ((.sl 8), some (.arr 2 1 (Q.map iC))), ((.sl 13), some (.box [T f.1, .ro 1 (f.2.map iC)])), ((.sl 14), some (.arr 2 1 (r.map iC))), ((.ce 7 2), some (.arr 159 2 (P.map pC)))]⟩) := by
  intro n
  induction n with
  | zero =>
    intro j acc r hj hr ha
    have h0 : ¬ (j : Int) < (f.2.length : Int) := by omega
    rw [List.drop_eq_nil_of_le (by omega), List.map_nil] at hr
    have : acc = r := hr
    subst this
    rw [lp_step]
    simp [h0]
  | succ n ih =>
    intro j acc r hj hr ha
    have hlt : j < f.2.length := by omega
    have h0 : (j : Int) < (f.2.length : Int) := by omega
    have hfb := hb.ring f (List.mem_of_getElem? hf)
    obtain ⟨x, hx⟩ := get_lt hlt
    obtain ⟨x0, x1, x2⟩ := hq x (List.mem_of_getElem? hx)
    have x3 : x < (D.pts.length : Int) := by omega
    have x4 : x < (Q.length : Int) := by omega
    have x5 : x.toNat < Q.length := by omega
    have x8 : Q[x.toNat] = g x := (List.getElem?_eq_some_iff.1 x2).2
    have hw := wrap_nat (i := j) (by simp only [big] at hfb; omega)
    have hb2 : acc.length + 1 ≤ big := by omega
    rw [drop_get hx, List.map_cons] at hr
    simp only [ddp] at hr
    by_cases e : acc = []
    · subst e
      have hr : ddp [g x] ((f.2.drop (j + 1)).map g) = r := hr
      have ih' := ih (j + 1) [g x] r (by omega) hr (by simp)
      have hb1 : 1 ≤ big := by simp [big]
      simp only [Int.natCast_add, Int.cast_ofNat_Int] at ih'
      simp at ih'
      rw [lp_step]
      simp [h0, hx, x0, x2, x3, x4, x5, x8, hQl, x1, hw, hb1, ih']
    · have hpos : 0 < acc.length := List.length_pos_iff.2 e
      obtain ⟨k, hk⟩ : ∃ k, acc.length = k + 1 := ⟨acc.length - 1, by omega⟩
      obtain ⟨y, hy⟩ := get_lt (l := acc) (i := k) (by omega)
      have hy0 : acc[k] = y := (List.getElem?_eq_some_iff.1 hy).2
      have el : lastE acc (g x) = decide (y = g x) := by
        unfold lastE
        rw [decide_eq_true hpos, show acc.length - 1 = k by omega, getD_of hy]
        rfl
      rw [el] at hr
      have hn0 : ¬ (k : Int) + 1 = 0 := by omega
      have hw2 : IntKind.i64.wrap (k : Int) = (k : Int) := wrap_in (by simp only [big] at hfb; omega)
      have hka : (k : Int) < (k : Int) + 1 := by omega
      by_cases hxy : y = g x
      · rw [decide_eq_true hxy] at hr
        simp only [ifb_t] at hr
        have ih' := ih (j + 1) acc r (by omega) hr (by omega)
        simp only [Int.natCast_add, Int.cast_ofNat_Int] at ih'
        try simp at ih'
        rw [hk] at ih' hb2 ⊢
        rw [lp_step]
        simp [h0, hx, x0, x2, x3, x4, x5, x8, hQl, x1, hw, hb2, hk, hn0, e, hw2, hka, hy, hy0, hxy, ih']
      · rw [decide_eq_false hxy] at hr
        simp only [ifb_f] at hr
        have ih' := ih (j + 1) (acc ++ [g x]) r (by omega) hr (by simp; omega)
        simp only [Int.natCast_add, Int.cast_ofNat_Int] at ih'
        simp [hk] at ih'
        rw [hk] at hb2 ⊢
        rw [lp_step]
        simp [h0, hx, x0, x2, x3, x4, x5, x8, hQl, x1, hw, hb2, hk, hn0, e, hw2, hka, hy, hy0, hxy, ih']
theorem l50T0 (d : Nat) (D : Dr) (hb : BdN D) (Q : List Int) (hQl : Q.length = D.pts.length) (P : List Pt) (i : Nat) (f : Fc) (hf : D.fcs[i]? = some f) (FA : List Fc) : ∀ (n : Nat) (R r : List Int), R.length ≤ n → R.length ≤ big → trmL n R = r →
    clC [4, 7, 8, 13, 14, 58, 59, 60] [4, 5] (blk 6 (lp (evC (ev d) b50_4) (clean [4, 7, 8, 13, 14, 58, 59, 60]) ⟨lookS [(4, .bp (.sl 4) 0), (7, .bp (.sl 7) 0), (8, .rf (.sl 8) none 0 D.pts.length), (13, .bp (.sl 13) 0), (14, .rf (.sl 14) none 0 R.length), (58, .ro 2 (D.fcs.map fS)), (59, I D.fcs.length), (60, I i)], lookM [((.sl 4), some (.box z4)), ((.sl 7), some (.box [I D.w, I D.h, .rf (.ce 7 2) none 0 P.length, .nl])), ((.sl 8), some (.arr 2 1 (Q.map iC))), ((.sl 13), some (.box [T f.1, .ro 1 (f.2.map iC)])), ((.sl 14), some (.arr 2 1 (R.map iC))), ((.ce 7 2), some (.arr 159 2 (P.map pC)))]⟩)) =
      some (.nm, ⟨lookS [(4, .bp (.sl 4) 0), (7, .bp (.sl 7) 0), (8, .rf (.sl 8) none 0 D.pts.length), (13, .bp (.sl 13) 0), (14, .rf (.sl 14) none 0 r.length), (58, .ro 2 (D.fcs.map fS)), (59, I D.fcs.length), (60, I i)], lookM [((.sl 4), some (.box z4)), ((.sl 7), some (.box [I D.w, I D.h, .rf (.ce 7 2) none 0 P.length, .nl])), ((.sl 8), some (.arr 2 1 (Q.map iC))), ((.sl 13), some (.box [T f.1, .ro 1 (f.2.map iC)])), ((.sl 14), some (.arr 2 1 (r.map iC))), ((.ce 7 2), some (.arr 159 2 (P.map pC)))]⟩) := by
  intro n
  induction n with
  | zero =>
    intro R r hn hb hr
    have h1' : ¬ (1 : Int) < (R.length : Int) := by omega
    have : R = r := hr
    subst this
    rw [lp_step]
    simp [h1']
  | succ n ih =>
    intro R r hn hb hr
    simp only [trmL] at hr
    rw [lp_step]
    by_cases h1 : 1 < R.length
    · have h1' : (1 : Int) < (R.length : Int) := by omega
      obtain ⟨q, hq⟩ : ∃ q, R.length = q + 1 := ⟨R.length - 1, by omega⟩
      obtain ⟨x, hx⟩ := get_lt (l := R) (i := 0) (by omega)
      obtain ⟨y, hy⟩ := get_lt (l := R) (i := q) (by omega)
      have hx0 : R[0] = x := (List.getElem?_eq_some_iff.1 hx).2
      have hy0 : R[q] = y := (List.getElem?_eq_some_iff.1 hy).2
      have hw2 : IntKind.i64.wrap (q : Int) = (q : Int) := wrap_in (by simp only [big] at hb; omega)
      have e : trmC R = decide (x = y) := by
        unfold trmC
        rw [decide_eq_true h1, getD_of hx, show R.length - 1 = q by omega, getD_of hy]
        rfl
      have hT : (R.take q).length = q := by simp; omega
      have hTm : (R.map iC).take q = (R.take q).map iC := by rw [List.map_take]
      rw [e, show R.length - 1 = q by omega] at hr
      have hq1 : (0 : Int) < (q : Int) := by omega
      have hq2 : (0 : Int) ≤ (q : Int) := by omega
      have hq0 : 0 < q := by omega
      have hq3 : (0 : Int) < (q : Int) + 1 := by omega
      have hq4 : (q : Int) < (q : Int) + 1 := by omega
      have hq6 : (1 : Int) < (q : Int) + 1 := by omega
      have hq5 : (q : Int) ≤ (q : Int) + 1 := by omega
      by_cases hxy : x = y
      · subst hxy
        rw [decide_eq_true rfl] at hr
        simp only [ifb_t] at hr
        have ih' := ih (R.take q) r (by omega) (by omega) hr
        rw [hT, ← hTm] at ih'
        try simp at hx
        simp [hq, hq0, hq1, hq2, hq3, hq4, hq5, hq6, hx, hx0, hw2, hy, hy0, ih']
      · have hyx : ¬ y = x := fun q => hxy q.symm
        rw [decide_eq_false hxy] at hr
        simp only [ifb_f] at hr
        subst hr
        try simp at hx
        simp [hq, hq0, hq1, hq2, hq3, hq4, hq5, hq6, hx, hx0, hw2, hy, hy0, hxy, hyx]
    · have h1' : ¬ (1 : Int) < (R.length : Int) := by omega
      have e : trmC R = false := by unfold trmC; rw [decide_eq_false h1]; rfl
      rw [e] at hr
      simp only [ifb_f] at hr
      subst hr
      simp [h1']
theorem l50RA (d : Nat) (D : Dr) (hb : BdN D) (Q : List Int) (hQl : Q.length = D.pts.length) (P : List Pt) (i : Nat) (f : Fc) (hf : D.fcs[i]? = some f) (FA : List Fc) (g : Int → Int) (hq : ∀ x ∈ f.2, 0 ≤ x ∧ x.toNat < D.pts.length ∧ Q[x.toNat]? = some (g x)) : ∀ (n j : Nat) (acc r : List Int), n + j = f.2.length → ddp acc ((f.2.drop j).map g) = r → acc.length ≤ j →
    clC [4, 7, 8, 13, 14, 58, 59, 60] [4, 5] (blk 4 (lp (evC (ev d) b50_3) (clean [4, 7, 8, 13, 14, 58, 59, 60, 66, 67, 68]) ⟨lookS [(4, .bp (.sl 4) 0), (7, .bp (.sl 7) 0), (8, .rf (.sl 8) none 0 D.pts.length), (13, .bp (.sl 13) 0), (14, .rf (.sl 14) none 0 acc.length), (58, .ro 2 (D.fcs.map fS)), (59, I D.fcs.length), (60, I i), (66, .ro 1 (f.2.map iC)), (67, I f.2.length), (68, I j)], lookM [((.sl 4), some (.box z4)), ((.sl 7), some (.box [I D.w, I D.h, .rf (.ce 7 2) none 0 P.length, .rf (.ce 7 3) none 0 FA.length])), ((.sl 8), some (.arr 2 1 (Q.map iC))), ((.sl 13), some (.box [T f.1, .ro 1 (f.2.map iC)])), ((.sl 14), some (.arr 2 1 (acc.map iC))), ((.ce 7 2), some (.arr 159 2 (P.map pC))), ((.ce 7 3), some (.arr 127 2 (FA.map fC)))]⟩)) =
      some (.nm, ⟨lookS [(4, .bp (.sl 4) 0), (7, .bp (.sl 7) 0), (8, .rf (.sl 8) none 0 D.pts.length), (13, .bp (.sl 13) 0), (14, .rf (.sl 14) none 0 r.length), (58, .ro 2 (D.fcs.map fS)), (59, I D.fcs.length), (60, I i)], lookM [((.sl 4), some (.box z4)), ((.sl 7), some (.box [I D.w, I D.h, .rf (.ce 7 2) none 0 P.length, .rf (.ce 7 3) none 0 FA.length])), ((.sl 8), some (.arr 2 1 (Q.map iC))), ((.sl 13), some (.box [T f.1, .ro 1 (f.2.map iC)])), ((.sl 14), some (.arr 2 1 (r.map iC))), ((.ce 7 2), some (.arr 159 2 (P.map pC))), ((.ce 7 3), some (.arr 127 2 (FA.map fC)))]⟩) := by
  intro n
  induction n with
  | zero =>
    intro j acc r hj hr ha
    have h0 : ¬ (j : Int) < (f.2.length : Int) := by omega
    rw [List.drop_eq_nil_of_le (by omega), List.map_nil] at hr
    have : acc = r := hr
    subst this
    rw [lp_step]
    simp [h0]
  | succ n ih =>
    intro j acc r hj hr ha
    have hlt : j < f.2.length := by omega
    have h0 : (j : Int) < (f.2.length : Int) := by omega
    have hfb := hb.ring f (List.mem_of_getElem? hf)
    obtain ⟨x, hx⟩ := get_lt hlt
    obtain ⟨x0, x1, x2⟩ := hq x (List.mem_of_getElem? hx)
    have x3 : x < (D.pts.length : Int) := by omega
    have x4 : x < (Q.length : Int) := by omega
    have x5 : x.toNat < Q.length := by omega
    have x8 : Q[x.toNat] = g x := (List.getElem?_eq_some_iff.1 x2).2
    have hw := wrap_nat (i := j) (by simp only [big] at hfb; omega)
    have hb2 : acc.length + 1 ≤ big := by omega
    rw [drop_get hx, List.map_cons] at hr
    simp only [ddp] at hr
    by_cases e : acc = []
    · subst e
      have hr : ddp [g x] ((f.2.drop (j + 1)).map g) = r := hr
      have ih' := ih (j + 1) [g x] r (by omega) hr (by simp)
      have hb1 : 1 ≤ big := by simp [big]
      simp only [Int.natCast_add, Int.cast_ofNat_Int] at ih'
      simp at ih'
      rw [lp_step]
      simp [h0, hx, x0, x2, x3, x4, x5, x8, hQl, x1, hw, hb1, ih']
    · have hpos : 0 < acc.length := List.length_pos_iff.2 e
      obtain ⟨k, hk⟩ : ∃ k, acc.length = k + 1 := ⟨acc.length - 1, by omega⟩
      obtain ⟨y, hy⟩ := get_lt (l := acc) (i := k) (by omega)
      have hy0 : acc[k] = y := (List.getElem?_eq_some_iff.1 hy).2
      have el : lastE acc (g x) = decide (y = g x) := by
        unfold lastE
        rw [decide_eq_true hpos, show acc.length - 1 = k by omega, getD_of hy]
        rfl
      rw [el] at hr
      have hn0 : ¬ (k : Int) + 1 = 0 := by omega
      have hw2 : IntKind.i64.wrap (k : Int) = (k : Int) := wrap_in (by simp only [big] at hfb; omega)
      have hka : (k : Int) < (k : Int) + 1 := by omega
      by_cases hxy : y = g x
      · rw [decide_eq_true hxy] at hr
        simp only [ifb_t] at hr
        have ih' := ih (j + 1) acc r (by omega) hr (by omega)
        simp only [Int.natCast_add, Int.cast_ofNat_Int] at ih'
        try simp at ih'
        rw [hk] at ih' hb2 ⊢
        rw [lp_step]
        simp [h0, hx, x0, x2, x3, x4, x5, x8, hQl, x1, hw, hb2, hk, hn0, e, hw2, hka, hy, hy0, hxy, ih']
      · rw [decide_eq_false hxy] at hr
        simp only [ifb_f] at hr
        have ih' := ih (j + 1) (acc ++ [g x]) r (by omega) hr (by simp; omega)
        simp only [Int.natCast_add, Int.cast_ofNat_Int] at ih'
        simp [hk] at ih'
        rw [hk] at hb2 ⊢
        rw [lp_step]
        simp [h0, hx, x0, x2, x3, x4, x5, x8, hQl, x1, hw, hb2, hk, hn0, e, hw2, hka, hy, hy0, hxy, ih']
theorem l50TA (d : Nat) (D : Dr) (hb : BdN D) (Q : List Int) (hQl : Q.length = D.pts.length) (P : List Pt) (i : Nat) (f : Fc) (hf : D.fcs[i]? = some f) (FA : List Fc) : ∀ (n : Nat) (R r : List Int), R.length ≤ n → R.length ≤ big → trmL n R = r →
    clC [4, 7, 8, 13, 14, 58, 59, 60] [4, 5] (blk 6 (lp (evC (ev d) b50_4) (clean [4, 7, 8, 13, 14, 58, 59, 60]) ⟨lookS [(4, .bp (.sl 4) 0), (7, .bp (.sl 7) 0), (8, .rf (.sl 8) none 0 D.pts.length), (13, .bp (.sl 13) 0), (14, .rf (.sl 14) none 0 R.length), (58, .ro 2 (D.fcs.map fS)), (59, I D.fcs.length), (60, I i)], lookM [((.sl 4), some (.box z4)), ((.sl 7), some (.box [I D.w, I D.h, .rf (.ce 7 2) none 0 P.length, .rf (.ce 7 3) none 0 FA.length])), ((.sl 8), some (.arr 2 1 (Q.map iC))), ((.sl 13), some (.box [T f.1, .ro 1 (f.2.map iC)])), ((.sl 14), some (.arr 2 1 (R.map iC))), ((.ce 7 2), some (.arr 159 2 (P.map pC))), ((.ce 7 3), some (.arr 127 2 (FA.map fC)))]⟩)) =
      some (.nm, ⟨lookS [(4, .bp (.sl 4) 0), (7, .bp (.sl 7) 0), (8, .rf (.sl 8) none 0 D.pts.length), (13, .bp (.sl 13) 0), (14, .rf (.sl 14) none 0 r.length), (58, .ro 2 (D.fcs.map fS)), (59, I D.fcs.length), (60, I i)], lookM [((.sl 4), some (.box z4)), ((.sl 7), some (.box [I D.w, I D.h, .rf (.ce 7 2) none 0 P.length, .rf (.ce 7 3) none 0 FA.length])), ((.sl 8), some (.arr 2 1 (Q.map iC))), ((.sl 13), some (.box [T f.1, .ro 1 (f.2.map iC)])), ((.sl 14), some (.arr 2 1 (r.map iC))), ((.ce 7 2), some (.arr 159 2 (P.map pC))), ((.ce 7 3), some (.arr 127 2 (FA.map fC)))]⟩) := by
  intro n
  induction n with
  | zero =>
    intro R r hn hb hr
    have h1' : ¬ (1 : Int) < (R.length : Int) := by omega
    have : R = r := hr
    subst this
    rw [lp_step]
    simp [h1']
  | succ n ih =>
    intro R r hn hb hr
    simp only [trmL] at hr
    rw [lp_step]
    by_cases h1 : 1 < R.length
    · have h1' : (1 : Int) < (R.length : Int) := by omega
      obtain ⟨q, hq⟩ : ∃ q, R.length = q + 1 := ⟨R.length - 1, by omega⟩
      obtain ⟨x, hx⟩ := get_lt (l := R) (i := 0) (by omega)
      obtain ⟨y, hy⟩ := get_lt (l := R) (i := q) (by omega)
      have hx0 : R[0] = x := (List.getElem?_eq_some_iff.1 hx).2
      have hy0 : R[q] = y := (List.getElem?_eq_some_iff.1 hy).2
      have hw2 : IntKind.i64.wrap (q : Int) = (q : Int) := wrap_in (by simp only [big] at hb; omega)
      have e : trmC R = decide (x = y) := by
        unfold trmC
        rw [decide_eq_true h1, getD_of hx, show R.length - 1 = q by omega, getD_of hy]
        rfl
      have hT : (R.take q).length = q := by simp; omega
      have hTm : (R.map iC).take q = (R.take q).map iC := by rw [List.map_take]
      rw [e, show R.length - 1 = q by omega] at hr
      have hq1 : (0 : Int) < (q : Int) := by omega
      have hq2 : (0 : Int) ≤ (q : Int) := by omega
      have hq0 : 0 < q := by omega
      have hq3 : (0 : Int) < (q : Int) + 1 := by omega
      have hq4 : (q : Int) < (q : Int) + 1 := by omega
      have hq6 : (1 : Int) < (q : Int) + 1 := by omega
      have hq5 : (q : Int) ≤ (q : Int) + 1 := by omega
      by_cases hxy : x = y
      · subst hxy
        rw [decide_eq_true rfl] at hr
        simp only [ifb_t] at hr
        have ih' := ih (R.take q) r (by omega) (by omega) hr
        rw [hT, ← hTm] at ih'
        try simp at hx
        simp [hq, hq0, hq1, hq2, hq3, hq4, hq5, hq6, hx, hx0, hw2, hy, hy0, ih']
      · have hyx : ¬ y = x := fun q => hxy q.symm
        rw [decide_eq_false hxy] at hr
        simp only [ifb_f] at hr
        subst hr
        try simp at hx
        simp [hq, hq0, hq1, hq2, hq3, hq4, hq5, hq6, hx, hx0, hw2, hy, hy0, hxy, hyx]
    · have h1' : ¬ (1 : Int) < (R.length : Int) := by omega
      have e : trmC R = false := by unfold trmC; rw [decide_eq_false h1]; rfl
      rw [e] at hr
      simp only [ifb_f] at hr
      subst hr
      simp [h1']
theorem l50F (d : Nat) (D : Dr) (hb : BdN D) (Q : List Int) (hQl : Q.length = D.pts.length) (P : List Pt) (g : Int → Int) (hqa : ∀ f ∈ D.fcs, ∀ x ∈ f.2, 0 ≤ x ∧ x.toNat < D.pts.length ∧ Q[x.toNat]? = some (g x)) : ∀ (n i : Nat) (acc r : List Fc), n + i = D.fcs.length → acc ++ (D.fcs.drop i).map (kgm g) = r → acc.length = i → acc ≠ [] →
    clC [4, 7] [4, 5] (blk 2 (lp (evC (ev d) b50_2) (clean [4, 7, 8, 58, 59, 60]) ⟨lookS [(4, .bp (.sl 4) 0), (7, .bp (.sl 7) 0), (8, .rf (.sl 8) none 0 D.pts.length), (58, .ro 2 (D.fcs.map fS)), (59, I D.fcs.length), (60, I i)], lookM [((.sl 4), some (.box z4)), ((.sl 7), some (.box [I D.w, I D.h, .rf (.ce 7 2) none 0 P.length, .rf (.ce 7 3) none 0 acc.length])), ((.sl 8), some (.arr 2 1 (Q.map iC))), ((.ce 7 2), some (.arr 159 2 (P.map pC))), ((.ce 7 3), some (.arr 127 2 (acc.map fC)))]⟩)) =
      some (.nm, ⟨lookS [(4, .bp (.sl 4) 0), (7, .bp (.sl 7) 0)], lookM [((.sl 4), some (.box z4)), ((.sl 7), some (.box [I D.w, I D.h, .rf (.ce 7 2) none 0 P.length, .rf (.ce 7 3) none 0 r.length])), ((.ce 7 2), some (.arr 159 2 (P.map pC))), ((.ce 7 3), some (.arr 127 2 (r.map fC)))]⟩) := by
  intro n
  induction n with
  | zero =>
    intro i acc r hi hr ha hne
    have h0 : ¬ (i : Int) < (D.fcs.length : Int) := by omega
    rw [List.drop_eq_nil_of_le (by omega), List.map_nil, List.append_nil] at hr
    subst hr
    rw [lp_step]
    simp [h0]
  | succ n ih =>
    intro i acc r hi hr ha hne
    have hlt : i < D.fcs.length := by omega
    have h0 : (i : Int) < (D.fcs.length : Int) := by omega
    have hfb := hb.fcs
    obtain ⟨f, hf⟩ := get_lt hlt
    have hm := List.mem_of_getElem? hf
    have hrb := hb.ring f hm
    have hdl := ddp_len (f.2.map g) []
    simp at hdl
    have hw := wrap_nat (i := i) (by simp only [big] at hfb; omega)
    have hb2 : acc.length + 1 ≤ big := by omega
    have key := l50RA d D hb Q hQl P i f hf acc g (hqa f hm) f.2.length 0 [] _ (by omega) rfl (Nat.le_refl _)
    rw [List.drop_zero] at key
    have keyT := l50TA d D hb Q hQl P i f hf acc (ddp [] (f.2.map g)).length (ddp [] (f.2.map g)) (onceL (f.2.map g)) (Nat.le_refl _) (by omega) rfl
    have hol := onceL_len (f.2.map g)
    rw [List.length_map] at hol
    obtain ⟨O, hO⟩ : ∃ O, O = onceL (f.2.map g) := ⟨_, rfl⟩
    rw [← hO] at keyT hol
    have hol2 : O.length ≤ big := by omega
    generalize ddp [] (f.2.map g) = A at key keyT
    have ih' := ih (i + 1) (acc ++ [(f.1, O)]) r (by omega) (by rw [drop_get hf] at hr; rw [List.append_assoc, hO]; exact hr) (by simp; omega) (by simp)
    simp only [Int.natCast_add, Int.cast_ofNat_Int] at ih'
    simp at ih' key
    rw [lp_step]
    simp [h0, hf, key, keyT, hol2, hw, hb2, fillU, adsOf, List.mapM_cons, ih']
theorem r50 (d : Nat) (D : Dr) (hb : BdN D) (u : Int) : ev (d + 8) 50 [.ag (dV D), I u] = some (.tu [oM (mgOf D u).1, I (mgOf D u).2], []) := by
  rw [s50 (d + 7) _ rfl]
  have c1 := r131 d D hb u
  unfold mgOf
  by_cases h0 : tolc D u = 0
  case neg =>
    rw [decide_eq_false h0]
    simp [c1, h0, oM]
  rw [decide_eq_true h0]
  rw [h0] at c1
  have hok := tolc_ok h0
  simp only [ifb_t]
  obtain ⟨_, _, _, _, hAt⟩ := merge_law u D.pts
  have bT := mgD_b hb u
  have nT := mgD_n (u := u) hok
  have c3 := mM93 d (mgD D u) bT nT
  have eo : ifb (drOk (mgD D u)) (some (mgD D u), (0 : Int)) (none, 6) = ckO (mgD D u) := rfl
  rw [eo]
  by_cases hP : D.pts = []
  · have hF := dr_nil hok hP
    have e1 : (mgD D u).pts = [] := by unfold mgD; rw [hP]; rfl
    have e2 : (mgD D u).fcs = [] := by unfold mgD; rw [hF]; rfl
    have e3 : dA (mgD D u) .nl .nl = [I D.w, I D.h, .nl, .nl] := rfl
    have eo2 : ckO (mgD D u) = (some (mgD D u), 0) := by unfold ckO; rw [(nT e1).2]; rfl
    rw [eo2] at c3 ⊢
    simp only [oM, e1, e2, pOm, fO, e3] at c3 ⊢
    have hl0 : D.pts.length = 0 := by rw [hP]; rfl
    simp [c1]
    rw [lp_step]
    simp [hP]
    rw [lp_step]
    simp [hF, c3]
  have key := l50C (d + 1) D u hb (dr_okP hok) hP _ _ rfl rfl
  have hQl : (mgP u D.pts []).length = D.pts.length := by
    have : ∀ (ps K : List Pt), (mgP u ps K).length = ps.length := by
      intro ps
      induction ps with
      | nil => intro K; rfl
      | cons p ps ih => intro K; simp [mgP, ih]
    exact this _ _
  have hqa : ∀ f ∈ D.fcs, ∀ x ∈ f.2, 0 ≤ x ∧ x.toNat < D.pts.length ∧ (mgP u D.pts [])[x.toNat]? = some (gM D u x) := fun f hf x hx => by
    obtain ⟨x0, x1⟩ := ring_in hb hok f hf x hx
    obtain ⟨s, s1, s2, s3, m, s4⟩ := hAt x.toNat x1
    exact ⟨x0, x1, by rw [s4, gM_at s4 rfl]⟩
  have hPn : mgK u D.pts [] ≠ [] := mgK_ne hP
  obtain ⟨PP, hPP⟩ : ∃ PP, PP = mgK u D.pts [] := ⟨_, rfl⟩
  obtain ⟨FF, hFF⟩ : ∃ FF, FF = D.fcs.map (kgm (gM D u)) := ⟨_, rfl⟩
  have eT : mgD D u = ⟨D.w, D.h, PP, FF⟩ := by rw [hPP, hFF]; rfl
  rw [eT] at c3 ⊢
  rw [← hPP] at key hPn
  generalize gM D u = g at hqa hFF
  generalize mgP u D.pts [] = Q at key hQl hqa
  have pe := pOm_ne hPn
  rw [hQl] at key
  generalize ckO ⟨D.w, D.h, PP, FF⟩ = o at c3 ⊢
  obtain ⟨o, c⟩ := o
  by_cases hF : D.fcs = []
  · have e2 : FF = [] := by rw [hFF, hF]; rfl
    subst e2
    simp only [pe, fO] at c3
    cases o with
    | none =>
      simp only [oM] at c3 ⊢
      try simp at c3
      try simp at key
      simp [c1, key]
      rw [lp_step]
      simp [hF, c3]
    | some T =>
      simp only [oM] at c3 ⊢
      cases hqp : T.pts <;> cases hqf : T.fcs <;> rw [hqp, hqf] at c3 <;> simp only [pOm, fO] at c3 ⊢ <;> (try simp at c3) <;> (try simp at key) <;> simp [c1, key] <;> rw [lp_step] <;> simp [hF, c3]
  · have hFn : FF ≠ [] := by rw [hFF]; simpa using hF
    obtain ⟨f, F, hD⟩ : ∃ f F, D.fcs = f :: F := by
      cases h : D.fcs with
      | nil => exact absurd h hF
      | cons f F => exact ⟨f, F, rfl⟩
    have hf : D.fcs[0]? = some f := by rw [hD]; rfl
    have hm := List.mem_of_getElem? hf
    have hrb := hb.ring f hm
    have hdl := ddp_len (f.2.map g) []
    simp at hdl
    have key0 := l50R0 (d + 7) D hb Q hQl PP 0 f hf [] g (hqa f hm) f.2.length 0 [] _ (by omega) rfl (Nat.le_refl _)
    rw [List.drop_zero] at key0
    have keyT := l50T0 (d + 7) D hb Q hQl PP 0 f hf [] (ddp [] (f.2.map g)).length (ddp [] (f.2.map g)) (onceL (f.2.map g)) (Nat.le_refl _) (by omega) rfl
    have hol := onceL_len (f.2.map g)
    rw [List.length_map] at hol
    obtain ⟨O, hO⟩ : ∃ O, O = onceL (f.2.map g) := ⟨_, rfl⟩
    rw [← hO] at keyT hol
    have hol2 : O.length ≤ big := by omega
    have keyF := l50F (d + 7) D hb Q hQl PP g hqa F.length 1 [(f.1, O)] FF (by rw [hD]; simp) (by rw [hFF, hD, hO]; rfl) rfl (by simp)
    generalize ddp [] (f.2.map g) = A at key0 keyT
    have hb1 : 1 ≤ big := by simp [big]
    have w1 : IntKind.i64.wrap 1 = 1 := by decide
    have hpos : 0 < D.fcs.length := List.length_pos_iff.2 hF
    have hpos2 : (0 : Int) < (D.fcs.length : Int) := by omega
    have hx0 : D.fcs[0] = f := (List.getElem?_eq_some_iff.1 hf).2
    have fe := fO_ne hFn
    rw [pe, fe] at c3
    simp at key0 keyF key keyT
    cases o with
    | none =>
      simp only [oM] at c3 ⊢
      try simp at c3
      simp [c1, key]
      rw [lp_step]
      simp [hpos, hpos2, hx0, key0, keyT, hb1, hol2, w1, fillU, adsOf, List.mapM_cons, keyF, c3]
    | some T =>
      simp only [oM] at c3 ⊢
      cases hqp : T.pts <;> cases hqf : T.fcs <;> rw [hqp, hqf] at c3 <;> simp only [pOm, fO] at c3 ⊢ <;> (try simp at c3) <;> simp [c1, key] <;> rw [lp_step] <;> simp [hpos, hpos2, hx0, key0, keyT, hb1, hol2, w1, fillU, adsOf, List.mapM_cons, keyF, c3]
set_option linter.unusedSimpArgs false
set_option linter.unusedVariables false
theorem mgOf_b {D : Dr} (hb : BdN D) (u : Int) {T : Dr} (h : (mgOf D u).1 = some T) : BdN T ∧ totF T.fcs ≤ 100000 ∧ (T.pts = [] → T.fcs = []) := by
  unfold mgOf at h
  by_cases h0 : tolc D u = 0
  · rw [decide_eq_true h0] at h
    cases ho : drOk (mgD D u)
    · rw [ho] at h; cases h
    · rw [ho] at h
      simp only [ifb_t, Option.some.injEq] at h
      subst h
      exact ⟨mgD_b hb u, totF_ok ho, fun e => (mgD_n (tolc_ok h0) e).1⟩
  · rw [decide_eq_false h0] at h; cases h
set_option maxHeartbeats 4000000 in
theorem r9 (d : Nat) (w h : Int) (pts : List Pt) (fcs : List (Fc × Bool)) (hp : pts.length ≤ maxLen) (hf : fcs.length ≤ maxLen) (hw : ∀ q ∈ fcs, WfF q) {x y : LV} (hx : SV 2 (pts.map pC) x) (hy : SV 2 (fcs.map fI) y) (u : Int) :
    ev (d + 9) 9 [.ag [I w, I h, x, y], I u] = some (B true, []) := by
  rw [s9 (d + 8) _ rfl]
  obtain ⟨k1, h1, s1⟩ := r21 (d + 4) w h pts fcs hp hf hw 1048576 (by omega) hx hy
  by_cases g1 : k1 < 0
  · rcases hx with rfl | ⟨rfl, _⟩ <;> rcases hy with rfl | ⟨rfl, _⟩ <;> simp [h1, g1]
  obtain ⟨_, b1, b2, b3⟩ := s1 (by omega)
  have bD : BdN ⟨w, h, pts, fcs.map (·.1)⟩ := ⟨⟨b1, by simpa using b2, fun f hf => by
    obtain ⟨q, hq, rfl⟩ := List.mem_map.1 hf
    exact (b3 q hq).1⟩, fun f hf => by
    obtain ⟨q, hq, rfl⟩ := List.mem_map.1 hf
    exact (b3 q hq).2⟩
  have t1 := r23 (d + 4) w h pts fcs b1 b2 (fun q hq => ⟨(b3 q hq).1, (hw q hq).nil⟩) hx hy
  have f1 := r49 (d + 0) _ bD u
  have f2 := r50 (d + 0) _ bD u
  have e1 := r25 (d + 4) _ bD.toBdD
  obtain ⟨km, ps, rows, hps, hrows, hm⟩ := v26' _ bD.toBdD
  have hm := hm (d + 4)
  have n1 : fcs.length = (fcs.map (·.1)).length := by simp
  have hkm : ¬ (km : Int) < 0 := by omega
  generalize hD : (⟨w, h, pts, fcs.map (·.1)⟩ : Dr) = D at f1 f2 e1 hm hps hrows bD
  have hbd := fun T => mgOf_b bD u (T := T)
  have hDp : D.pts = pts := by rw [← hD]
  have hDw : D.w = w := by rw [← hD]
  have hDh : D.h = h := by rw [← hD]
  have hDf : D.fcs = fcs.map (·.1) := by rw [← hD]
  simp only [dV, dA, hDw, hDh, hDp, hDf] at f1 f2 e1 hm hps hrows
  generalize fcs.map (·.1) = lf at t1 f1 f2 e1 hm hrows n1
  generalize mgOf D u = oc at f1 f2 hbd
  obtain ⟨o, c⟩ := oc
  cases o with
  | none =>
    have q2 := r25z (d + 4)
    have q3 := v26xz (d + 4)
    have q4 := r27z (d + 4)
    simp [oM] at f1 f2
    rcases hx with rfl | ⟨rfl, _⟩ <;> rcases hy with rfl | ⟨rfl, _⟩ <;> simp [h1, g1, t1, f1, f2, e1, q2, q3, q4, hm, hkm, hps, hrows, n1]
  | some T =>
    obtain ⟨bT, tT, nT⟩ := hbd T rfl
    have q5 : ¬ (mkD T : Int) < 0 := by omega
    simp only [oM] at f1 f2
    have bTp := bT.pts
    have bTf := bT.fcs
    by_cases hTp : T.pts = []
    · have q2 := r25w (d + 4) T.w T.h
      have q3 := v26xw (d + 4) T.w T.h
      have q4 := r27w (d + 4) T.w T.h
      rw [nT hTp, hTp] at f1 f2
      simp only [fO, pOm] at f1 f2
      rcases hx with rfl | ⟨rfl, _⟩ <;> rcases hy with rfl | ⟨rfl, _⟩ <;> simp [h1, g1, t1, f1, f2, e1, q2, q3, q4, hm, hkm, hps, hrows, n1]
    rw [pOm_ne hTp] at f1 f2
    by_cases hT : T.fcs = []
    · have q2 := r25n (d + 4) T bT.pts
      have q3 := v26xn (d + 4) T bT.toBdD hT
      have q4 := r27n (d + 4) T bT.toBdD hT
      rw [hT] at f1 f2
      simp only [fO] at f1 f2
      rcases hx with rfl | ⟨rfl, _⟩ <;> rcases hy with rfl | ⟨rfl, _⟩ <;> simp [h1, g1, t1, f1, f2, e1, q2, q3, q4, q5, hm, hkm, hps, hrows, n1]
    · have q2 := r25 (d + 4) T bT.toBdD
      have q3 := v26x (d + 4) T bT.toBdD (by omega)
      have q4 := r27 (d + 4) T bT.toBdD (by omega)
      rw [fO_ne hT] at f1 f2
      rcases hx with rfl | ⟨rfl, _⟩ <;> rcases hy with rfl | ⟨rfl, _⟩ <;> simp [h1, g1, t1, f1, f2, e1, q2, q3, q4, q5, hm, hkm, hps, hrows, n1]
end Go.Proofs.Ytejffoibihbnnaa.walkS
