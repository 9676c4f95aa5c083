/- The row SpeciesUsed; no conditions. -/
import Derived.Test.YthnkioafikmmaaaGreatWMp
import Derived.Test.YthnkioafikmmaaaGreatWScs
import Derived.Test.YthnkioafikmmaaaGreatWMark2
namespace Go.Proofs.YthnkioafikmmaaaGreat.walkS
open Go Go.Proofs.YthnkioafikmmaaaGreat.Ev
set_option linter.unusedSimpArgs false
set_option linter.unusedVariables false
noncomputable def mS (k : Nat) : List Cell := S (mtx k)
theorem S_shut (b : ByteArray) : (S b).map shutC = S b := rfl
theorem shut_S (l : List ByteArray) : shut (l.map S) = l.map S := shut_map S_shut l
theorem mS_shutU (k n : Nat) : shut (markL mS 1 k n) = markL mS 1 k n := markL_shut (fun _ => rfl) 1 n k
theorem mS_takeU (c k n : Nat) : (markL mS c k n).take n = markL mS c k n := List.take_of_length_le (by simp [markL_len])
attribute [simp high] shut_S
attribute [simp] mS_shutU mS_takeU
theorem l13 (d : Nat) (l : List ByteArray) (k : Nat) (h1 : 1 ≤ k) (hb : k + 1 * l.length ≤ 4611686018427387904) : ∀ (n i : Nat), n + i = l.length →
    clC [1, 100000] [4, 100000] (blk 0 (lp (evC (ev (d + 1)) b13_1) (clean [0, 1, 5, 100000]) ⟨lookS [(0, .rf (.sl 0) none 0 l.length), (1, I (k + 1 * (i : Int))), (5, I i), (100000, .rf (.sl 0) none 0 l.length)], lookM [(.sl 0, some (.arr 9 1 (mfill mS 1 S l k i)))]⟩)) =
      some (.nm, ⟨lookS [(1, I (k + 1 * (l.length : Int))), (100000, .rf (.sl 100000) none 0 l.length)], lookM [(.sl 100000, some (.arr 9 1 (markL mS 1 k l.length)))]⟩) := by
  intro n
  induction n with
  | zero =>
    intro i hi
    have h0 : ¬ (i : Int) < (l.length : Int) := by omega
    have he : i = l.length := by omega
    subst he
    rw [lp_step, mfill_end]
    simp [h0]
  | succ n ih =>
    intro i hi
    have hlt : i < l.length := by omega
    have h0 : (i : Int) < (l.length : Int) := by omega
    obtain ⟨x, hx⟩ := get_lt hlt
    have hs := mfill_set (f := mS) (c := 1) (C := S) (k := k) hlt
    have hg := mfill_get (f := mS) (c := 1) (C := S) (k := k) hx
    have hl : ∀ a, ((mfill mS 1 S l k i).set i a)[i]? = some a := fun a => List.getElem?_set_self (by rw [mfill_len (by omega)]; exact hlt)
    have hw := wrap_nat (i := i) (by omega)
    have e1 : ((k + 1 * i : Nat) : Int) = (k : Int) + 1 * (i : Int) := by omega
    have e2 : (k : Int) + 1 * ((i + 1 : Nat) : Int) = (k : Int) + 1 * (i : Int) + 1 := by omega
    have k0 : IntKind.i64.wrap ((k : Int) + (i : Int) + 1) = (k : Int) + (i : Int) + 1 := wrap_in (by omega)
    have m0 := r34 d (k + 1 * i) (by omega) (by omega)
    rw [e1] at m0
    simp at m0
    have ih' := ih (i + 1) (by omega)
    rw [← hs, e2] at ih'
    simp only [mS] at ih' hg
    simp at ih' hg
    rw [lp_step]
    simp [h0, hg, hl, hw, k0, m0, ih']
theorem v13' (d : Nat) (l : List ByteArray) (k : Nat) (h1 : 1 ≤ k) (hb : k + 1 * l.length ≤ 4611686018427387904) : ev (d + 2) (wrN + 13) [.ow 9 1 (l.map S), I k] =
    some (I (k + 1 * (l.length : Int)), [.ow 9 1 (markL mS 1 k l.length), I k]) := by
  rw [v13 (d + 1) (start_ow _ _ 0 _ _) rfl]
  have key := l13 d l k h1 hb l.length 0 (by omega)
  rw [← mfill_zero] at key
  simp at key
  simp [key, markL_len]
theorem v13'n (d : Nat) (k : Nat) : ev (d + 1) (wrN + 13) [.nl, I k] = some (I k, [.nl, I k]) := by
  rw [v13 d (start_nl _) rfl]
  simp
  rw [lp_step]
  simp
theorem l14 (d m : Nat) (k : Nat) (h1 : 1 ≤ k) (hb : k + 1 * m ≤ 4611686018427387904) : ∀ (n i : Nat), n + i = m →
    clC [1] [4] (blk 0 (lp (evC (ev (d + 1)) b14_1) (clean [0, 1, 5]) ⟨lookS [(0, .ro 1 (markL mS 1 k m)), (1, I (k + 1 * (i : Int))), (5, I i)], lookM []⟩)) =
      some (.nm, ⟨lookS [(1, I (k + 1 * (m : Int)))], lookM []⟩) := by
  intro n
  induction n with
  | zero =>
    intro i hi
    have he : i = m := by omega
    subst he
    rw [lp_step]
    simp [markL_len]
  | succ n ih =>
    intro i hi
    have h0 : (i : Int) < (m : Int) := by omega
    have hg := markL_get mS 1 m k i (by omega)
    have hw := wrap_nat (i := i) (by omega)
    have e1 : ((k + 1 * i : Nat) : Int) = (k : Int) + 1 * (i : Int) := by omega
    have e2 : (k : Int) + 1 * ((i + 1 : Nat) : Int) = (k : Int) + 1 * (i : Int) + 1 := by omega
    have k0 : IntKind.i64.wrap ((k : Int) + (i : Int) + 1) = (k : Int) + (i : Int) + 1 := wrap_in (by omega)
    have m0 := r34 d (k + 1 * i) (by omega) (by omega)
    rw [e1] at m0
    simp at m0
    have ih' := ih (i + 1) (by omega)
    rw [e2] at ih'
    simp only [mS] at hg
    simp at ih' hg
    rw [lp_step]
    simp [h0, hg, hw, k0, m0, markL_len, ih']
theorem r14 (d m : Nat) (k : Nat) (h1 : 1 ≤ k) (hb : k + 1 * m ≤ 4611686018427387904) {x : LV} (hx : SV 1 (markL mS 1 k m) x) : ev (d + 2) 14 [x, I k] = some (I (k + 1 * (m : Int)), []) := by
  rw [s14 (d + 1) _ rfl]
  rcases hx with rfl | ⟨rfl, h⟩
  · have key := l14 d m k h1 hb m 0 (by omega)
    simp at key
    simp [key]
  · have hm : m = 0 := by have := congrArg List.length h; simpa [markL_len] using this
    subst hm
    simp
    rw [lp_step]
    simp
theorem l10 (d : Nat) (l : List ByteArray) (hb : l.length ≤ big) : ∀ (n i : Nat), n + i = l.length →
    clC [] [4] (blk 0 (lp (evC (ev d) b10_1) (clean [0, 1, 5]) ⟨lookS [(0, .ro 1 (l.map S)), (1, .ro 1 (l.map S)), (5, I i)], lookM []⟩)) = some (.nm, ⟨lookS [], lookM []⟩) := by
  intro n
  induction n with
  | zero =>
    intro i hi
    have h0 : ¬ (i : Int) < (l.length : Int) := by omega
    rw [lp_step]
    simp [h0]
  | succ n ih =>
    intro i hi
    have hlt : i < l.length := by omega
    have h0 : (i : Int) < (l.length : Int) := by omega
    obtain ⟨x, hx⟩ := get_lt hlt
    have hw := wrap_nat (i := i) (by simp [big] at hb; omega)
    have ih' := ih (i + 1) (by omega)
    simp at ih'
    rw [lp_step]
    simp [h0, hx, hw, ih']
theorem r10 (d : Nat) (l : List ByteArray) (hb : l.length ≤ big) : ev (d + 1) 10 [.ro 1 (l.map S), .ro 1 (l.map S)] = some (B true, []) := by
  rw [s10 d _ rfl]
  have key := l10 d l hb l.length 0 (by omega)
  simp at key
  simp [key]
theorem r10n (d : Nat) : ev (d + 1) 10 [.nl, .nl] = some (B true, []) := by
  rw [s10 d _ rfl]
  simp
  rw [lp_step]
  simp
theorem place_mem {s : ByteArray} : ∀ {l : List ByteArray} {i : Nat}, place s i l ≠ -1 → s ∈ l := by
  intro l
  induction l with
  | nil => intro i h; exact absurd rfl h
  | cons x l ih =>
    intro i h
    simp only [place] at h
    split at h
    · rename_i e; rw [e]; simp
    · exact List.mem_cons_of_mem _ (ih h)
theorem ok_name {v : Vn} (h : okVn v = true) : v.1 ∈ names := by
  refine place_mem (i := 0) fun q => ?_
  rcases found v.1 with ⟨_, h2⟩ | ⟨k, r, h1, _, _⟩
  · unfold okVn okS at h
    rw [h2] at h
    simp at h
  · rw [h1] at q
    omega
/-- the species of some veneers -/
def suU (vs : List Vn) (x : ByteArray) : Bool := vs.any fun v => decide (v.1 = x)
def suL (vs : List Vn) : List ByteArray := names.filter (suU vs)
theorem names_pw : names.Pairwise (fun x y => Op.bytesLess x.toList y.toList = true) := by decide +kernel
theorem su_law {vs : List Vn} (h : vs.all okVn = true) : compB (sortB (vs.map (·.1))) = suL vs := by
  refine uniqB_law (names_pw.filter _) fun z => ?_
  unfold suL suU
  rw [List.mem_filter, List.any_eq_true, List.mem_map]
  constructor
  · rintro ⟨_, v, hv, e⟩
    exact ⟨v, hv, by simpa using e⟩
  · rintro ⟨v, hv, rfl⟩
    exact ⟨ok_name (List.all_eq_true.1 h v hv), v, hv, by simp⟩
theorem suL_len (vs : List Vn) : (suL vs).length ≤ 10 := by
  have := List.length_filter_le (suU vs) names
  exact Nat.le_trans this (by decide)
def suO (Q : Pi) : Option (List ByteArray) × Int := ifb (okPi Q) (some (suL Q.vs), 0) (none, 1)
def oS (x : Option (List ByteArray)) : LV := match x with | some l => .ow 9 1 (l.map S) | none => .nl
theorem l7_2 (d : Nat) (Q : Pi) (hv : Q.vs.length ≤ big) (acc : List ByteArray) (i : Nat) (x : ByteArray) (hx : names[i]? = some x) : ∀ (n k : Nat) (u : Bool), n + k = Q.vs.length →
    clC [1, 4, 5, 6, 7] [2, 3] (blk 2 (lp (evC (ev d) b7_2) (clean [1, 4, 5, 6, 7, 8]) ⟨lookS [(1, .bp (.sl 1) 0), (4, .rf (.sl 4) none 0 acc.length), (5, .rf (.sl 5) none 0 10), (6, I i), (7, B u), (8, I k)], lookM [((.sl 1), some (.box (qV Q))), ((.sl 4), some (.arr 9 1 (acc.map S))), ((.sl 5), some (.arr 9 1 (names.map S)))]⟩)) = some (.nm, ⟨lookS [(1, .bp (.sl 1) 0), (4, .rf (.sl 4) none 0 acc.length), (5, .rf (.sl 5) none 0 10), (6, I i), (7, B (u || suU (Q.vs.drop k) x))], lookM [((.sl 1), some (.box (qV Q))), ((.sl 4), some (.arr 9 1 (acc.map S))), ((.sl 5), some (.arr 9 1 (names.map S)))]⟩) := by
  intro n
  have hxi : (i : Int) < 10 := by
    have h1 : i < names.length := (List.getElem?_eq_some_iff.1 hx).1
    have h2 : names.length = 10 := rfl
    omega
  induction n with
  | zero =>
    intro k u hk
    have h0 : ¬ (k : Int) < (Q.vs.length : Int) := by omega
    rw [List.drop_eq_nil_of_le (by omega), lp_step]
    simp [h0, suU]
  | succ n ih =>
    intro k u hk
    have hlt : k < Q.vs.length := by omega
    have h0 : (k : Int) < (Q.vs.length : Int) := by omega
    obtain ⟨v, hv2⟩ := get_lt hlt
    have hw := wrap_nat (i := k) (by simp only [big] at hv; omega)
    have ih' := ih (k + 1) (u || decide (v.1 = x)) (by omega)
    have e : (u || suU (Q.vs.drop k) x) = (u || decide (v.1 = x) || suU (Q.vs.drop (k + 1)) x) := by
      rw [drop_get hv2]
      simp [suU, Bool.or_assoc]
    rw [e, lp_step]
    cases u
    · cases hd : decide (v.1 = x) <;> rw [hd] at ih' <;> simp at ih' hd <;> simp [h0, hv2, hx, hxi, hw, hd, ih']
    · simp at ih'
      simp [h0, hv2, hx, hw, ih']
theorem l7 (d : Nat) (Q : Pi) (hv : Q.vs.length ≤ big) : ∀ (n i : Nat) (acc r : List ByteArray), n + i = 10 → acc.length ≤ i → acc ++ (names.drop i).filter (suU Q.vs) = r →
    clC [4] [2, 3] (blk 0 (lp (evC (ev d) b7_1) (clean [1, 4, 5, 6]) ⟨lookS [(1, .bp (.sl 1) 0), (4, .rf (.sl 4) none 0 acc.length), (5, .rf (.sl 5) none 0 10), (6, I i)], lookM [((.sl 1), some (.box (qV Q))), ((.sl 4), some (.arr 9 1 (acc.map S))), ((.sl 5), some (.arr 9 1 (names.map S)))]⟩)) = some (.nm, ⟨lookS [(4, .rf (.sl 4) none 0 r.length)], lookM [((.sl 4), some (.arr 9 1 (r.map S)))]⟩) := by
  intro n
  induction n with
  | zero =>
    intro i acc r hi ha hr
    have h0 : ¬ (i : Int) < 10 := by omega
    rw [List.drop_eq_nil_of_le (by show 10 ≤ i; omega)] at hr
    have hr : acc = r := by simpa using hr
    subst hr
    rw [lp_step]
    simp [h0]
  | succ n ih =>
    intro i acc r hi ha hr
    have h0 : (i : Int) < 10 := by omega
    obtain ⟨x, hx⟩ := get_lt (show i < names.length by show i < 10; omega)
    have hw := wrap_nat (i := i) (by omega)
    have k2 := l7_2 d Q hv acc i x hx Q.vs.length 0 false (by omega)
    rw [List.drop_zero, Bool.false_or] at k2
    rw [drop_get hx, List.filter_cons] at hr
    have hb : acc.length + 1 ≤ big := by simp only [big]; omega
    rw [lp_step]
    cases hu : suU Q.vs x
    · rw [hu] at k2 hr
      have ih' := ih (i + 1) acc r (by omega) (by omega) (by simpa using hr)
      simp at ih' k2
      simp [h0, hx, hw, k2, ih']
    · rw [hu] at k2 hr
      have ih' := ih (i + 1) (acc ++ [x]) r (by omega) (by simp; omega) (by rw [List.append_assoc]; simpa using hr)
      simp at ih' k2
      simp [h0, hx, hw, hb, k2, ih']
theorem r7 (d : Nat) (Q : Pi) (hb : BdN Q.d) (hv : Q.vs.length ≤ big) : ev (d + 8) 7 [.ag (qV Q)] = some (.tu [oS (suO Q).1, I (suO Q).2], []) := by
  rw [s7 (d + 7) _ rfl]
  have c1 := r26 d Q hb hv
  unfold suO
  cases h : okPi Q
  · rw [h] at c1
    simp [c1, oS]
  · rw [h] at c1
    have c2 := r27 (d + 6)
    have key := l7 (d + 7) Q hv 10 0 [] (suL Q.vs) (by omega) (by simp) rfl
    have hn : names.length = 10 := rfl
    simp at key
    simp [c1, c2, hn, key, oS]
theorem l9 (d : Nat) (vs : List Vn) (hv : vs.length ≤ 2000000) : ∀ (n i : Nat) (acc r : List ByteArray), n + i = vs.length → acc.length = i → acc ++ (vs.drop i).map (·.1) = r →
    clC [4] [2, 3] (blk 0 (lp (evC (ev d) b9_1) (clean [4, 12, 13, 14]) ⟨lookS [(4, .rf (.sl 4) none 0 acc.length), (12, .ro 3 (vs.map vC)), (13, I vs.length), (14, I i)], lookM [((.sl 4), some (.arr 9 1 (acc.map S)))]⟩)) = some (.nm, ⟨lookS [(4, .rf (.sl 4) none 0 r.length)], lookM [((.sl 4), some (.arr 9 1 (r.map S)))]⟩) := by
  intro n
  induction n with
  | zero =>
    intro i acc r hi ha hr
    have h0 : ¬ (i : Int) < (vs.length : Int) := by omega
    rw [List.drop_eq_nil_of_le (by omega), List.map_nil, List.append_nil] at hr
    subst hr
    rw [lp_step]
    simp [h0]
  | succ n ih =>
    intro i acc r hi ha hr
    have hlt : i < vs.length := by omega
    have h0 : (i : Int) < (vs.length : Int) := by omega
    obtain ⟨c, hc⟩ := get_lt hlt
    have hw := wrap_nat (i := i) (by omega)
    have hb2 : acc.length + 1 ≤ big := by simp only [big]; omega
    rw [drop_get hc, List.map_cons] at hr
    have ih' := ih (i + 1) (acc ++ [c.1]) r (by omega) (by simp; omega) (by rw [List.append_assoc]; exact hr)
    simp at ih'
    rw [lp_step]
    simp [h0, hc, hw, hb2, ih']
theorem p30 (d : Nat) (zs : List ByteArray) (h : zs.length ≤ big) : ev d (wrN + 30) [.ow 9 1 (zs.map S)] = some (.tu [], [.ow 9 1 ((sortB zs).map S)]) := by
  rw [q30W]
  exact prim_sortS _ zs h
theorem p31 (d : Nat) (zs : List ByteArray) (h : zs.length ≤ big) : ev d (mvN + 31) [.ow 9 1 (zs.map S)] = some (.ow 9 1 ((compB zs).map S), [.un]) := by
  rw [q31M]
  exact prim_compactS _ zs h
theorem r9 (d : Nat) (Q : Pi) (hb : BdN Q.d) (hv : Q.vs.length ≤ big) : ev (d + 9) 9 [.ag (qV Q)] = some (.tu [oS (suO Q).1, I (suO Q).2], []) := by
  rw [s9 (d + 8) _ rfl]
  have c1 := r29 d Q hb hv
  unfold suO
  cases h : okPi Q
  · rw [h] at c1
    simp [c1, oS]
  rw [h] at c1
  have h' := h
  simp only [okPi, Bool.and_eq_true, decide_eq_true_eq] at h'
  obtain ⟨ho, hl, hok⟩ := h'
  have h24 : Q.d.fcs.length ≤ 24 := by
    simp only [drOk, Bool.and_eq_true, decide_eq_true_eq] at ho
    exact ho.2.2.2.2.1
  have key := l9 (d + 8) Q.vs (by omega) Q.vs.length 0 [] (Q.vs.map (·.1)) (by omega) rfl (by rw [List.drop_zero]; rfl)
  have hlen : (Q.vs.map (·.1)).length = Q.vs.length := List.length_map _
  have p1 := p30 (d + 8) (Q.vs.map (·.1)) (by rw [hlen]; simp only [big]; omega)
  have hs := sortB_len (Q.vs.map (·.1))
  have p2 := p31 (d + 8) (sortB (Q.vs.map (·.1))) (by rw [hs, hlen]; simp only [big]; omega)
  rw [su_law hok] at p2
  generalize Q.vs.map (·.1) = zs at key p1 p2 hs hlen
  generalize sortB zs = ys at p1 p2 hs
  simp at key
  simp [c1, key, p1, p2, hs, oS]
set_option maxHeartbeats 2000000 in
theorem r3 (d : Nat) (p : Pin) {x y z : LV} (w : WfP p x y z) : ev (d + 10) 3 [.ag (pA p x y z)] = some (B true, []) := by
  rw [s3 (d + 9) _ rfl]
  obtain ⟨k1, h1, s1⟩ := r6 (d + 4) p w 1048576 (by omega)
  obtain ⟨bx, ex⟩ := SV.sv w.x
  obtain ⟨by', ey⟩ := SV.sv w.y
  obtain ⟨bz, ez⟩ := SV.sv w.z
  by_cases g1 : k1 < 0
  · subst ex ey ez
    simp [h1, g1]
  obtain ⟨q1, bp⟩ := s1 (by omega)
  have t1 := r8 (d + 4) p.w p.h p.pts p.fcs p.vs bp.pts bp.fcs (fun q hq => ⟨bp.ring q hq, (w.face q hq).nil⟩) bp.vs w.x w.y w.z
  have f1 := r7 (d + 1) (pOf p) bp.n bp.vs
  have f2 := r9 d (pOf p) bp.n bp.vs
  have e1 := r11 (d + 4) (pOf p) bp.d bp.vs
  obtain ⟨km, ps, rows, vrs, hps, hrows, hvrs, hm⟩ := v12' (pOf p) bp.d bp.vs
  have hm := hm (d + 4)
  have hkm : ¬ (km : Int) < 0 := by omega
  have n1 : p.fcs.length = (p.fcs.map (·.1)).length := by simp
  have hbd : ∀ ws, (suO (pOf p)).1 = some ws → ws.length ≤ 10 := fun ws hws => by
    unfold suO at hws
    cases h : okPi (pOf p)
    · rw [h] at hws; cases hws
    · rw [h] at hws
      simp at hws
      rw [← hws]
      exact suL_len _
  generalize suO (pOf p) = oc at f1 f2 hbd
  obtain ⟨o, c⟩ := oc
  simp only [pOf, qV, qO] at f1 f2 e1 hm hps hrows hvrs
  generalize p.fcs.map (·.1) = lp at t1 f1 f2 e1 n1 hm hrows
  cases o with
  | none =>
    have q2 := r10n (d + 8)
    have q3 := v13'n (d + 8) 1
    have q4 := r14 (d + 7) 0 1 (by omega) (by omega) (x := .nl) (.inr ⟨rfl, rfl⟩)
    simp [oS] at q3 q4 f1 f2
    subst ex ey ez
    cases bx <;> cases by' <;> cases bz <;> simp only [svV] at h1 t1 ⊢ <;> simp [h1, g1, t1, f1, f2, e1, q2, q3, q4, hm, hkm, hps, hrows, hvrs, n1]
  | some ws =>
    have hw2 := hbd ws rfl
    have q2 := r10 (d + 8) ws (by simp only [big]; omega)
    have q3 := v13' (d + 7) ws 1 (by omega) (by omega)
    have q4 := r14 (d + 7) ws.length 1 (by omega) (by omega) (x := .ro 1 (markL mS 1 1 ws.length)) (.inl rfl)
    have q5 : ¬ (1 : Int) + (ws.length : Int) < 0 := by omega
    simp [oS] at q3 q4 f1 f2
    subst ex ey ez
    cases bx <;> cases by' <;> cases bz <;> simp only [svV] at h1 t1 ⊢ <;> simp [h1, g1, t1, f1, f2, e1, q2, q3, q4, q5, hm, hkm, hps, hrows, hvrs, n1, markL_len]
end Go.Proofs.YthnkioafikmmaaaGreat.walkS
