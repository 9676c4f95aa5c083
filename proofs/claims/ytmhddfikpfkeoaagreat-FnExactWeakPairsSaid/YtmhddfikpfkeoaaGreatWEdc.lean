/- The rows EdgeContrasts and WeakPairs; no conditions. -/
import Derived.Test.YtmhddfikpfkeoaaGreatWCtr
import Derived.Test.YtmhddfikpfkeoaaGreatWMp
import Derived.Test.YtmhddfikpfkeoaaGreatWLL
namespace Go.Proofs.YtmhddfikpfkeoaaGreat.walkS
open Go Go.Proofs.YtmhddfikpfkeoaaGreat.Ev
set_option linter.unusedSimpArgs false
set_option linter.unusedVariables false
def oLL : Option (List (List Int)) → LV
  | none => .nl
  | some ws => .ow 58 1 (ws.map jI)
def ecOf (Q : Pi) : Option (List (List Int)) × Int := ifb (okPi Q) (some (ctrs Q), 0) (none, 1)
theorem r6 (d : Nat) (Q : Pi) (hb : BdN Q.d) (hv : Q.vs.length ≤ big) : ev (d + 8) 6 [.ag (qV Q)] = some (.tu [oLL (ecOf Q).1, I (ecOf Q).2], []) := by
  rw [s6 (d + 7) _ rfl]
  have c1 := r18 d Q hb hv
  unfold ecOf
  cases h : okPi Q
  · rw [h] at c1
    simp [c1, oLL]
  · rw [h] at c1
    have c2 := r19 (d + 3) Q hb h
    simp [c1, c2, oLL]
theorem r8 (d : Nat) (Q : Pi) (hb : BdN Q.d) (hv : Q.vs.length ≤ big) : ev (d + 9) 8 [.ag (qV Q)] = some (.tu [oLL (ecOf Q).1, I (ecOf Q).2], []) := by
  rw [s8 (d + 8) _ rfl]
  have c1 := r22 d Q hb hv
  unfold ecOf
  cases h : okPi Q
  · rw [h] at c1
    simp [c1, oLL]
  · rw [h] at c1
    have c2 := r23 (d + 1) Q hb h
    simp [c1, c2, oLL]
def tri (p : List Int) : Prop := ∃ a b c, p = [a, b, c]
theorem ctrs_tri {Q : Pi} (h : okPi Q = true) : ∀ p ∈ ctrs Q, tri p := by
  intro p hp
  unfold ctrs at hp
  obtain ⟨q, hq, rfl⟩ := List.mem_map.1 hp
  obtain ⟨a, b, rfl, _⟩ := prs_in h q hq
  exact ⟨_, _, _, rfl⟩
def wkL (u : Int) : List (List Int) → List (List Int)
  | [] => []
  | p :: l => match p with
    | [a, b, c] => ifb (decide (c < u)) ([a, b] :: wkL u l) (wkL u l)
    | _ => wkL u l
theorem wkL_len (u : Int) : ∀ l, (wkL u l).length ≤ l.length := by
  intro l
  induction l with
  | nil => exact Nat.le_refl _
  | cons p l ih =>
    unfold wkL
    split
    · rename_i a b c
      cases h : decide (c < u) <;> simp <;> omega
    · simp; omega
theorem wkL_two (u : Int) : ∀ l, ∀ p ∈ wkL u l, p.length = 2 := by
  intro l
  induction l with
  | nil => intro p hp; simp [wkL] at hp
  | cons q l ih =>
    intro p hp
    unfold wkL at hp
    split at hp
    · rename_i a b c
      cases h : decide (c < u)
      · rw [h] at hp; exact ih p hp
      · rw [h] at hp
        rcases List.mem_cons.1 hp with rfl | hp
        · rfl
        · exact ih p hp
    · exact ih p hp
theorem l14 (d : Nat) (u : Int) (cs : List (List Int)) (hcb : cs.length ≤ 10000) (hct : ∀ p ∈ cs, tri p) : ∀ (n i : Nat) (acc r : List (List Int)), n + i = cs.length → acc ++ wkL u (cs.drop i) = r → acc.length ≤ i →
    clC [7] [4, 5] (blk 0 (lp (evC (ev d) b14_1) (clean [1, 6, 7, 8]) ⟨lookS [(1, I u), (6, .rf (.sl 6) none 0 cs.length), (7, .rf (.sl 7) none 0 acc.length), (8, I i)], lookM [((.sl 6), some (.arr 58 1 (cs.map jI))), ((.sl 7), some (.arr 58 1 (acc.map jI)))]⟩)) =
      some (.nm, ⟨lookS [(7, .rf (.sl 7) none 0 r.length)], lookM [((.sl 7), some (.arr 58 1 (r.map jI)))]⟩) := by
  intro n
  induction n with
  | zero =>
    intro i acc r hi hr ha
    have h0 : ¬ (i : Int) < (cs.length : Int) := by omega
    rw [List.drop_eq_nil_of_le (by omega)] at hr
    have e : acc = r := by simpa [wkL] using hr
    subst e
    rw [lp_step]
    simp [h0]
  | succ n ih =>
    intro i acc r hi hr ha
    have hlt : i < cs.length := by omega
    have h0 : (i : Int) < (cs.length : Int) := by omega
    obtain ⟨p, hx⟩ := get_lt hlt
    obtain ⟨a, b, c, rfl⟩ := hct p (List.mem_of_getElem? hx)
    have hw := wrap_nat (i := i) (by omega)
    have hb2 : acc.length + 1 ≤ big := by simp only [big]; omega
    have ej : jI [a, b] = [.sl true 2 1 [iW a, iW b]] := rfl
    have hlow : low [[Cell.sc (.int .i64 a)], [Cell.sc (.int .i64 b)]] = some [iW a, iW b] := rfl
    rw [drop_get hx] at hr
    simp only [wkL] at hr
    rw [lp_step]
    by_cases hc : c < u
    · rw [decide_eq_true hc] at hr
      have ih' := ih (i + 1) (acc ++ [[a, b]]) r (by omega) (by rw [List.append_assoc]; exact hr) (by simp; omega)
      simp only [Int.natCast_add, Int.cast_ofNat_Int] at ih'
      simp at ih'
      rw [ej] at ih'
      simp [h0, hx, hc, hw, hb2, hlow, fillU, adsOf, List.mapM_cons, ih']
    · rw [decide_eq_false hc] at hr
      have ih' := ih (i + 1) acc r (by omega) hr (by omega)
      simp only [Int.natCast_add, Int.cast_ofNat_Int] at ih'
      simp [h0, hx, hc, hw, ih']
theorem l15 (d : Nat) (u : Int) (cs : List (List Int)) (hcb : cs.length ≤ 10000) (hct : ∀ p ∈ cs, tri p) : ∀ (n i : Nat) (acc r : List (List Int)), n + i = cs.length → acc ++ wkL u (cs.drop i) = r → acc.length ≤ i →
    clC [6] [4, 5] (blk 1 (lp (evC (ev d) b15_1) (clean [1, 6, 19, 20, 21]) ⟨lookS [(1, I u), (6, .rf (.sl 6) none 0 acc.length), (19, .rf (.sl 19) none 0 cs.length), (20, I cs.length), (21, I i)], lookM [((.sl 6), some (.arr 58 1 (acc.map jI))), ((.sl 19), some (.arr 58 1 (cs.map jI)))]⟩)) =
      some (.nm, ⟨lookS [(6, .rf (.sl 6) none 0 r.length)], lookM [((.sl 6), some (.arr 58 1 (r.map jI)))]⟩) := by
  intro n
  induction n with
  | zero =>
    intro i acc r hi hr ha
    have h0 : ¬ (i : Int) < (cs.length : Int) := by omega
    rw [List.drop_eq_nil_of_le (by omega)] at hr
    have e : acc = r := by simpa [wkL] using hr
    subst e
    rw [lp_step]
    simp [h0]
  | succ n ih =>
    intro i acc r hi hr ha
    have hlt : i < cs.length := by omega
    have h0 : (i : Int) < (cs.length : Int) := by omega
    obtain ⟨p, hx⟩ := get_lt hlt
    obtain ⟨a, b, c, rfl⟩ := hct p (List.mem_of_getElem? hx)
    have hw := wrap_nat (i := i) (by omega)
    have hb2 : acc.length + 1 ≤ big := by simp only [big]; omega
    have ej : jI [a, b] = [.sl true 2 1 [iW a, iW b]] := rfl
    have hlow : low [[Cell.sc (.int .i64 a)], [Cell.sc (.int .i64 b)]] = some [iW a, iW b] := rfl
    rw [drop_get hx] at hr
    simp only [wkL] at hr
    rw [lp_step]
    by_cases hc : c < u
    · rw [decide_eq_true hc] at hr
      have ih' := ih (i + 1) (acc ++ [[a, b]]) r (by omega) (by rw [List.append_assoc]; exact hr) (by simp; omega)
      simp only [Int.natCast_add, Int.cast_ofNat_Int] at ih'
      simp at ih'
      rw [ej] at ih'
      simp [h0, hx, hc, hw, hb2, hlow, fillU, adsOf, List.mapM_cons, ih']
    · rw [decide_eq_false hc] at hr
      have ih' := ih (i + 1) acc r (by omega) hr (by omega)
      simp only [Int.natCast_add, Int.cast_ofNat_Int] at ih'
      simp [h0, hx, hc, hw, ih']
def wkOf (Q : Pi) (u : Int) : Option (List (List Int)) × Int := ifb (okPi Q) (ifb (inR u 0 115) (some (wkL u (ctrs Q)), 0) (none, 2)) (none, 1)
theorem r14 (d : Nat) (Q : Pi) (hb : BdN Q.d) (hv : Q.vs.length ≤ big) (u : Int) : ev (d + 8) 14 [.ag (qV Q), I u] = some (.tu [oLL (wkOf Q u).1, I (wkOf Q u).2], []) := by
  rw [s14 (d + 7) _ rfl]
  have c1 := r18 d Q hb hv
  unfold wkOf
  cases h : okPi Q
  · rw [h] at c1
    simp [c1, oLL]
  rw [h] at c1
  have c3 := r31 (d + 6) u 0 115
  cases h3 : inR u 0 115
  · rw [h3] at c3
    simp [c1, c3, oLL]
  rw [h3] at c3
  have c2 := r19 (d + 3) Q hb h
  have cl := ctrs_len h
  have key := l14 (d + 7) u (ctrs Q) (by omega) (ctrs_tri h) (ctrs Q).length 0 [] _ (by omega) rfl (by simp)
  rw [List.nil_append, List.drop_zero] at key
  simp only [ifb_t]
  generalize wkL u (ctrs Q) = ws at key ⊢
  generalize ctrs Q = cs at c2 key
  simp at key
  simp [c1, c2, c3, key, oLL, fillU, adsOf]
theorem r15 (d : Nat) (Q : Pi) (hb : BdN Q.d) (hv : Q.vs.length ≤ big) (u : Int) : ev (d + 9) 15 [.ag (qV Q), I u] = some (.tu [oLL (wkOf Q u).1, I (wkOf Q u).2], []) := by
  rw [s15 (d + 8) _ rfl]
  have c1 := r22 d Q hb hv
  unfold wkOf
  cases h : okPi Q
  · rw [h] at c1
    simp [c1, oLL]
  rw [h] at c1
  have c3 := r32 (d + 7) u 0 115
  cases h3 : inR u 0 115
  · rw [h3] at c3
    simp [c1, c3, oLL]
  rw [h3] at c3
  have c2 := r23 (d + 1) Q hb h
  have cl := ctrs_len h
  have key := l15 (d + 8) u (ctrs Q) (by omega) (ctrs_tri h) (ctrs Q).length 0 [] _ (by omega) rfl (by simp)
  rw [List.nil_append, List.drop_zero] at key
  simp only [ifb_t]
  generalize wkL u (ctrs Q) = ws at key ⊢
  generalize ctrs Q = cs at c2 key
  simp at key
  simp [c1, c2, c3, key, oLL, fillU, adsOf]
theorem tot_three : ∀ {l : List (List Int)}, (∀ q ∈ l, q.length ≤ 3) → tot l ≤ 3 * l.length := by
  intro l
  induction l with
  | nil => intro _; exact Nat.le_refl _
  | cons q l ih =>
    intro h
    have h1 := h q (by simp)
    have h2 := ih fun p hp => h p (by simp [hp])
    simp only [tot, List.length_cons]
    omega
set_option maxHeartbeats 2000000 in
theorem r3 (d : Nat) (p : Pin) {x y z : LV} (w : WfP p x y z) : ev (d + 10) 3 [.ag (pA p x y z)] = some (B true, []) := by
  rw [s3 (d + 9) _ rfl]
  obtain ⟨k1, h1, s1⟩ := r5 (d + 4) p w 1048576 (by omega)
  obtain ⟨bx, ex⟩ := SV.sv w.x
  obtain ⟨by', ey⟩ := SV.sv w.y
  obtain ⟨bz, ez⟩ := SV.sv w.z
  by_cases g1 : k1 < 0
  · subst ex ey ez
    simp [h1, g1]
  obtain ⟨q1, bp⟩ := s1 (by omega)
  have t1 := r7 (d + 4) p.w p.h p.pts p.fcs p.vs bp.pts bp.fcs (fun q hq => ⟨bp.ring q hq, (w.face q hq).nil⟩) bp.vs w.x w.y w.z
  have f1 := r6 (d + 1) (pOf p) bp.n bp.vs
  have f2 := r8 d (pOf p) bp.n bp.vs
  have e1 := r10 (d + 4) (pOf p) bp.d bp.vs
  obtain ⟨km, ps, rows, vrs, hps, hrows, hvrs, hm⟩ := v11' (pOf p) bp.d bp.vs
  have hm := hm (d + 4)
  have hkm : ¬ (km : Int) < 0 := by omega
  have n1 : p.fcs.length = (p.fcs.map (·.1)).length := by simp
  have hbd : ∀ ws, (ecOf (pOf p)).1 = some ws → ws.length ≤ 1000000 ∧ ∀ q ∈ ws, q.length ≤ 3 := fun ws hws => by
    unfold ecOf at hws
    cases h : okPi (pOf p)
    · rw [h] at hws; cases hws
    · rw [h] at hws
      simp at hws
      rw [← hws]
      have := ctrs_len h
      refine ⟨by omega, fun q hq => ?_⟩
      obtain ⟨a, b, c, rfl⟩ := ctrs_tri h q hq
      simp
  generalize ecOf (pOf p) = oc at f1 f2 hbd
  obtain ⟨o, c⟩ := oc
  simp only [pOf, qV, qO] at f1 f2 e1 hm hps hrows hvrs
  generalize p.fcs.map (·.1) = lp at t1 f1 f2 e1 n1 hm hrows
  cases o with
  | none =>
    have q2 := r9n (d + 8)
    have q3 := v12'n (d + 7) 1
    have q4 := r13n (d + 7) 1
    simp [oLL] at q3 q4 f1 f2
    subst ex ey ez
    cases bx <;> cases by' <;> cases bz <;> simp only [svV] at h1 t1 ⊢ <;> simp [h1, g1, t1, f1, f2, e1, q2, q3, q4, hm, hkm, hps, hrows, hvrs, n1]
  | some ws =>
    obtain ⟨hw2, hw3⟩ := hbd ws rfl
    have tt := tot_three hw3
    have q2 := r9 (d + 7) ws (by simp only [big]; omega) (fun q hq => by have := hw3 q hq; simp only [big]; omega)
    have q3 := v12' (d + 7) ws 1 (by simp only [big]; omega) (by omega)
    have q4 := r13 (d + 7) ws 1 (by simp only [big]; omega) (by omega)
    have q5 : ¬ (1 : Int) + (tot ws : Int) < 0 := by omega
    simp [oLL] at q3 q4 f1 f2
    subst ex ey ez
    cases bx <;> cases by' <;> cases bz <;> simp only [svV] at h1 t1 ⊢ <;> simp [h1, g1, t1, f1, f2, e1, q2, q3, q4, q5, hm, hkm, hps, hrows, hvrs, n1]
set_option maxHeartbeats 2000000 in
theorem r4 (d : Nat) (p : Pin) {x y z : LV} (w : WfP p x y z) (u : Int) : ev (d + 10) 4 [.ag (pA p x y z), I u] = some (B true, []) := by
  rw [s4 (d + 9) _ rfl]
  obtain ⟨k1, h1, s1⟩ := r5 (d + 4) p w 1048576 (by omega)
  obtain ⟨bx, ex⟩ := SV.sv w.x
  obtain ⟨by', ey⟩ := SV.sv w.y
  obtain ⟨bz, ez⟩ := SV.sv w.z
  by_cases g1 : k1 < 0
  · subst ex ey ez
    simp [h1, g1]
  obtain ⟨q1, bp⟩ := s1 (by omega)
  have t1 := r7 (d + 4) p.w p.h p.pts p.fcs p.vs bp.pts bp.fcs (fun q hq => ⟨bp.ring q hq, (w.face q hq).nil⟩) bp.vs w.x w.y w.z
  have f1 := r14 (d + 1) (pOf p) bp.n bp.vs u
  have f2 := r15 d (pOf p) bp.n bp.vs u
  have e1 := r10 (d + 4) (pOf p) bp.d bp.vs
  obtain ⟨km, ps, rows, vrs, hps, hrows, hvrs, hm⟩ := v11' (pOf p) bp.d bp.vs
  have hm := hm (d + 4)
  have hkm : ¬ (km : Int) < 0 := by omega
  have n1 : p.fcs.length = (p.fcs.map (·.1)).length := by simp
  have hbd : ∀ ws, (wkOf (pOf p) u).1 = some ws → ws.length ≤ 1000000 ∧ ∀ q ∈ ws, q.length ≤ 3 := fun ws hws => by
    unfold wkOf at hws
    cases h : okPi (pOf p)
    · rw [h] at hws; cases hws
    · rw [h] at hws
      cases h2 : inR u 0 115
      · rw [h2] at hws; cases hws
      · rw [h2] at hws
        simp at hws
        rw [← hws]
        have h3 := ctrs_len h
        have h4 := wkL_len u (ctrs (pOf p))
        exact ⟨by omega, fun q hq => by rw [wkL_two u _ q hq]; omega⟩
  generalize wkOf (pOf p) u = oc at f1 f2 hbd
  obtain ⟨o, c⟩ := oc
  simp only [pOf, qV, qO] at f1 f2 e1 hm hps hrows hvrs
  generalize p.fcs.map (·.1) = lp at t1 f1 f2 e1 n1 hm hrows
  cases o with
  | none =>
    have q2 := r9n (d + 8)
    have q3 := v12'n (d + 7) 1
    have q4 := r13n (d + 7) 1
    simp [oLL] at q3 q4 f1 f2
    subst ex ey ez
    cases bx <;> cases by' <;> cases bz <;> simp only [svV] at h1 t1 ⊢ <;> simp [h1, g1, t1, f1, f2, e1, q2, q3, q4, hm, hkm, hps, hrows, hvrs, n1]
  | some ws =>
    obtain ⟨hw2, hw3⟩ := hbd ws rfl
    have tt := tot_three hw3
    have q2 := r9 (d + 7) ws (by simp only [big]; omega) (fun q hq => by have := hw3 q hq; simp only [big]; omega)
    have q3 := v12' (d + 7) ws 1 (by simp only [big]; omega) (by omega)
    have q4 := r13 (d + 7) ws 1 (by simp only [big]; omega) (by omega)
    have q5 : ¬ (1 : Int) + (tot ws : Int) < 0 := by omega
    simp [oLL] at q3 q4 f1 f2
    subst ex ey ez
    cases bx <;> cases by' <;> cases bz <;> simp only [svV] at h1 t1 ⊢ <;> simp [h1, g1, t1, f1, f2, e1, q2, q3, q4, q5, hm, hkm, hps, hrows, hvrs, n1]
end Go.Proofs.YtmhddfikpfkeoaaGreat.walkS
