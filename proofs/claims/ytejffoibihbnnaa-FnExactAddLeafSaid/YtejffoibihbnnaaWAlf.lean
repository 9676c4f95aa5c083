/- The row AddLeaf; no conditions. -/
import Derived.Test.YtejffoibihbnnaaWLcp
import Derived.Test.YtejffoibihbnnaaWLmk
namespace Go.Proofs.Ytejffoibihbnnaa.walkS
open Go Go.Proofs.Ytejffoibihbnnaa.Ev
set_option linter.unusedSimpArgs false
set_option linter.unusedVariables false
def okLs' (l : List Lf) : Bool := okFrom l l.length 0 && decide (l.length ≤ 16)
/-- the leaves with one more, at place r -/
def alOf (l : List Lf) (Q : Lf) (r : Nat) : Option (List Lf) × Int :=
  ifb (okLs' l && okL Q) (ifb (hasAt l Q.id r) (none, 4) (ifb (decide (l.length = 16)) (none, 5) (some (l.take r ++ Q :: l.drop r), 0))) (none, 1)
def oLf : Option (List Lf) → LV
  | none => .nl
  | some l => .ow 35 9 (l.map lC)
theorem known_lC (l : List Lf) : known (l.map lC) = true := by
  unfold known
  rw [List.all_map]
  exact List.all_eq_true.2 fun L _ => rfl
theorem mapIdx_drop {α : Type} {f : Nat → α → α} {k : Nat} (h : ∀ i x, k ≤ i → f i x = x) {l : List α} : (l.mapIdx f).drop k = l.drop k := by
  apply List.ext_getElem?
  intro i
  rw [List.getElem?_drop, List.getElem?_drop, List.getElem?_mapIdx]
  cases l[k + i]? with
  | none => rfl
  | some x => exact congrArg some (h _ _ (by omega))
theorem all_okT (l : List Lf) : (l.map lC).all (fun row => row.all okT) = true := by
  rw [List.all_map]
  exact List.all_eq_true.2 fun L _ => rfl
theorem p112 (d : Nat) (l : List Lf) (Q : Lf) (i : Nat) (h1 : i ≤ l.length) (h3 : l.length ≤ 16) : ev d (mvN + 112) [.ow 35 9 (l.map lC), I i, .ow 35 9 [lC Q]] = some (.ow 35 9 ((l.take i ++ Q :: l.drop i).map lC), [.un]) := by
  rw [q112M, prim_insertLeaf _ i (l.map lC) [lC Q] (by simpa using h1) (by simp) (by simp; omega) (known_lC l) (known_lC [Q]), List.map_append, List.map_take, List.map_cons, List.map_drop]
  rfl
theorem gtr_of {l : List Lf} {s : ByteArray} {r k : Nat} {L : Lf} (hr : PlAt l s r) (hno : ∀ L ∈ l, L.id ≠ s) (hL : l[k]? = some L) : less s L.id = decide (r ≤ k) := by
  obtain ⟨h1, h2, h3⟩ := hr
  by_cases h : r ≤ k
  · have a := h3 k L h hL
    rw [cmpB_lt] at a
    have b := bytes_total s.toList L.id.toList
    have c : Op.bytesLess L.id.toList s.toList = false := by
      have : less L.id s = false := by simpa using a
      exact this
    have e : s.toList ≠ L.id.toList := fun q => hno L (List.mem_of_getElem? hL) (ba_ext (by rw [ByteArray.toList_eq, ByteArray.toList_eq] at q; exact q.symm))
    rw [c] at b
    simp [e] at b
    rw [decide_eq_true h]
    exact b
  · have a := h2 k L (by omega) hL
    rw [cmpB_lt] at a
    rw [decide_eq_false h]
    cases q : less s L.id with
    | false => rfl
    | true =>
      have := less_trans q a
      rw [less_irr] at this
      cases this
theorem l35 (d : Nat) (l : List Lf) (hb : l.length ≤ 16) (Q : Lf) (r : Nat) (hr : PlAt l Q.id r) (hno : ∀ L ∈ l, L.id ≠ Q.id) : ∀ (n k : Nat), k = r + n → k ≤ l.length →
    clC [3, 6, 7] [4, 5] (blk 0 (lp (evC (ev d) b35_1) (clean [3, 6, 7]) ⟨lookS [(3, .bp (.sl 3) 0), (6, .rf (.sl 6) none 0 l.length), (7, I k)], lookM [((.sl 3), some (.box (lV Q))), ((.sl 6), some (.arr 35 9 (l.map lC)))]⟩)) =
      some (.nm, ⟨lookS [(3, .bp (.sl 3) 0), (6, .rf (.sl 6) none 0 l.length), (7, I r)], lookM [((.sl 3), some (.box (lV Q))), ((.sl 6), some (.arr 35 9 (l.map lC)))]⟩) := by
  intro n
  induction n with
  | zero =>
    intro k hk hl
    have e : k = r := by omega
    subst e
    rw [lp_step]
    by_cases h0 : k = 0
    · subst h0
      simp
    · obtain ⟨m, rfl⟩ : ∃ m, k = m + 1 := ⟨k - 1, by omega⟩
      obtain ⟨L, hL⟩ := get_lt (l := l) (i := m) (by omega)
      have g := gtr_of hr hno hL
      rw [decide_eq_false (by omega)] at g
      unfold less at g
      have h1 : (0 : Int) < (m : Int) + 1 := by omega
      have h5 : (m : Int) < (l.length : Int) := by omega
      have w0 : IntKind.i64.wrap (m : Int) = (m : Int) := IntWalk.i64_in _ (by omega)
      simp [h1, h5, w0, hL, g]
  | succ n ih =>
    intro k hk hl
    obtain ⟨m, rfl⟩ : ∃ m, k = m + 1 := ⟨k - 1, by omega⟩
    obtain ⟨L, hL⟩ := get_lt (l := l) (i := m) (by omega)
    have g := gtr_of hr hno hL
    rw [decide_eq_true (by omega)] at g
    unfold less at g
    have h1 : (0 : Int) < (m : Int) + 1 := by omega
    have h5 : (m : Int) < (l.length : Int) := by omega
    have w0 : IntKind.i64.wrap (m : Int) = (m : Int) := IntWalk.i64_in _ (by omega)
    have ih' := ih m (by omega) (by omega)
    rw [lp_step]
    simp [h1, h5, w0, hL, g, ih']
set_option maxHeartbeats 1000000 in
theorem r35 (d : Nat) (l : List Lf) (hb : l.length ≤ 2000000) (hw : ∀ L ∈ l, BdL L) (Q : Lf) (hQ : BdL Q) (r : Nat) (hr : okLs' l = true → PlAt l Q.id r) : ev (d + 6) 35 [.ro 9 (l.map lS), .ag (lV Q)] = some (.tu [oLf (alOf l Q r).1, I (alOf l Q r).2], []) := by
  rw [s35 (d + 5) _ rfl]
  have e1 := r101 d l (by simp only [big]; omega) hw
  have e0 := r74 (d + 1) Q hQ.df hQ.id hQ.fl
  have e2 := r102 (d + 4) l hb Q.id
  have e3 := r103 (d + 3) l hb (fun L hL => (hw L hL).df)
  have e4 := r111 (d + 4) Q hQ.df
  unfold alOf okLs'
  by_cases h : okFrom l l.length 0 && decide (l.length ≤ 16)
  · rw [h] at e1 ⊢
    cases hq : okL Q
    · rw [hq] at e0
      simp [e1, e0, oLf]
    rw [hq] at e0
    have hS : Srt l := okLs_srt (Bool.and_eq_true _ _ ▸ h).1
    have hpl := hr (by unfold okLs'; exact h)
    have hp := fnd_place hS hpl
    rw [hp] at e2
    cases hh : hasAt l Q.id r
    · rw [hh] at e2
      by_cases h16 : l.length = 16
      · have h16' : (l.length : Int) = 16 := by omega
        try simp at e2
        simp [e1, e0, e2, h16, h16', oLf]
      · have h16' : ¬ (l.length : Int) = 16 := by omega
        have hl16 : l.length ≤ 16 := by
          have := (Bool.and_eq_true _ _ ▸ h).2
          exact of_decide_eq_true this
        have hno : ∀ L ∈ l, L.id ≠ Q.id := by
          intro L hL e
          obtain ⟨k, hk⟩ := List.getElem?_of_mem hL
          obtain ⟨g1, g2, g3⟩ := id hpl
          by_cases hkr : k < r
          · have := g2 k L hkr hk
            rw [cmpB_eq.2 e] at this
            omega
          · by_cases e2 : k = r
            · subst e2
              unfold hasAt at hh
              rw [hk] at hh
              simp [e] at hh
            · obtain ⟨M, hM⟩ := get_lt (l := l) (i := r) (by have := (List.getElem?_eq_some_iff.1 hk).1; omega)
              have q := hS r k M L (by omega) hM hk
              rw [e] at q
              exact g3 r M (Nat.le_refl _) hM (cmpB_lt.2 q)
        try simp at e2
        obtain ⟨hrl, _, _⟩ := id hpl
        have key := l35 (d + 5) l hl16 Q r hpl hno (l.length - r) l.length (by omega) (Nat.le_refl _)
        try simp at key
        have h1 : (r : Int) ≤ (l.length : Int) := by omega
        generalize hA : l.take r = A
        generalize hC : l.drop r = C
        have hAl : A.length = r := by rw [← hA]; simp; omega
        have hCl : r + C.length = l.length := by rw [← hC]; simp; omega
        have m1 : (l.map lC).take r = A.map lC := by rw [← hA, List.map_take]
        have m2 : (l.map lC).drop r = C.map lC := by rw [← hC, List.map_drop]
        have m3 : (List.mapIdx (fun i row => if i < r then List.map hollowC row else row) (l.map lC)).drop r = C.map lC := by
          rw [mapIdx_drop (fun i x hi => if_neg (by omega)), m2]
        have hb1 : r ≤ big := by simp only [big]; omega
        have hb0 : 1 ≤ big := by decide
        have hb2 : r + 1 ≤ big := by simp only [big]; omega
        have n4 : l.length - r = C.length := by omega
        have b3 : C.length ≤ big := by simp only [big]; omega
        have b4 : r + 1 + C.length ≤ big := by simp only [big]; omega
        clear hA hC
        cases A with
        | nil =>
          rw [List.map_nil] at m1
          cases C with
          | nil => simp [e1, e0, e2, e3, e4, h16, h16', key, h1, hrl, n4, m1, m2, m3, hb0, hb1, hb2, b3, b4, oLf, fillU, adsOf]
          | cons c C =>
            have k1 := all_okT C
            have t2 : (C.map lC).take C.length = C.map lC := List.take_of_length_le (by simp)
            simp only [List.length_cons] at hCl b3 b4 n4
            have n5 : r + (C.length + 1) ≤ l.length := by omega
            have b5 : 1 + (C.length + 1) ≤ big := by omega
            simp [e1, e0, e2, e3, e4, h16, h16', key, h1, hrl, n4, n5, m1, m2, m3, hb0, hb1, hb2, b3, b4, b5, k1, t2, oLf, fillU, adsOf]
            rw [show 1 + (C.length + 1) = C.length + 1 + 1 by omega]
            simp
        | cons a A =>
          have k0 := all_okT A
          have rp : 0 < r := by rw [← hAl]; simp
          simp only [List.length_cons] at hAl
          cases C with
          | nil => simp [e1, e0, e2, e3, e4, h16, h16', key, h1, hrl, n4, m1, m2, m3, hb0, hb1, hb2, b3, b4, k0, rp, hAl, oLf, fillU, adsOf]
          | cons c C =>
            have k1 := all_okT C
            have t2 : (C.map lC).take C.length = C.map lC := List.take_of_length_le (by simp)
            simp only [List.length_cons] at hCl b3 b4 n4
            have n5 : r + (C.length + 1) ≤ l.length := by omega
            simp [e1, e0, e2, e3, e4, h16, h16', key, h1, hrl, n4, n5, m1, m2, m3, hb0, hb1, hb2, b3, b4, k0, k1, t2, rp, hAl, oLf, fillU, adsOf]
            rw [show r + 1 + (C.length + 1) = A.length + (C.length + 1 + 1) + 1 by omega]
            simp
    · rw [hh] at e2
      have hr0 : ¬ (r : Int) < 0 := by omega
      have hr1 : (0 : Int) ≤ (r : Int) := by omega
      simp [hr0] at e2
      simp [e1, e0, e2, hr1, oLf]
  · have h' := Bool.eq_false_iff.2 h
    rw [h'] at e1 ⊢
    simp [e1, oLf]
set_option maxHeartbeats 1000000 in
theorem r36 (d : Nat) (l : List Lf) (hb : l.length ≤ 2000000) (hw : ∀ L ∈ l, BdL L) (Q : Lf) (hQ : BdL Q) : ∃ r, (okLs' l = true → PlAt l Q.id r) ∧ ∀ d, ev (d + 8) 36 [.ro 9 (l.map lS), .ag (lV Q)] = some (.tu [oLf (alOf l Q r).1, I (alOf l Q r).2], []) := by
  by_cases h : okFrom l l.length 0 && decide (l.length ≤ 16)
  · have hS : Srt l := okLs_srt (Bool.and_eq_true _ _ ▸ h).1
    have hl16 : l.length ≤ 16 := by
      have := (Bool.and_eq_true _ _ ▸ h).2
      exact of_decide_eq_true this
    obtain ⟨r, hr, hd⟩ := r105 l hb hS Q.id
    refine ⟨r, fun _ => hr, fun d => ?_⟩
    rw [s36 (d + 7) _ rfl]
    have e1 := r104 d l (by simp only [big]; omega) hw
    have e0 := r78 (d + 1) Q hQ.df hQ.id hQ.fl
    have e2 := hd (d + 4)
    have e3 := r107 (d + 4) l hb (fun L hL => (hw L hL).df)
    have e4 := rcL113 (d + 5) Q hQ.df
    have e5 := p112 (d + 7) l Q r hr.1 hl16
    unfold alOf okLs'
    rw [h] at e1 ⊢
    cases hq : okL Q
    · rw [hq] at e0
      simp [e1, e0, oLf]
    rw [hq] at e0
    cases hh : hasAt l Q.id r
    · rw [hh] at e2
      by_cases h16 : l.length = 16
      · have h16' : (l.length : Int) = 16 := by omega
        simp [e1, e0, e2, h16, h16', oLf]
      · have h16' : ¬ (l.length : Int) = 16 := by omega
        generalize l.take r ++ Q :: l.drop r = R at e5 ⊢
        have e6 : ev (d + 7) (mvN + 112) [.ow 35 9 (l.map lC), I r, .ow 35 9 [[.sc (.string Q.id), .sc (.string Q.fl), .sc (.int .i64 Q.num), .sc (.string Q.sp), .sc (.int .i64 Q.sh), .sc (.int .i64 Q.gr), .sc (.int .i64 Q.wd), .sc (.int .i64 Q.ln), .sl true 29 4 (Q.df.map bW)]]] = some (.ow 35 9 (R.map lC), [.un]) := e5
        clear e5
        simp [e1, e0, e2, e3, e4, e6, h16, h16', oLf, fillU, adsOf]
    · rw [hh] at e2
      simp [e1, e0, e2, oLf]
  · have h' := Bool.eq_false_iff.2 h
    refine ⟨0, fun q => absurd q (by unfold okLs'; exact h), fun d => ?_⟩
    rw [s36 (d + 7) _ rfl]
    have e1 := r104 d l (by simp only [big]; omega) hw
    unfold alOf okLs'
    rw [h'] at e1 ⊢
    simp [e1, oLf]
theorem alOf_len (l : List Lf) (Q : Lf) (r : Nat) : ∀ R, (alOf l Q r).1 = some R → R.length ≤ l.length + 1 ∧ l.length ≤ 16 ∧ ∀ L ∈ R, L ∈ l ∨ L = Q := by
  intro R h
  unfold alOf at h
  cases ho : okLs' l && okL Q
  · rw [ho] at h; simp only [ifb_f] at h; cases h
  rw [ho] at h
  simp only [ifb_t] at h
  cases hq : hasAt l Q.id r
  · rw [hq] at h
    simp only [ifb_f] at h
    cases hk : decide (l.length = 16)
    · rw [hk] at h
      simp only [ifb_f] at h
      cases h
      have h16 : l.length ≤ 16 := by
        have := (Bool.and_eq_true _ _ ▸ ho).1
        unfold okLs' at this
        exact of_decide_eq_true (Bool.and_eq_true _ _ ▸ this).2
      refine ⟨by simp; omega, h16, fun L hL => ?_⟩
      rcases List.mem_append.1 hL with q | q
      · exact .inl (List.mem_of_mem_take q)
      · rcases List.mem_cons.1 q with q | q
        · exact .inr q
        · exact .inl (List.mem_of_mem_drop q)
    · rw [hk] at h; simp only [ifb_t] at h; cases h
  · rw [hq] at h; simp only [ifb_t] at h; cases h
set_option maxHeartbeats 1000000 in
theorem r6 (d : Nat) (l : List (Lf × Bool)) (hb : l.length ≤ maxLen) (hw : ∀ q ∈ l, WfL q.1 ∧ (q.2 = true → q.1.df = [])) {x : LV} (hx : SV 9 (l.map lI) x) (Q : Lf) (wQ : WfL Q) {y : LV} (hy : SV 4 (Q.df.map bC) y) : ev (d + 9) 6 [x, .ag (lA Q y)] = some (B true, []) := by
  rw [s6 (d + 8) _ rfl]
  obtain ⟨k, hk, hs⟩ := r28b (d + 5) l hb hw hx
  by_cases h : k < 0
  · rcases hx with rfl | ⟨rfl, _⟩ <;> rcases hy with rfl | ⟨rfl, _⟩ <;> simp [hk, h]
  obtain ⟨b0, b1, b2⟩ := hs (by omega)
  obtain ⟨k2, hk2, hs2⟩ := r15 (d + 6) Q k hy
  by_cases h2 : k2 < 0
  · rcases hx with rfl | ⟨rfl, _⟩ <;> rcases hy with rfl | ⟨rfl, _⟩ <;> simp [hk, h, hk2, h2]
  obtain ⟨bQ, bi, bf, _⟩ := szL_bounds (by omega) wQ (hs2 (by omega))
  have bb : l.length ≤ big := by simp only [big]; omega
  have bl : (l.map (·.1)).length ≤ big := by simpa using bb
  have bl2 : (l.map (·.1)).length ≤ 2000000 := by simp; omega
  have bl3 : (l.map (·.1)).length ≤ 1048576 := by simpa using b1
  have bw : ∀ L ∈ l.map (·.1), BdL L := by
    intro L hL
    obtain ⟨q, hq, rfl⟩ := List.mem_map.1 hL
    exact b2 q hq
  have t1 := r30 (d + 4) l bb (fun q hq => ⟨(b2 q hq).df, (hw q hq).2⟩) hx
  have t2 := r17 (d + 5) Q bQ hy
  obtain ⟨r, hr, g2⟩ := r36 d _ bl2 bw Q ⟨bQ, bi, bf⟩
  have g2 := g2 d
  have g1 := r35 (d + 2) _ bl2 bw Q ⟨bQ, bi, bf⟩ r hr
  have q1 := r32 (d + 4) _ bl (fun L hL => (bw L hL).df)
  have q5 := r20 (d + 5) Q bQ
  obtain ⟨km, rows', hr', _, hkm2, hm⟩ := vx33 (l.map (·.1)) bl3 (fun L hL => (bw L hL).df)
  have hm := hm (d + 5)
  have len : l.length = (l.map (·.1)).length := by simp
  have hal := alOf_len (l.map (·.1)) Q r
  generalize l.map (·.1) = ls at t1 g1 g2 q1 len hm bl bl3 hr' hal bw hkm2
  have hkm : ¬ (km : Int) < 0 := by omega
  have bQ' := bQ
  simp only [big] at bQ'
  have m2 := v37' (d + 6) Q km (by omega)
  have hk3 : ¬ (km : Int) + 4 * (Q.df.length : Int) < 0 := by omega
  generalize alOf ls Q r = oc at g1 g2 hal
  obtain ⟨o, c⟩ := oc
  cases o with
  | none =>
    have q2 := rx32n (d + 4)
    have q3 := vx33n (d + 7)
    have q4 := rx34n (d + 6)
    simp [oLf] at q3 q4 g1 g2
    rcases hx with rfl | ⟨rfl, _⟩ <;> rcases hy with rfl | ⟨rfl, _⟩ <;> simp [hk, h, hk2, h2, t1, t2, g1, g2, q1, q2, q3, q4, q5, hm, m2, hkm, hk3, hr', len]
  | some ws =>
    obtain ⟨l1, l0, l2⟩ := hal ws rfl
    have dfw : ∀ L ∈ ws, L.df.length ≤ big := fun L hL => by
      rcases l2 L hL with q | rfl
      · exact (bw L q).df
      · exact bQ
    have q2 := r32 (d + 4) ws (by simp only [big]; omega) dfw
    obtain ⟨kg, rg, hrg, hmk, _, hmg⟩ := vx33 ws (by omega) dfw
    have hmg := hmg (d + 5)
    have q4 := rx34 (d + 6) rg (by omega) kg hmk
    have hkg : ¬ (kg : Int) < 0 := by omega
    simp [oLf] at hmg g1 g2
    have t5 : rg.take ws.length = rg := List.take_of_length_le (by omega)
    rcases hx with rfl | ⟨rfl, _⟩ <;> rcases hy with rfl | ⟨rfl, _⟩ <;> simp [hk, h, hk2, h2, t1, t2, g1, g2, q1, q2, q4, q5, hmg, hrg, hkg, t5, hm, m2, hkm, hk3, hr', len]
end Go.Proofs.Ytejffoibihbnnaa.walkS
