/- The row DropLeaf; no conditions. -/
import Derived.Test.YtejffoibihbnnaaWLcp
import Derived.Test.YtejffoibihbnnaaWLmk
namespace Go.Proofs.Ytejffoibihbnnaa.walkS
open Go Go.Proofs.Ytejffoibihbnnaa.Ev
set_option linter.unusedSimpArgs false
set_option linter.unusedVariables false
def okLs' (l : List Lf) : Bool := okFrom l l.length 0 && decide (l.length ≤ 16)
/-- what is left, if a leaf has the name -/
def dlOf (l : List Lf) (s : ByteArray) : Option (List Lf) × Int :=
  ifb (okLs' l) (ifb (decide (fndI s 0 l < 0)) (none, 3) (some (l.take (fndI s 0 l).toNat ++ l.drop ((fndI s 0 l).toNat + 1)), 0)) (none, 1)
def oLf : Option (List Lf) → LV
  | none => .nl
  | some l => .ow 35 9 (l.map lC)
theorem known_lC (l : List Lf) : known (l.map lC) = true := by
  unfold known
  rw [List.all_map]
  exact List.all_eq_true.2 fun L _ => rfl
theorem p106 (d : Nat) (l : List Lf) (i j : Nat) (h1 : i ≤ j) (h2 : j ≤ l.length) : ev d (mvN + 106) [.ow 35 9 (l.map lC), I i, I j] = some (.ow 35 9 ((l.take i ++ l.drop j).map lC), [.un]) := by
  rw [q106M, prim_deleteLeaf _ i j (l.map lC) h1 (by simpa using h2) (known_lC l), List.map_append, List.map_take, List.map_drop]
theorem mapIdx_drop {α : Type} {f : Nat → α → α} {k : Nat} (h : ∀ i x, k ≤ i → f i x = x) {l : List α} : (l.mapIdx f).drop k = l.drop k := by
  apply List.ext_getElem?
  intro i
  rw [List.getElem?_drop, List.getElem?_drop, List.getElem?_mapIdx]
  cases l[k + i]? with
  | none => rfl
  | some x => exact congrArg some (h _ _ (by omega))
theorem all_okT (l : List Lf) : (l.map lC).all (fun row => row.all okT) = true := by
  rw [List.all_map]
  exact List.all_eq_true.2 fun L _ => rfl
set_option maxHeartbeats 1000000 in
theorem r29 (d : Nat) (l : List Lf) (hb : l.length ≤ 2000000) (hw : ∀ L ∈ l, BdL L) (s : ByteArray) : ev (d + 6) 29 [.ro 9 (l.map lS), T s] = some (.tu [oLf (dlOf l s).1, I (dlOf l s).2], []) := by
  rw [s29 (d + 5) _ rfl]
  have e1 := r101 d l (by simp only [big]; omega) hw
  have e2 := r102 (d + 4) l hb s
  have e3 := r103 (d + 3) l hb (fun L hL => (hw L hL).df)
  unfold dlOf okLs'
  by_cases h : okFrom l l.length 0 && decide (l.length ≤ 16)
  · rw [h] at e1 ⊢
    by_cases hf : fndI s 0 l < 0
    · rw [decide_eq_true hf] at e2 ⊢
      simp [e1, e2, oLf]
    · rw [decide_eq_false hf] at e2 ⊢
      have hS : Srt l := okLs_srt (Bool.and_eq_true _ _ ▸ h).1
      obtain ⟨r, hr, _⟩ := r105 l hb hS s
      have hp := fnd_place hS hr
      cases hh : hasAt l s r
      · rw [hh] at hp
        simp only [ifb_f] at hp
        omega
      rw [hh] at hp
      simp only [ifb_t] at hp
      have hrl : r < l.length := by
        unfold hasAt at hh
        split at hh
        · rename_i L hL; exact (List.getElem?_eq_some_iff.1 hL).1
        · cases hh
      rw [hp] at hf e2 ⊢
      have h1 : (r : Int) ≤ (l.length : Int) := by omega
      have h2 : (r : Int) + 1 ≤ (l.length : Int) := by omega
      have h3 : ((r : Int) + 1).toNat = r + 1 := by omega
      have h4 : (0 : Int) ≤ (r : Int) + 1 := by omega
      have w1 := wrap_nat (i := r) (by omega)
      have n1 : r ≤ l.length := by omega
      have n2 : r + 1 ≤ l.length := hrl
      have hb1 : r ≤ big := by simp only [big]; omega
      have hb2 : r + (l.length - (r + 1)) ≤ big := by simp only [big]; omega
      generalize hA : l.take r = A
      generalize hC : l.drop (r + 1) = C
      have hAl : A.length = r := by rw [← hA]; simp; omega
      have hCl : r + 1 + C.length = l.length := by rw [← hC]; simp; omega
      have m1 : (l.map lC).take r = A.map lC := by rw [← hA, List.map_take]
      have m2 : (l.map lC).drop (r + 1) = C.map lC := by rw [← hC, List.map_drop]
      have m3 : (List.mapIdx (fun i row => if i < r then List.map hollowC row else row) (l.map lC)).drop (r + 1) = C.map lC := by
        rw [mapIdx_drop (fun i x hi => if_neg (by omega)), m2]
      have n3 : ¬ r = l.length := by omega
      have n4 : l.length - (r + 1) = C.length := by omega
      have b3 : C.length ≤ big := by simp only [big]; omega
      have b4 : r + C.length ≤ big := by simp only [big]; omega
      have t1 : (C.map lC).take C.length = C.map lC := List.take_of_length_le (by simp)
      clear hA hC
      cases A with
      | nil =>
        rw [List.map_nil] at m1
        cases C with
        | nil => simp [e1, e2, e3, hf, h1, h2, h3, h4, n1, n2, n3, n4, m1, m2, m3, w1, hb1, hb2, b3, b4, oLf, fillU, adsOf]
        | cons c C => 
          have k1 := all_okT C
          have t2 : (C.map lC).take C.length = C.map lC := List.take_of_length_le (by simp)
          simp only [List.length_cons] at hCl b3 b4 n4
          have n5 : r + 1 + (C.length + 1) ≤ l.length := by omega
          have b5 : r + (C.length + 1) ≤ big := by omega
          simp [e1, e2, e3, hf, h1, h2, h3, h4, n1, n2, n3, n4, m1, m2, m3, w1, hb1, hb2, b3, b4, k1, t2, n5, b5, oLf, fillU, adsOf]
      | cons a A =>
        have k0 := all_okT A
        have rp : 0 < r := by rw [← hAl]; simp
        simp only [List.length_cons] at hAl
        cases C with
        | nil => simp [e1, e2, e3, hf, h1, h2, h3, h4, n1, n2, n3, n4, m1, m2, m3, w1, hb1, hb2, b3, b4, k0, rp, hAl, oLf, fillU, adsOf]
        | cons c C => 
          have k1 := all_okT C
          have t2 : (C.map lC).take C.length = C.map lC := List.take_of_length_le (by simp)
          simp only [List.length_cons] at hCl b3 b4 n4
          have n5 : r + 1 + (C.length + 1) ≤ l.length := by omega
          have b5 : r + (C.length + 1) ≤ big := by omega
          have n6 : r + (C.length + 1) = A.length + (C.length + 1) + 1 := by omega
          simp [e1, e2, e3, hf, h1, h2, h3, h4, n1, n2, n3, n4, m1, m2, m3, w1, hb1, hb2, b3, b4, k0, k1, t2, n5, b5, rp, hAl, oLf, fillU, adsOf]
          rw [n6]
          simp
  · have h' := Bool.eq_false_iff.2 h
    rw [h'] at e1 ⊢
    simp [e1, oLf]
set_option maxHeartbeats 1000000 in
theorem r31 (d : Nat) (l : List Lf) (hb : l.length ≤ 2000000) (hw : ∀ L ∈ l, BdL L) (s : ByteArray) : ev (d + 8) 31 [.ro 9 (l.map lS), T s] = some (.tu [oLf (dlOf l s).1, I (dlOf l s).2], []) := by
  rw [s31 (d + 7) _ rfl]
  have e1 := r104 d l (by simp only [big]; omega) hw
  have e3 := r107 (d + 4) l hb (fun L hL => (hw L hL).df)
  unfold dlOf okLs'
  by_cases h : okFrom l l.length 0 && decide (l.length ≤ 16)
  · rw [h] at e1 ⊢
    have hS : Srt l := okLs_srt (Bool.and_eq_true _ _ ▸ h).1
    obtain ⟨r, hr, hd⟩ := r105 l hb hS s
    have e2 := hd (d + 4)
    have hp := fnd_place hS hr
    cases hh : hasAt l s r
    · rw [hh] at hp e2
      simp only [ifb_f] at hp
      rw [hp]
      simp [e1, e2, oLf]
    · rw [hh] at hp e2
      simp only [ifb_t] at hp
      have hrl : r < l.length := by
        unfold hasAt at hh
        split at hh
        · rename_i L hL; exact (List.getElem?_eq_some_iff.1 hL).1
        · cases hh
      rw [hp, decide_eq_false (by omega)]
      have w1 := wrap_nat (i := r) (by omega)
      have e4 := p106 (d + 7) l r (r + 1) (by omega) hrl
      simp only [Int.natCast_add, Int.cast_ofNat_Int, Int.toNat_natCast] at e4 ⊢
      generalize l.take r ++ l.drop (r + 1) = R at e4 ⊢
      simp [e1, e2, e3, w1, e4, oLf]
  · have h' := Bool.eq_false_iff.2 h
    rw [h'] at e1 ⊢
    simp [e1, oLf]
theorem dlOf_len (l : List Lf) (s : ByteArray) : ∀ R, (dlOf l s).1 = some R → R.length ≤ l.length ∧ ∀ L ∈ R, L ∈ l := by
  intro R h
  unfold dlOf at h
  cases ho : okLs' l
  · rw [ho] at h; simp only [ifb_f] at h; cases h
  rw [ho] at h
  simp only [ifb_t] at h
  cases hq : decide (fndI s 0 l < 0)
  · rw [hq] at h
    simp only [ifb_f] at h
    cases h
    refine ⟨by simp; omega, fun L hL => ?_⟩
    rcases List.mem_append.1 hL with q | q
    · exact List.mem_of_mem_take q
    · exact List.mem_of_mem_drop q
  · rw [hq] at h; simp only [ifb_t] at h; cases h
set_option maxHeartbeats 1000000 in
theorem r5 (d : Nat) (l : List (Lf × Bool)) (hb : l.length ≤ maxLen) (hw : ∀ q ∈ l, WfL q.1 ∧ (q.2 = true → q.1.df = [])) {x : LV} (hx : SV 9 (l.map lI) x) (s : ByteArray) : ev (d + 9) 5 [x, T s] = some (B true, []) := by
  rw [s5 (d + 8) _ rfl]
  by_cases hs0 : (s.size : Int) > 1048576
  · rcases hx with rfl | ⟨rfl, _⟩ <;> simp [hs0]
  obtain ⟨k, hk, hs⟩ := r28 (d + 5) l hb hw hx
  by_cases h : k < 0
  · rcases hx with rfl | ⟨rfl, _⟩ <;> simp [hs0, hk, h]
  obtain ⟨b1, b2⟩ := hs (by omega)
  have bb : l.length ≤ big := by simp only [big]; omega
  have bl : (l.map (·.1)).length ≤ big := by simpa using bb
  have bl2 : (l.map (·.1)).length ≤ 2000000 := by simp; omega
  have bl3 : (l.map (·.1)).length ≤ 1048576 := by simpa using b1
  have bw : ∀ L ∈ l.map (·.1), BdL L := by
    intro L hL
    obtain ⟨q, hq, rfl⟩ := List.mem_map.1 hL
    exact b2 q hq
  have t1 := r30 (d + 4) l bb (fun q hq => ⟨(b2 q hq).df, (hw q hq).2⟩) hx
  have g1 := r29 (d + 2) _ bl2 bw s
  have g2 := r31 d _ bl2 bw s
  have q1 := r32 (d + 4) _ bl (fun L hL => (bw L hL).df)
  obtain ⟨km, rows', hr', _, hm⟩ := vx33 (l.map (·.1)) bl3 (fun L hL => (bw L hL).df)
  have hm := hm (d + 5)
  have len : l.length = (l.map (·.1)).length := by simp
  have hdl := dlOf_len (l.map (·.1)) s
  generalize l.map (·.1) = ls at t1 g1 g2 q1 len hm bl bl3 hr' hdl bw
  have hkm : ¬ (km : Int) < 0 := by omega
  generalize dlOf ls s = oc at g1 g2 hdl
  obtain ⟨o, c⟩ := oc
  cases o with
  | none =>
    have q2 := rx32n (d + 4)
    have q3 := vx33n (d + 7)
    have q4 := rx34n (d + 6)
    simp [oLf] at q3 q4 g1 g2
    rcases hx with rfl | ⟨rfl, _⟩ <;> simp [hs0, hk, h, t1, g1, g2, q1, q2, q3, q4, hm, hkm, hr', len]
  | some ws =>
    obtain ⟨l1, l2⟩ := hdl ws rfl
    have q2 := r32 (d + 4) ws (by omega) (fun L hL => (bw L (l2 L hL)).df)
    obtain ⟨kg, rg, hrg, hmk, hmg⟩ := vx33 ws (by omega) (fun L hL => (bw L (l2 L hL)).df)
    have hmg := hmg (d + 5)
    have q4 := rx34 (d + 6) rg (by omega) kg hmk
    have hkg : ¬ (kg : Int) < 0 := by omega
    simp [oLf] at hmg g1 g2
    have t5 : rg.take ws.length = rg := List.take_of_length_le (by omega)
    rcases hx with rfl | ⟨rfl, _⟩ <;> simp [hs0, hk, h, t1, g1, g2, q1, q2, q4, hmg, hrg, hkg, t5, hm, hkm, hr', len]
end Go.Proofs.Ytejffoibihbnnaa.walkS
