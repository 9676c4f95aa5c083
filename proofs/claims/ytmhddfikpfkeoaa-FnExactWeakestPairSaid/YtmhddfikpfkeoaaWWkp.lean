/- The row WeakestPair; no conditions. -/
import Derived.Test.YtmhddfikpfkeoaaWCtr
namespace Go.Proofs.Ytmhddfikpfkeoaa.walkS
open Go Go.Proofs.Ytmhddfikpfkeoaa.Ev
set_option linter.unusedSimpArgs false
set_option linter.unusedVariables false
def tri3 (p : List Int) : Prop := ∃ a b c, p = [a, b, c]
theorem ctrs_tri3 {Q : Pi} (h : okPi Q = true) : ∀ p ∈ ctrs Q, tri3 p := by
  intro p hp
  unfold ctrs at hp
  obtain ⟨q, hq, rfl⟩ := List.mem_map.1 hp
  obtain ⟨a, b, rfl, _⟩ := prs_in h q hq
  exact ⟨_, _, _, rfl⟩
def thd (cs : List (List Int)) (i : Nat) : Int := match cs[i]? with | some [_, _, c] => c | _ => 0
theorem thd_get {cs : List (List Int)} {i : Nat} {a b c : Int} (h : cs[i]? = some [a, b, c]) : thd cs i = c := by simp only [thd, h]
def wkm (cs : List (List Int)) : Nat → Nat → Nat → Nat
  | 0, _, j => j
  | n + 1, i, j => wkm cs n (i + 1) (if thd cs i < thd cs j then i else j)
theorem wkm_lt (cs : List (List Int)) : ∀ n i j, i + n ≤ cs.length → j < cs.length → wkm cs n i j < cs.length := by
  intro n
  induction n with
  | zero => intro i j _ h; exact h
  | succ n ih =>
    intro i j h1 h2
    simp only [wkm]
    refine ih (i + 1) _ (by omega) ?_
    split
    · omega
    · exact h2
theorem l26 (d : Nat) (cs : List (List Int)) (hcb : cs.length ≤ 10000) (hct : ∀ p ∈ cs, tri3 p) : ∀ (n i : Nat) (j : Nat), n + i = cs.length → j < cs.length →
    clC [7] [2, 3, 4, 5] (blk 0 (lp (evC (ev d) b26_1) (clean [6, 7, 8]) ⟨lookS [(6, .rf (.sl 6) none 0 cs.length), (7, .rf (.sl 6) (some (j, 0)) 0 3), (8, I i)], lookM [((.sl 6), some (.arr 24 1 (cs.map jI)))]⟩)) =
      some (.nm, ⟨lookS [(7, .rf (.sl 7) (some (wkm cs n i j, 0)) 0 3)], lookM [((.sl 7), some (.arr 24 1 (cs.map jI)))]⟩) := by
  intro n
  induction n with
  | zero =>
    intro i j hi hj
    have h0 : ¬ (i : Int) < (cs.length : Int) := by omega
    rw [lp_step]
    simp [h0, wkm]
  | succ n ih =>
    intro i j hi hj
    have hlt : i < cs.length := by omega
    have h0 : (i : Int) < (cs.length : Int) := by omega
    obtain ⟨p, hx⟩ := get_lt hlt
    obtain ⟨q, hy⟩ := get_lt hj
    obtain ⟨a, b, c, rfl⟩ := hct p (List.mem_of_getElem? hx)
    obtain ⟨a', b', c', rfl⟩ := hct q (List.mem_of_getElem? hy)
    have hw := wrap_nat (i := i) (by omega)
    simp only [wkm, thd_get hx, thd_get hy]
    rw [lp_step]
    by_cases hc : c < c'
    · rw [if_pos hc]
      have ih' := ih (i + 1) i (by omega) hlt
      simp only [Int.natCast_add, Int.cast_ofNat_Int] at ih'
      simp [h0, hx, hy, hc, hw, ih']
    · rw [if_neg hc]
      have ih' := ih (i + 1) j (by omega) hj
      simp only [Int.natCast_add, Int.cast_ofNat_Int] at ih'
      simp [h0, hx, hy, hc, hw, ih']
theorem l28 (d : Nat) (cs : List (List Int)) (hcb : cs.length ≤ 10000) (hct : ∀ p ∈ cs, tri3 p) : ∀ (n i : Nat) (j : Nat), n + i = cs.length → j < cs.length →
    clC [7] [2, 3, 4, 5] (blk 0 (lp (evC (ev d) b28_1) (clean [7, 21, 22, 23]) ⟨lookS [(7, .rf (.sl 7) (some (j, 0)) 0 3), (21, .rf (.sl 7) none 0 cs.length), (22, I cs.length), (23, I i)], lookM [((.sl 7), some (.arr 24 1 (cs.map jI)))]⟩)) =
      some (.nm, ⟨lookS [(7, .rf (.sl 7) (some (wkm cs n i j, 0)) 0 3)], lookM [((.sl 7), some (.arr 24 1 (cs.map jI)))]⟩) := by
  intro n
  induction n with
  | zero =>
    intro i j hi hj
    have h0 : ¬ (i : Int) < (cs.length : Int) := by omega
    rw [lp_step]
    simp [h0, wkm]
  | succ n ih =>
    intro i j hi hj
    have hlt : i < cs.length := by omega
    have h0 : (i : Int) < (cs.length : Int) := by omega
    obtain ⟨p, hx⟩ := get_lt hlt
    obtain ⟨q, hy⟩ := get_lt hj
    obtain ⟨a, b, c, rfl⟩ := hct p (List.mem_of_getElem? hx)
    obtain ⟨a', b', c', rfl⟩ := hct q (List.mem_of_getElem? hy)
    have hw := wrap_nat (i := i) (by omega)
    simp only [wkm, thd_get hx, thd_get hy]
    rw [lp_step]
    by_cases hc : c < c'
    · rw [if_pos hc]
      have ih' := ih (i + 1) i (by omega) hlt
      simp only [Int.natCast_add, Int.cast_ofNat_Int] at ih'
      simp [h0, hx, hy, hc, hw, ih']
    · rw [if_neg hc]
      have ih' := ih (i + 1) j (by omega) hj
      simp only [Int.natCast_add, Int.cast_ofNat_Int] at ih'
      simp [h0, hx, hy, hc, hw, ih']
def at3 (cs : List (List Int)) (j : Nat) : Int × Int × Int := match cs[j]? with | some [a, b, c] => (a, b, c) | _ => (0, 0, 0)
def wpOf (Q : Pi) : Int × Int × Int × Int :=
  ifb (okPi Q) (match ctrs Q with | [] => (0, 0, 0, 6) | p :: l => let q := at3 (p :: l) (wkm (p :: l) l.length 1 0); (q.1, q.2.1, q.2.2, 0)) (0, 0, 0, 1)
theorem r26 (d : Nat) (Q : Pi) (hb : BdN Q.d) (hv : Q.vs.length ≤ big) : ev (d + 8) 26 [.ag (qV Q)] = some (.tu [I (wpOf Q).1, I (wpOf Q).2.1, I (wpOf Q).2.2.1, I (wpOf Q).2.2.2], []) := by
  rw [s26 (d + 7) _ rfl]
  have c1 := r65 d Q hb hv
  unfold wpOf
  cases h : okPi Q
  · rw [h] at c1
    simp [c1]
  rw [h] at c1
  have c2 := r66 (d + 3) Q hb h
  have cl := ctrs_len h
  have ct := ctrs_tri3 h
  simp only [ifb_t]
  generalize ctrs Q = cs at c2 cl ct ⊢
  cases cs with
  | nil => simp at c2; simp [c1, c2]
  | cons p l =>
    obtain ⟨a, b, c, rfl⟩ := ct p (by simp)
    have key := l26 (d + 7) ([a, b, c] :: l) (by omega) ct l.length 1 0 (by rw [List.length_cons]) (by simp)
    have lt := wkm_lt ([a, b, c] :: l) l.length 1 0 (by rw [List.length_cons]; omega) (by simp)
    have e0 : wkm ([a, b, c] :: l) (l.length + 1) 0 0 = wkm ([a, b, c] :: l) l.length 1 0 := by
      simp [wkm]
    
    have g0 : ([a, b, c] :: l)[0]? = some [a, b, c] := rfl
    dsimp only
    generalize wkm ([a, b, c] :: l) l.length 1 0 = j at key lt ⊢
    obtain ⟨q, hq⟩ := get_lt lt
    obtain ⟨a', b', c', rfl⟩ := ct q (List.mem_of_getElem? hq)
    simp only [at3, hq]
    have hne : ¬ (([a, b, c] :: l).length : Int) = 0 := by simp; omega
    have hpos : 0 < ([a, b, c] :: l).length := by simp
    generalize [a, b, c] :: l = cs at c2 key hne hq g0 hpos
    have hne2 : ¬ cs = [] := fun e => by rw [e] at hpos; simp at hpos
    have hg0 : (0 : Int) < (cs.length : Int) := by omega
    have hx0 : cs[0] = [a, b, c] := (List.getElem?_eq_some_iff.1 g0).2
    simp at c2 key
    simp [c1, c2, key, hne2, hpos, hg0, hq, hx0]
theorem r28 (d : Nat) (Q : Pi) (hb : BdN Q.d) (hv : Q.vs.length ≤ big) : ev (d + 9) 28 [.ag (qV Q)] = some (.tu [I (wpOf Q).1, I (wpOf Q).2.1, I (wpOf Q).2.2.1, I (wpOf Q).2.2.2], []) := by
  rw [s28 (d + 8) _ rfl]
  have c1 := r68 d Q hb hv
  unfold wpOf
  cases h : okPi Q
  · rw [h] at c1
    simp [c1]
  rw [h] at c1
  have c2 := r69 (d + 1) Q hb h
  have cl := ctrs_len h
  have ct := ctrs_tri3 h
  simp only [ifb_t]
  generalize ctrs Q = cs at c2 cl ct ⊢
  cases cs with
  | nil => simp at c2; simp [c1, c2]
  | cons p l =>
    obtain ⟨a, b, c, rfl⟩ := ct p (by simp)
    have key := l28 (d + 8) ([a, b, c] :: l) (by omega) ct (l.length + 1) 0 0 (by rw [List.length_cons]) (by simp)
    have lt := wkm_lt ([a, b, c] :: l) l.length 1 0 (by rw [List.length_cons]; omega) (by simp)
    have e0 : wkm ([a, b, c] :: l) (l.length + 1) 0 0 = wkm ([a, b, c] :: l) l.length 1 0 := by
      simp [wkm]
    rw [e0] at key
    have g0 : ([a, b, c] :: l)[0]? = some [a, b, c] := rfl
    dsimp only
    generalize wkm ([a, b, c] :: l) l.length 1 0 = j at key lt ⊢
    obtain ⟨q, hq⟩ := get_lt lt
    obtain ⟨a', b', c', rfl⟩ := ct q (List.mem_of_getElem? hq)
    simp only [at3, hq]
    have hne : ¬ (([a, b, c] :: l).length : Int) = 0 := by simp; omega
    have hpos : 0 < ([a, b, c] :: l).length := by simp
    generalize [a, b, c] :: l = cs at c2 key hne hq g0 hpos
    have hne2 : ¬ cs = [] := fun e => by rw [e] at hpos; simp at hpos
    have hg0 : (0 : Int) < (cs.length : Int) := by omega
    have hx0 : cs[0] = [a, b, c] := (List.getElem?_eq_some_iff.1 g0).2
    simp at c2 key
    simp [c1, c2, key, hne2, hpos, hg0, hq, hx0]
theorem r5 (d : Nat) (p : Pin) {x y z : LV} (w : WfP p x y z) : ev (d + 10) 5 [.ag (pA p x y z)] = some (B true, []) := by
  rw [s5 (d + 9) _ rfl]
  obtain ⟨k1, h1, s1⟩ := r25 (d + 4) p w 1048576 (by omega)
  obtain ⟨bx, ex⟩ := SV.sv w.x
  obtain ⟨by', ey⟩ := SV.sv w.y
  obtain ⟨bz, ez⟩ := SV.sv w.z
  by_cases g1 : k1 < 0
  · subst ex ey ez
    simp [h1, g1]
  obtain ⟨q1, bp⟩ := s1 (by omega)
  have t1 := r27 (d + 4) p.w p.h p.pts p.fcs p.vs bp.pts bp.fcs (fun q hq => ⟨bp.ring q hq, (w.face q hq).nil⟩) bp.vs w.x w.y w.z
  have f1 := r26 (d + 1) (pOf p) bp.n bp.vs
  have f2 := r28 d (pOf p) bp.n bp.vs
  have e1 := r29 (d + 4) (pOf p) bp.d bp.vs
  have n1 : p.fcs.length = (p.fcs.map (·.1)).length := by simp
  generalize wpOf (pOf p) = r at f1 f2
  obtain ⟨r1, r2, r3, r4⟩ := r
  simp only [pOf, qV] at f1 f2 e1
  generalize p.fcs.map (·.1) = lp at t1 f1 f2 e1 n1
  subst ex ey ez
  simp [h1, g1, t1, f1, f2, e1, n1]
end Go.Proofs.Ytmhddfikpfkeoaa.walkS
