/- The neighbours of all faces; no conditions. -/
import Derived.Test.YtmhddfikpfkeoaaWNei
namespace Go.Proofs.Ytmhddfikpfkeoaa.walkS
open Go Go.Proofs.Ytmhddfikpfkeoaa.Ev
set_option linter.unusedSimpArgs false
set_option linter.unusedVariables false
theorem heB_ed (R : List Int) (a b : Int) (i : Nat) : heB R a b i = decide (ed R i = (mnI a b, mxI a b)) := by
  unfold heB ed
  generalize rn R i = u
  generalize rn R (i + 1) = v
  have e : ((mnI u v, mxI u v) = (mnI a b, mxI a b)) ↔ ((u = a ∧ v = b) ∨ (u = b ∧ v = a)) := by
    rw [Prod.mk.injEq]
    unfold mnI mxI
    constructor
    · rintro ⟨h1, h2⟩
      split at h1 <;> split at h2 <;> split at h1 <;> split at h2 <;> omega
    · rintro (⟨rfl, rfl⟩ | ⟨rfl, rfl⟩)
      · exact ⟨rfl, rfl⟩
      · constructor
        · split <;> split <;> omega
        · split <;> split <;> omega
  by_cases h : (mnI u v, mxI u v) = (mnI a b, mxI a b)
  · rw [decide_eq_true h]
    rcases e.1 h with ⟨h1, h2⟩ | ⟨h1, h2⟩
    · rw [decide_eq_true h1, decide_eq_true h2]; rfl
    · rw [decide_eq_true h1, decide_eq_true h2]; simp
  · rw [decide_eq_false h]
    have h' := fun q => h (e.2 q)
    cases h1 : (decide (u = a) && decide (v = b))
    · cases h2 : (decide (u = b) && decide (v = a))
      · rfl
      · simp only [Bool.and_eq_true, decide_eq_true_eq] at h2
        exact absurd (.inr h2) h'
    · simp only [Bool.and_eq_true, decide_eq_true_eq] at h1
      exact absurd (.inl h1) h'
theorem adj_eds (F : List Fc) (k m : Nat) : adj F k m = (eds (fr F k)).any (fun e => (eds (fr F m)).any fun x => decide (x = e)) := by
  unfold adj eds
  rw [orN_any, edN_any]
  refine anyN_same _ _ fun j _ _ => ?_
  unfold comE hasE
  rw [edN_any]
  refine anyN_same _ _ fun i _ _ => ?_
  rw [heB_ed]
  rfl
def oR : List Int → List Cell
  | [] => [.nl]
  | x :: q => [.sl true 2 1 ((x :: q).map iW)]
theorem oR_snoc (q : List Int) (x : Int) : oR (q ++ [x]) = [.sl true 2 1 (q.map iW ++ [iW x])] := by
  cases q with
  | nil => rfl
  | cons y q => simp [oR]
theorem oR_ne {q : List Int} (h : q ≠ []) : oR q = [.sl true 2 1 (q.map iW)] := by
  cases q with
  | nil => exact absurd rfl h
  | cons y q => rfl
theorem set_self {P : List (List Cell)} {k : Nat} {x : List Cell} (h : P[k]? = some x) : P.set k x = P := by
  obtain ⟨h1, h2⟩ := List.getElem?_eq_some_iff.1 h
  rw [← h2, List.set_getElem_self]
theorem l132_3 (d : Nat) (F : List Fc) (E : List (List Pt)) (N : Nat) (hN : E.length = N) (hF : F.length = N) (hb : N ≤ big) (hE : ∀ (j : Nat) (f : Fc), F[j]? = some f → E[j]? = some (eds f.2)) (hr : ∀ f ∈ F, f.2.length ≤ big) (k : Nat) (hk : k < N) : ∀ (n m : Nat) (q r : List Int) (P : List (List Cell)), n + m = N → P.length = N → P[k]? = some (oR q) → q ++ whN (nearP F k) n m = r → q.length ≤ m →
    clC [3, 6, 28, 29] [2] (blk 4 (lp (evC (ev (d + 5)) b132_3) (clean [3, 6, 7, 28, 29, 33, 34]) ⟨lookS [(3, .bp (.sl 3) 0), (6, .rf (.sl 6) none 0 N), (7, I k), (28, I N), (29, I k), (33, I N), (34, I m)], lookM [((.sl 3), some (.box [.rf (.ce 3 0) none 0 N])), ((.sl 6), some (.arr 24 1 (P))), ((.ce 3 0), some (.arr 222 1 (E.map eR)))]⟩)) =
      some (.nm, ⟨lookS [(3, .bp (.sl 3) 0), (6, .rf (.sl 6) none 0 N), (28, I N), (29, I k)], lookM [((.sl 3), some (.box [.rf (.ce 3 0) none 0 N])), ((.sl 6), some (.arr 24 1 (P.set k (oR r)))), ((.ce 3 0), some (.arr 222 1 (E.map eR)))]⟩) := by
  intro n
  induction n with
  | zero =>
    intro m q r P hm hP hg hq hl
    have h0 : ¬ (m : Int) < (N : Int) := by omega
    have e : q = r := by simpa [whN] using hq
    subst e
    rw [lp_step, set_self hg]
    simp [h0]
  | succ n ih =>
    intro m q r P hm hP hg hq hl
    have hlt : m < N := by omega
    have h0 : (m : Int) < (N : Int) := by omega
    obtain ⟨f, hf⟩ := get_lt (l := F) (i := m) (by omega)
    obtain ⟨g, hgk⟩ := get_lt (l := F) (i := k) (by omega)
    have hw := wrap_nat (i := m) (by simp only [big] at hb; omega)
    have hEk := hE k g hgk
    have hEm := hE m f hf
    have lk : (eds g.2).length ≤ big := by unfold eds; rw [edN_len]; exact hr g (List.mem_of_getElem? hgk)
    have lm : (eds f.2).length ≤ big := by unfold eds; rw [edN_len]; exact hr f (List.mem_of_getElem? hf)
    have ea : adj F k m = (eds g.2).any (fun e => (eds f.2).any fun x => decide (x = e)) := by rw [adj_eds, fr_get hgk, fr_get hf]
    have c := r192 (d + 3) 193 [.ro 1 (E.map eS)] [I m] (fun e => (eds f.2).any fun x => decide (x = e)) (fun e => r193 d E m (eds f.2) hEm lm e) (eds g.2) lk
    rw [← ea] at c
    have hr' := whN_at hq
    unfold nearP at hr'
    have hk0 : (k : Int) < (N : Int) := by omega
    have hs : ∀ a, (P.set k a)[k]? = some a := fun a => List.getElem?_set_self (by omega)
    generalize eds g.2 = ek at hEk c lk
    have htk : List.take N (List.map eR E) = List.map eR E := List.take_of_length_le (by simp; omega)
    by_cases hik : m = k
    · rw [decide_eq_true hik] at hr'
      have hik2 : (k : Int) = (m : Int) := by omega
      have ih' := ih (m + 1) q r P (by omega) hP hg hr' (by omega)
      simp only [Int.natCast_add, Int.cast_ofNat_Int] at ih'
      rw [lp_step]
      simp [h0, hw, eq_true hik2, ih']
    rw [decide_eq_false hik] at hr'
    have hik2 : ¬ (k : Int) = (m : Int) := by omega
    have hik3 : ¬ k = m := fun e => hik e.symm
    cases ha : adj F k m
    · rw [ha] at hr' c
      have ih' := ih (m + 1) q r P (by omega) hP hg hr' (by omega)
      simp only [Int.natCast_add, Int.cast_ofNat_Int] at ih'
      rw [lp_step]
      try simp at c
      simp [h0, hk0, hEk, hw, hik2, hik3, hN, htk, List.mapM_cons, c, ih']
    rw [ha] at hr' c
    have ih' := ih (m + 1) (q ++ [(m : Int)]) r (P.set k (oR (q ++ [(m : Int)]))) (by omega) (by rw [List.length_set]; exact hP) (hs _) hr' (by simp; omega)
    rw [List.set_set, oR_snoc] at ih'
    simp only [Int.natCast_add, Int.cast_ofNat_Int] at ih'
    try simp at c
    try simp at ih'
    have hq2 : q.length + 1 ≤ big := by omega
    rw [lp_step]
    by_cases hq0 : q = []
    · subst hq0
      have hg' : P[k]? = some [.nl] := hg
      have hlow : low [[Cell.sc (.int .i64 (m : Int))]] = some [iW (m : Int)] := rfl
      simp at ih' hq2
      simp [h0, hk0, hEk, hw, hik2, hik3, hN, htk, List.mapM_cons, c, hg', hs, hlow, hq2, hP, ih']
    · rw [oR_ne hq0] at hg
      have hlow : low (List.map iC q ++ [[Cell.sc (.int .i64 (m : Int))]]) = some (q.map iW ++ [iW (m : Int)]) := by
        have := low_iC (q ++ [(m : Int)])
        simpa using this
      simp [h0, hk0, hEk, hw, hik2, hik3, hN, htk, List.mapM_cons, c, hg, hs, hlow, hq2, hP, ih']
def nears (F : List Fc) : Nat → Nat → List (List Int)
  | 0, _ => []
  | n + 1, k => near F k :: nears F n (k + 1)
theorem nears_len (F : List Fc) : ∀ n k, (nears F n k).length = n := by
  intro n
  induction n with
  | zero => intro k; rfl
  | succ n ih => intro k; simp [nears, ih]
theorem l132_2 (d : Nat) (F : List Fc) (E : List (List Pt)) (N : Nat) (hN : E.length = N) (hF : F.length = N) (hb : N ≤ big) (hE : ∀ (j : Nat) (f : Fc), F[j]? = some f → E[j]? = some (eds f.2)) (hr : ∀ f ∈ F, f.2.length ≤ big) : ∀ (n k : Nat) (done r : List (List Int)), n + k = N → done ++ nears F n k = r → done.length = k →
    clC [6] [2] (blk 2 (lp (evC (ev (d + 5)) b132_2) (clean [3, 6, 28, 29]) ⟨lookS [(3, .bp (.sl 3) 0), (6, .rf (.sl 6) none 0 N), (28, I N), (29, I k)], lookM [((.sl 3), some (.box [.rf (.ce 3 0) none 0 N])), ((.sl 6), some (.arr 24 1 (done.map oR ++ List.replicate n [Cell.nl]))), ((.ce 3 0), some (.arr 222 1 (E.map eR)))]⟩)) =
      some (.nm, ⟨lookS [(6, .rf (.sl 6) none 0 N)], lookM [((.sl 6), some (.arr 24 1 (r.map oR)))]⟩) := by
  intro n
  induction n with
  | zero =>
    intro k done r hk hr2 hd
    have h0 : ¬ (k : Int) < (N : Int) := by omega
    have e : done = r := by simpa [nears] using hr2
    subst e
    have e2 : done.map oR ++ List.replicate 0 [Cell.nl] = done.map oR := by simp
    rw [e2, lp_step]
    simp [h0]
  | succ n ih =>
    intro k done r hk hr2 hd
    have hlt : k < N := by omega
    have h0 : (k : Int) < (N : Int) := by omega
    have hw := wrap_nat (i := k) (by simp only [big] at hb; omega)
    have l1 : (done.map oR).length = k := by simpa using hd
    have gk : (done.map oR ++ List.replicate (n + 1) [Cell.nl])[k]? = some (oR []) := by
      rw [List.getElem?_append_right (by omega), l1, Nat.sub_self]
      rfl
    have inn := l132_3 d F E N hN hF hb hE hr k hlt N 0 [] (near F k) (done.map oR ++ List.replicate (n + 1) [Cell.nl]) (by omega) (by simp; omega) gk (by unfold near; rw [hF]; rfl) (by simp)
    have ih' := ih (k + 1) (done ++ [near F k]) r (by omega) (by rw [List.append_assoc]; exact hr2) (by simp; omega)
    have e2 : (done.map oR ++ List.replicate (n + 1) [Cell.nl]).set k (oR (near F k)) = (done ++ [near F k]).map oR ++ List.replicate n [Cell.nl] := by
      rw [List.set_append_right _ _ (by omega), l1, Nat.sub_self, List.replicate_succ, List.set_cons_zero, List.map_append, List.append_assoc]
      rfl
    rw [e2] at inn
    generalize (done ++ [near F k]).map oR ++ List.replicate n [Cell.nl] = Q at inn ih'
    generalize done.map oR ++ List.replicate (n + 1) [Cell.nl] = P at inn ⊢
    simp only [Int.natCast_add, Int.cast_ofNat_Int] at ih'
    simp at inn
    rw [lp_step]
    simp [h0, hN, inn, hw, ih']
theorem r132 (d : Nat) (D : Dr) (hb : BdN D) : ev (d + 6) 132 [.ag (dV D)] = some (.ow 24 1 ((nears D.fcs D.fcs.length 0).map oR), []) := by
  rw [s132 (d + 5) _ rfl]
  have k1 := l132 (d + 4) D.fcs hb.fcs hb.ring D.fcs.length 0 [] (D.fcs.map fun f : Fc => eds f.2) (by omega) (by simp) rfl
  have hE : ∀ (j : Nat) (f : Fc), D.fcs[j]? = some f → (D.fcs.map fun f : Fc => eds f.2)[j]? = some (eds f.2) := fun j f h => by rw [List.getElem?_map, h]; rfl
  have hl : (D.fcs.map fun f : Fc => eds f.2).length = D.fcs.length := by simp
  generalize (D.fcs.map fun f : Fc => eds f.2) = E at k1 hE hl
  have k2 := l132_2 d D.fcs E D.fcs.length hl rfl hb.fcs hE hb.ring D.fcs.length 0 [] _ (by omega) rfl rfl
  have hf := hb.fcs
  simp at k1 k2
  have nl := nears_len D.fcs D.fcs.length 0
  simp [fillU, adsOf, k1, hl, hf, k2, nl]
end Go.Proofs.Ytmhddfikpfkeoaa.walkS
