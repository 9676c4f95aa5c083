/- Pairs that follow one another; the row BookPairs; no conditions. -/
import Derived.Test.YtmhddfikpfkeoaaWMis
import Derived.Test.YtmhddfikpfkeoaaWLL
namespace Go.Proofs.Ytmhddfikpfkeoaa.walkS
open Go Go.Proofs.Ytmhddfikpfkeoaa.Ev
set_option linter.unusedSimpArgs false
set_option linter.unusedVariables false
def bkp (key : Int → Int) : List Int → List (List Int)
  | a :: b :: r => if key a + 1 = key b then [a, b] :: bkp key r else bkp key (b :: r)
  | _ => []
theorem bkp_len (key : Int → Int) : ∀ (n : Nat) (A : List Int), A.length ≤ n → (bkp key A).length ≤ n := by
  intro n
  induction n with
  | zero => intro A h; have : A = [] := List.length_eq_zero_iff.1 (by omega); subst this; simp [bkp]
  | succ n ih =>
    intro A h
    match A, h with
    | [], _ => simp [bkp]
    | [a], _ => simp [bkp]
    | a :: b :: r, h =>
      simp only [bkp]
      split
      · have := ih r (by simp at h; omega)
        simp; omega
      · have := ih (b :: r) (by simp at h ⊢; omega)
        omega
theorem bkp_two (key : Int → Int) : ∀ (n : Nat) (A : List Int), A.length ≤ n → ∀ q ∈ bkp key A, q.length = 2 := by
  intro n
  induction n with
  | zero => intro A h; have : A = [] := List.length_eq_zero_iff.1 (by omega); subst this; simp [bkp]
  | succ n ih =>
    intro A h q hq
    match A, h with
    | [], _ => simp [bkp] at hq
    | [a], _ => simp [bkp] at hq
    | a :: b :: r, h =>
      simp only [bkp] at hq
      split at hq
      · rcases List.mem_cons.1 hq with rfl | hq
        · rfl
        · exact ih r (by simp at h; omega) q hq
      · exact ih (b :: r) (by simp at h ⊢; omega) q hq
theorem l20 (d : Nat) (l : List Lf) (hn : Nums l) (A : List Int) (hAb : A.length ≤ 16) (hI : InL l A) : ∀ (n i : Nat) (acc r : List (List Int)), A.length ≤ n + i → i ≤ A.length → acc ++ bkp (nmA l) (A.drop i) = r → acc.length ≤ i →
    clC [8] [4, 5] (blk 0 (lp (evC (ev d) b20_1) (clean [0, 6, 8, 9]) ⟨lookS [(0, .ro 9 (l.map lS)), (6, .rf (.sl 6) none 0 A.length), (8, .rf (.sl 8) none 0 acc.length), (9, I i)], lookM [((.sl 6), some (.arr 2 1 (A.map iC))), ((.sl 8), some (.arr 24 1 (acc.map jI)))]⟩)) =
      some (.nm, ⟨lookS [(8, .rf (.sl 8) none 0 r.length)], lookM [((.sl 8), some (.arr 24 1 (r.map jI)))]⟩) := by
  intro n
  induction n with
  | zero =>
    intro i acc r hi hi3 hr hl
    have h0 : ¬ (i : Int) + 1 < (A.length : Int) := by omega
    have hi2 : i ≤ 17 := by omega
    have wi : IntKind.i64.wrap ((i : Int) + 1) = (i : Int) + 1 := wrap_in (by omega)
    rw [List.drop_eq_nil_of_le (by omega)] at hr
    have e : acc = r := by simpa [bkp] using hr
    subst e
    rw [lp_step]
    simp [h0, wi]
  | succ n ih =>
    intro i acc r hi hi3 hr hl
    have hi2 : i ≤ 17 := by omega
    have wi : IntKind.i64.wrap ((i : Int) + 1) = (i : Int) + 1 := wrap_in (by omega)
    by_cases h0 : (i : Int) + 1 < (A.length : Int)
    case neg =>
      have e : acc = r := by
        by_cases hii : i < A.length
        · obtain ⟨x, hx⟩ := get_lt (l := A) (i := i) hii
          rw [drop_get hx, List.drop_eq_nil_of_le (by omega)] at hr
          simpa [bkp] using hr
        · rw [List.drop_eq_nil_of_le (by omega)] at hr
          simpa [bkp] using hr
      subst e
      rw [lp_step]
      simp [h0, wi]
    obtain ⟨x, hx⟩ := get_lt (l := A) (i := i) (by omega)
    obtain ⟨y, hy⟩ := get_lt (l := A) (i := i + 1) (by omega)
    obtain ⟨x0, L, hL⟩ := hI.get hx
    obtain ⟨y0, M, hM⟩ := hI.get hy
    have bL := nums_get hn hL
    have bM := nums_get hn hM
    have kx := nmA_get hL
    have ky := nmA_get hM
    have hw : IntKind.i64.wrap (L.num + 1) = L.num + 1 := wrap_in (by omega)
    have wM : IntKind.i64.wrap M.num = M.num := wrap_in (by omega)
    have wi2 : IntKind.i64.wrap ((i : Int) + 1 + 1) = (i : Int) + 1 + 1 := wrap_in (by omega)
    have p0 : (0 : Int) ≤ (i : Int) + 1 := by omega
    have pt : ((i : Int) + 1).toNat = i + 1 := by omega
    have l0 : (i : Int) < (A.length : Int) := by omega
    have bb : acc.length + 1 ≤ big := by simp only [big]; omega
    have hlow : low [[Cell.sc (.int .i64 x)], [Cell.sc (.int .i64 y)]] = some [iW x, iW y] := rfl
    rw [drop_get hx, drop_get hy] at hr
    simp only [bkp, kx, ky] at hr
    rw [lp_step]
    by_cases c : L.num + 1 = M.num
    · rw [if_pos c] at hr
      have c' : M.num = L.num + 1 := c.symm
      have ih' := ih (i + 2) (acc ++ [[x, y]]) r (by omega) (by omega) (by rw [List.append_assoc]; exact hr) (by simp; omega)
      have e2 : ((i + 2 : Nat) : Int) = (i : Int) + 1 + 1 := by omega
      have ej : jI [x, y] = [.sl true 2 1 [iW x, iW y]] := rfl
      rw [e2] at ih'
      simp at ih'
      rw [ej] at ih'
      simp [h0, l0, hx, hy, hL, hM, x0, y0, p0, pt, hw, wM, wi, wi2, c, bb, hlow, fillU, adsOf, List.mapM_cons, ih']
    · rw [if_neg c] at hr
      have c' : ¬ M.num = L.num + 1 := fun e => c e.symm
      have ih' := ih (i + 1) acc r (by omega) (by omega) (by rw [drop_get hy]; exact hr) (by omega)
      simp only [Int.natCast_add, Int.cast_ofNat_Int] at ih'
      simp [h0, l0, hx, hy, hL, hM, x0, y0, p0, pt, hw, wM, wi, wi2, c, ih']
theorem l21 (d : Nat) (l : List Lf) (hn : Nums l) (A : List Int) (hAb : A.length ≤ 16) (hI : InL l A) : ∀ (n i : Nat) (acc r : List (List Int)), A.length ≤ n + i → i ≤ A.length → acc ++ bkp (nmA l) (A.drop i) = r → acc.length ≤ i →
    clC [8] [4, 5] (blk 0 (lp (evC (ev d) b21_1) (clean [0, 6, 8, 9]) ⟨lookS [(0, .ro 9 (l.map lS)), (6, .rf (.sl 6) none 0 A.length), (8, .rf (.sl 8) none 0 acc.length), (9, I i)], lookM [((.sl 6), some (.arr 2 1 (A.map iC))), ((.sl 8), some (.arr 24 1 (acc.map jI)))]⟩)) =
      some (.nm, ⟨lookS [(8, .rf (.sl 8) none 0 r.length)], lookM [((.sl 8), some (.arr 24 1 (r.map jI)))]⟩) := by
  intro n
  induction n with
  | zero =>
    intro i acc r hi hi3 hr hl
    have h0 : ¬ (i : Int) + 1 < (A.length : Int) := by omega
    have hi2 : i ≤ 17 := by omega
    have wi : IntKind.i64.wrap ((i : Int) + 1) = (i : Int) + 1 := wrap_in (by omega)
    rw [List.drop_eq_nil_of_le (by omega)] at hr
    have e : acc = r := by simpa [bkp] using hr
    subst e
    rw [lp_step]
    simp [h0, wi]
  | succ n ih =>
    intro i acc r hi hi3 hr hl
    have hi2 : i ≤ 17 := by omega
    have wi : IntKind.i64.wrap ((i : Int) + 1) = (i : Int) + 1 := wrap_in (by omega)
    by_cases h0 : (i : Int) + 1 < (A.length : Int)
    case neg =>
      have e : acc = r := by
        by_cases hii : i < A.length
        · obtain ⟨x, hx⟩ := get_lt (l := A) (i := i) hii
          rw [drop_get hx, List.drop_eq_nil_of_le (by omega)] at hr
          simpa [bkp] using hr
        · rw [List.drop_eq_nil_of_le (by omega)] at hr
          simpa [bkp] using hr
      subst e
      rw [lp_step]
      simp [h0, wi]
    obtain ⟨x, hx⟩ := get_lt (l := A) (i := i) (by omega)
    obtain ⟨y, hy⟩ := get_lt (l := A) (i := i + 1) (by omega)
    obtain ⟨x0, L, hL⟩ := hI.get hx
    obtain ⟨y0, M, hM⟩ := hI.get hy
    have bL := nums_get hn hL
    have bM := nums_get hn hM
    have kx := nmA_get hL
    have ky := nmA_get hM
    have hw : IntKind.i64.wrap (L.num + 1) = L.num + 1 := wrap_in (by omega)
    have wM : IntKind.i64.wrap M.num = M.num := wrap_in (by omega)
    have wi2 : IntKind.i64.wrap ((i : Int) + 1 + 1) = (i : Int) + 1 + 1 := wrap_in (by omega)
    have p0 : (0 : Int) ≤ (i : Int) + 1 := by omega
    have pt : ((i : Int) + 1).toNat = i + 1 := by omega
    have l0 : (i : Int) < (A.length : Int) := by omega
    have bb : acc.length + 1 ≤ big := by simp only [big]; omega
    have hlow : low [[Cell.sc (.int .i64 x)], [Cell.sc (.int .i64 y)]] = some [iW x, iW y] := rfl
    rw [drop_get hx, drop_get hy] at hr
    simp only [bkp, kx, ky] at hr
    rw [lp_step]
    by_cases c : L.num + 1 = M.num
    · rw [if_pos c] at hr
      have c' : M.num = L.num + 1 := c.symm
      have ih' := ih (i + 2) (acc ++ [[x, y]]) r (by omega) (by omega) (by rw [List.append_assoc]; exact hr) (by simp; omega)
      have e2 : ((i + 2 : Nat) : Int) = (i : Int) + 1 + 1 := by omega
      have ej : jI [x, y] = [.sl true 2 1 [iW x, iW y]] := rfl
      rw [e2] at ih'
      simp at ih'
      rw [ej] at ih'
      simp [h0, l0, hx, hy, hL, hM, x0, y0, p0, pt, hw, wM, wi, wi2, c', bb, hlow, fillU, adsOf, List.mapM_cons, ih']
    · rw [if_neg c] at hr
      have c' : ¬ M.num = L.num + 1 := fun e => c e.symm
      have ih' := ih (i + 1) acc r (by omega) (by omega) (by rw [drop_get hy]; exact hr) (by omega)
      simp only [Int.natCast_add, Int.cast_ofNat_Int] at ih'
      simp [h0, l0, hx, hy, hL, hM, x0, y0, p0, pt, hw, wM, wi, wi2, c', ih']
def oLL : Option (List (List Int)) → LV
  | none => .nl
  | some ws => .ow 24 1 (ws.map jI)
def bkOf (l : List Lf) (s : ByteArray) : Option (List (List Int)) × Int :=
  match (flOf l s).1 with
  | none => (none, (flOf l s).2)
  | some A => (some (bkp (nmA l) A), 0)
theorem r20 (d : Nat) (l : List Lf) (hb : l.length ≤ big) (hw : ∀ L ∈ l, BdL L) (s : ByteArray) : ev (d + 7) 20 [.ro 9 (l.map lS), T s] = some (.tu [oLL (bkOf l s).1, I (bkOf l s).2], []) := by
  rw [s20 (d + 6) _ rfl]
  have e1 := r58 d l hb hw s
  have e0 := r57 d l hb hw
  have e00 : okLs l = (okFrom l l.length 0 && decide (l.length ≤ 16)) := rfl
  rw [← e00] at e0
  unfold bkOf
  cases hf : (flOf l s).1 with
  | none =>
    have hc := flOf_none hf
    rw [hf] at e1
    generalize (flOf l s).2 = c at e1 hc
    cases ho : okLs l
    · rw [ho] at e0
      simp [oL] at e1
      simp [oLL, e0, hc.2 ho]
    · rw [ho] at e0
      simp [oL] at e1
      simp [oLL, e0, e1, hc.1]
  | some A =>
    obtain ⟨ho, hA, hne, h2⟩ := flOf_some hf
    rw [hf, h2] at e1
    have hl : A.length ≤ 16 := by rw [hA]; exact flA_le ho
    have hI : InL l A := by rw [hA]; exact flA_in l s
    have key := l20 (d + 6) l (okLs_nums ho) A hl hI A.length 0 [] (bkp (nmA l) A) (by omega) (by omega) (by simp) (by simp)
    rw [ho] at e0
    simp [oL] at e1
    dsimp only
    generalize bkp (nmA l) A = ms at key ⊢
    simp at key
    simp [oL, oLL, e1, e0, key, fillU, adsOf]
theorem r21 (d : Nat) (l : List Lf) (hb : l.length ≤ big) (hw : ∀ L ∈ l, BdL L) (s : ByteArray) : ev (d + 9) 21 [.ro 9 (l.map lS), T s] = some (.tu [oLL (bkOf l s).1, I (bkOf l s).2], []) := by
  rw [s21 (d + 8) _ rfl]
  have e1 := r60 d l hb hw s
  unfold bkOf
  cases hf : (flOf l s).1 with
  | none =>
    have hc := flOf_none hf
    rw [hf] at e1
    generalize (flOf l s).2 = c at e1 hc
    simp [oL] at e1
    simp [oLL, e1, hc.1]
  | some A =>
    obtain ⟨ho, hA, hne, h2⟩ := flOf_some hf
    rw [hf, h2] at e1
    have hl : A.length ≤ 16 := by rw [hA]; exact flA_le ho
    have hI : InL l A := by rw [hA]; exact flA_in l s
    have key := l21 (d + 8) l (okLs_nums ho) A hl hI A.length 0 [] (bkp (nmA l) A) (by omega) (by omega) (by simp) (by simp)
    simp [oL] at e1
    dsimp only
    generalize bkp (nmA l) A = ms at key ⊢
    simp at key
    simp [oL, oLL, e1, key, fillU, adsOf]
theorem tot_two : ∀ {l : List (List Int)}, (∀ q ∈ l, q.length = 2) → tot l = 2 * l.length := by
  intro l
  induction l with
  | nil => intro _; rfl
  | cons q l ih =>
    intro h
    have h1 := h q (by simp)
    have h2 := ih fun p hp => h p (by simp [hp])
    simp only [tot, List.length_cons, h1, h2]
    omega
set_option maxHeartbeats 1000000 in
theorem r4 (d : Nat) (l : List (Lf × Bool)) (hb : l.length ≤ maxLen) (hw : ∀ q ∈ l, WfL q.1 ∧ (q.2 = true → q.1.df = [])) {x : LV} (hx : SV 9 (l.map lI) x) (s : ByteArray) : ev (d + 10) 4 [x, T s] = some (B true, []) := by
  rw [s4 (d + 9) _ rfl]
  by_cases hs0 : (s.size : Int) > 1048576
  · rcases hx with rfl | ⟨rfl, _⟩ <;> simp [hs0]
  obtain ⟨k, hk, hs⟩ := r11 (d + 6) l hb hw hx
  by_cases h : k < 0
  · rcases hx with rfl | ⟨rfl, _⟩ <;> simp [hs0, hk, h]
  obtain ⟨b1, b2⟩ := hs (by omega)
  have bb : l.length ≤ big := by simp only [big]; omega
  have bl : (l.map (·.1)).length ≤ big := by simpa using bb
  have bw : ∀ L ∈ l.map (·.1), BdL L := by
    intro L hL
    obtain ⟨q, hq, rfl⟩ := List.mem_map.1 hL
    exact b2 q hq
  have t1 := r13 (d + 5) l bb (fun q hq => ⟨(b2 q hq).df, (hw q hq).2⟩) hx
  have g1 := r20 (d + 2) _ bl bw s
  have g2 := r21 (d + 0) _ bl bw s
  have q1 := r16 (d + 5) _ bl (fun L hL => (bw L hL).df)
  obtain ⟨km, rows', hr', hm⟩ := v17' (l.map (·.1)) (by simpa using b1) (fun L hL => (bw L hL).df)
  have hm := hm (d + 6)
  have len : l.length = (l.map (·.1)).length := by simp
  generalize l.map (·.1) = ls at t1 g1 g2 q1 len hm bl hr'
  have hkm : ¬ (km : Int) < 0 := by omega
  have hbd : ∀ ws, (bkOf ls s).1 = some ws → ws.length ≤ 1000000 ∧ ∀ q ∈ ws, q.length = 2 := fun ws hws => by
    unfold bkOf at hws
    cases hf : (flOf ls s).1 with
    | none => rw [hf] at hws; cases hws
    | some A =>
      rw [hf] at hws
      obtain ⟨ho, hA, _, _⟩ := flOf_some hf
      have h16 : A.length ≤ 16 := by rw [hA]; exact flA_le ho
      have h1 := bkp_len (nmA ls) A.length A (Nat.le_refl _)
      have h2 := bkp_two (nmA ls) A.length A (Nat.le_refl _)
      simp at hws
      rw [← hws]
      exact ⟨by omega, h2⟩
  generalize bkOf ls s = oc at g1 g2 hbd
  obtain ⟨o, c⟩ := oc
  cases o with
  | none =>
    have q2 := r22n (d + 8)
    have q3 := v23'n (d + 7) 1
    have q4 := r24n (d + 7) 1
    simp [oLL] at q3 q4 g1 g2
    rcases hx with rfl | ⟨rfl, _⟩ <;> simp [hs0, hk, h, t1, g1, g2, q1, q2, q3, q4, hm, hkm, hr', len]
  | some ws =>
    obtain ⟨hw2, hw3⟩ := hbd ws rfl
    have tt := tot_two hw3
    have q2 := r22 (d + 7) ws (by simp only [big]; omega) (fun q hq => by rw [hw3 q hq]; simp [big])
    have q3 := v23' (d + 7) ws 1 (by simp only [big]; omega) (by omega)
    have q4 := r24 (d + 7) ws 1 (by simp only [big]; omega) (by omega)
    simp [oLL] at q3 q4 g1 g2
    have q5 : ¬ (1 : Int) + (tot ws : Int) < 0 := by omega
    rcases hx with rfl | ⟨rfl, _⟩ <;> simp [hs0, hk, h, t1, g1, g2, q1, q2, q3, q4, q5, hm, hkm, hr', len]
end Go.Proofs.Ytmhddfikpfkeoaa.walkS
