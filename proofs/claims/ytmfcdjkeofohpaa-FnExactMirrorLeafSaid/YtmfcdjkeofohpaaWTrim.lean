/- A leaf trimmed; the row TrimLeaf; no conditions. -/
import Derived.Test.YtmfcdjkeofohpaaWLof2
namespace Go.Proofs.Ytmfcdjkeofohpaa.walkS
open Go Go.Proofs.Ytmfcdjkeofohpaa.Ev
set_option linter.unusedSimpArgs false
set_option linter.unusedVariables false
attribute [simp] subI
theorem meetB_comm (a b : Bx) : meetB a b = meetB b a := by
  unfold meetB
  cases decide (a.1 < W (b.1 + b.2.2.1)) <;> cases decide (b.1 < W (a.1 + a.2.2.1)) <;> cases decide (a.2.1 < W (b.2.1 + b.2.2.2)) <;> cases decide (b.2.1 < W (a.2.1 + a.2.2.2)) <;> rfl
abbrev zLV : List LV := [.sc (.string ⟨#[]⟩), .sc (.string ⟨#[]⟩), .sc (.int .i64 0), .sc (.string ⟨#[]⟩), .sc (.int .i64 0), .sc (.int .i64 0), .sc (.int .i64 0), .sc (.int .i64 0), .nl]
/-- the part of a box in another -/
def cutB (b q : Bx) : Bx := (W ((comB q b).1 - b.1), W ((comB q b).2.1 - b.2.1), (comB q b).2.2.1, (comB q b).2.2.2)
def cuts (p : Bx → Bool) (b : Bx) : List Bx → List Bx
  | [] => []
  | q :: l => ifb (p q) (cutB b q :: cuts p b l) (cuts p b l)
theorem cuts_len (p : Bx → Bool) (b : Bx) : ∀ (l : List Bx), (cuts p b l).length ≤ l.length := by
  intro l
  induction l with
  | nil => exact Nat.le_refl _
  | cons q l ih => cases h : p q <;> simp [cuts, h] <;> omega
theorem cuts_same {p p' : Bx → Bool} {b : Bx} : ∀ {l : List Bx}, (∀ q ∈ l, p q = p' q) → cuts p b l = cuts p' b l := by
  intro l
  induction l with
  | nil => intro _; rfl
  | cons x l ih =>
    intro h
    simp only [cuts, h x (by simp)]
    rw [ih fun q hq => h q (by simp [hq])]
theorem cuts_at {p : Bx → Bool} {b : Bx} {l : List Bx} {i : Nat} {q : Bx} {acc r : List Bx} (hx : l[i]? = some q) (h : acc ++ cuts p b (l.drop i) = r) : ifb (p q) (acc ++ [cutB b q]) acc ++ cuts p b (l.drop (i + 1)) = r := by
  rw [drop_get hx] at h
  rw [← h]
  cases hp : p q <;> simp [cuts, hp]
theorem cuts_nil {p : Bx → Bool} {b : Bx} {l : List Bx} {i : Nat} {acc r : List Bx} (hi : l.length ≤ i) (h : acc ++ cuts p b (l.drop i) = r) : acc = r := by
  rw [List.drop_eq_nil_of_le hi] at h
  simpa [cuts] using h
theorem l56 (d : Nat) (L : Lf) (b : Bx) (l : List Bx) (hb : l.length ≤ big) : ∀ (n i : Nat) (acc r : List Bx), n + i = l.length → acc ++ cuts (fun q => meetB q b) b (l.drop i) = r → acc.length ≤ i →
    clC [4, 6] [4, 5] (blk 0 (lp (evC (ev (d + 1)) b56_1) (clean [2, 3, 4, 6, 7]) ⟨lookS [(2, .bp (.sl 2) 0), (3, .bp (.sl 3) 0), (4, .bp (.sl 4) 0), (6, .bp (.sl 6) 0), (7, I i)], lookM [((.sl 2), some (.box (lA L (.ro 4 (l.map bC))))), ((.sl 3), some (.box (bV b))), ((.sl 4), some (.box zLV)), ((.sl 6), some (.box [T L.id, T L.fl, I L.num, T L.sp, I L.sh, I L.gr, I b.2.2.1, I b.2.2.2, .rf (.ce 6 8) none 0 acc.length])), ((.ce 6 8), some (.arr 91 4 (acc.map bC)))]⟩)) =
      some (.nm, ⟨lookS [(4, .bp (.sl 4) 0), (6, .bp (.sl 6) 0)], lookM [((.sl 4), some (.box zLV)), ((.sl 6), some (.box [T L.id, T L.fl, I L.num, T L.sp, I L.sh, I L.gr, I b.2.2.1, I b.2.2.2, .rf (.ce 6 8) none 0 r.length])), ((.ce 6 8), some (.arr 91 4 (r.map bC)))]⟩) := by
  intro n
  induction n with
  | zero =>
    intro i acc r hi hr ha
    have h0 : ¬ (i : Int) < (l.length : Int) := by omega
    have e := cuts_nil (by omega) hr
    subst e
    rw [lp_step]
    simp [h0]
  | succ n ih =>
    intro i acc r hi hr ha
    have hlt : i < l.length := by omega
    have h0 : (i : Int) < (l.length : Int) := by omega
    obtain ⟨q, hx⟩ := get_lt hlt
    have hw := wrap_nat (i := i) (by simp [big] at hb; omega)
    have hb2 : acc.length + 1 ≤ big := by omega
    have hr' := cuts_at hx hr
    have em := r89 d q b
    rw [lp_step]
    cases hp : meetB q b
    · rw [hp] at hr' em
      have ih' := ih (i + 1) acc r (by omega) hr' (by omega)
      simp at ih'
      simp [h0, hx, hw, em, ih', r108, r109]
    · rw [hp] at hr' em
      have ih' := ih (i + 1) (acc ++ [cutB b q]) r (by omega) hr' (by simp; omega)
      simp [cutB, comB, W] at ih'
      simp [h0, hx, hw, em, hb2, ih', r108, r109]
theorem l58 (d : Nat) (L : Lf) (b : Bx) (l : List Bx) (hb : l.length ≤ big) : ∀ (n i : Nat) (acc r : List Bx), n + i = l.length → acc ++ cuts (fun q => comOk q b) b (l.drop i) = r → acc.length ≤ i →
    clC [4, 6] [4, 5] (blk 1 (lp (evC (ev (d + 1)) b58_1) (clean [3, 4, 6, 49, 50, 51]) ⟨lookS [(3, .bp (.sl 3) 0), (4, .bp (.sl 4) 0), (6, .bp (.sl 6) 0), (49, .ro 4 (l.map bC)), (50, I l.length), (51, I i)], lookM [((.sl 3), some (.box (bV b))), ((.sl 4), some (.box zLV)), ((.sl 6), some (.box [T L.id, T L.fl, I L.num, T L.sp, I L.sh, I L.gr, I b.2.2.1, I b.2.2.2, .rf (.ce 6 8) none 0 acc.length])), ((.ce 6 8), some (.arr 91 4 (acc.map bC)))]⟩)) =
      some (.nm, ⟨lookS [(4, .bp (.sl 4) 0), (6, .bp (.sl 6) 0)], lookM [((.sl 4), some (.box zLV)), ((.sl 6), some (.box [T L.id, T L.fl, I L.num, T L.sp, I L.sh, I L.gr, I b.2.2.1, I b.2.2.2, .rf (.ce 6 8) none 0 r.length])), ((.ce 6 8), some (.arr 91 4 (r.map bC)))]⟩) := by
  intro n
  induction n with
  | zero =>
    intro i acc r hi hr ha
    have h0 : ¬ (i : Int) < (l.length : Int) := by omega
    have e := cuts_nil (by omega) hr
    subst e
    rw [lp_step]
    simp [h0]
  | succ n ih =>
    intro i acc r hi hr ha
    have hlt : i < l.length := by omega
    have h0 : (i : Int) < (l.length : Int) := by omega
    obtain ⟨q, hx⟩ := get_lt hlt
    have hw := wrap_nat (i := i) (by simp [big] at hb; omega)
    have hb2 : acc.length + 1 ≤ big := by omega
    have hr' := cuts_at hx hr
    have em := r110 d q b
    rw [lp_step]
    cases hp : comOk q b
    · rw [hp] at hr' em
      have ih' := ih (i + 1) acc r (by omega) hr' (by omega)
      simp at ih'
      simp [h0, hx, hw, em, ih']
    · rw [hp] at hr' em
      have ih' := ih (i + 1) (acc ++ [cutB b q]) r (by omega) hr' (by simp; omega)
      simp [cutB, W] at ih'
      simp [h0, hx, hw, em, hb2, ih']
def trX (r : List Bx) : LV := match r with | [] => .nl | _ => .rf (.ce 6 8) none 0 r.length
def trM (r : List Bx) : List (Ev.Id × Option Thing) := match r with | [] => [] | _ => [(Ev.Id.ce 6 8, some (.arr 91 4 (r.map bC)))]
theorem tr_cons {r : List Bx} (h : r ≠ []) : trX r = .rf (.ce 6 8) none 0 r.length ∧ trM r = [(Ev.Id.ce 6 8, some (.arr 91 4 (r.map bC)))] := by
  cases r with
  | nil => exact absurd rfl h
  | cons x r => exact ⟨rfl, rfl⟩
theorem l58n (d : Nat) (L : Lf) (b : Bx) (l : List Bx) (hb : l.length ≤ big) : ∀ (n i : Nat) (r : List Bx), n + i = l.length → cuts (fun q => comOk q b) b (l.drop i) = r →
    clC [4, 6] [4, 5] (blk 1 (lp (evC (ev (d + 1)) b58_1) (clean [3, 4, 6, 49, 50, 51]) ⟨lookS [(3, .bp (.sl 3) 0), (4, .bp (.sl 4) 0), (6, .bp (.sl 6) 0), (49, .ro 4 (l.map bC)), (50, I l.length), (51, I i)], lookM [((.sl 3), some (.box (bV b))), ((.sl 4), some (.box zLV)), ((.sl 6), some (.box [T L.id, T L.fl, I L.num, T L.sp, I L.sh, I L.gr, I b.2.2.1, I b.2.2.2, .nl]))]⟩)) =
      some (.nm, ⟨lookS [(4, .bp (.sl 4) 0), (6, .bp (.sl 6) 0)], lookM ([(Ev.Id.sl 4, some (Thing.box zLV)), (Ev.Id.sl 6, some (Thing.box [T L.id, T L.fl, I L.num, T L.sp, I L.sh, I L.gr, I b.2.2.1, I b.2.2.2, trX r]))] ++ trM r)⟩) := by
  intro n
  induction n with
  | zero =>
    intro i r hi hr
    have h0 : ¬ (i : Int) < (l.length : Int) := by omega
    have e := cuts_nil (acc := []) (by omega) hr
    subst e
    rw [lp_step]
    simp [h0, trX, trM]
  | succ n ih =>
    intro i r hi hr
    have hlt : i < l.length := by omega
    have h0 : (i : Int) < (l.length : Int) := by omega
    obtain ⟨q, hx⟩ := get_lt hlt
    have hw := wrap_nat (i := i) (by simp [big] at hb; omega)
    have hr' := cuts_at (acc := []) hx hr
    have em := r110 d q b
    rw [lp_step]
    cases hp : comOk q b
    · rw [hp] at hr' em
      have ih' := ih (i + 1) r (by omega) hr'
      simp at ih'
      simp [h0, hx, hw, em, ih']
    · rw [hp] at hr' em
      have hn : r ≠ [] := by rw [← hr']; simp
      have ih' := l58 d L b l hb n (i + 1) [cutB b q] r (by omega) hr' (by simp)
      rw [(tr_cons hn).1, (tr_cons hn).2]
      have hb1 : 1 ≤ big := by decide
      simp [cutB, W] at ih'
      simp [h0, hx, hw, em, hb1, ih']
def zLf : Lf := ⟨⟨#[]⟩, ⟨#[]⟩, 0, ⟨#[]⟩, 0, 0, 0, 0, []⟩
def trimCode (L : Lf) (b : Bx) : Int := ifb (okL L) (ifb (boxIn L.wd L.ln b) (ifb (decide (b.2.2.1 < 10) || decide (b.2.2.2 < 10)) 6 0) 2) 1
def trimT (L : Lf) (b : Bx) : Lf := ⟨L.id, L.fl, L.num, L.sp, L.sh, L.gr, b.2.2.1, b.2.2.2, cuts (fun q => meetB q b) b L.df⟩
def trimL (L : Lf) (b : Bx) : Lf := ifb (okL L) (ifb (boxIn L.wd L.ln b) (ifb (decide (b.2.2.1 < 10) || decide (b.2.2.2 < 10)) zLf (trimT L b)) zLf) zLf
/-- an own list of boxes, maybe nil -/
def OB (l : List Bx) (x : LV) : Prop := x = .ow 91 4 (l.map bC) ∨ (x = .nl ∧ l = [])
theorem ob_z : OB zLf.df .nl := .inr ⟨rfl, rfl⟩
theorem r56 (d : Nat) (L : Lf) (b : Bx) (hb : L.df.length ≤ big) (h1 : L.id.size ≤ big) (h2 : L.fl.size ≤ big) : ∃ x, OB (trimL L b).df x ∧ ev (d + 5) 56 [.ag (lV L), .ag (bV b)] = some (.tu [.ag (lA (trimL L b) x), I (trimCode L b)], []) := by
  rw [s56 (d + 4) _ rfl]
  have e1 := r82 d L hb h1 h2
  have e2 := r107 (d + 2) b L.wd L.ln
  unfold trimL trimCode
  cases a1 : okL L
  · rw [a1] at e1
    exact ⟨.nl, ob_z, by simp [e1, zLf]⟩
  rw [a1] at e1
  cases a2 : boxIn L.wd L.ln b
  · rw [a2] at e2
    exact ⟨.nl, ob_z, by simp [e1, e2, zLf]⟩
  rw [a2] at e2
  by_cases h3 : b.2.2.1 < 10
  · exact ⟨.nl, by simp only [h3, decide_true, Bool.true_or, ifb_t]; exact ob_z, by simp [e1, e2, h3, zLf]⟩
  by_cases h4 : b.2.2.2 < 10
  · exact ⟨.nl, by simp only [h4, decide_true, Bool.or_true, ifb_t]; exact ob_z, by simp [e1, e2, h3, h4, zLf]⟩
  simp only [h3, h4, decide_false, Bool.or_false, ifb_t, ifb_f]
  refine ⟨_, .inl rfl, ?_⟩
  have key := l56 (d + 3) L b L.df hb L.df.length 0 [] (cuts (fun q => meetB q b) b L.df) (by omega) (by simp) (by simp)
  simp at key
  simp [e1, e2, h3, h4, key, trimT]
theorem r58 (d : Nat) (L : Lf) (b : Bx) (hb : L.df.length ≤ big) (h1 : L.id.size ≤ big) (h2 : L.fl.size ≤ big) : ∃ x, OB (trimL L b).df x ∧ ev (d + 7) 58 [.ag (lV L), .ag (bV b)] = some (.tu [.ag (lA (trimL L b) x), I (trimCode L b)], []) := by
  rw [s58 (d + 6) _ rfl]
  have e1 := r28 d L hb h1 h2
  have e2 := r87 (d + 4) b L.wd L.ln
  unfold trimL trimCode
  cases a1 : okL L
  · rw [a1] at e1
    exact ⟨.nl, ob_z, by simp [e1, zLf]⟩
  rw [a1] at e1
  cases a2 : boxIn L.wd L.ln b
  · rw [a2] at e2
    exact ⟨.nl, ob_z, by simp [e1, e2, zLf]⟩
  rw [a2] at e2
  by_cases h3 : b.2.2.1 < 10
  · exact ⟨.nl, by simp only [h3, decide_true, Bool.true_or, ifb_t]; exact ob_z, by simp [e1, e2, h3, zLf]⟩
  by_cases h4 : b.2.2.2 < 10
  · exact ⟨.nl, by simp only [h4, decide_true, Bool.or_true, ifb_t]; exact ob_z, by simp [e1, e2, h3, h4, zLf]⟩
  simp only [h3, h4, decide_false, Bool.or_false, ifb_t, ifb_f]
  have same : cuts (fun q => comOk q b) b L.df = cuts (fun q => meetB q b) b L.df := cuts_same fun q hq => by
    simp only [okL, Bool.and_eq_true] at a1
    obtain ⟨_, _, _, _, g5, g6, _, g8⟩ := a1
    have hq' := List.all_eq_true.1 g8 q hq
    simp only [inR, Bool.and_eq_true, decide_eq_true_eq] at g5 g6
    have p1 := boxIn_in (by omega) (by omega) hq'
    have p2 := boxIn_in (by omega) (by omega) a2
    rw [meetB_comm]
    exact meet_same ⟨by omega, by omega, by omega, by omega⟩ ⟨by omega, by omega, by omega, by omega⟩
  have key := l58n (d + 5) L b L.df hb L.df.length 0 (cuts (fun q => comOk q b) b L.df) (by omega) (by simp)
  rw [same] at key
  unfold trimT
  generalize cuts (fun q => meetB q b) b L.df = r at key
  cases r with
  | nil =>
    refine ⟨.nl, .inr ⟨rfl, rfl⟩, ?_⟩
    simp [trX, trM] at key
    simp [e1, e2, h3, h4, key]
  | cons q r =>
    refine ⟨_, .inl rfl, ?_⟩
    simp [trX, trM] at key
    simp [e1, e2, h3, h4, key]
theorem r77sv (d : Nat) (l : List Bx) (hb : l.length ≤ big) {x y : LV} (hx : SV 4 (l.map bC) x) (hy : SV 4 (l.map bC) y) : ev (d + 2) 77 [x, y] = some (B true, []) := by
  rcases hx with rfl | ⟨rfl, hl⟩
  · rcases hy with rfl | ⟨rfl, hl⟩
    · exact r77 d l hb
    · have hl : l = [] := by simpa using hl
      subst hl
      rw [s77 (d + 1) _ rfl]
      simp
      rw [lp_step]
      simp
  · have hl : l = [] := by simpa using hl
    subst hl
    rw [s77 (d + 1) _ rfl]
    rcases hy with rfl | ⟨rfl, _⟩
    · simp
      rw [lp_step]
      simp
    · simp
      rw [lp_step]
      simp
theorem r21sv (d : Nat) (L : Lf) (hb : L.df.length ≤ big) {x y : LV} (hx : SV 4 (L.df.map bC) x) (hy : SV 4 (L.df.map bC) y) : ev (d + 3) 21 [.ag (lA L x), .ag (lA L y)] = some (B true, []) := by
  rw [s21 (d + 2) _ rfl]
  have r77 := r77sv d L.df hb hx hy
  rcases hx with rfl | ⟨rfl, _⟩ <;> rcases hy with rfl | ⟨rfl, _⟩ <;> simp [r77, r76]
set_option maxHeartbeats 2000000 in
theorem r13 (d : Nat) (L : Lf) (b : Bx) (w : WfL L) {x : LV} (hx : SV 4 (L.df.map bC) x) : ev (d + 8) 13 [.ag (lA L x), .ag (bV b)] = some (B true, []) := by
  rw [s13 (d + 7) _ rfl]
  obtain ⟨k, hk, hs⟩ := r17 (d + 5) L 1048576 hx
  by_cases h : k < 0
  · rcases hx with rfl | ⟨rfl, _⟩ <;> simp [hk, h]
  obtain ⟨b1, b2, b3, _⟩ := szL_bounds (by omega) w (hs (by omega))
  have t1 := r19 (d + 4) L b1 hx
  obtain ⟨y1, o1, g1⟩ := r56 (d + 2) L b b1 b2 b3
  obtain ⟨y2, o2, g2⟩ := r58 d L b b1 b2 b3
  have q1 := r21 (d + 4) L b1
  have tb := r57 (d + 6) b.1 b.2.1 b.2.2.1 b.2.2.2
  have hd : (trimL L b).df.length ≤ big := by
    unfold trimL
    cases okL L
    · exact Nat.zero_le _
    cases boxIn L.wd L.ln b
    · exact Nat.zero_le _
    cases decide (b.2.2.1 < 10) || decide (b.2.2.2 < 10)
    · exact Nat.le_trans (cuts_len _ _ _) b1
    · exact Nat.zero_le _
  have m1 := v45' (d + 5) L 1 (by simp only [big] at b1; omega)
  have m2 := v45' (d + 5) (trimL L b) 1 (by simp only [big] at hd; omega)
  have m3 := v45'n (d + 5) (trimL L b) 1
  generalize trimL L b = T at g1 g2 o1 o2 hd m2 m3
  generalize trimCode L b = c at g1 g2
  have hh := fun {x : LV} => r46 (d + 5) T T.df.length 1 (by simp only [big] at hd; omega) (x := x)
  have n1 : ¬ (1 : Int) + 4 * (L.df.length : Int) < 0 := by omega
  have n2 : ¬ (1 : Int) + 4 * (T.df.length : Int) < 0 := by omega
  simp at m1 m2 m3
  have q2 := fun {x y : LV} => r21sv (d + 4) T hd (x := x) (y := y)
  rcases o1 with rfl | ⟨rfl, e⟩ <;> rcases o2 with rfl | ⟨rfl, e'⟩
  · have q3 := q2 (x := .ro 4 (T.df.map bC)) (y := .ro 4 (T.df.map bC)) (.inl rfl) (.inl rfl)
    have h1 := hh (x := .ro 4 (markL mB 4 1 T.df.length)) (.inl rfl)
    simp at h1
    rcases hx with rfl | ⟨rfl, _⟩ <;> simp [hk, h, t1, tb, g1, g2, q1, q3, m1, m2, h1, n1, n2]
  · have q3 := q2 (x := .nl) (y := .ro 4 (T.df.map bC)) (.inr ⟨rfl, by rw [e']; rfl⟩) (.inl rfl)
    have h1 := hh (x := .nl) (.inr ⟨rfl, by rw [e']; rfl⟩)
    have e0 : T.df.length = 0 := by rw [e']; rfl
    simp [e0] at h1
    rcases hx with rfl | ⟨rfl, _⟩ <;> simp [hk, h, t1, tb, g1, g2, q1, q3, m1, m3, h1, n1]
  · have q3 := q2 (x := .ro 4 (T.df.map bC)) (y := .nl) (.inl rfl) (.inr ⟨rfl, by rw [e]; rfl⟩)
    have h1 := hh (x := .ro 4 (markL mB 4 1 T.df.length)) (.inl rfl)
    simp at h1
    rcases hx with rfl | ⟨rfl, _⟩ <;> simp [hk, h, t1, tb, g1, g2, q1, q3, m1, m2, h1, n1, n2]
  · have q3 := q2 (x := .nl) (y := .nl) (.inr ⟨rfl, by rw [e']; rfl⟩) (.inr ⟨rfl, by rw [e]; rfl⟩)
    have h1 := hh (x := .nl) (.inr ⟨rfl, by rw [e']; rfl⟩)
    have e0 : T.df.length = 0 := by rw [e']; rfl
    simp [e0] at h1
    rcases hx with rfl | ⟨rfl, _⟩ <;> simp [hk, h, t1, tb, g1, g2, q1, q3, m1, m3, h1, n1]
end Go.Proofs.Ytmfcdjkeofohpaa.walkS
