/- A leaf mirrored; the row MirrorLeaf; no conditions. -/
import Derived.Test.YtmfcdjkeofohpaaWTrim
namespace Go.Proofs.Ytmfcdjkeofohpaa.walkS
open Go Go.Proofs.Ytmfcdjkeofohpaa.Ev
set_option linter.unusedSimpArgs false
set_option linter.unusedVariables false
def mirB (w : Int) (q : Bx) : Bx := (W (W (w - q.1) - q.2.2.1), q.2.1, q.2.2.1, q.2.2.2)
theorem map_at {f : Bx → Bx} {l : List Bx} {i : Nat} {q : Bx} {acc r : List Bx} (hx : l[i]? = some q) (h : acc ++ (l.drop i).map f = r) : (acc ++ [f q]) ++ (l.drop (i + 1)).map f = r := by
  rw [drop_get hx] at h
  rw [← h]
  simp
theorem map_nil {f : Bx → Bx} {l : List Bx} {i : Nat} {acc r : List Bx} (hi : l.length ≤ i) (h : acc ++ (l.drop i).map f = r) : acc = r := by
  rw [List.drop_eq_nil_of_le hi] at h
  simpa using h
theorem l97 (d : Nat) (L : Lf) (l : List Bx) (hb : l.length ≤ big) : ∀ (n i : Nat) (acc r : List Bx), n + i = l.length → acc ++ (l.drop i).map (mirB L.wd) = r → acc.length = i →
    clC [0, 2, 3] [2] (blk 0 (lp (evC (ev d) b97_1) (clean [0, 2, 3, 4]) ⟨lookS [(0, .rp (lA L (.ro 4 (l.map bC)))), (2, .bp (.sl 2) 0), (3, .bp (.sl 3) 0), (4, I i)], lookM [((.sl 2), some (.box zLV)), ((.sl 3), some (.box (lA L (.rf (.ce 3 8) none 0 acc.length)))), ((.ce 3 8), some (.arr 91 4 (acc.map bC)))]⟩)) =
      some (.nm, ⟨lookS [(0, .rp (lA L (.ro 4 (l.map bC)))), (2, .bp (.sl 2) 0), (3, .bp (.sl 3) 0)], lookM [((.sl 2), some (.box zLV)), ((.sl 3), some (.box (lA L (.rf (.ce 3 8) none 0 r.length)))), ((.ce 3 8), some (.arr 91 4 (r.map bC)))]⟩) := by
  intro n
  induction n with
  | zero =>
    intro i acc r hi hr ha
    have h0 : ¬ (i : Int) < (l.length : Int) := by omega
    have e := map_nil (by omega) hr
    subst e
    rw [lp_step]
    simp [h0]
  | succ n ih =>
    intro i acc r hi hr ha
    have hlt : i < l.length := by omega
    have h0 : (i : Int) < (l.length : Int) := by omega
    obtain ⟨q, hx⟩ := get_lt hlt
    have hw := wrap_nat (i := i) (by simp [big] at hb; omega)
    have hb2 : acc.length + 1 ≤ big := by omega
    have hr' := map_at hx hr
    have ih' := ih (i + 1) (acc ++ [mirB L.wd q]) r (by omega) hr' (by simp; omega)
    rw [lp_step]
    simp [mirB, W] at ih'
    simp [h0, hx, hw, hb2, ih']
theorem l44 (d : Nat) (L : Lf) (l : List Bx) (hb : l.length ≤ big) : ∀ (n i : Nat) (acc r R : List Bx), n + i = l.length → acc ++ (l.drop i).map (mirB L.wd) = r → acc.length = i → R = acc ++ l.drop i →
    clC [1, 2, 4] [2, 3] (blk 0 (lp (evC (ev d) b44_1) (clean [1, 2, 4, 14, 15, 16]) ⟨lookS [(1, .bp (.sl 1) 0), (2, .bp (.sl 2) 0), (4, .bp (.sl 4) 0), (14, .rf (.sl 14) none 0 l.length), (15, I l.length), (16, I i)], lookM [((.sl 1), some (.box (lA L (.ro 4 (l.map bC))))), ((.sl 2), some (.box zLV)), ((.sl 4), some (.box (lA L (.rf (.sl 14) none 0 l.length)))), ((.sl 14), some (.arr 91 4 (R.map bC)))]⟩)) =
      some (.nm, ⟨lookS [(1, .bp (.sl 1) 0), (2, .bp (.sl 2) 0), (4, .bp (.sl 4) 0)], lookM [((.sl 1), some (.box (lA L (.ro 4 (l.map bC))))), ((.sl 2), some (.box zLV)), ((.sl 4), some (.box (lA L (.rf (.ce 4 8) none 0 l.length)))), ((.ce 4 8), some (.arr 91 4 (r.map bC)))]⟩) := by
  intro n
  induction n with
  | zero =>
    intro i acc r R hi hr ha hR
    have h0 : ¬ (i : Int) < (l.length : Int) := by omega
    have e := map_nil (by omega) hr
    rw [List.drop_eq_nil_of_le (by omega), List.append_nil] at hR
    subst e
    subst hR
    rw [lp_step]
    simp [h0]
  | succ n ih =>
    intro i acc r R hi hr ha hR
    have hlt : i < l.length := by omega
    have h0 : (i : Int) < (l.length : Int) := by omega
    obtain ⟨q, hx⟩ := get_lt hlt
    have hw := wrap_nat (i := i) (by simp [big] at hb; omega)
    have hg : R[i]? = some q := by
      rw [hR, List.getElem?_append_right (by omega), ha, Nat.sub_self, List.getElem?_drop]
      simpa using hx
    have hl : R.length = l.length := by rw [hR, List.length_append, List.length_drop]; omega
    have hs : R.set i (mirB L.wd q) = (acc ++ [mirB L.wd q]) ++ l.drop (i + 1) := by
      rw [hR, List.set_append_right _ _ (by omega), ha, Nat.sub_self, drop_get hx, List.set_cons_zero, List.append_assoc]
      rfl
    have hr' := map_at hx hr
    have ih' := ih (i + 1) (acc ++ [mirB L.wd q]) r (R.set i (mirB L.wd q)) (by omega) hr' (by simp; omega) hs
    rw [lp_step]
    simp [mirB, W] at ih'
    simp [h0, hg, hl, hw, ih']
def mirL (L : Lf) : Lf := ⟨L.id, L.fl, L.num, L.sp, L.sh, mir L.gr, L.wd, L.ln, L.df.map (mirB L.wd)⟩
def mirOut (L : Lf) : Lf := ifb (okL L) (mirL L) zLf
def mirCode (L : Lf) : Int := ifb (okL L) 0 1
theorem r97 (d : Nat) (L : Lf) (hb : L.df.length ≤ big) : ev (d + 1) 97 [.rp (lV L)] = some (.ag (lA (mirL L) (.ow 91 4 ((L.df.map (mirB L.wd)).map bC))), []) := by
  rw [s97 d _ rfl]
  have key := l97 d L L.df hb L.df.length 0 [] (L.df.map (mirB L.wd)) (by omega) (by simp) (by simp)
  simp at key
  simp [key, mirL, mir]
theorem r43 (d : Nat) (L : Lf) (hb : L.df.length ≤ big) (h1 : L.id.size ≤ big) (h2 : L.fl.size ≤ big) : ∃ x, OB (mirOut L).df x ∧ ev (d + 6) 43 [.ag (lV L)] = some (.tu [.ag (lA (mirOut L) x), I (mirCode L)], []) := by
  rw [s43 (d + 5) _ rfl]
  have e1 := r27 d L hb h1 h2
  have e2 := r97 (d + 4) L hb
  unfold mirOut mirCode
  cases a1 : okL L
  · rw [a1] at e1
    exact ⟨.nl, ob_z, by simp [e1, zLf]⟩
  rw [a1] at e1
  exact ⟨_, .inl rfl, by simp [e1, e2, mirL]⟩
theorem rCl (d : Nat) (l : List Bx) (hb : l.length ≤ big) : ev (d + 1) 138 [.ro 4 (l.map bC)] = some (.ow 91 4 (l.map bC), []) := by
  rw [s138 d _ rfl]
  simp [hb]
theorem r98 (d : Nat) (L : Lf) (hb : L.df.length ≤ big) : ev (d + 2) 98 [.ag (lV L)] = some (.ag (lA L (.ow 91 4 (L.df.map bC))), []) := by
  rw [s98 (d + 1) _ rfl]
  simp [rCl d L.df hb]
theorem r44 (d : Nat) (L : Lf) (hb : L.df.length ≤ big) (h1 : L.id.size ≤ big) (h2 : L.fl.size ≤ big) : ∃ x, OB (mirOut L).df x ∧ ev (d + 7) 44 [.ag (lV L)] = some (.tu [.ag (lA (mirOut L) x), I (mirCode L)], []) := by
  rw [s44 (d + 6) _ rfl]
  have e1 := r28 d L hb h1 h2
  have e2 := r98 (d + 4) L hb
  unfold mirOut mirCode
  cases a1 : okL L
  · rw [a1] at e1
    exact ⟨.nl, ob_z, by simp [e1, zLf]⟩
  rw [a1] at e1
  refine ⟨_, .inl rfl, ?_⟩
  have key := l44 (d + 6) L L.df hb L.df.length 0 [] (L.df.map (mirB L.wd)) L.df (by omega) (by simp) (by simp) (by simp)
  simp at key
  simp [e1, e2, key, mirL, r99]
set_option maxHeartbeats 2000000 in
theorem r10 (d : Nat) (L : Lf) (w : WfL L) {x : LV} (hx : SV 4 (L.df.map bC) x) : ev (d + 8) 10 [.ag (lA L x)] = some (B true, []) := by
  rw [s10 (d + 7) _ rfl]
  obtain ⟨k, hk, hs⟩ := r17 (d + 5) L 1048576 hx
  by_cases h : k < 0
  · rcases hx with rfl | ⟨rfl, _⟩ <;> simp [hk, h]
  obtain ⟨b1, b2, b3, _⟩ := szL_bounds (by omega) w (hs (by omega))
  have t1 := r19 (d + 4) L b1 hx
  obtain ⟨y1, o1, g1⟩ := r43 (d + 1) L b1 b2 b3
  obtain ⟨y2, o2, g2⟩ := r44 d L b1 b2 b3
  have q1 := r21 (d + 4) L b1
  have hd : (mirOut L).df.length ≤ big := by
    unfold mirOut
    cases okL L
    · exact Nat.zero_le _
    · simp [mirL, b1]
  have m1 := v45' (d + 5) L 1 (by simp only [big] at b1; omega)
  have m2 := v45' (d + 5) (mirOut L) 1 (by simp only [big] at hd; omega)
  have m3 := v45'n (d + 5) (mirOut L) 1
  generalize mirOut L = T at g1 g2 o1 o2 hd m2 m3
  generalize mirCode L = c at g1 g2
  have hh := fun {x : LV} => r46 (d + 5) T T.df.length 1 (by simp only [big] at hd; omega) (x := x)
  have n1 : ¬ (1 : Int) + 4 * (L.df.length : Int) < 0 := by omega
  have n2 : ¬ (1 : Int) + 4 * (T.df.length : Int) < 0 := by omega
  simp at m1 m2 m3
  have q2 := fun {x y : LV} => r21sv (d + 4) T hd (x := x) (y := y)
  rcases o1 with rfl | ⟨rfl, e⟩ <;> rcases o2 with rfl | ⟨rfl, e'⟩
  · have q3 := q2 (x := .ro 4 (T.df.map bC)) (y := .ro 4 (T.df.map bC)) (.inl rfl) (.inl rfl)
    have h1 := hh (x := .ro 4 (markL mB 4 1 T.df.length)) (.inl rfl)
    simp at h1
    rcases hx with rfl | ⟨rfl, _⟩ <;> simp [hk, h, t1, g1, g2, q1, q3, m1, m2, h1, n1, n2]
  · have q3 := q2 (x := .nl) (y := .ro 4 (T.df.map bC)) (.inr ⟨rfl, by rw [e']; rfl⟩) (.inl rfl)
    have h1 := hh (x := .nl) (.inr ⟨rfl, by rw [e']; rfl⟩)
    have e0 : T.df.length = 0 := by rw [e']; rfl
    simp [e0] at h1
    rcases hx with rfl | ⟨rfl, _⟩ <;> simp [hk, h, t1, g1, g2, q1, q3, m1, m3, h1, n1]
  · have q3 := q2 (x := .ro 4 (T.df.map bC)) (y := .nl) (.inl rfl) (.inr ⟨rfl, by rw [e]; rfl⟩)
    have h1 := hh (x := .ro 4 (markL mB 4 1 T.df.length)) (.inl rfl)
    simp at h1
    rcases hx with rfl | ⟨rfl, _⟩ <;> simp [hk, h, t1, g1, g2, q1, q3, m1, m2, h1, n1, n2]
  · have q3 := q2 (x := .nl) (y := .nl) (.inr ⟨rfl, by rw [e']; rfl⟩) (.inr ⟨rfl, by rw [e]; rfl⟩)
    have h1 := hh (x := .nl) (.inr ⟨rfl, by rw [e']; rfl⟩)
    have e0 : T.df.length = 0 := by rw [e']; rfl
    simp [e0] at h1
    rcases hx with rfl | ⟨rfl, _⟩ <;> simp [hk, h, t1, g1, g2, q1, q3, m1, m3, h1, n1]
end Go.Proofs.Ytmfcdjkeofohpaa.walkS
