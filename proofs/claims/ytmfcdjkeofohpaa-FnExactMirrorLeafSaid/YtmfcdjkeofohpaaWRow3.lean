/- The rows SameLeaf, ValidLeaf and DefectAt: they return true; no conditions. -/
import Derived.Test.YtmfcdjkeofohpaaWMeet
namespace Go.Proofs.Ytmfcdjkeofohpaa.walkS
open Go Go.Proofs.Ytmfcdjkeofohpaa.Ev
set_option linter.unusedSimpArgs false
theorem l73 (d : Nat) (A C : Lf) (hl : A.df.length = C.df.length) (hb : A.df.length ≤ big) : ∀ (n i : Nat), n + i = A.df.length →
    clC [] [4] (blk 0 (lp (evC (ev d) b73_1) (clean [0, 1, 5]) ⟨lookS [(0, .rp (lV A)), (1, .rp (lV C)), (5, I i)], lookM []⟩)) =
      if A.df.drop i = C.df.drop i then some (.nm, ⟨lookS [], lookM []⟩) else some (.rt, ⟨lookS [(4, B false)], lookM []⟩) := by
  intro n
  induction n with
  | zero =>
    intro i hi
    have h0 : ¬ (i : Int) < (A.df.length : Int) := by omega
    have h1 : A.df.drop i = [] := List.drop_eq_nil_of_le (by omega)
    have h2 : C.df.drop i = [] := List.drop_eq_nil_of_le (by omega)
    rw [lp_step]
    simp [h0, h1, h2]
  | succ n ih =>
    intro i hi
    have hlt : i < A.df.length := by omega
    have h0 : (i : Int) < (A.df.length : Int) := by omega
    obtain ⟨x, hx⟩ := get_lt hlt
    obtain ⟨y, hy⟩ := get_lt (l := C.df) (i := i) (by omega)
    have hw := wrap_nat (i := i) (by simp [big] at hb; omega)
    have ih' := ih (i + 1) (by omega)
    simp at ih'
    rw [lp_step, drop_get hx, drop_get hy]
    by_cases hxy : x = y
    · subst hxy
      simp [h0, hx, hy, hw, ih']
    · simp [h0, hx, hy, hw, hxy, eqq_ne hxy]
theorem r73 (d : Nat) (A C : Lf) (hb : A.df.length ≤ big) : ev (d + 1) 73 [.rp (lV A), .rp (lV C)] = some (B (sameL A C), []) := by
  rw [s73 d _ rfl]
  unfold sameL
  by_cases h1 : A.id = C.id
  case neg => simp [h1]
  by_cases h2 : A.fl = C.fl
  case neg => simp [h1, h2]
  by_cases h3 : A.num = C.num
  case neg => simp [h1, h2, h3]
  cases h4 : eqq (A.sp, A.sh, A.gr) (C.sp, C.sh, C.gr)
  case false => simp [h1, h2, h3, h4]
  by_cases h5 : A.wd = C.wd
  case neg => simp [h1, h2, h3, h4, h5]
  by_cases h6 : A.ln = C.ln
  case neg => simp [h1, h2, h3, h4, h5, h6]
  by_cases hl : A.df.length = C.df.length
  case neg =>
    have hl2 : ¬ (A.df.length : Int) = (C.df.length : Int) := by omega
    have hne : A.df ≠ C.df := fun e => hl (by rw [e])
    simp [h1, h2, h3, h4, h5, h6, hl2, hne]
  have key := l73 d A C hl hb A.df.length 0 (by omega)
  have hl2 : (A.df.length : Int) = (C.df.length : Int) := by omega
  rw [List.drop_zero, List.drop_zero] at key
  by_cases h7 : A.df = C.df
  · rw [if_pos h7] at key
    have : decide (A.df = C.df) = true := by simpa using h7
    rw [this]
    clear this h7
    simp at key
    simp [h1, h2, h3, h4, h5, h6, hl2, key]
  · rw [if_neg h7] at key
    have : decide (A.df = C.df) = false := by simpa using h7
    rw [this]
    clear this h7
    simp at key
    simp [h1, h2, h3, h4, h5, h6, hl2, key]
theorem r18 (d : Nat) (A C : Lf) (hb : A.df.length ≤ big) : ev (d + 2) 18 [.ag (lV A), .ag (lV C)] = some (B (sameL A C), []) := by
  rw [s18 (d + 1) _ rfl]
  have := r73 d A C hb
  simp [this]
theorem r27 (d : Nat) (L : Lf) (hb : L.df.length ≤ big) (h1 : L.id.size ≤ big) (h2 : L.fl.size ≤ big) : ev (d + 5) 27 [.ag (lV L)] = some (B (okL L), []) := by
  rw [s27 (d + 4) _ rfl]
  have := r82 d L hb h1 h2
  simp [this]
/-- what is known of a leaf that comes in -/
structure WfL (L : Lf) : Prop where
  id : L.id.size ≤ maxLen
  fl : L.fl.size ≤ maxLen
  sp : L.sp.size ≤ maxLen
  df : L.df.length ≤ maxLen
theorem szL_bounds {n k : Int} {L : Lf} (hn : 0 ≤ n ∧ n ≤ 1048576) (w : WfL L) (h : szL n k L) : L.df.length ≤ big ∧ L.id.size ≤ big ∧ L.fl.size ≤ big ∧ L.sp.size ≤ big ∧ 0 ≤ k ∧ k ≤ 1048576 := by
  obtain ⟨a1, a2, a3, a4, a5⟩ := h
  obtain ⟨b1, c1⟩ := sz1_ok hn w.id a1
  obtain ⟨b2, c2⟩ := sz1_ok (by omega) w.fl a2
  obtain ⟨b3, c3⟩ := sz1_ok (by omega) w.sp a3
  rw [a5] at a4
  obtain ⟨b4, c4⟩ := sz1_ok (by omega) w.df a4
  simp only [big]
  refine ⟨by omega, by omega, by omega, by omega, by omega, by omega⟩
theorem r3 (d : Nat) (A C : Lf) (wA : WfL A) (wC : WfL C) {x y : LV} (hx : SV 4 (A.df.map bC) x) (hy : SV 4 (C.df.map bC) y) : ev (d + 5) 3 [.ag (lA A x), .ag (lA C y)] = some (B true, []) := by
  rw [s3 (d + 4) _ rfl]
  obtain ⟨k, hk, hs⟩ := r17 (d + 2) A 1048576 hx
  by_cases h : k < 0
  · rcases hx with rfl | ⟨rfl, _⟩ <;> rcases hy with rfl | ⟨rfl, _⟩ <;> simp [hk, h]
  obtain ⟨bA, _, _, _, k0, k1⟩ := szL_bounds (by omega) wA (hs (by omega))
  obtain ⟨k', hk', hs'⟩ := r17 (d + 2) C k hy
  by_cases h' : k' < 0
  · rcases hx with rfl | ⟨rfl, _⟩ <;> rcases hy with rfl | ⟨rfl, _⟩ <;> simp [hk, h, hk', h']
  obtain ⟨bC', _⟩ := szL_bounds (by omega) wC (hs' (by omega))
  have t1 := r19 (d + 1) A bA hx
  have t2 := r19 (d + 1) C bC' hy
  have g1 := r18 (d + 2) A C bA
  have g2 := r20 (d + 2) A C bA
  have q1 := r21 (d + 1) A bA
  have q2 := r21 (d + 1) C bC'
  generalize sameL A C = r at g1 g2
  rcases hx with rfl | ⟨rfl, _⟩ <;> rcases hy with rfl | ⟨rfl, _⟩ <;> cases r <;> simp [hk, h, hk', h', t1, t2, g1, g2, q1, q2]
theorem r5 (d : Nat) (L : Lf) (w : WfL L) {x : LV} (hx : SV 4 (L.df.map bC) x) : ev (d + 7) 5 [.ag (lA L x)] = some (B true, []) := by
  rw [s5 (d + 6) _ rfl]
  obtain ⟨k, hk, hs⟩ := r17 (d + 4) L 1048576 hx
  by_cases h : k < 0
  · rcases hx with rfl | ⟨rfl, _⟩ <;> simp [hk, h]
  obtain ⟨b1, b2, b3, _⟩ := szL_bounds (by omega) w (hs (by omega))
  have t1 := r19 (d + 3) L b1 hx
  have g1 := r27 (d + 1) L b1 b2 b3
  have g2 := r28 d L b1 b2 b3
  have q1 := r21 (d + 3) L b1
  generalize okL L = r at g1 g2
  rcases hx with rfl | ⟨rfl, _⟩ <;> cases r <;> simp [hk, h, t1, g1, g2, q1]
theorem r6 (d : Nat) (L : Lf) (u v : Int) (w : WfL L) {x : LV} (hx : SV 4 (L.df.map bC) x) : ev (d + 8) 6 [.ag (lA L x), I u, I v] = some (B true, []) := by
  rw [s6 (d + 7) _ rfl]
  obtain ⟨k, hk, hs⟩ := r17 (d + 5) L 1048576 hx
  by_cases h : k < 0
  · rcases hx with rfl | ⟨rfl, _⟩ <;> simp [hk, h]
  obtain ⟨b1, b2, b3, _⟩ := szL_bounds (by omega) w (hs (by omega))
  have t1 := r19 (d + 4) L b1 hx
  have g1 := r29 (d + 2) L u v b1 b2 b3
  have g2 := r30 d L u v b1 b2 b3
  have q1 := r21 (d + 4) L b1
  obtain ⟨p, q, e⟩ : ∃ p q, defectAt L u v = .tu [I p, I q] := by
    unfold defectAt
    cases okL L
    · exact ⟨_, _, rfl⟩
    cases inL L u v
    · exact ⟨_, _, rfl⟩
    cases L.df.any (atP u v) <;> exact ⟨_, _, rfl⟩
  rw [e] at g1 g2
  rcases hx with rfl | ⟨rfl, _⟩ <;> simp [hk, h, t1, g1, g2, q1]
end Go.Proofs.Ytmfcdjkeofohpaa.walkS
