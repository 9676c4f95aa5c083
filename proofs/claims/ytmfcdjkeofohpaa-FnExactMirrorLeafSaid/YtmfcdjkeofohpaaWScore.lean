/- The score of two leaves, and the fault of a veneer; the rows MatchScore and VeneerFault: they return true; no conditions. -/
import Derived.Test.YtmfcdjkeofohpaaWRow3
namespace Go.Proofs.Ytmfcdjkeofohpaa.walkS
open Go Go.Proofs.Ytmfcdjkeofohpaa.Ev
set_option linter.unusedSimpArgs false
def mir (g : Int) : Int := (W (180 - g)).tmod 180
def grB (book : Bool) (g : Int) : Int := ifb book (mir g) g
theorem r99 (d : Nat) (g : Int) : ev (d + 1) 99 [I g] = some (I (mir g), []) := by
  rw [s99 d _ rfl]
  simp [mir]
def sc1 (m : Int) (A C : Lf) (book : Bool) : Int := W (W (3 * m) + angl A.gr (grB book C.gr))
def sc2 (m n : Int) (A C : Lf) (book : Bool) : Int := if A.fl = C.fl then W (sc1 m A C book + n) else W (sc1 m A C book + 500)
def sc3 (m n : Int) (A C : Lf) (book : Bool) : Int := if A.sp = C.sp then sc2 m n A C book else W (sc2 m n A C book + 500)
def scI (A C : Lf) (book : Bool) : Int := sc3 (mxI (W (A.sh - C.sh)) (W (C.sh - A.sh))) (mnI (mxI (W (A.num - C.num)) (W (C.num - A.num))) 20) A C book
def scS (A C : Lf) (book : Bool) : Int := sc3 (mxI (W (A.sh - C.sh)) (W (-W (A.sh - C.sh)))) (mnI 20 (mxI (W (A.num - C.num)) (W (C.num - A.num)))) A C book
theorem r96 (d : Nat) (A C : Lf) (book : Bool) (h : okA A.gr (grB book C.gr) = true) : ev (d + 3) 96 [.ag (lV A), .ag (lV C), B book] = some (I (scI A C book), []) := by
  rw [s96 (d + 2) _ rfl]
  unfold scI sc3 sc2 sc1
  cases book <;> by_cases h1 : A.fl = C.fl <;> by_cases h2 : A.sp = C.sp <;> simp only [grB, ifb_t, ifb_f] at h ⊢ <;> simp [r99, r137, h, h1, h2, mxI, mnI, W]
theorem r95 (d : Nat) (A C : Lf) (book : Bool) : ev (d + 3) 95 [.rp (lV A), .rp (lV C), B book] = some (I (scS A C book), []) := by
  rw [s95 (d + 2) _ rfl]
  unfold scS sc3 sc2 sc1
  cases book <;> by_cases h1 : A.fl = C.fl <;> by_cases h2 : A.sp = C.sp <;> simp only [grB, ifb_t, ifb_f] <;> simp [r108, r109, r136, h1, h2, mir]
theorem okL_in {L : Lf} (h : okL L = true) : (0 ≤ L.sh ∧ L.sh ≤ 100) ∧ (0 ≤ L.gr ∧ L.gr ≤ 179) ∧ (0 ≤ L.num ∧ L.num ≤ 999) ∧ (10 ≤ L.wd ∧ L.wd ≤ 20000) ∧ (10 ≤ L.ln ∧ L.ln ≤ 20000) := by
  simp only [okL, Bool.and_eq_true] at h
  obtain ⟨_, _, h3, h4, h5, h6, _⟩ := h
  have g := okS_g h4
  have s := okS_sh h4
  simp only [inR, Bool.and_eq_true, decide_eq_true_eq] at g h3 h5 h6
  exact ⟨s, g, h3, h5, h6⟩
theorem mir_in {g : Int} (h : 0 ≤ g ∧ g ≤ 179) : 0 ≤ mir g ∧ mir g ≤ 179 := by
  unfold mir
  rw [W, IntWalk.i64_in _ (by omega), Int.tmod_eq_emod_of_nonneg (by omega)]
  omega
theorem sc_same {A C : Lf} (hA : okL A = true) (hC : okL C = true) (book : Bool) : scI A C book = scS A C book := by
  obtain ⟨a1, _, a3, _⟩ := okL_in hA
  obtain ⟨c1, _, c3, _⟩ := okL_in hC
  have w1 : W (A.sh - C.sh) = A.sh - C.sh := IntWalk.i64_in _ (by omega)
  have w2 : W (C.sh - A.sh) = C.sh - A.sh := IntWalk.i64_in _ (by omega)
  have w3 : W (-(A.sh - C.sh)) = C.sh - A.sh := by rw [W, IntWalk.i64_in _ (by omega)]; omega
  have w4 : mnI (mxI (W (A.num - C.num)) (W (C.num - A.num))) 20 = mnI 20 (mxI (W (A.num - C.num)) (W (C.num - A.num))) := by
    generalize mxI (W (A.num - C.num)) (W (C.num - A.num)) = q
    unfold mnI; split <;> split <;> omega
  unfold scI scS
  rw [w1, w2, w3, w4]
theorem okA_in {a b : Int} (ha : 0 ≤ a ∧ a ≤ 179) (hb : 0 ≤ b ∧ b ≤ 179) : okA a b = true := by
  simp only [okA, inR, Bool.and_eq_true, decide_eq_true_eq]; exact ⟨ha, hb⟩
theorem grB_in {book : Bool} {g : Int} (h : 0 ≤ g ∧ g ≤ 179) : 0 ≤ grB book g ∧ grB book g ≤ 179 := by
  cases book
  · exact h
  · exact mir_in h
def matchScore (A C : Lf) (book : Bool) : LV := ifb (okL A && okL C) (.tu [I (scI A C book), I 0]) (.tu [I 0, I 1])
/-- sizes that the names' walks take -/
structure BdL (L : Lf) : Prop where
  df : L.df.length ≤ big
  id : L.id.size ≤ big
  fl : L.fl.size ≤ big
theorem r41 (d : Nat) (A C : Lf) (book : Bool) (bA : BdL A) (bC' : BdL C) : ev (d + 6) 41 [.ag (lV A), .ag (lV C), B book] = some (matchScore A C book, []) := by
  rw [s41 (d + 5) _ rfl]
  have e1 := r27 d A bA.df bA.id bA.fl
  have e2 := r27 d C bC'.df bC'.id bC'.fl
  have e3 := r95 (d + 2) A C book
  unfold matchScore
  cases hA : okL A
  · rw [hA] at e1; simp [e1]
  · cases hC : okL C
    · rw [hA] at e1; rw [hC] at e2; simp [e1, e2]
    · rw [← sc_same hA hC] at e3
      rw [hA] at e1; rw [hC] at e2
      simp [e1, e2, e3]
theorem r42 (d : Nat) (A C : Lf) (book : Bool) (bA : BdL A) (bC' : BdL C) : ev (d + 7) 42 [.ag (lV A), .ag (lV C), B book] = some (matchScore A C book, []) := by
  rw [s42 (d + 6) _ rfl]
  have e1 := r28 d A bA.df bA.id bA.fl
  have e2 := r28 d C bC'.df bC'.id bC'.fl
  unfold matchScore
  cases hA : okL A
  · rw [hA] at e1; simp [e1]
  · cases hC : okL C
    · rw [hA] at e1; rw [hC] at e2; simp [e1, e2]
    · have e3 := r96 (d + 3) A C book (okA_in (okL_in hA).2.1 (grB_in (okL_in hC).2.1))
      rw [hA] at e1; rw [hC] at e2
      simp [e1, e2, e3]
theorem r9 (d : Nat) (A C : Lf) (book : Bool) (wA : WfL A) (wC : WfL C) {x y : LV} (hx : SV 4 (A.df.map bC) x) (hy : SV 4 (C.df.map bC) y) : ev (d + 8) 9 [.ag (lA A x), .ag (lA C y), B book] = some (B true, []) := by
  rw [s9 (d + 7) _ rfl]
  obtain ⟨k, hk, hs⟩ := r17 (d + 5) A 1048576 hx
  by_cases h : k < 0
  · rcases hx with rfl | ⟨rfl, _⟩ <;> rcases hy with rfl | ⟨rfl, _⟩ <;> simp [hk, h]
  obtain ⟨bA, iA, fA, _, k0, k1⟩ := szL_bounds (by omega) wA (hs (by omega))
  obtain ⟨k', hk', hs'⟩ := r17 (d + 5) C k hy
  by_cases h' : k' < 0
  · rcases hx with rfl | ⟨rfl, _⟩ <;> rcases hy with rfl | ⟨rfl, _⟩ <;> simp [hk, h, hk', h']
  obtain ⟨bC', iC, fC, _⟩ := szL_bounds (by omega) wC (hs' (by omega))
  have t1 := r19 (d + 4) A bA hx
  have t2 := r19 (d + 4) C bC' hy
  have g1 := r41 (d + 1) A C book ⟨bA, iA, fA⟩ ⟨bC', iC, fC⟩
  have g2 := r42 d A C book ⟨bA, iA, fA⟩ ⟨bC', iC, fC⟩
  have q1 := r21 (d + 4) A bA
  have q2 := r21 (d + 4) C bC'
  obtain ⟨p, q, e⟩ : ∃ p q, matchScore A C book = .tu [I p, I q] := by
    unfold matchScore
    cases okL A && okL C <;> exact ⟨_, _, rfl⟩
  rw [e] at g1 g2
  rcases hx with rfl | ⟨rfl, _⟩ <;> rcases hy with rfl | ⟨rfl, _⟩ <;> simp [hk, h, hk', h', t1, t2, g1, g2, q1, q2]
/-! ### the fault of a veneer -/
def okR (a b c e : Int) : Bool := inR a 0 500 && (inR b 0 500 && (inR c 0 90 && inR e 0 100))
theorem r105 (d : Nat) (a b c e : Int) : ev (d + 2) 105 [.ag [I a, I b, I c, I e]] = some (B (okR a b c e), []) := by
  rw [s105 (d + 1) _ rfl]
  unfold okR
  cases h1 : inR a 0 500 <;> cases h2 : inR b 0 500 <;> cases h3 : inR c 0 90 <;> cases h4 : inR e 0 100 <;> simp [r84, h1, h2, h3, h4]
theorem r102 (d : Nat) (a b c e : Int) : ev (d + 2) 102 [.rp [I a, I b, I c, I e]] = some (B (okR a b c e), []) := by
  rw [s102 (d + 1) _ rfl]
  unfold okR
  cases h1 : inR a 0 500 <;> cases h2 : inR b 0 500 <;> cases h3 : inR c 0 90 <;> cases h4 : inR e 0 100 <;> simp [r88, h1, h2, h3, h4]
theorem r50 (d : Nat) (a b c e : Int) : ev (d + 1) 50 [.ag [I a, I b, I c, I e]] = some (.ag [I a, I b, I c, I e], []) := by
  rw [s50 d _ rfl]
  simp
theorem r103 (d : Nat) (t : Int) : ev (d + 2) 103 [I t] = some (B (inR t 0 7), []) := by
  rw [s103 (d + 1) _ rfl]
  simp [r88]
def trn (g t : Int) : Int := (W ((if 4 ≤ t then W (180 - g) else g) + W (90 * t))).tmod 180
theorem r139 (d : Nat) (g t : Int) : ev (d + 1) 139 [I g, I t] = some (I (trn g t), []) := by
  rw [s139 d _ rfl]
  unfold trn
  by_cases h : 4 ≤ t <;> simp [h]
theorem r140 (d : Nat) (g t : Int) (hg : inR g 0 179 = true) (ht : inR t 0 7 = true) : ev (d + 2) 140 [I g, I t] = some (.tu [I (trn g t), I 0], []) := by
  rw [s140 (d + 1) _ rfl]
  unfold trn
  by_cases h : 4 ≤ t
  · have h' : 3 < t := by omega
    simp [r84, hg, ht, h, h']
  · have h' : ¬ 3 < t := by omega
    simp [r84, hg, ht, h, h']
theorem trn_in {g t : Int} (hg : 0 ≤ g ∧ g ≤ 179) (ht : 0 ≤ t ∧ t ≤ 7) : 0 ≤ trn g t ∧ trn g t ≤ 179 := by
  unfold trn
  have w1 : W (180 - g) = 180 - g := IntWalk.i64_in _ (by omega)
  have w2 : W (90 * t) = 90 * t := IntWalk.i64_in _ (by omega)
  rw [w1, w2]
  split
  · rw [W, IntWalk.i64_in _ (by omega), Int.tmod_eq_emod_of_nonneg (by omega)]; omega
  · rw [W, IntWalk.i64_in _ (by omega), Int.tmod_eq_emod_of_nonneg (by omega)]; omega
/-- the fault of a veneer's numbers against a leaf's -/
def vf (s : ByteArray) (a g : Int) (L : Lf) (t c e : Int) : Int :=
  if s = L.sp then (if e < mxI (W (a - L.sh)) (W (L.sh - a)) then 3 else if c < angl (trn L.gr t) g then 4 else 0) else 2
theorem r104 (d : Nat) (s : ByteArray) (a g : Int) (L : Lf) (t p q c e : Int) : ev (d + 3) 104 [.rp (V s a g), .rp (lV L), I t, .rp [I p, I q, I c, I e]] = some (I (vf s a g L t c e), []) := by
  rw [s104 (d + 2) _ rfl]
  unfold vf
  by_cases h1 : s = L.sp
  case neg => simp [h1]
  by_cases h2 : e < mxI (W (a - L.sh)) (W (L.sh - a))
  · have h2' := h2; simp only [W] at h2'
    simp [h1, r108, h2']
  have h2' := h2; simp only [W] at h2'
  by_cases h3 : c < angl (trn L.gr t) g <;> simp [h1, r108, h2', r139, r136, h3]
theorem r106 (d : Nat) (s : ByteArray) (a g : Int) (L : Lf) (t p q c e : Int) (hg : inR L.gr 0 179 = true) (ht : inR t 0 7 = true) (ho : okA (trn L.gr t) g = true) : ev (d + 3) 106 [.ag (V s a g), .ag (lV L), I t, .ag [I p, I q, I c, I e]] = some (I (vf s a g L t c e), []) := by
  rw [s106 (d + 2) _ rfl]
  have e1 := r140 d L.gr t hg ht
  have e2 := r137 d (trn L.gr t) g
  rw [ho, if_pos rfl, if_pos rfl] at e2
  unfold vf
  by_cases h1 : s = L.sp
  case neg => simp [e1, e2, h1]
  by_cases h2 : e < mxI (W (a - L.sh)) (W (L.sh - a))
  · have h2' := h2; simp only [W, mxI] at h2'
    simp [e1, e2, h1, h2', mxI]
  have h2' := h2; simp only [W, mxI] at h2'
  by_cases h3 : c < angl (trn L.gr t) g <;> simp [e1, e2, h1, h2', h3, mxI]
def veneerFault (s : ByteArray) (a g : Int) (L : Lf) (t p q c e : Int) : LV :=
  ifb (okS s a g && (okL L && okR p q c e)) (ifb (inR t 0 7) (.tu [I (vf s a g L t c e), I 0]) (.tu [I 0, I 2])) (.tu [I 0, I 1])
theorem r48 (d : Nat) (s : ByteArray) (a g : Int) (L : Lf) (t p q c e : Int) (bL : BdL L) : ev (d + 5) 48 [.ag (V s a g), .ag (lV L), I t, .ag [I p, I q, I c, I e]] = some (veneerFault s a g L t p q c e, []) := by
  rw [s48 (d + 4) _ rfl]
  have e1 := r82 d L bL.df bL.id bL.fl
  have e2 := r104 (d + 1) s a g L t p q c e
  unfold veneerFault
  cases h1 : okS s a g
  case false => simp [r78, h1]
  cases h2 : okL L
  case false => rw [h2] at e1; simp [r78, h1, e1]
  cases h3 : okR p q c e
  case false => rw [h2] at e1; simp [r78, h1, e1, r102, h3]
  rw [h2] at e1
  cases h4 : inR t 0 7 <;> simp [r78, h1, e1, r102, h3, r103, h4, e2]
theorem r51 (d : Nat) (s : ByteArray) (a g : Int) (L : Lf) (t p q c e : Int) (bL : BdL L) : ev (d + 7) 51 [.ag (V s a g), .ag (lV L), I t, .ag [I p, I q, I c, I e]] = some (veneerFault s a g L t p q c e, []) := by
  rw [s51 (d + 6) _ rfl]
  have e1 := r28 d L bL.df bL.id bL.fl
  unfold veneerFault
  cases h1 : okS s a g
  case false => simp [r80, ok_same, h1]
  cases h2 : okL L
  case false => rw [h2] at e1; simp [r80, ok_same, h1, e1]
  cases h3 : okR p q c e
  case false => rw [h2] at e1; simp [r80, ok_same, h1, e1, r105, h3]
  rw [h2] at e1
  cases h4 : inR t 0 7
  case false => simp [r80, ok_same, h1, e1, r105, h3, r84, h4]
  have gL := (okL_in h2).2.1
  have gv := okS_g h1
  have gL' : inR L.gr 0 179 = true := by simp only [inR, Bool.and_eq_true, decide_eq_true_eq]; exact gL
  have ht := h4
  simp only [inR, Bool.and_eq_true, decide_eq_true_eq] at gv ht
  have e2 := r106 (d + 3) s a g L t p q c e gL' h4 (okA_in (trn_in gL ht) gv)
  simp [r80, ok_same, h1, e1, r105, h3, r84, h4, e2]
theorem sv_ok {n : Int} {s : ByteArray} (h : 0 ≤ sz1 n s.size) (hn : 0 ≤ n ∧ n ≤ 1048576) (hs : s.size ≤ maxLen) : 0 ≤ sz1 n s.size ∧ sz1 n s.size ≤ 1048576 := by
  obtain ⟨h1, h2⟩ := sz1_ok hn hs h
  omega
theorem r11 (d : Nat) (s : ByteArray) (a g : Int) (L : Lf) (t p q c e : Int) (hs : s.size ≤ maxLen) (w : WfL L) {x : LV} (hx : SV 4 (L.df.map bC) x) : ev (d + 8) 11 [.ag (V s a g), .ag (lA L x), I t, .ag [I p, I q, I c, I e]] = some (B true, []) := by
  rw [s11 (d + 7) _ rfl]
  have z1 := z47 (d + 6) s a g 1048576
  by_cases h : sz1 1048576 s.size < 0
  · rcases hx with rfl | ⟨rfl, _⟩ <;> simp [z1, h]
  have hb := sv_ok (n := 1048576) (by omega) (by omega) hs
  obtain ⟨k, hk, hsz⟩ := r17 (d + 5) L (sz1 1048576 s.size) hx
  by_cases h' : k < 0
  · rcases hx with rfl | ⟨rfl, _⟩ <;> simp [z1, h, hk, h']
  obtain ⟨b1, b2, b3, _⟩ := szL_bounds hb w (hsz (by omega))
  have t1 := r19 (d + 4) L b1 hx
  have g1 := r48 (d + 2) s a g L t p q c e ⟨b1, b2, b3⟩
  have g2 := r51 d s a g L t p q c e ⟨b1, b2, b3⟩
  have q1 := r21 (d + 4) L b1
  obtain ⟨u, v, e⟩ : ∃ u v, veneerFault s a g L t p q c e = .tu [I u, I v] := by
    unfold veneerFault
    cases okS s a g && (okL L && okR p q c e)
    · exact ⟨_, _, rfl⟩
    · cases inR t 0 7 <;> exact ⟨_, _, rfl⟩
  rw [e] at g1 g2
  rcases hx with rfl | ⟨rfl, _⟩ <;> simp [z1, h, hk, h', t1, g1, g2, q1, r49, r50]
end Go.Proofs.Ytmfcdjkeofohpaa.walkS
