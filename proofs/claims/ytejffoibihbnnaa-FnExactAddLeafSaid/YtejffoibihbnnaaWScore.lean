/- The score of two leaves, and the fault of a veneer; the rows MatchScore and VeneerFault: they return true; no conditions. -/
import Derived.Test.YtejffoibihbnnaaWRow3
namespace Go.Proofs.Ytejffoibihbnnaa.walkS
open Go Go.Proofs.Ytejffoibihbnnaa.Ev
set_option linter.unusedSimpArgs false
def mir (g : Int) : Int := (W (180 - g)).tmod 180
def grB (book : Bool) (g : Int) : Int := ifb book (mir g) g
def sc1 (m : Int) (A C : Lf) (book : Bool) : Int := W (W (3 * m) + angl A.gr (grB book C.gr))
def sc2 (m n : Int) (A C : Lf) (book : Bool) : Int := if A.fl = C.fl then W (sc1 m A C book + n) else W (sc1 m A C book + 500)
def sc3 (m n : Int) (A C : Lf) (book : Bool) : Int := if A.sp = C.sp then sc2 m n A C book else W (sc2 m n A C book + 500)
def scI (A C : Lf) (book : Bool) : Int := sc3 (mxI (W (A.sh - C.sh)) (W (C.sh - A.sh))) (mnI (mxI (W (A.num - C.num)) (W (C.num - A.num))) 20) A C book
def scS (A C : Lf) (book : Bool) : Int := sc3 (mxI (W (A.sh - C.sh)) (W (-W (A.sh - C.sh)))) (mnI 20 (mxI (W (A.num - C.num)) (W (C.num - A.num)))) A C book
theorem okL_in {L : Lf} (h : okL L = true) : (0 ≤ L.sh ∧ L.sh ≤ 100) ∧ (0 ≤ L.gr ∧ L.gr ≤ 179) ∧ (0 ≤ L.num ∧ L.num ≤ 999) ∧ (10 ≤ L.wd ∧ L.wd ≤ 20000) ∧ (10 ≤ L.ln ∧ L.ln ≤ 20000) := by
  simp only [okL, Bool.and_eq_true] at h
  obtain ⟨_, _, h3, h4, h5, h6, _⟩ := h
  have g := okS_g h4
  have s := okS_sh h4
  simp only [inR, Bool.and_eq_true, decide_eq_true_eq] at g h3 h5 h6
  exact ⟨s, g, h3, h5, h6⟩
theorem mir_in {g : Int} (h : 0 ≤ g ∧ g ≤ 179) : 0 ≤ mir g ∧ mir g ≤ 179 := by
  unfold mir
  rw [W, IntWalk.i64_in _ (by omega), Int.tmod_eq_emod_of_nonneg (by omega)]
  omega
theorem sc_same {A C : Lf} (hA : okL A = true) (hC : okL C = true) (book : Bool) : scI A C book = scS A C book := by
  obtain ⟨a1, _, a3, _⟩ := okL_in hA
  obtain ⟨c1, _, c3, _⟩ := okL_in hC
  have w1 : W (A.sh - C.sh) = A.sh - C.sh := IntWalk.i64_in _ (by omega)
  have w2 : W (C.sh - A.sh) = C.sh - A.sh := IntWalk.i64_in _ (by omega)
  have w3 : W (-(A.sh - C.sh)) = C.sh - A.sh := by rw [W, IntWalk.i64_in _ (by omega)]; omega
  have w4 : mnI (mxI (W (A.num - C.num)) (W (C.num - A.num))) 20 = mnI 20 (mxI (W (A.num - C.num)) (W (C.num - A.num))) := by
    generalize mxI (W (A.num - C.num)) (W (C.num - A.num)) = q
    unfold mnI; split <;> split <;> omega
  unfold scI scS
  rw [w1, w2, w3, w4]
theorem okA_in {a b : Int} (ha : 0 ≤ a ∧ a ≤ 179) (hb : 0 ≤ b ∧ b ≤ 179) : okA a b = true := by
  simp only [okA, inR, Bool.and_eq_true, decide_eq_true_eq]; exact ⟨ha, hb⟩
theorem grB_in {book : Bool} {g : Int} (h : 0 ≤ g ∧ g ≤ 179) : 0 ≤ grB book g ∧ grB book g ≤ 179 := by
  cases book
  · exact h
  · exact mir_in h
def matchScore (A C : Lf) (book : Bool) : LV := ifb (okL A && okL C) (.tu [I (scI A C book), I 0]) (.tu [I 0, I 1])
/-- sizes that the names' walks take -/
structure BdL (L : Lf) : Prop where
  df : L.df.length ≤ big
  id : L.id.size ≤ big
  fl : L.fl.size ≤ big
/-! ### the fault of a veneer -/
def okR (a b c e : Int) : Bool := inR a 0 500 && (inR b 0 500 && (inR c 0 90 && inR e 0 100))
def trn (g t : Int) : Int := (W ((if 4 ≤ t then W (180 - g) else g) + W (90 * t))).tmod 180
theorem trn_in {g t : Int} (hg : 0 ≤ g ∧ g ≤ 179) (ht : 0 ≤ t ∧ t ≤ 7) : 0 ≤ trn g t ∧ trn g t ≤ 179 := by
  unfold trn
  have w1 : W (180 - g) = 180 - g := IntWalk.i64_in _ (by omega)
  have w2 : W (90 * t) = 90 * t := IntWalk.i64_in _ (by omega)
  rw [w1, w2]
  split
  · rw [W, IntWalk.i64_in _ (by omega), Int.tmod_eq_emod_of_nonneg (by omega)]; omega
  · rw [W, IntWalk.i64_in _ (by omega), Int.tmod_eq_emod_of_nonneg (by omega)]; omega
/-- the fault of a veneer's numbers against a leaf's -/
def vf (s : ByteArray) (a g : Int) (L : Lf) (t c e : Int) : Int :=
  if s = L.sp then (if e < mxI (W (a - L.sh)) (W (L.sh - a)) then 3 else if c < angl (trn L.gr t) g then 4 else 0) else 2
def veneerFault (s : ByteArray) (a g : Int) (L : Lf) (t p q c e : Int) : LV :=
  ifb (okS s a g && (okL L && okR p q c e)) (ifb (inR t 0 7) (.tu [I (vf s a g L t c e), I 0]) (.tu [I 0, I 2])) (.tu [I 0, I 1])
theorem sv_ok {n : Int} {s : ByteArray} (h : 0 ≤ sz1 n s.size) (hn : 0 ≤ n ∧ n ≤ 1048576) (hs : s.size ≤ maxLen) : 0 ≤ sz1 n s.size ∧ sz1 n s.size ≤ 1048576 := by
  obtain ⟨h1, h2⟩ := sz1_ok hn hs h
  omega
end Go.Proofs.Ytejffoibihbnnaa.walkS
