/- Points, lines and polygons; no conditions. -/
import Derived.Test.YthnkioafikmmaaaGreatWPic
import Derived.Test.YthnkioafikmmaaaGreatWMeet
namespace Go.Proofs.YthnkioafikmmaaaGreat.walkS
open Go Go.Proofs.YthnkioafikmmaaaGreat.Ev
set_option linter.unusedSimpArgs false
set_option linter.unusedVariables false
abbrev pV (p : Pt) : List LV := [I p.1, I p.2]
def crs (a b c : Pt) : Int := W (W (W (b.1 - a.1) * W (c.2 - a.2)) - W (W (b.2 - a.2) * W (c.1 - a.1)))
def sd (a b c : Pt) : Int := if 0 < crs a b c then 1 else if crs a b c < 0 then -1 else 0
theorem r183 (d : Nat) (a b c : Pt) : ev (d + 1) 183 [.ag (pV a), .ag (pV b), .ag (pV c)] = some (I (crs a b c), []) := by
  rw [s183 d _ rfl]
  simp [crs, W]
theorem r174 (d : Nat) (a b c : Pt) : ev (d + 2) 174 [.ag (pV a), .ag (pV b), .ag (pV c)] = some (I (sd a b c), []) := by
  rw [s174 (d + 1) _ rfl]
  have h := r183 d a b c
  unfold sd
  by_cases h1 : 0 < crs a b c
  · simp [h, h1]
  · by_cases h2 : crs a b c < 0 <;> simp [h, h1, h2]
theorem r147 (d : Nat) (a b c : Pt) : ev (d + 2) 147 [.ag (pV a), .ag (pV b), .ag (pV c)] = some (I (sd a b c), []) := by
  rw [s147 (d + 1) _ rfl]
  unfold sd crs W
  by_cases h1 : 0 < IntKind.i64.wrap (IntKind.i64.wrap (IntKind.i64.wrap (b.1 - a.1) * IntKind.i64.wrap (c.2 - a.2)) - IntKind.i64.wrap (IntKind.i64.wrap (b.2 - a.2) * IntKind.i64.wrap (c.1 - a.1)))
  · simp [h1]
  · by_cases h2 : IntKind.i64.wrap (IntKind.i64.wrap (IntKind.i64.wrap (b.1 - a.1) * IntKind.i64.wrap (c.2 - a.2)) - IntKind.i64.wrap (IntKind.i64.wrap (b.2 - a.2) * IntKind.i64.wrap (c.1 - a.1))) < 0 <;> simp [h1, h2]
def onB (a b c : Pt) : Bool := decide (sd a b c = 0) && (inR c.1 (mnI a.1 b.1) (mxI a.1 b.1) && inR c.2 (mnI a.2 b.2) (mxI a.2 b.2))
theorem r154 (d : Nat) (a b c : Pt) : ev (d + 3) 154 [.ag (pV a), .ag (pV b), .ag (pV c)] = some (B (onB a b c), []) := by
  rw [s154 (d + 2) _ rfl]
  have h := r174 d a b c
  have g1 := r71 (d + 1) c.1 (mnI a.1 b.1) (mxI a.1 b.1)
  have g2 := r71 (d + 1) c.2 (mnI a.2 b.2) (mxI a.2 b.2)
  unfold onB
  by_cases h1 : sd a b c = 0
  case neg => simp [h, h1]
  cases h2 : inR c.1 (mnI a.1 b.1) (mxI a.1 b.1)
  · rw [h2] at g1
    simp [h, h1, g1, r38, r178]
  · rw [h2] at g1
    simp [h, h1, g1, g2, r38, r178]
theorem r144 (d : Nat) (a b c : Pt) : ev (d + 3) 144 [.ag (pV a), .ag (pV b), .ag (pV c)] = some (B (onB a b c), []) := by
  rw [s144 (d + 2) _ rfl]
  have h := r147 d a b c
  have g1 := r40 (d + 1) c.1 (mnI a.1 b.1) (mxI a.1 b.1)
  have g2 := r40 (d + 1) c.2 (mnI a.2 b.2) (mxI a.2 b.2)
  unfold onB
  by_cases h1 : sd a b c = 0
  case neg => simp [h, h1]
  cases h2 : inR c.1 (mnI a.1 b.1) (mxI a.1 b.1)
  · rw [h2] at g1
    simp only [mnI, mxI] at g1
    simp [h, h1, g1]
  · rw [h2] at g1
    simp only [mnI, mxI] at g1 g2
    simp [h, h1, g1, g2, mnI, mxI]
def crB (a b c e : Pt) : Bool := decide (W (sd a b c * sd a b e) < 0) && decide (W (sd c e a * sd c e b) < 0)
def touB (a b c e : Pt) : Bool := crB a b c e || (onB a b c || (onB a b e || (onB c e a || onB c e b)))
theorem r179 (d : Nat) (a b c e : Pt) : ev (d + 3) 179 [.ag (pV a), .ag (pV b), .ag (pV c), .ag (pV e)] = some (B (crB a b c e), []) := by
  rw [s179 (d + 2) _ rfl]
  unfold crB
  simp only [W]
  by_cases h1 : IntKind.i64.wrap (sd a b c * sd a b e) < 0
  · simp [r174, h1]
  · simp [r174, h1]
theorem r180 (d : Nat) (a b c e : Pt) : ev (d + 3) 180 [.ag (pV a), .ag (pV b), .ag (pV c), .ag (pV e)] = some (B (crB a b c e), []) := by
  rw [s180 (d + 2) _ rfl]
  unfold crB
  simp only [W]
  by_cases h1 : IntKind.i64.wrap (sd a b c * sd a b e) < 0
  · simp [r147, h1]
  · simp [r147, h1]
theorem r155 (d : Nat) (a b c e : Pt) : ev (d + 4) 155 [.ag (pV a), .ag (pV b), .ag (pV c), .ag (pV e)] = some (B (touB a b c e), []) := by
  rw [s155 (d + 3) _ rfl]
  have g0 := r179 d a b c e
  have g1 := r154 d a b c
  have g2 := r154 d a b e
  have g3 := r154 d c e a
  have g4 := r154 d c e b
  unfold touB
  cases h0 : crB a b c e
  case true => rw [h0] at g0; simp [g0]
  rw [h0] at g0
  cases h1 : onB a b c
  case true => rw [h1] at g1; simp [g0, g1]
  rw [h1] at g1
  cases h2 : onB a b e
  case true => rw [h2] at g2; simp [g0, g1, g2]
  rw [h2] at g2
  cases h3 : onB c e a
  case true => rw [h3] at g3; simp [g0, g1, g2, g3]
  rw [h3] at g3
  simp [g0, g1, g2, g3, g4]
theorem r161 (d : Nat) (a b c e : Pt) : ev (d + 4) 161 [.ag (pV a), .ag (pV b), .ag (pV c), .ag (pV e)] = some (B (touB a b c e), []) := by
  rw [s161 (d + 3) _ rfl]
  have g0 := r180 d a b c e
  have g1 := r144 d a b c
  have g2 := r144 d a b e
  have g3 := r144 d c e a
  have g4 := r144 d c e b
  unfold touB
  cases h0 : crB a b c e
  case true => rw [h0] at g0; simp [g0]
  rw [h0] at g0
  cases h1 : onB a b c
  case true => rw [h1] at g1; simp [g0, g1]
  rw [h1] at g1
  cases h2 : onB a b e
  case true => rw [h2] at g2; simp [g0, g1, g2]
  rw [h2] at g2
  cases h3 : onB c e a
  case true => rw [h3] at g3; simp [g0, g1, g2, g3]
  rw [h3] at g3
  simp [g0, g1, g2, g3, g4]
def okP (p : Pt) : Bool := inR p.1 0 20000 && inR p.2 0 20000
theorem r153 (d : Nat) (p : Pt) : ev (d + 2) 153 [.ag (pV p)] = some (B (okP p), []) := by
  rw [s153 (d + 1) _ rfl]
  have g1 := r71 d p.1 0 20000
  have g2 := r71 d p.2 0 20000
  unfold okP
  cases h1 : inR p.1 0 20000 <;> rw [h1] at g1 <;> simp [g1, g2]
theorem r175 (d : Nat) (p : Pt) : ev (d + 2) 175 [.ag (pV p)] = some (B (okP p), []) := by
  rw [s175 (d + 1) _ rfl]
  have g1 := r40 d p.1 0 20000
  have g2 := r40 d p.2 0 20000
  unfold okP
  cases h1 : inR p.1 0 20000 <;> rw [h1] at g1 <;> simp [g1, g2]
end Go.Proofs.YthnkioafikmmaaaGreat.walkS
