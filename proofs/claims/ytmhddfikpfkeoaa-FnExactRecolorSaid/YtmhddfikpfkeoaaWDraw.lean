/- Points, lines and polygons; no conditions. -/
import Derived.Test.YtmhddfikpfkeoaaWPic
import Derived.Test.YtmhddfikpfkeoaaWMeet
namespace Go.Proofs.Ytmhddfikpfkeoaa.walkS
open Go Go.Proofs.Ytmhddfikpfkeoaa.Ev
set_option linter.unusedSimpArgs false
set_option linter.unusedVariables false
abbrev pV (p : Pt) : List LV := [I p.1, I p.2]
def crs (a b c : Pt) : Int := W (W (W (b.1 - a.1) * W (c.2 - a.2)) - W (W (b.2 - a.2) * W (c.1 - a.1)))
def sd (a b c : Pt) : Int := if 0 < crs a b c then 1 else if crs a b c < 0 then -1 else 0
theorem r236 (d : Nat) (a b c : Pt) : ev (d + 1) 236 [.ag (pV a), .ag (pV b), .ag (pV c)] = some (I (crs a b c), []) := by
  rw [s236 d _ rfl]
  simp [crs, W]
theorem r213 (d : Nat) (a b c : Pt) : ev (d + 2) 213 [.ag (pV a), .ag (pV b), .ag (pV c)] = some (I (sd a b c), []) := by
  rw [s213 (d + 1) _ rfl]
  have h := r236 d a b c
  unfold sd
  by_cases h1 : 0 < crs a b c
  · simp [h, h1]
  · by_cases h2 : crs a b c < 0 <;> simp [h, h1, h2]
theorem r218 (d : Nat) (a b c : Pt) : ev (d + 2) 218 [.ag (pV a), .ag (pV b), .ag (pV c)] = some (I (sd a b c), []) := by
  rw [s218 (d + 1) _ rfl]
  unfold sd crs W
  by_cases h1 : 0 < IntKind.i64.wrap (IntKind.i64.wrap (IntKind.i64.wrap (b.1 - a.1) * IntKind.i64.wrap (c.2 - a.2)) - IntKind.i64.wrap (IntKind.i64.wrap (b.2 - a.2) * IntKind.i64.wrap (c.1 - a.1)))
  · simp [h1]
  · by_cases h2 : IntKind.i64.wrap (IntKind.i64.wrap (IntKind.i64.wrap (b.1 - a.1) * IntKind.i64.wrap (c.2 - a.2)) - IntKind.i64.wrap (IntKind.i64.wrap (b.2 - a.2) * IntKind.i64.wrap (c.1 - a.1))) < 0 <;> simp [h1, h2]
def onB (a b c : Pt) : Bool := decide (sd a b c = 0) && (inR c.1 (mnI a.1 b.1) (mxI a.1 b.1) && inR c.2 (mnI a.2 b.2) (mxI a.2 b.2))
theorem r162 (d : Nat) (a b c : Pt) : ev (d + 3) 162 [.ag (pV a), .ag (pV b), .ag (pV c)] = some (B (onB a b c), []) := by
  rw [s162 (d + 2) _ rfl]
  have h := r213 d a b c
  have g1 := r135 (d + 1) c.1 (mnI a.1 b.1) (mxI a.1 b.1)
  have g2 := r135 (d + 1) c.2 (mnI a.2 b.2) (mxI a.2 b.2)
  unfold onB
  by_cases h1 : sd a b c = 0
  case neg => simp [h, h1]
  cases h2 : inR c.1 (mnI a.1 b.1) (mxI a.1 b.1)
  · rw [h2] at g1
    simp [h, h1, g1, r155, r153]
  · rw [h2] at g1
    simp [h, h1, g1, g2, r155, r153]
theorem r169 (d : Nat) (a b c : Pt) : ev (d + 3) 169 [.ag (pV a), .ag (pV b), .ag (pV c)] = some (B (onB a b c), []) := by
  rw [s169 (d + 2) _ rfl]
  have h := r218 d a b c
  have g1 := r75 (d + 1) c.1 (mnI a.1 b.1) (mxI a.1 b.1)
  have g2 := r75 (d + 1) c.2 (mnI a.2 b.2) (mxI a.2 b.2)
  unfold onB
  by_cases h1 : sd a b c = 0
  case neg => simp [h, h1]
  cases h2 : inR c.1 (mnI a.1 b.1) (mxI a.1 b.1)
  · rw [h2] at g1
    simp only [mnI, mxI] at g1
    simp [h, h1, g1]
  · rw [h2] at g1
    simp only [mnI, mxI] at g1 g2
    simp [h, h1, g1, g2, mnI, mxI]
def crB (a b c e : Pt) : Bool := decide (W (sd a b c * sd a b e) < 0) && decide (W (sd c e a * sd c e b) < 0)
def touB (a b c e : Pt) : Bool := crB a b c e || (onB a b c || (onB a b e || (onB c e a || onB c e b)))
theorem r214 (d : Nat) (a b c e : Pt) : ev (d + 3) 214 [.ag (pV a), .ag (pV b), .ag (pV c), .ag (pV e)] = some (B (crB a b c e), []) := by
  rw [s214 (d + 2) _ rfl]
  unfold crB
  simp only [W]
  by_cases h1 : IntKind.i64.wrap (sd a b c * sd a b e) < 0
  · simp [r213, h1]
  · simp [r213, h1]
theorem r219 (d : Nat) (a b c e : Pt) : ev (d + 3) 219 [.ag (pV a), .ag (pV b), .ag (pV c), .ag (pV e)] = some (B (crB a b c e), []) := by
  rw [s219 (d + 2) _ rfl]
  unfold crB
  simp only [W]
  by_cases h1 : IntKind.i64.wrap (sd a b c * sd a b e) < 0
  · simp [r218, h1]
  · simp [r218, h1]
theorem r163 (d : Nat) (a b c e : Pt) : ev (d + 4) 163 [.ag (pV a), .ag (pV b), .ag (pV c), .ag (pV e)] = some (B (touB a b c e), []) := by
  rw [s163 (d + 3) _ rfl]
  have g0 := r214 d a b c e
  have g1 := r162 d a b c
  have g2 := r162 d a b e
  have g3 := r162 d c e a
  have g4 := r162 d c e b
  unfold touB
  cases h0 : crB a b c e
  case true => rw [h0] at g0; simp [g0]
  rw [h0] at g0
  cases h1 : onB a b c
  case true => rw [h1] at g1; simp [g0, g1]
  rw [h1] at g1
  cases h2 : onB a b e
  case true => rw [h2] at g2; simp [g0, g1, g2]
  rw [h2] at g2
  cases h3 : onB c e a
  case true => rw [h3] at g3; simp [g0, g1, g2, g3]
  rw [h3] at g3
  simp [g0, g1, g2, g3, g4]
theorem r170 (d : Nat) (a b c e : Pt) : ev (d + 4) 170 [.ag (pV a), .ag (pV b), .ag (pV c), .ag (pV e)] = some (B (touB a b c e), []) := by
  rw [s170 (d + 3) _ rfl]
  have g0 := r219 d a b c e
  have g1 := r169 d a b c
  have g2 := r169 d a b e
  have g3 := r169 d c e a
  have g4 := r169 d c e b
  unfold touB
  cases h0 : crB a b c e
  case true => rw [h0] at g0; simp [g0]
  rw [h0] at g0
  cases h1 : onB a b c
  case true => rw [h1] at g1; simp [g0, g1]
  rw [h1] at g1
  cases h2 : onB a b e
  case true => rw [h2] at g2; simp [g0, g1, g2]
  rw [h2] at g2
  cases h3 : onB c e a
  case true => rw [h3] at g3; simp [g0, g1, g2, g3]
  rw [h3] at g3
  simp [g0, g1, g2, g3, g4]
def okP (p : Pt) : Bool := inR p.1 0 20000 && inR p.2 0 20000
theorem r161 (d : Nat) (p : Pt) : ev (d + 2) 161 [.ag (pV p)] = some (B (okP p), []) := by
  rw [s161 (d + 1) _ rfl]
  have g1 := r135 d p.1 0 20000
  have g2 := r135 d p.2 0 20000
  unfold okP
  cases h1 : inR p.1 0 20000 <;> rw [h1] at g1 <;> simp [g1, g2]
theorem r217 (d : Nat) (p : Pt) : ev (d + 2) 217 [.ag (pV p)] = some (B (okP p), []) := by
  rw [s217 (d + 1) _ rfl]
  have g1 := r75 d p.1 0 20000
  have g2 := r75 d p.2 0 20000
  unfold okP
  cases h1 : inR p.1 0 20000 <;> rw [h1] at g1 <;> simp [g1, g2]
end Go.Proofs.Ytmhddfikpfkeoaa.walkS
