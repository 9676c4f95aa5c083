/- Placements; the row ValidPlacements; no conditions. -/
import Derived.Test.YthnkioafikmmaaaWMeet
namespace Go.Proofs.Ythnkioafikmmaaa.walkS
open Go Go.Proofs.Ythnkioafikmmaaa.Ev
set_option linter.unusedSimpArgs false
abbrev Pl := Int × Int × Int × Int × Int
abbrev gC (p : Pl) : List Cell := [.sc (.int .i64 p.1), .sc (.int .i64 p.2.1), .sc (.int .i64 p.2.2.1), .sc (.int .i64 p.2.2.2.1), .sc (.int .i64 p.2.2.2.2)]
abbrev gV (p : Pl) : List LV := [I p.1, I p.2.1, I p.2.2.1, I p.2.2.2.1, I p.2.2.2.2]
abbrev zG : List Cell := [.sc (.int .i64 0), .sc (.int .i64 0), .sc (.int .i64 0), .sc (.int .i64 0), .sc (.int .i64 0)]
theorem gC_shut (p : Pl) : (gC p).map shutC = gC p := rfl
theorem shut_gC (l : List Pl) : shut (l.map gC) = l.map gC := shut_map gC_shut l
attribute [simp high] shut_gC
theorem r13 (d : Nat) (a b c e f : Int) : ev (d + 1) 13 [.ag [I a, I b, I c, I e, I f]] = some (.ag [I a, I b, I c, I e, I f], []) := by
  rw [s13 d _ rfl]
  simp
def okG (p : Pl) : Bool := inR p.1 0 23 && (inR p.2.1 0 15 && (inR p.2.2.1 0 20000 && (inR p.2.2.2.1 0 20000 && inR p.2.2.2.2 0 7)))
theorem r128 (d : Nat) (t : Int) : ev (d + 2) 128 [I t] = some (B (inR t 0 7), []) := by
  rw [s128 (d + 1) _ rfl]
  simp [r121]
theorem r56 (d : Nat) (p : Pl) : ev (d + 3) 56 [.rp (gV p)] = some (B (okG p), []) := by
  rw [s56 (d + 2) _ rfl]
  unfold okG
  cases h1 : inR p.1 0 23
  case false => simp [r121, h1]
  cases h2 : inR p.2.1 0 15
  case false => simp [r121, h1, h2]
  cases h3 : inR p.2.2.1 0 20000
  case false => simp [r121, h1, h2, h3]
  cases h4 : inR p.2.2.2.1 0 20000
  case false => simp [r121, h1, h2, h3, h4]
  cases h5 : inR p.2.2.2.2 0 7 <;> simp [r121, r128, h1, h2, h3, h4, h5]
theorem r61 (d : Nat) (p : Pl) : ev (d + 3) 61 [.ag (gV p)] = some (B (okG p), []) := by
  rw [s61 (d + 2) _ rfl]
  unfold okG
  cases h1 : inR p.1 0 23
  case false => simp [r124, h1]
  cases h2 : inR p.2.1 0 15
  case false => simp [r124, h1, h2]
  cases h3 : inR p.2.2.1 0 20000
  case false => simp [r124, h1, h2, h3]
  cases h4 : inR p.2.2.2.1 0 20000
  case false => simp [r124, h1, h2, h3, h4]
  cases h5 : inR p.2.2.2.2 0 7 <;> simp [r124, h1, h2, h3, h4, h5]
def gAt (l : List Pl) (i : Nat) : Bool :=
  match l[i]? with
  | some p => okG p && (match i with | 0 => true | k + 1 => (match l[k]? with | some q => decide (q.1 < p.1) | none => true))
  | none => true
def gFrom (l : List Pl) : Nat → Nat → Bool
  | 0, _ => true
  | n + 1, i => gAt l i && gFrom l n (i + 1)
def okGs (l : List Pl) : Bool := gFrom l l.length 0 && decide (l.length ≤ 24)
end Go.Proofs.Ythnkioafikmmaaa.walkS
