/- Placements; the row ValidPlacements; no conditions. -/
import Derived.Test.YthnkioafikmmaaaGreatWMeet
namespace Go.Proofs.YthnkioafikmmaaaGreat.walkS
open Go Go.Proofs.YthnkioafikmmaaaGreat.Ev
set_option linter.unusedSimpArgs false
abbrev Pl := Int × Int × Int × Int × Int
abbrev gC (p : Pl) : List Cell := [.sc (.int .i64 p.1), .sc (.int .i64 p.2.1), .sc (.int .i64 p.2.2.1), .sc (.int .i64 p.2.2.2.1), .sc (.int .i64 p.2.2.2.2)]
abbrev gV (p : Pl) : List LV := [I p.1, I p.2.1, I p.2.2.1, I p.2.2.2.1, I p.2.2.2.2]
abbrev zG : List Cell := [.sc (.int .i64 0), .sc (.int .i64 0), .sc (.int .i64 0), .sc (.int .i64 0), .sc (.int .i64 0)]
theorem gC_shut (p : Pl) : (gC p).map shutC = gC p := rfl
theorem shut_gC (l : List Pl) : shut (l.map gC) = l.map gC := shut_map gC_shut l
attribute [simp high] shut_gC
def okG (p : Pl) : Bool := inR p.1 0 23 && (inR p.2.1 0 15 && (inR p.2.2.1 0 20000 && (inR p.2.2.2.1 0 20000 && inR p.2.2.2.2 0 7)))
def gAt (l : List Pl) (i : Nat) : Bool :=
  match l[i]? with
  | some p => okG p && (match i with | 0 => true | k + 1 => (match l[k]? with | some q => decide (q.1 < p.1) | none => true))
  | none => true
def gFrom (l : List Pl) : Nat → Nat → Bool
  | 0, _ => true
  | n + 1, i => gAt l i && gFrom l n (i + 1)
def okGs (l : List Pl) : Bool := gFrom l l.length 0 && decide (l.length ≤ 24)
end Go.Proofs.YthnkioafikmmaaaGreat.walkS
