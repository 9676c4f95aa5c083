/- Lists of numbers; no conditions. -/
import Derived.Test.YthnkioafikmmaaaDoorWRows
namespace Go.Proofs.YthnkioafikmmaaaDoor.walkS
open Go Go.Proofs.YthnkioafikmmaaaDoor.Ev
set_option linter.unusedSimpArgs false
abbrev iC (n : Int) : List Cell := [.sc (.int .i64 n)]
abbrev zI : List Cell := [.sc (.int .i64 0)]
theorem iC_shut (n : Int) : (iC n).map shutC = iC n := rfl
theorem shut_iC (l : List Int) : shut (l.map iC) = l.map iC := shut_map iC_shut l
attribute [simp high] shut_iC
abbrev iW (n : Int) : List Value := [.int .i64 n]
theorem low_iC (l : List Int) : low (l.map iC) = some (l.map iW) := low_map (fun _ => rfl) l
theorem lift_iW (l : List Int) : Ev.lift (l.map iW) = l.map iC := lift_map (fun _ => rfl) l
attribute [simp] low_iC lift_iW
abbrev jI (q : List Int) : List Cell := [.sl true 2 1 (q.map iW)]
abbrev jR (q : List Int) : List Cell := [.sl false 2 1 (q.map iW)]
theorem shut_jI (l : List (List Int)) : shut (l.map jI) = l.map jR := by
  simp only [shut, List.map_map]
  exact List.map_congr_left fun a _ => rfl
theorem shut_jR (l : List (List Int)) : shut (l.map jR) = l.map jR := shut_map (fun _ => rfl) l
attribute [simp high] shut_jI shut_jR
end Go.Proofs.YthnkioafikmmaaaDoor.walkS
