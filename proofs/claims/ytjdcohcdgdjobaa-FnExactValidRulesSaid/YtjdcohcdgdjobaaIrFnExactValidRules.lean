/- The functions that the row of FnExactValidRules reaches, turned; no conditions. -/
import Derived.Test.YtjdcohcdgdjobaaEv1
import Derived.KernelRfl
import Derived.Test.YtjdcohcdgdjobaaProg
namespace Go.Proofs.Ytjdcohcdgdjobaa
open Go Go.Proofs.Ytjdcohcdgdjobaa.Ev
def i3 : Ev.Fn := ⟨1, 14, [.tmp 2],
 (.seq
  (.reg false [⟨1, .bx (.t 0), none, false⟩,
    ⟨2, .mv (.k (.sc (.bool false))), none, false⟩])
  (.seq
   (.reg false [⟨5, .ld 4 true (.t 1), none, false⟩,
     ⟨6, .ca (.k (.cl 16 [])) [(.t 5)], none, false⟩,
     ⟨7, .ca (.k (.cl 15 [])) [(.t 6)], none, false⟩,
     ⟨3, .mv (.t 7), none, false⟩])
   (.seq
    (.reg false [⟨8, .ld 4 true (.t 1), none, false⟩,
      ⟨9, .ca (.k (.cl 16 [])) [(.t 8)], none, false⟩,
      ⟨10, .ca (.k (.cl 17 [])) [(.t 9)], none, false⟩,
      ⟨4, .mv (.t 10), none, false⟩])
    (.seq
     (.seq
      (.reg false [⟨11, .mv (.t 4), none, false⟩,
        ⟨12, .mv (.t 3), none, false⟩,
        ⟨13, .ar .neq true (.t 11) (.t 12), none, false⟩])
      (.ite (.t 13)
       (.seq
        (.reg false [⟨2, .mv (.k (.sc (.bool false))), none, false⟩])
        .ret)
       .skip))
     (.seq
      (.reg false [⟨2, .mv (.k (.sc (.bool true))), none, false⟩])
      .ret)))))⟩
def i15 : Ev.Fn := ⟨1, 4, [.tmp 2],
 (.seq
  (.reg false [⟨1, .bx (.t 0), none, false⟩,
    ⟨2, .mv (.k (.sc (.bool false))), none, false⟩])
  (.seq
   (.reg false [⟨3, .ca (.k (.cl 50 [])) [(.t 1)], none, false⟩,
     ⟨2, .mv (.t 3), none, false⟩])
   .ret))⟩
def i16 : Ev.Fn := ⟨1, 17, [.cell 2 4 true],
 (.seq
  (.reg false [⟨1, .bx (.t 0), none, false⟩,
    ⟨2, .al [(.sc (.int .i64 0)), (.sc (.int .i64 0)), (.sc (.int .i64 0)), (.sc (.int .i64 0))], none, false⟩])
  (.seq
   (.reg false [⟨3, .al [(.sc (.int .i64 0)), (.sc (.int .i64 0)), (.sc (.int .i64 0)), (.sc (.int .i64 0))], none, false⟩])
   (.seq
    (.reg false [⟨4, .fa 0 (.t 1), none, false⟩,
      ⟨5, .ld 1 false (.t 4), none, false⟩,
      ⟨6, .fa 0 (.t 3), none, false⟩,
      ⟨0, .so 1 (.t 6) (.t 5), none, true⟩])
    (.seq
     (.reg false [⟨7, .fa 1 (.t 1), none, false⟩,
       ⟨8, .ld 1 false (.t 7), none, false⟩,
       ⟨9, .fa 1 (.t 3), none, false⟩,
       ⟨0, .so 1 (.t 9) (.t 8), none, true⟩])
     (.seq
      (.reg false [⟨10, .fa 2 (.t 1), none, false⟩,
        ⟨11, .ld 1 false (.t 10), none, false⟩,
        ⟨12, .fa 2 (.t 3), none, false⟩,
        ⟨0, .so 1 (.t 12) (.t 11), none, true⟩])
      (.seq
       (.reg false [⟨13, .fa 3 (.t 1), none, false⟩,
         ⟨14, .ld 1 false (.t 13), none, false⟩,
         ⟨15, .fa 3 (.t 3), none, false⟩,
         ⟨0, .so 1 (.t 15) (.t 14), none, true⟩])
       (.seq
        (.reg false [⟨16, .ld 4 true (.t 3), none, false⟩,
          ⟨0, .so 4 (.t 2) (.t 16), none, true⟩])
        .ret)))))))⟩
def i17 : Ev.Fn := ⟨1, 21, [.tmp 2],
 (.seq
  (.reg false [⟨1, .bx (.t 0), none, false⟩,
    ⟨2, .mv (.k (.sc (.bool false))), none, false⟩])
  (.seq
   (.reg false [⟨3, .fa 0 (.t 1), none, false⟩,
     ⟨4, .ld 1 false (.t 3), none, false⟩,
     ⟨5, .ca (.k (.cl 51 [])) [(.t 4), (.k (.sc (.int .i64 0))), (.k (.sc (.int .i64 500)))], none, false⟩,
     ⟨6, .mv (.t 5), none, false⟩,
     ⟨7, .fa 1 (.t 1), (some (6, true)), false⟩,
     ⟨8, .ld 1 false (.t 7), (some (6, true)), false⟩,
     ⟨9, .ca (.k (.cl 51 [])) [(.t 8), (.k (.sc (.int .i64 0))), (.k (.sc (.int .i64 500)))], (some (6, true)), false⟩,
     ⟨10, .pk (.t 6) (.t 9) (.k (.sc (.bool false))), none, false⟩,
     ⟨11, .mv (.t 10), none, false⟩,
     ⟨12, .fa 2 (.t 1), (some (11, true)), false⟩,
     ⟨13, .ld 1 false (.t 12), (some (11, true)), false⟩,
     ⟨14, .ca (.k (.cl 51 [])) [(.t 13), (.k (.sc (.int .i64 0))), (.k (.sc (.int .i64 90)))], (some (11, true)), false⟩,
     ⟨15, .pk (.t 11) (.t 14) (.k (.sc (.bool false))), none, false⟩,
     ⟨16, .mv (.t 15), none, false⟩,
     ⟨17, .fa 3 (.t 1), (some (16, true)), false⟩,
     ⟨18, .ld 1 false (.t 17), (some (16, true)), false⟩,
     ⟨19, .ca (.k (.cl 51 [])) [(.t 18), (.k (.sc (.int .i64 0))), (.k (.sc (.int .i64 100)))], (some (16, true)), false⟩,
     ⟨20, .pk (.t 16) (.t 19) (.k (.sc (.bool false))), none, false⟩,
     ⟨2, .mv (.t 20), none, false⟩])
   .ret))⟩
def i50 : Ev.Fn := ⟨1, 29, [.tmp 2],
 (.seq
  (.reg false [⟨2, .mv (.k (.sc (.bool false))), none, false⟩])
  (.seq
   (.reg false [⟨3, .mv (.t 0), none, false⟩,
     ⟨4, .nc (.t 3), none, false⟩,
     ⟨5, .fa 0 (.t 4), none, false⟩,
     ⟨6, .ld 1 false (.t 5), none, false⟩,
     ⟨7, .ca (.k (.cl 64 [])) [(.t 6), (.k (.sc (.int .i64 0))), (.k (.sc (.int .i64 500)))], none, false⟩,
     ⟨8, .mv (.t 7), none, false⟩,
     ⟨9, .mv (.t 0), (some (8, true)), false⟩,
     ⟨10, .nc (.t 9), (some (8, true)), false⟩,
     ⟨11, .fa 1 (.t 10), (some (8, true)), false⟩,
     ⟨12, .ld 1 false (.t 11), (some (8, true)), false⟩,
     ⟨13, .ca (.k (.cl 64 [])) [(.t 12), (.k (.sc (.int .i64 0))), (.k (.sc (.int .i64 500)))], (some (8, true)), false⟩,
     ⟨14, .pk (.t 8) (.t 13) (.k (.sc (.bool false))), none, false⟩,
     ⟨15, .mv (.t 14), none, false⟩,
     ⟨16, .mv (.t 0), (some (15, true)), false⟩,
     ⟨17, .nc (.t 16), (some (15, true)), false⟩,
     ⟨18, .fa 2 (.t 17), (some (15, true)), false⟩,
     ⟨19, .ld 1 false (.t 18), (some (15, true)), false⟩,
     ⟨20, .ca (.k (.cl 64 [])) [(.t 19), (.k (.sc (.int .i64 0))), (.k (.sc (.int .i64 90)))], (some (15, true)), false⟩,
     ⟨21, .pk (.t 15) (.t 20) (.k (.sc (.bool false))), none, false⟩,
     ⟨22, .mv (.t 21), none, false⟩,
     ⟨23, .mv (.t 0), (some (22, true)), false⟩,
     ⟨24, .nc (.t 23), (some (22, true)), false⟩,
     ⟨25, .fa 3 (.t 24), (some (22, true)), false⟩,
     ⟨26, .ld 1 false (.t 25), (some (22, true)), false⟩,
     ⟨27, .ca (.k (.cl 64 [])) [(.t 26), (.k (.sc (.int .i64 0))), (.k (.sc (.int .i64 100)))], (some (22, true)), false⟩,
     ⟨28, .pk (.t 22) (.t 27) (.k (.sc (.bool false))), none, false⟩,
     ⟨2, .mv (.t 28), none, false⟩])
   .ret))⟩
def i51 : Ev.Fn := ⟨3, 15, [.tmp 6],
 (.seq
  (.reg false [⟨6, .mv (.k (.sc (.bool false))), none, false⟩])
  (.seq
   (.reg false [⟨7, .mv (.t 0), none, false⟩,
     ⟨8, .mv (.t 1), none, false⟩,
     ⟨9, .ar .geq false (.t 7) (.t 8), none, false⟩,
     ⟨10, .mv (.t 9), none, false⟩,
     ⟨11, .mv (.t 0), (some (10, true)), false⟩,
     ⟨12, .mv (.t 2), (some (10, true)), false⟩,
     ⟨13, .ar .leq false (.t 11) (.t 12), (some (10, true)), false⟩,
     ⟨14, .pk (.t 10) (.t 13) (.k (.sc (.bool false))), none, false⟩,
     ⟨6, .mv (.t 14), none, false⟩])
   .ret))⟩
def i64 : Ev.Fn := ⟨3, 15, [.tmp 6],
 (.seq
  (.reg false [⟨6, .mv (.k (.sc (.bool false))), none, false⟩])
  (.seq
   (.reg false [⟨7, .mv (.t 0), none, false⟩,
     ⟨8, .mv (.t 1), none, false⟩,
     ⟨9, .ar .geq false (.t 7) (.t 8), none, false⟩,
     ⟨10, .mv (.t 9), none, false⟩,
     ⟨11, .mv (.t 0), (some (10, true)), false⟩,
     ⟨12, .mv (.t 2), (some (10, true)), false⟩,
     ⟨13, .ar .leq false (.t 11) (.t 12), (some (10, true)), false⟩,
     ⟨14, .pk (.t 10) (.t 13) (.k (.sc (.bool false))), none, false⟩,
     ⟨6, .mv (.t 14), none, false⟩])
   .ret))⟩
theorem c3 : cFn Try.prog 3 [] = some i3 := by kernel_rfl
theorem e3 : enterOk Try.prog 3 = true := by kernel_rfl
theorem c15 : cFn Try.prog 15 [] = some i15 := by kernel_rfl
theorem e15 : enterOk Try.prog 15 = true := by kernel_rfl
theorem c16 : cFn Try.prog 16 [] = some i16 := by kernel_rfl
theorem e16 : enterOk Try.prog 16 = true := by kernel_rfl
theorem c17 : cFn Try.prog 17 [] = some i17 := by kernel_rfl
theorem e17 : enterOk Try.prog 17 = true := by kernel_rfl
theorem c50 : cFn Try.prog 50 [] = some i50 := by kernel_rfl
theorem e50 : enterOk Try.prog 50 = true := by kernel_rfl
theorem c51 : cFn Try.prog 51 [] = some i51 := by kernel_rfl
theorem e51 : enterOk Try.prog 51 = true := by kernel_rfl
theorem c64 : cFn Try.prog 64 [] = some i64 := by kernel_rfl
theorem e64 : enterOk Try.prog 64 = true := by kernel_rfl
theorem mixed : Try.prog.follows .mixedOrders = true := by kernel_rfl
end Go.Proofs.Ytjdcohcdgdjobaa