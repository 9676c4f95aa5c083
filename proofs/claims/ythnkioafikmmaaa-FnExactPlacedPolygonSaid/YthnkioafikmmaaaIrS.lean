/- The functions that some rows reach, turned; no conditions. -/
import Derived.Test.YthnkioafikmmaaaIrS1
import Derived.KernelRfl
import Derived.Test.YthnkioafikmmaaaProg
namespace Go.Proofs.Ythnkioafikmmaaa.walkS
open Go Go.Proofs.Ythnkioafikmmaaa.Ev
def w136_1 : IC :=
(.seq
 (.reg false [⟨14, .ar .lss false (.t 13) (.t 12), none, false⟩])
 (.seq
 (.ite (.t 14)
 .skip
 (.exit 0))
 (.seq
 (.block 1
 (.seq
 (.reg false [⟨15, .ia 2 (.t 11) (.t 13), none, false⟩,
 ⟨16, .ld 2 true (.t 15), none, false⟩,
 ⟨9, .al [(.sc (.int .i64 0)), (.sc (.int .i64 0))], none, false⟩,
 ⟨1, .so 2 (.t 9) (.t 16), none, true⟩])
 (.reg false [⟨17, .mv (.t 7), none, false⟩,
 ⟨18, .fa 0 (.t 9), none, false⟩,
 ⟨19, .ld 1 false (.t 18), none, false⟩,
 ⟨20, .mv (.t 1), none, false⟩,
 ⟨21, .ar .add false (.t 19) (.t 20), none, false⟩,
 ⟨22, .fa 1 (.t 9), none, false⟩,
 ⟨23, .ld 1 false (.t 22), none, false⟩,
 ⟨24, .mv (.t 2), none, false⟩,
 ⟨25, .ar .add false (.t 23) (.t 24), none, false⟩,
 ⟨26, .bd [(.sc (.int .i64 0)), (.sc (.int .i64 0))] [(0, 1, (.t 21)), (1, 1, (.t 25))], none, false⟩,
 ⟨27, .bs 112 2 [(.sc (.int .i64 0)), (.sc (.int .i64 0))] 1 [(0, (.t 26))], none, false⟩,
 ⟨28, .ap 112 2 false (.t 17) (.t 27), none, false⟩,
 ⟨7, .mv (.t 28), none, false⟩])))
 (.reg false [⟨29, .ar .add false (.t 13) (.k (.sc (.int .i64 1))), none, false⟩,
 ⟨13, .mv (.t 29), none, false⟩]))))
def b136_1 : IC := w136_1
theorem u136_1 (call : CallF) (st : St) : evC call b136_1 st = evC call w136_1 st := rfl
attribute [simp] u136_1 w136_1
def i136 : Ev.Fn := ⟨3, 31, [.tmp 6],
 (.seq
 (.reg false [⟨6, .mv (.k .nl), none, false⟩])
 (.seq
 (.reg false [⟨10, .bs 112 2 [(.sc (.int .i64 0)), (.sc (.int .i64 0))] 0 [], none, false⟩,
 ⟨7, .mv (.t 10), none, false⟩])
 (.seq
 (.seq
 (.reg false [⟨11, .mv (.t 0), none, false⟩,
 ⟨12, .ln false (.t 11), none, false⟩,
 ⟨13, .mv (.k (.sc (.int .i64 0))), none, false⟩])
 (.cln [7] [6]
 (.block 0
 (.loop [1, 2, 7, 11, 12, 13] b136_1))))
 (.seq
 (.reg false [⟨30, .mv (.t 7), none, false⟩,
 ⟨6, .mv (.t 30), none, false⟩])
 .ret))))⟩
attribute [simp] i136
set_option maxRecDepth 1000000 in
theorem c136 : cFn Try.prog 136 [[], [1, 2, 7, 11, 12, 13], [7], [6]] = some i136 := by kernel_rfl
theorem e136 : enterOk Try.prog 136 = true := by kernel_rfl
def w137_1 : IC :=
(.seq
 (.reg false [⟨14, .ar .lss false (.t 13) (.t 12), none, false⟩])
 (.seq
 (.ite (.t 14)
 .skip
 (.exit 0))
 (.seq
 (.block 1
 (.seq
 (.reg false [⟨15, .ia 2 (.t 11) (.t 13), none, false⟩,
 ⟨16, .ld 2 true (.t 15), none, false⟩,
 ⟨7, .al [(.sc (.int .i64 0)), (.sc (.int .i64 0))], none, false⟩,
 ⟨1, .so 2 (.t 7) (.t 16), none, true⟩])
 (.reg false [⟨17, .mv (.t 5), none, false⟩,
 ⟨18, .ld 2 true (.t 7), none, false⟩,
 ⟨19, .mv (.t 1), none, false⟩,
 ⟨20, .ca (.k (.cl 199 [])) [(.t 18), (.t 19)], none, false⟩,
 ⟨21, .bs 112 2 [(.sc (.int .i64 0)), (.sc (.int .i64 0))] 1 [(0, (.t 20))], none, false⟩,
 ⟨22, .ap 112 2 false (.t 17) (.t 21), none, false⟩,
 ⟨5, .mv (.t 22), none, false⟩])))
 (.reg false [⟨23, .ar .add false (.t 13) (.k (.sc (.int .i64 1))), none, false⟩,
 ⟨13, .mv (.t 23), none, false⟩]))))
def b137_1 : IC := w137_1
theorem u137_1 (call : CallF) (st : St) : evC call b137_1 st = evC call w137_1 st := rfl
attribute [simp] u137_1 w137_1
def i137 : Ev.Fn := ⟨2, 42, [.tmp 4],
 (.seq
 (.reg false [⟨4, .mv (.k .nl), none, false⟩])
 (.seq
 (.reg false [⟨10, .bs 112 2 [(.sc (.int .i64 0)), (.sc (.int .i64 0))] 0 [], none, false⟩,
 ⟨5, .mv (.t 10), none, false⟩])
 (.seq
 (.seq
 (.reg false [⟨11, .mv (.t 0), none, false⟩,
 ⟨12, .ln false (.t 11), none, false⟩,
 ⟨13, .mv (.k (.sc (.int .i64 0))), none, false⟩])
 (.cln [1, 5] [4]
 (.block 0
 (.loop [1, 5, 11, 12, 13] b137_1))))
 (.seq
 (.seq
 (.reg false [⟨24, .mv (.t 1), none, false⟩,
 ⟨25, .ar .gtr false (.t 24) (.k (.sc (.int .i64 3))), none, false⟩])
 (.ite (.t 25)
 (.rgw [⟨26, .mv (.t 5), none, false⟩,
 ⟨27, .sl 2 (.t 26) (some (.k (.sc (.int .i64 1)))) none, none, false⟩,
 ⟨28, .cw 200 [false] [(.t 27)], none, false⟩])
 .skip))
 (.seq
 (.reg false [⟨30, .mv (.t 5), none, false⟩,
 ⟨31, .ca (.k (.cl 186 [])) [(.t 30)], none, false⟩,
 ⟨29, .mv (.t 31), none, false⟩,
 ⟨32, .xt (.t 29) 0, none, false⟩,
 ⟨33, .xt (.t 29) 1, none, false⟩,
 ⟨8, .al [(.sc (.int .i64 0)), (.sc (.int .i64 0))], none, false⟩,
 ⟨9, .al [(.sc (.int .i64 0)), (.sc (.int .i64 0))], none, false⟩,
 ⟨1, .so 2 (.t 8) (.t 32), none, true⟩,
 ⟨1, .so 2 (.t 9) (.t 33), none, true⟩])
 (.seq
 (.reg false [⟨34, .mv (.t 5), none, false⟩,
 ⟨35, .fa 0 (.t 8), none, false⟩,
 ⟨36, .ld 1 false (.t 35), none, false⟩,
 ⟨37, .ng (.t 36), none, false⟩,
 ⟨38, .fa 1 (.t 8), none, false⟩,
 ⟨39, .ld 1 false (.t 38), none, false⟩,
 ⟨40, .ng (.t 39), none, false⟩,
 ⟨41, .ca (.k (.cl 136 [])) [(.t 34), (.t 37), (.t 40)], none, false⟩,
 ⟨4, .mv (.t 41), none, false⟩])
 .ret))))))⟩
attribute [simp] i137
set_option maxRecDepth 1000000 in
theorem c137 : cFn Try.prog 137 [[3000200], [1, 5, 11, 12, 13], [1, 5], [4]] = some i137 := by kernel_rfl
theorem e137 : enterOk Try.prog 137 = true := by kernel_rfl
def w138_1 : IC :=
(.seq
 (.reg false [⟨8, .ar .lss false (.t 7) (.t 6), none, false⟩])
 (.seq
 (.ite (.t 8)
 .skip
 (.exit 0))
 (.seq
 (.block 1
 (.seq
 (.reg false [⟨9, .ia 2 (.t 5) (.t 7), none, false⟩,
 ⟨10, .ld 2 true (.t 9), none, false⟩,
 ⟨4, .al [(.sc (.int .i64 0)), (.sc (.int .i64 0))], none, false⟩,
 ⟨1, .so 2 (.t 4) (.t 10), none, true⟩])
 (.seq
 (.reg false [⟨11, .ld 2 true (.t 4), none, false⟩,
 ⟨12, .ca (.k (.cl 201 [])) [(.t 11)], none, false⟩,
 ⟨13, .nt (.t 12), none, false⟩])
 (.ite (.t 13)
 (.seq
 (.reg false [⟨2, .mv (.k (.sc (.bool false))), none, false⟩])
 .ret)
 .skip))))
 (.reg false [⟨14, .ar .add false (.t 7) (.k (.sc (.int .i64 1))), none, false⟩,
 ⟨7, .mv (.t 14), none, false⟩]))))
def b138_1 : IC := w138_1
theorem u138_1 (call : CallF) (st : St) : evC call b138_1 st = evC call w138_1 st := rfl
attribute [simp] u138_1 w138_1
def i138 : Ev.Fn := ⟨1, 15, [.tmp 2],
 (.seq
 (.reg false [⟨2, .mv (.k (.sc (.bool false))), none, false⟩])
 (.seq
 (.seq
 (.reg false [⟨5, .mv (.t 0), none, false⟩,
 ⟨6, .ln false (.t 5), none, false⟩,
 ⟨7, .mv (.k (.sc (.int .i64 0))), none, false⟩])
 (.cln [] [2]
 (.block 0
 (.loop [5, 6, 7] b138_1))))
 (.seq
 (.reg false [⟨2, .mv (.k (.sc (.bool true))), none, false⟩])
 .ret)))⟩
attribute [simp] i138
set_option maxRecDepth 1000000 in
theorem c138 : cFn Try.prog 138 [[], [5, 6, 7], [], [2]] = some i138 := by kernel_rfl
theorem e138 : enterOk Try.prog 138 = true := by kernel_rfl
def i139 : Ev.Fn := ⟨3, 42, [.tmp 6],
 (.seq
 (.reg false [⟨3, .bx (.t 0), none, false⟩,
 ⟨4, .bx (.t 1), none, false⟩,
 ⟨5, .bx (.t 2), none, false⟩,
 ⟨6, .mv (.k (.sc (.bool false))), none, false⟩])
 (.seq
 (.reg false [⟨7, .ld 2 true (.t 3), none, false⟩,
 ⟨8, .ld 2 true (.t 4), none, false⟩,
 ⟨9, .ld 2 true (.t 5), none, false⟩,
 ⟨10, .ca (.k (.cl 153 [])) [(.t 7), (.t 8), (.t 9)], none, false⟩,
 ⟨11, .ar .eql false (.t 10) (.k (.sc (.int .i64 0))), none, false⟩,
 ⟨12, .mv (.t 11), none, false⟩,
 ⟨13, .fa 0 (.t 5), (some (12, true)), false⟩,
 ⟨14, .ld 1 false (.t 13), (some (12, true)), false⟩,
 ⟨15, .fa 0 (.t 3), (some (12, true)), false⟩,
 ⟨16, .ld 1 false (.t 15), (some (12, true)), false⟩,
 ⟨17, .fa 0 (.t 4), (some (12, true)), false⟩,
 ⟨18, .ld 1 false (.t 17), (some (12, true)), false⟩,
 ⟨19, .mn (.t 16) (.t 18), (some (12, true)), false⟩,
 ⟨20, .fa 0 (.t 3), (some (12, true)), false⟩,
 ⟨21, .ld 1 false (.t 20), (some (12, true)), false⟩,
 ⟨22, .fa 0 (.t 4), (some (12, true)), false⟩,
 ⟨23, .ld 1 false (.t 22), (some (12, true)), false⟩,
 ⟨24, .mx (.t 21) (.t 23), (some (12, true)), false⟩,
 ⟨25, .ca (.k (.cl 124 [])) [(.t 14), (.t 19), (.t 24)], (some (12, true)), false⟩,
 ⟨26, .pk (.t 12) (.t 25) (.k (.sc (.bool false))), none, false⟩,
 ⟨27, .mv (.t 26), none, false⟩,
 ⟨28, .fa 1 (.t 5), (some (27, true)), false⟩,
 ⟨29, .ld 1 false (.t 28), (some (27, true)), false⟩,
 ⟨30, .fa 1 (.t 3), (some (27, true)), false⟩,
 ⟨31, .ld 1 false (.t 30), (some (27, true)), false⟩,
 ⟨32, .fa 1 (.t 4), (some (27, true)), false⟩,
 ⟨33, .ld 1 false (.t 32), (some (27, true)), false⟩,
 ⟨34, .mn (.t 31) (.t 33), (some (27, true)), false⟩,
 ⟨35, .fa 1 (.t 3), (some (27, true)), false⟩,
 ⟨36, .ld 1 false (.t 35), (some (27, true)), false⟩,
 ⟨37, .fa 1 (.t 4), (some (27, true)), false⟩,
 ⟨38, .ld 1 false (.t 37), (some (27, true)), false⟩,
 ⟨39, .mx (.t 36) (.t 38), (some (27, true)), false⟩,
 ⟨40, .ca (.k (.cl 124 [])) [(.t 29), (.t 34), (.t 39)], (some (27, true)), false⟩,
 ⟨41, .pk (.t 27) (.t 40) (.k (.sc (.bool false))), none, false⟩,
 ⟨6, .mv (.t 41), none, false⟩])
 .ret))⟩
attribute [simp] i139
set_option maxRecDepth 1000000 in
theorem c139 : cFn Try.prog 139 [[]] = some i139 := by kernel_rfl
theorem e139 : enterOk Try.prog 139 = true := by kernel_rfl
def i140 : Ev.Fn := ⟨4, 38, [.tmp 8],
 (.seq
 (.reg false [⟨4, .bx (.t 0), none, false⟩,
 ⟨5, .bx (.t 1), none, false⟩,
 ⟨6, .bx (.t 2), none, false⟩,
 ⟨7, .bx (.t 3), none, false⟩,
 ⟨8, .mv (.k (.sc (.bool false))), none, false⟩])
 (.seq
 (.reg false [⟨9, .ld 2 true (.t 4), none, false⟩,
 ⟨10, .ld 2 true (.t 5), none, false⟩,
 ⟨11, .ld 2 true (.t 6), none, false⟩,
 ⟨12, .ld 2 true (.t 7), none, false⟩,
 ⟨13, .ca (.k (.cl 202 [])) [(.t 9), (.t 10), (.t 11), (.t 12)], none, false⟩,
 ⟨14, .mv (.t 13), none, false⟩,
 ⟨15, .ld 2 true (.t 4), (some (14, false)), false⟩,
 ⟨16, .ld 2 true (.t 5), (some (14, false)), false⟩,
 ⟨17, .ld 2 true (.t 6), (some (14, false)), false⟩,
 ⟨18, .ca (.k (.cl 139 [])) [(.t 15), (.t 16), (.t 17)], (some (14, false)), false⟩,
 ⟨19, .pk (.t 14) (.k (.sc (.bool true))) (.t 18), none, false⟩,
 ⟨20, .mv (.t 19), none, false⟩,
 ⟨21, .ld 2 true (.t 4), (some (20, false)), false⟩,
 ⟨22, .ld 2 true (.t 5), (some (20, false)), false⟩,
 ⟨23, .ld 2 true (.t 7), (some (20, false)), false⟩,
 ⟨24, .ca (.k (.cl 139 [])) [(.t 21), (.t 22), (.t 23)], (some (20, false)), false⟩,
 ⟨25, .pk (.t 20) (.k (.sc (.bool true))) (.t 24), none, false⟩,
 ⟨26, .mv (.t 25), none, false⟩,
 ⟨27, .ld 2 true (.t 6), (some (26, false)), false⟩,
 ⟨28, .ld 2 true (.t 7), (some (26, false)), false⟩,
 ⟨29, .ld 2 true (.t 4), (some (26, false)), false⟩,
 ⟨30, .ca (.k (.cl 139 [])) [(.t 27), (.t 28), (.t 29)], (some (26, false)), false⟩,
 ⟨31, .pk (.t 26) (.k (.sc (.bool true))) (.t 30), none, false⟩,
 ⟨32, .mv (.t 31), none, false⟩,
 ⟨33, .ld 2 true (.t 6), (some (32, false)), false⟩,
 ⟨34, .ld 2 true (.t 7), (some (32, false)), false⟩,
 ⟨35, .ld 2 true (.t 5), (some (32, false)), false⟩,
 ⟨36, .ca (.k (.cl 139 [])) [(.t 33), (.t 34), (.t 35)], (some (32, false)), false⟩,
 ⟨37, .pk (.t 32) (.k (.sc (.bool true))) (.t 36), none, false⟩,
 ⟨8, .mv (.t 37), none, false⟩])
 .ret))⟩
attribute [simp] i140
set_option maxRecDepth 1000000 in
theorem c140 : cFn Try.prog 140 [[]] = some i140 := by kernel_rfl
theorem e140 : enterOk Try.prog 140 = true := by kernel_rfl
def w141_1 : IC :=
(.seq
 (.reg false [⟨10, .ar .lss false (.t 9) (.t 8), none, false⟩])
 (.seq
 (.ite (.t 10)
 .skip
 (.exit 0))
 (.seq
 (.block 1
 (.seq
 (.reg false [⟨11, .mv (.t 9), none, false⟩,
 ⟨12, .ia 2 (.t 7) (.t 9), none, false⟩,
 ⟨13, .ld 2 true (.t 12), none, false⟩,
 ⟨5, .al [(.sc (.int .i64 0)), (.sc (.int .i64 0))], none, false⟩,
 ⟨4, .mv (.t 11), none, false⟩,
 ⟨1, .so 2 (.t 5) (.t 13), none, true⟩])
 (.seq
 (.reg false [⟨14, .mv (.t 0), none, false⟩,
 ⟨15, .mv (.t 4), none, false⟩,
 ⟨16, .ar .add false (.t 15) (.k (.sc (.int .i64 1))), none, false⟩,
 ⟨17, .mv (.t 0), none, false⟩,
 ⟨18, .ln false (.t 17), none, false⟩,
 ⟨19, .ar .rem false (.t 16) (.t 18), none, false⟩,
 ⟨20, .ia 2 (.t 14) (.t 19), none, false⟩,
 ⟨21, .ld 2 true (.t 20), none, false⟩,
 ⟨6, .al [(.sc (.int .i64 0)), (.sc (.int .i64 0))], none, false⟩,
 ⟨1, .so 2 (.t 6) (.t 21), none, true⟩])
 (.reg false [⟨22, .mv (.t 3), none, false⟩,
 ⟨23, .fa 0 (.t 5), none, false⟩,
 ⟨24, .ld 1 false (.t 23), none, false⟩,
 ⟨25, .fa 1 (.t 6), none, false⟩,
 ⟨26, .ld 1 false (.t 25), none, false⟩,
 ⟨27, .ar .mul false (.t 24) (.t 26), none, false⟩,
 ⟨28, .fa 1 (.t 5), none, false⟩,
 ⟨29, .ld 1 false (.t 28), none, false⟩,
 ⟨30, .fa 0 (.t 6), none, false⟩,
 ⟨31, .ld 1 false (.t 30), none, false⟩,
 ⟨32, .ar .mul false (.t 29) (.t 31), none, false⟩,
 ⟨33, .ar .sub false (.t 27) (.t 32), none, false⟩,
 ⟨34, .ar .add false (.t 22) (.t 33), none, false⟩,
 ⟨3, .mv (.t 34), none, false⟩]))))
 (.reg false [⟨35, .ar .add false (.t 9) (.k (.sc (.int .i64 1))), none, false⟩,
 ⟨9, .mv (.t 35), none, false⟩]))))
def b141_1 : IC := w141_1
theorem u141_1 (call : CallF) (st : St) : evC call b141_1 st = evC call w141_1 st := rfl
attribute [simp] u141_1 w141_1
def i141 : Ev.Fn := ⟨1, 37, [.tmp 2],
 (.seq
 (.reg false [⟨2, .mv (.k (.sc (.int .i64 0))), none, false⟩])
 (.seq
 (.reg false [⟨3, .mv (.k (.sc (.int .i64 0))), none, false⟩])
 (.seq
 (.seq
 (.reg false [⟨7, .mv (.t 0), none, false⟩,
 ⟨8, .ln false (.t 7), none, false⟩,
 ⟨9, .mv (.k (.sc (.int .i64 0))), none, false⟩])
 (.cln [3] [2]
 (.block 0
 (.loop [0, 3, 7, 8, 9] b141_1))))
 (.seq
 (.reg false [⟨36, .mv (.t 3), none, false⟩,
 ⟨2, .mv (.t 36), none, false⟩])
 .ret))))⟩
attribute [simp] i141
set_option maxRecDepth 1000000 in
theorem c141 : cFn Try.prog 141 [[], [0, 3, 7, 8, 9], [3], [2]] = some i141 := by kernel_rfl
theorem e141 : enterOk Try.prog 141 = true := by kernel_rfl
def i142 : Ev.Fn := ⟨2, 19, [.tmp 4],
 (.seq
 (.reg false [⟨2, .bx (.t 0), none, false⟩,
 ⟨4, .mv (.k (.sc (.int .i64 0))), none, false⟩])
 (.seq
 (.reg false [⟨5, .mv (.t 1), none, false⟩,
 ⟨6, .fa 0 (.t 2), none, false⟩,
 ⟨7, .ld 1 false (.t 6), none, false⟩,
 ⟨8, .ln true (.t 7), none, false⟩,
 ⟨9, .ar .sub false (.t 5) (.t 8), none, false⟩,
 ⟨1, .mv (.t 9), none, false⟩])
 (.seq
 (.seq
 (.reg false [⟨10, .mv (.t 1), none, false⟩,
 ⟨11, .ar .lss false (.t 10) (.k (.sc (.int .i64 0))), none, false⟩])
 (.ite (.t 11)
 (.seq
 (.reg false [⟨4, .mv (.k (.sc (.int .i64 (-1)))), none, false⟩])
 .ret)
 .skip))
 (.seq
 (.reg false [⟨12, .fa 1 (.t 2), none, false⟩,
 ⟨13, .ld 1 false (.t 12), none, false⟩,
 ⟨14, .mv (.t 1), none, false⟩,
 ⟨15, .ca (.k (.cl 203 [])) [(.t 13), (.t 14)], none, false⟩,
 ⟨1, .mv (.t 15), none, false⟩])
 (.seq
 (.seq
 (.reg false [⟨16, .mv (.t 1), none, false⟩,
 ⟨17, .ar .lss false (.t 16) (.k (.sc (.int .i64 0))), none, false⟩])
 (.ite (.t 17)
 (.seq
 (.reg false [⟨4, .mv (.k (.sc (.int .i64 (-1)))), none, false⟩])
 .ret)
 .skip))
 (.seq
 (.reg false [⟨18, .mv (.t 1), none, false⟩,
 ⟨4, .mv (.t 18), none, false⟩])
 .ret))))))⟩
attribute [simp] i142
set_option maxRecDepth 1000000 in
theorem c142 : cFn Try.prog 142 [[]] = some i142 := by kernel_rfl
theorem e142 : enterOk Try.prog 142 = true := by kernel_rfl
def w143_2 : IC :=
(.seq
 (.seq
 (.reg false [⟨50, .mv (.t 4), none, false⟩,
 ⟨51, .mv (.t 3), none, false⟩,
 ⟨52, .ar .lss false (.t 50) (.t 51), none, false⟩])
 (.ite (.t 52)
 .skip
 (.exit 2)))
 (.seq
 (.block 3
 (.seq
 (.reg true [⟨55, .mv (.t 0), none, false⟩,
 ⟨56, .nc (.t 55), none, false⟩,
 ⟨57, .fa 2 (.t 56), none, false⟩,
 ⟨58, .ld 1 false (.t 57), none, false⟩,
 ⟨59, .mv (.t 3), none, false⟩,
 ⟨60, .ia 2 (.t 58) (.t 59), none, false⟩,
 ⟨61, .ld 2 true (.t 60), none, false⟩,
 ⟨62, .mv (.t 0), none, false⟩,
 ⟨63, .nc (.t 62), none, false⟩,
 ⟨64, .fa 2 (.t 63), none, false⟩,
 ⟨65, .ld 1 false (.t 64), none, false⟩,
 ⟨66, .mv (.t 4), none, false⟩,
 ⟨67, .ia 2 (.t 65) (.t 66), none, false⟩,
 ⟨68, .ld 2 true (.t 67), none, false⟩,
 ⟨69, .eq false [1, 1] (.t 61) (.t 68), none, false⟩])
 (.ite (.t 69)
 (.seq
 (.reg false [⟨2, .mv (.k (.sc (.bool false))), none, false⟩])
 .ret)
 .skip)))
 (.reg false [⟨53, .mv (.t 4), none, false⟩,
 ⟨54, .ar .add false (.t 53) (.k (.sc (.int .i64 1))), none, false⟩,
 ⟨4, .mv (.t 54), none, false⟩])))
def b143_2 : IC := w143_2
theorem u143_2 (call : CallF) (st : St) : evC call b143_2 st = evC call w143_2 st := rfl
attribute [simp] u143_2 w143_2
def w143_1 : IC :=
(.seq
 (.seq
 (.reg false [⟨11, .mv (.t 3), none, false⟩,
 ⟨12, .mv (.t 0), none, false⟩,
 ⟨13, .nc (.t 12), none, false⟩,
 ⟨14, .fa 2 (.t 13), none, false⟩,
 ⟨15, .ld 1 false (.t 14), none, false⟩,
 ⟨16, .ln false (.t 15), none, false⟩,
 ⟨17, .ar .lss false (.t 11) (.t 16), none, false⟩])
 (.ite (.t 17)
 .skip
 (.exit 0)))
 (.seq
 (.block 1
 (.seq
 (.seq
 (.reg true [⟨20, .mv (.t 0), none, false⟩,
 ⟨21, .nc (.t 20), none, false⟩,
 ⟨22, .fa 2 (.t 21), none, false⟩,
 ⟨23, .ld 1 false (.t 22), none, false⟩,
 ⟨24, .mv (.t 3), none, false⟩,
 ⟨25, .ia 2 (.t 23) (.t 24), none, false⟩,
 ⟨26, .fa 0 (.t 25), none, false⟩,
 ⟨27, .ld 1 false (.t 26), none, false⟩,
 ⟨28, .mv (.t 0), none, false⟩,
 ⟨29, .nc (.t 28), none, false⟩,
 ⟨30, .fa 0 (.t 29), none, false⟩,
 ⟨31, .ld 1 false (.t 30), none, false⟩,
 ⟨32, .ca (.k (.cl 121 [])) [(.t 27), (.k (.sc (.int .i64 0))), (.t 31)], none, false⟩,
 ⟨33, .nt (.t 32), none, false⟩,
 ⟨34, .mv (.t 33), none, false⟩,
 ⟨35, .mv (.t 0), (some (34, false)), false⟩,
 ⟨36, .nc (.t 35), (some (34, false)), false⟩,
 ⟨37, .fa 2 (.t 36), (some (34, false)), false⟩,
 ⟨38, .ld 1 false (.t 37), (some (34, false)), false⟩,
 ⟨39, .mv (.t 3), (some (34, false)), false⟩,
 ⟨40, .ia 2 (.t 38) (.t 39), (some (34, false)), false⟩,
 ⟨41, .fa 1 (.t 40), (some (34, false)), false⟩,
 ⟨42, .ld 1 false (.t 41), (some (34, false)), false⟩,
 ⟨43, .mv (.t 0), (some (34, false)), false⟩,
 ⟨44, .nc (.t 43), (some (34, false)), false⟩,
 ⟨45, .fa 1 (.t 44), (some (34, false)), false⟩,
 ⟨46, .ld 1 false (.t 45), (some (34, false)), false⟩,
 ⟨47, .ca (.k (.cl 121 [])) [(.t 42), (.k (.sc (.int .i64 0))), (.t 46)], (some (34, false)), false⟩,
 ⟨48, .nt (.t 47), (some (34, false)), false⟩,
 ⟨49, .pk (.t 34) (.k (.sc (.bool true))) (.t 48), none, false⟩])
 (.ite (.t 49)
 (.seq
 (.reg false [⟨2, .mv (.k (.sc (.bool false))), none, false⟩])
 .ret)
 .skip))
 (.seq
 (.reg false [⟨4, .mv (.k (.sc (.int .i64 0))), none, false⟩])
 (.cln [0, 3] [2]
 (.block 2
 (.loop [0, 3, 4] b143_2))))))
 (.reg false [⟨18, .mv (.t 3), none, false⟩,
 ⟨19, .ar .add false (.t 18) (.k (.sc (.int .i64 1))), none, false⟩,
 ⟨3, .mv (.t 19), none, false⟩])))
def b143_1 : IC := w143_1
theorem u143_1 (call : CallF) (st : St) : evC call b143_1 st = evC call w143_1 st := rfl
attribute [simp] u143_1 w143_1
def i143 : Ev.Fn := ⟨1, 70, [.tmp 2],
 (.seq
 (.reg false [⟨2, .mv (.k (.sc (.bool false))), none, false⟩])
 (.seq
 (.seq
 (.reg false [⟨5, .mv (.t 0), none, false⟩,
 ⟨6, .nc (.t 5), none, false⟩,
 ⟨7, .fa 2 (.t 6), none, false⟩,
 ⟨8, .ld 1 false (.t 7), none, false⟩,
 ⟨9, .ln false (.t 8), none, false⟩,
 ⟨10, .ar .gtr false (.t 9) (.k (.sc (.int .i64 48))), none, false⟩])
 (.ite (.t 10)
 (.seq
 (.reg false [⟨2, .mv (.k (.sc (.bool false))), none, false⟩])
 .ret)
 .skip))
 (.seq
 (.seq
 (.reg false [⟨3, .mv (.k (.sc (.int .i64 0))), none, false⟩])
 (.cln [] [2]
 (.block 0
 (.loop [0, 3] b143_1))))
 (.seq
 (.reg false [⟨2, .mv (.k (.sc (.bool true))), none, false⟩])
 .ret))))⟩
attribute [simp] i143
set_option maxRecDepth 1000000 in
theorem c143 : cFn Try.prog 143 [[], [0, 3], [0, 3, 4], [0, 3], [2], [], [2]] = some i143 := by kernel_rfl
theorem e143 : enterOk Try.prog 143 = true := by kernel_rfl
def w144_1 : IC :=
(.seq
 (.seq
 (.reg false [⟨17, .mv (.t 3), none, false⟩,
 ⟨18, .mv (.t 0), none, false⟩,
 ⟨19, .ln true (.t 18), none, false⟩,
 ⟨20, .ar .lss false (.t 17) (.t 19), none, false⟩])
 (.ite (.t 20)
 .skip
 (.exit 0)))
 (.seq
 (.block 1
 (.seq
 (.reg false [⟨23, .mv (.t 0), none, false⟩,
 ⟨24, .mv (.t 3), none, false⟩,
 ⟨25, .ix (.t 23) (.t 24), none, false⟩,
 ⟨26, .ca (.k (.cl 204 [])) [(.t 25)], none, false⟩,
 ⟨27, .nt (.t 26), none, false⟩,
 ⟨28, .mv (.t 27), none, false⟩,
 ⟨29, .mv (.t 0), (some (28, true)), false⟩,
 ⟨30, .mv (.t 3), (some (28, true)), false⟩,
 ⟨31, .ix (.t 29) (.t 30), (some (28, true)), false⟩,
 ⟨32, .ca (.k (.cl 205 [])) [(.t 31)], (some (28, true)), false⟩,
 ⟨33, .nt (.t 32), (some (28, true)), false⟩,
 ⟨34, .pk (.t 28) (.t 33) (.k (.sc (.bool false))), none, false⟩])
 (.ite (.t 34)
 (.seq
 (.reg false [⟨2, .mv (.k (.sc (.bool false))), none, false⟩])
 .ret)
 .skip)))
 (.reg false [⟨21, .mv (.t 3), none, false⟩,
 ⟨22, .ar .add false (.t 21) (.k (.sc (.int .i64 1))), none, false⟩,
 ⟨3, .mv (.t 22), none, false⟩])))
def b144_1 : IC := w144_1
theorem u144_1 (call : CallF) (st : St) : evC call b144_1 st = evC call w144_1 st := rfl
attribute [simp] u144_1 w144_1
def i144 : Ev.Fn := ⟨1, 35, [.tmp 2],
 (.seq
 (.reg false [⟨2, .mv (.k (.sc (.bool false))), none, false⟩])
 (.seq
 (.seq
 (.reg false [⟨4, .mv (.t 0), none, false⟩,
 ⟨5, .ar .eql false (.t 4) (.k (.sc (.string ⟨#[]⟩))), none, false⟩,
 ⟨6, .mv (.t 5), none, false⟩,
 ⟨7, .mv (.t 0), (some (6, false)), false⟩,
 ⟨8, .ln true (.t 7), (some (6, false)), false⟩,
 ⟨9, .ar .gtr false (.t 8) (.k (.sc (.int .i64 10))), (some (6, false)), false⟩,
 ⟨10, .pk (.t 6) (.k (.sc (.bool true))) (.t 9), none, false⟩,
 ⟨11, .mv (.t 10), none, false⟩,
 ⟨12, .mv (.t 0), (some (11, false)), false⟩,
 ⟨13, .ix (.t 12) (.k (.sc (.int .i64 0))), (some (11, false)), false⟩,
 ⟨14, .ca (.k (.cl 204 [])) [(.t 13)], (some (11, false)), false⟩,
 ⟨15, .nt (.t 14), (some (11, false)), false⟩,
 ⟨16, .pk (.t 11) (.k (.sc (.bool true))) (.t 15), none, false⟩])
 (.ite (.t 16)
 (.seq
 (.reg false [⟨2, .mv (.k (.sc (.bool false))), none, false⟩])
 .ret)
 .skip))
 (.seq
 (.seq
 (.reg false [⟨3, .mv (.k (.sc (.int .i64 0))), none, false⟩])
 (.cln [] [2]
 (.block 0
 (.loop [0, 3] b144_1))))
 (.seq
 (.reg false [⟨2, .mv (.k (.sc (.bool true))), none, false⟩])
 .ret))))⟩
attribute [simp] i144
set_option maxRecDepth 1000000 in
theorem c144 : cFn Try.prog 144 [[], [0, 3], [], [2]] = some i144 := by kernel_rfl
theorem e144 : enterOk Try.prog 144 = true := by kernel_rfl
def w145_1 : IC :=
(.seq
 (.seq
 (.reg false [⟨9, .mv (.t 7), none, false⟩,
 ⟨10, .mv (.t 1), none, false⟩,
 ⟨11, .ln false (.t 10), none, false⟩,
 ⟨12, .ar .lss false (.t 9) (.t 11), none, false⟩])
 (.ite (.t 12)
 .skip
 (.exit 0)))
 (.seq
 (.block 1
 (.seq
 (.seq
 (.reg true [⟨15, .mv (.t 1), none, false⟩,
 ⟨16, .mv (.t 7), none, false⟩,
 ⟨17, .ia 1 (.t 15) (.t 16), none, false⟩,
 ⟨18, .ld 1 false (.t 17), none, false⟩,
 ⟨19, .mv (.t 0), none, false⟩,
 ⟨20, .nc (.t 19), none, false⟩,
 ⟨21, .fa 2 (.t 20), none, false⟩,
 ⟨22, .ld 1 false (.t 21), none, false⟩,
 ⟨23, .ln false (.t 22), none, false⟩,
 ⟨24, .ar .sub false (.t 23) (.k (.sc (.int .i64 1))), none, false⟩,
 ⟨25, .ca (.k (.cl 121 [])) [(.t 18), (.k (.sc (.int .i64 0))), (.t 24)], none, false⟩,
 ⟨26, .nt (.t 25), none, false⟩])
 (.ite (.t 26)
 (.seq
 (.reg false [⟨4, .mv (.k .nl), none, false⟩,
 ⟨5, .mv (.k (.sc (.bool false))), none, false⟩])
 .ret)
 .skip))
 (.reg true [⟨27, .mv (.t 6), none, false⟩,
 ⟨28, .mv (.t 0), none, false⟩,
 ⟨29, .nc (.t 28), none, false⟩,
 ⟨30, .fa 2 (.t 29), none, false⟩,
 ⟨31, .ld 1 false (.t 30), none, false⟩,
 ⟨32, .mv (.t 1), none, false⟩,
 ⟨33, .mv (.t 7), none, false⟩,
 ⟨34, .ia 1 (.t 32) (.t 33), none, false⟩,
 ⟨35, .ld 1 false (.t 34), none, false⟩,
 ⟨36, .ia 2 (.t 31) (.t 35), none, false⟩,
 ⟨37, .ld 2 true (.t 36), none, false⟩,
 ⟨38, .bs 112 2 [(.sc (.int .i64 0)), (.sc (.int .i64 0))] 1 [(0, (.t 37))], none, false⟩,
 ⟨39, .ap 112 2 false (.t 27) (.t 38), none, false⟩,
 ⟨6, .mv (.t 39), none, false⟩])))
 (.reg false [⟨13, .mv (.t 7), none, false⟩,
 ⟨14, .ar .add false (.t 13) (.k (.sc (.int .i64 1))), none, false⟩,
 ⟨7, .mv (.t 14), none, false⟩])))
def b145_1 : IC := w145_1
theorem u145_1 (call : CallF) (st : St) : evC call b145_1 st = evC call w145_1 st := rfl
attribute [simp] u145_1 w145_1
def i145 : Ev.Fn := ⟨2, 41, [.tmp 4, .tmp 5],
 (.seq
 (.reg false [⟨4, .mv (.k .nl), none, false⟩,
 ⟨5, .mv (.k (.sc (.bool false))), none, false⟩])
 (.seq
 (.reg false [⟨8, .bs 112 2 [(.sc (.int .i64 0)), (.sc (.int .i64 0))] 0 [], none, false⟩,
 ⟨6, .mv (.t 8), none, false⟩])
 (.seq
 (.seq
 (.reg false [⟨7, .mv (.k (.sc (.int .i64 0))), none, false⟩])
 (.cln [6] [4, 5]
 (.block 0
 (.loop [0, 1, 6, 7] b145_1))))
 (.seq
 (.reg false [⟨40, .mv (.t 6), none, false⟩,
 ⟨4, .mv (.t 40), none, false⟩,
 ⟨5, .mv (.k (.sc (.bool true))), none, false⟩])
 .ret))))⟩
attribute [simp] i145
set_option maxRecDepth 1000000 in
theorem c145 : cFn Try.prog 145 [[], [0, 1, 6, 7], [6], [4, 5]] = some i145 := by kernel_rfl
theorem e145 : enterOk Try.prog 145 = true := by kernel_rfl
def i146 : Ev.Fn := ⟨3, 16, [.tmp 6],
 (.seq
 (.reg false [⟨3, .bx (.t 0), none, false⟩,
 ⟨4, .bx (.t 1), none, false⟩,
 ⟨5, .bx (.t 2), none, false⟩,
 ⟨6, .mv (.k (.sc (.int .i64 0))), none, false⟩])
 (.seq
 (.reg false [⟨8, .ld 2 true (.t 3), none, false⟩,
 ⟨9, .ld 2 true (.t 4), none, false⟩,
 ⟨10, .ld 2 true (.t 5), none, false⟩,
 ⟨11, .ca (.k (.cl 206 [])) [(.t 8), (.t 9), (.t 10)], none, false⟩,
 ⟨7, .mv (.t 11), none, false⟩])
 (.seq
 (.seq
 (.reg false [⟨12, .mv (.t 7), none, false⟩,
 ⟨13, .ar .gtr false (.t 12) (.k (.sc (.int .i64 0))), none, false⟩])
 (.ite (.t 13)
 (.seq
 (.reg false [⟨6, .mv (.k (.sc (.int .i64 1))), none, false⟩])
 .ret)
 .skip))
 (.seq
 (.seq
 (.reg false [⟨14, .mv (.t 7), none, false⟩,
 ⟨15, .ar .lss false (.t 14) (.k (.sc (.int .i64 0))), none, false⟩])
 (.ite (.t 15)
 (.seq
 (.reg false [⟨6, .mv (.k (.sc (.int .i64 (-1)))), none, false⟩])
 .ret)
 .skip))
 (.seq
 (.reg false [⟨6, .mv (.k (.sc (.int .i64 0))), none, false⟩])
 .ret)))))⟩
attribute [simp] i146
set_option maxRecDepth 1000000 in
theorem c146 : cFn Try.prog 146 [[]] = some i146 := by kernel_rfl
theorem e146 : enterOk Try.prog 146 = true := by kernel_rfl
def i147 : Ev.Fn := ⟨1, 12, [.cell 2 2 true],
 (.seq
 (.reg false [⟨1, .bx (.t 0), none, false⟩,
 ⟨2, .al [(.sc (.string ⟨#[]⟩)), .nl], none, false⟩])
 (.seq
 (.reg false [⟨3, .al [(.sc (.string ⟨#[]⟩)), .nl], none, false⟩])
 (.seq
 (.reg false [⟨4, .fa 0 (.t 1), none, false⟩,
 ⟨5, .ld 1 false (.t 4), none, false⟩,
 ⟨6, .fa 0 (.t 3), none, false⟩,
 ⟨1, .so 1 (.t 6) (.t 5), none, true⟩])
 (.seq
 (.reg false [⟨7, .fa 1 (.t 1), none, false⟩,
 ⟨8, .ld 1 false (.t 7), none, false⟩,
 ⟨9, .ca (.k (.cl 51 [])) [(.t 8)], none, false⟩,
 ⟨10, .fa 1 (.t 3), none, false⟩,
 ⟨1, .so 1 (.t 10) (.t 9), none, true⟩])
 (.seq
 (.reg false [⟨11, .ld 2 true (.t 3), none, false⟩,
 ⟨1, .so 2 (.t 2) (.t 11), none, true⟩])
 .ret)))))⟩
attribute [simp] i147
set_option maxRecDepth 1000000 in
theorem c147 : cFn Try.prog 147 [[]] = some i147 := by kernel_rfl
theorem e147 : enterOk Try.prog 147 = true := by kernel_rfl
def i148 : Ev.Fn := ⟨2, 9, [.tmp 4],
 (.seq
 (.reg false [⟨3, .bx (.t 1), none, false⟩,
 ⟨4, .mv (.k (.sc (.bool false))), none, false⟩])
 (.seq
 (.reg false [⟨5, .mv (.t 0), none, false⟩,
 ⟨6, .ld 2 true (.t 3), none, false⟩,
 ⟨7, .ca (.k (.cl 92 [])) [(.t 5), (.t 6)], none, false⟩,
 ⟨8, .ar .geq false (.t 7) (.k (.sc (.int .i64 0))), none, false⟩,
 ⟨4, .mv (.t 8), none, false⟩])
 .ret))⟩
attribute [simp] i148
set_option maxRecDepth 1000000 in
theorem c148 : cFn Try.prog 148 [[]] = some i148 := by kernel_rfl
theorem e148 : enterOk Try.prog 148 = true := by kernel_rfl
def w149_1 : IC :=
(.seq
 (.seq
 (.reg false [⟨22, .mv (.t 3), none, false⟩,
 ⟨23, .mv (.t 0), none, false⟩,
 ⟨24, .ln true (.t 23), none, false⟩,
 ⟨25, .ar .lss false (.t 22) (.t 24), none, false⟩])
 (.ite (.t 25)
 .skip
 (.exit 0)))
 (.seq
 (.block 1
 (.seq
 (.reg false [⟨28, .mv (.t 0), none, false⟩,
 ⟨29, .mv (.t 3), none, false⟩,
 ⟨30, .ix (.t 28) (.t 29), none, false⟩,
 ⟨31, .ar .lss false (.t 30) (.k (.sc (.int .u8 97))), none, false⟩,
 ⟨32, .mv (.t 31), none, false⟩,
 ⟨33, .mv (.t 0), (some (32, false)), false⟩,
 ⟨34, .mv (.t 3), (some (32, false)), false⟩,
 ⟨35, .ix (.t 33) (.t 34), (some (32, false)), false⟩,
 ⟨36, .ar .gtr false (.t 35) (.k (.sc (.int .u8 122))), (some (32, false)), false⟩,
 ⟨37, .pk (.t 32) (.k (.sc (.bool true))) (.t 36), none, false⟩,
 ⟨38, .mv (.t 37), none, false⟩,
 ⟨39, .mv (.t 0), (some (38, true)), false⟩,
 ⟨40, .mv (.t 3), (some (38, true)), false⟩,
 ⟨41, .ix (.t 39) (.t 40), (some (38, true)), false⟩,
 ⟨42, .ar .lss false (.t 41) (.k (.sc (.int .u8 48))), (some (38, true)), false⟩,
 ⟨43, .mv (.t 42), (some (38, true)), false⟩,
 ⟨44, .mv (.t 0), (some (43, false)), false⟩,
 ⟨45, .mv (.t 3), (some (43, false)), false⟩,
 ⟨46, .ix (.t 44) (.t 45), (some (43, false)), false⟩,
 ⟨47, .ar .gtr false (.t 46) (.k (.sc (.int .u8 57))), (some (43, false)), false⟩,
 ⟨48, .pk (.t 43) (.k (.sc (.bool true))) (.t 47), (some (38, true)), false⟩,
 ⟨49, .pk (.t 38) (.t 48) (.k (.sc (.bool false))), none, false⟩])
 (.ite (.t 49)
 (.seq
 (.reg false [⟨2, .mv (.k (.sc (.bool false))), none, false⟩])
 .ret)
 .skip)))
 (.reg false [⟨26, .mv (.t 3), none, false⟩,
 ⟨27, .ar .add false (.t 26) (.k (.sc (.int .i64 1))), none, false⟩,
 ⟨3, .mv (.t 27), none, false⟩])))
def b149_1 : IC := w149_1
theorem u149_1 (call : CallF) (st : St) : evC call b149_1 st = evC call w149_1 st := rfl
attribute [simp] u149_1 w149_1
def i149 : Ev.Fn := ⟨1, 50, [.tmp 2],
 (.seq
 (.reg false [⟨2, .mv (.k (.sc (.bool false))), none, false⟩])
 (.seq
 (.seq
 (.reg false [⟨4, .mv (.t 0), none, false⟩,
 ⟨5, .ln true (.t 4), none, false⟩,
 ⟨6, .ar .lss false (.t 5) (.k (.sc (.int .i64 1))), none, false⟩,
 ⟨7, .mv (.t 6), none, false⟩,
 ⟨8, .mv (.t 0), (some (7, false)), false⟩,
 ⟨9, .ln true (.t 8), (some (7, false)), false⟩,
 ⟨10, .ar .gtr false (.t 9) (.k (.sc (.int .i64 10))), (some (7, false)), false⟩,
 ⟨11, .pk (.t 7) (.k (.sc (.bool true))) (.t 10), none, false⟩,
 ⟨12, .mv (.t 11), none, false⟩,
 ⟨13, .mv (.t 0), (some (12, false)), false⟩,
 ⟨14, .ix (.t 13) (.k (.sc (.int .i64 0))), (some (12, false)), false⟩,
 ⟨15, .ar .lss false (.t 14) (.k (.sc (.int .u8 97))), (some (12, false)), false⟩,
 ⟨16, .pk (.t 12) (.k (.sc (.bool true))) (.t 15), none, false⟩,
 ⟨17, .mv (.t 16), none, false⟩,
 ⟨18, .mv (.t 0), (some (17, false)), false⟩,
 ⟨19, .ix (.t 18) (.k (.sc (.int .i64 0))), (some (17, false)), false⟩,
 ⟨20, .ar .gtr false (.t 19) (.k (.sc (.int .u8 122))), (some (17, false)), false⟩,
 ⟨21, .pk (.t 17) (.k (.sc (.bool true))) (.t 20), none, false⟩])
 (.ite (.t 21)
 (.seq
 (.reg false [⟨2, .mv (.k (.sc (.bool false))), none, false⟩])
 .ret)
 .skip))
 (.seq
 (.seq
 (.reg false [⟨3, .mv (.k (.sc (.int .i64 0))), none, false⟩])
 (.cln [] [2]
 (.block 0
 (.loop [0, 3] b149_1))))
 (.seq
 (.reg false [⟨2, .mv (.k (.sc (.bool true))), none, false⟩])
 .ret))))⟩
attribute [simp] i149
set_option maxRecDepth 1000000 in
theorem c149 : cFn Try.prog 149 [[], [0, 3], [], [2]] = some i149 := by kernel_rfl
theorem e149 : enterOk Try.prog 149 = true := by kernel_rfl
def w150_1 : IC :=
(.seq
 (.reg false [⟨13, .ar .lss false (.t 12) (.t 11), none, false⟩])
 (.seq
 (.ite (.t 13)
 .skip
 (.exit 0))
 (.seq
 (.block 1
 (.seq
 (.reg false [⟨14, .ia 1 (.t 10) (.t 12), none, false⟩,
 ⟨15, .ld 1 false (.t 14), none, false⟩,
 ⟨8, .mv (.t 15), none, false⟩])
 (.seq
 (.seq
 (.reg false [⟨16, .mv (.t 8), none, false⟩,
 ⟨17, .mv (.t 0), none, false⟩,
 ⟨18, .ln false (.t 17), none, false⟩,
 ⟨19, .ar .sub false (.t 18) (.k (.sc (.int .i64 1))), none, false⟩,
 ⟨20, .ca (.k (.cl 124 [])) [(.t 16), (.k (.sc (.int .i64 0))), (.t 19)], none, false⟩,
 ⟨21, .nt (.t 20), none, false⟩])
 (.ite (.t 21)
 (.seq
 (.reg false [⟨4, .mv (.k .nl), none, false⟩,
 ⟨5, .mv (.k (.sc (.bool false))), none, false⟩])
 .ret)
 .skip))
 (.reg false [⟨22, .mv (.t 6), none, false⟩,
 ⟨23, .mv (.t 0), none, false⟩,
 ⟨24, .mv (.t 8), none, false⟩,
 ⟨25, .ia 2 (.t 23) (.t 24), none, false⟩,
 ⟨26, .ld 2 true (.t 25), none, false⟩,
 ⟨27, .bs 112 2 [(.sc (.int .i64 0)), (.sc (.int .i64 0))] 1 [(0, (.t 26))], none, false⟩,
 ⟨28, .ap 112 2 false (.t 22) (.t 27), none, false⟩,
 ⟨6, .mv (.t 28), none, false⟩]))))
 (.reg false [⟨29, .ar .add false (.t 12) (.k (.sc (.int .i64 1))), none, false⟩,
 ⟨12, .mv (.t 29), none, false⟩]))))
def b150_1 : IC := w150_1
theorem u150_1 (call : CallF) (st : St) : evC call b150_1 st = evC call w150_1 st := rfl
attribute [simp] u150_1 w150_1
def i150 : Ev.Fn := ⟨2, 31, [.tmp 4, .tmp 5],
 (.seq
 (.reg false [⟨4, .mv (.k .nl), none, false⟩,
 ⟨5, .mv (.k (.sc (.bool false))), none, false⟩])
 (.seq
 (.reg false [⟨9, .bs 112 2 [(.sc (.int .i64 0)), (.sc (.int .i64 0))] 0 [], none, false⟩,
 ⟨6, .mv (.t 9), none, false⟩])
 (.seq
 (.seq
 (.reg false [⟨10, .mv (.t 1), none, false⟩,
 ⟨11, .ln false (.t 10), none, false⟩,
 ⟨12, .mv (.k (.sc (.int .i64 0))), none, false⟩])
 (.cln [6] [4, 5]
 (.block 0
 (.loop [0, 6, 10, 11, 12] b150_1))))
 (.seq
 (.reg false [⟨30, .mv (.t 6), none, false⟩,
 ⟨4, .mv (.t 30), none, false⟩,
 ⟨5, .mv (.k (.sc (.bool true))), none, false⟩])
 .ret))))⟩
attribute [simp] i150
set_option maxRecDepth 1000000 in
theorem c150 : cFn Try.prog 150 [[], [0, 6, 10, 11, 12], [6], [4, 5]] = some i150 := by kernel_rfl
theorem e150 : enterOk Try.prog 150 = true := by kernel_rfl
def i153 : Ev.Fn := ⟨3, 37, [.tmp 6],
 (.seq
 (.reg false [⟨3, .bx (.t 0), none, false⟩,
 ⟨4, .bx (.t 1), none, false⟩,
 ⟨5, .bx (.t 2), none, false⟩,
 ⟨6, .mv (.k (.sc (.int .i64 0))), none, false⟩])
 (.seq
 (.reg false [⟨8, .fa 0 (.t 4), none, false⟩,
 ⟨9, .ld 1 false (.t 8), none, false⟩,
 ⟨10, .fa 0 (.t 3), none, false⟩,
 ⟨11, .ld 1 false (.t 10), none, false⟩,
 ⟨12, .ar .sub false (.t 9) (.t 11), none, false⟩,
 ⟨13, .fa 1 (.t 5), none, false⟩,
 ⟨14, .ld 1 false (.t 13), none, false⟩,
 ⟨15, .fa 1 (.t 3), none, false⟩,
 ⟨16, .ld 1 false (.t 15), none, false⟩,
 ⟨17, .ar .sub false (.t 14) (.t 16), none, false⟩,
 ⟨18, .ar .mul false (.t 12) (.t 17), none, false⟩,
 ⟨19, .fa 1 (.t 4), none, false⟩,
 ⟨20, .ld 1 false (.t 19), none, false⟩,
 ⟨21, .fa 1 (.t 3), none, false⟩,
 ⟨22, .ld 1 false (.t 21), none, false⟩,
 ⟨23, .ar .sub false (.t 20) (.t 22), none, false⟩,
 ⟨24, .fa 0 (.t 5), none, false⟩,
 ⟨25, .ld 1 false (.t 24), none, false⟩,
 ⟨26, .fa 0 (.t 3), none, false⟩,
 ⟨27, .ld 1 false (.t 26), none, false⟩,
 ⟨28, .ar .sub false (.t 25) (.t 27), none, false⟩,
 ⟨29, .ar .mul false (.t 23) (.t 28), none, false⟩,
 ⟨30, .ar .sub false (.t 18) (.t 29), none, false⟩,
 ⟨7, .mv (.t 30), none, false⟩])
 (.seq
 (.block 0
 (.seq
 (.reg false [⟨32, .mv (.t 7), none, false⟩,
 ⟨33, .ar .gtr false (.t 32) (.k (.sc (.int .i64 0))), none, false⟩,
 ⟨31, .mv (.t 33), none, false⟩])
 (.ite (.t 31)
 (.seq
 (.reg false [⟨6, .mv (.k (.sc (.int .i64 1))), none, false⟩])
 .ret)
 (.seq
 (.reg false [⟨35, .mv (.t 7), none, false⟩,
 ⟨36, .ar .lss false (.t 35) (.k (.sc (.int .i64 0))), none, false⟩,
 ⟨34, .mv (.t 36), none, false⟩])
 (.ite (.t 34)
 (.seq
 (.reg false [⟨6, .mv (.k (.sc (.int .i64 (-1)))), none, false⟩])
 .ret)
 .skip)))))
 (.seq
 (.reg false [⟨6, .mv (.k (.sc (.int .i64 0))), none, false⟩])
 .ret))))⟩
attribute [simp] i153
set_option maxRecDepth 1000000 in
theorem c153 : cFn Try.prog 153 [[]] = some i153 := by kernel_rfl
theorem e153 : enterOk Try.prog 153 = true := by kernel_rfl
def i154 : Ev.Fn := ⟨2, 16, [.tmp 4],
 (.seq
 (.reg false [⟨2, .bx (.t 0), none, false⟩,
 ⟨3, .bx (.t 1), none, false⟩,
 ⟨4, .mv (.k (.sc (.bool false))), none, false⟩])
 (.seq
 (.seq
 (.reg false [⟨5, .fa 0 (.t 2), none, false⟩,
 ⟨6, .ld 1 false (.t 5), none, false⟩,
 ⟨7, .fa 0 (.t 3), none, false⟩,
 ⟨8, .ld 1 false (.t 7), none, false⟩,
 ⟨9, .ar .neq false (.t 6) (.t 8), none, false⟩])
 (.ite (.t 9)
 (.seq
 (.reg false [⟨4, .mv (.k (.sc (.bool false))), none, false⟩])
 .ret)
 .skip))
 (.seq
 (.seq
 (.reg false [⟨10, .fa 1 (.t 2), none, false⟩,
 ⟨11, .ld 1 false (.t 10), none, false⟩,
 ⟨12, .fa 1 (.t 3), none, false⟩,
 ⟨13, .ld 1 false (.t 12), none, false⟩,
 ⟨14, .ca (.k (.cl 54 [])) [(.t 11), (.t 13)], none, false⟩,
 ⟨15, .nt (.t 14), none, false⟩])
 (.ite (.t 15)
 (.seq
 (.reg false [⟨4, .mv (.k (.sc (.bool false))), none, false⟩])
 .ret)
 .skip))
 (.seq
 (.reg false [⟨4, .mv (.k (.sc (.bool true))), none, false⟩])
 .ret))))⟩
attribute [simp] i154
set_option maxRecDepth 1000000 in
theorem c154 : cFn Try.prog 154 [[]] = some i154 := by kernel_rfl
theorem e154 : enterOk Try.prog 154 = true := by kernel_rfl
def i169 : Ev.Fn := ⟨2, 10, [.tmp 4],
 (.seq
 (.reg false [⟨4, .mv (.k (.sc (.int .i64 0))), none, false⟩])
 (.seq
 (.seq
 (.reg false [⟨5, .mv (.t 0), none, false⟩,
 ⟨6, .mv (.t 1), none, false⟩,
 ⟨7, .ar .gtr false (.t 5) (.t 6), none, false⟩])
 (.ite (.t 7)
 (.seq
 (.reg false [⟨8, .mv (.t 0), none, false⟩,
 ⟨4, .mv (.t 8), none, false⟩])
 .ret)
 .skip))
 (.seq
 (.reg false [⟨9, .mv (.t 1), none, false⟩,
 ⟨4, .mv (.t 9), none, false⟩])
 .ret)))⟩
attribute [simp] i169
set_option maxRecDepth 1000000 in
theorem c169 : cFn Try.prog 169 [[]] = some i169 := by kernel_rfl
theorem e169 : enterOk Try.prog 169 = true := by kernel_rfl
def i171 : Ev.Fn := ⟨2, 10, [.tmp 4],
 (.seq
 (.reg false [⟨4, .mv (.k (.sc (.int .i64 0))), none, false⟩])
 (.seq
 (.seq
 (.reg false [⟨5, .mv (.t 0), none, false⟩,
 ⟨6, .mv (.t 1), none, false⟩,
 ⟨7, .ar .lss false (.t 5) (.t 6), none, false⟩])
 (.ite (.t 7)
 (.seq
 (.reg false [⟨8, .mv (.t 0), none, false⟩,
 ⟨4, .mv (.t 8), none, false⟩])
 .ret)
 .skip))
 (.seq
 (.reg false [⟨9, .mv (.t 1), none, false⟩,
 ⟨4, .mv (.t 9), none, false⟩])
 .ret)))⟩
attribute [simp] i171
set_option maxRecDepth 1000000 in
theorem c171 : cFn Try.prog 171 [[]] = some i171 := by kernel_rfl
theorem e171 : enterOk Try.prog 171 = true := by kernel_rfl
def i177 : Ev.Fn := ⟨1, 42, [.tmp 2],
 (.seq
 (.reg false [⟨2, .mv (.k (.sc (.bool false))), none, false⟩])
 (.seq
 (.reg false [⟨5, .mv (.t 0), none, false⟩,
 ⟨6, .nc (.t 5), none, false⟩,
 ⟨7, .fa 0 (.t 6), none, false⟩,
 ⟨8, .ld 1 false (.t 7), none, false⟩,
 ⟨9, .ca (.k (.cl 224 [])) [(.t 8)], none, false⟩,
 ⟨3, .mv (.t 9), none, false⟩])
 (.seq
 (.seq
 (.reg false [⟨10, .mv (.t 3), none, false⟩,
 ⟨11, .ar .lss false (.t 10) (.k (.sc (.int .i64 0))), none, false⟩,
 ⟨12, .mv (.t 11), none, false⟩,
 ⟨13, .mv (.t 0), (some (12, false)), false⟩,
 ⟨14, .nc (.t 13), (some (12, false)), false⟩,
 ⟨15, .fa 1 (.t 14), (some (12, false)), false⟩,
 ⟨16, .ld 1 false (.t 15), (some (12, false)), false⟩,
 ⟨17, .ca (.k (.cl 121 [])) [(.t 16), (.k (.sc (.int .i64 0))), (.k (.sc (.int .i64 100)))], (some (12, false)), false⟩,
 ⟨18, .nt (.t 17), (some (12, false)), false⟩,
 ⟨19, .pk (.t 12) (.k (.sc (.bool true))) (.t 18), none, false⟩])
 (.ite (.t 19)
 (.seq
 (.reg false [⟨2, .mv (.k (.sc (.bool false))), none, false⟩])
 .ret)
 .skip))
 (.seq
 (.reg false [⟨20, .ca (.k (.cl 225 [])) [], none, false⟩,
 ⟨21, .mv (.t 3), none, false⟩,
 ⟨22, .ia 1 (.t 20) (.t 21), none, false⟩,
 ⟨23, .ld 1 false (.t 22), none, false⟩,
 ⟨24, .ia 1 (.t 23) (.k (.sc (.int .i64 0))), none, false⟩,
 ⟨25, .ld 1 false (.t 24), none, false⟩,
 ⟨4, .mv (.t 25), none, false⟩])
 (.seq
 (.reg false [⟨26, .mv (.t 0), none, false⟩,
 ⟨27, .nc (.t 26), none, false⟩,
 ⟨28, .fa 1 (.t 27), none, false⟩,
 ⟨29, .ld 1 false (.t 28), none, false⟩,
 ⟨30, .mv (.t 4), none, false⟩,
 ⟨31, .ar .sub false (.t 30) (.k (.sc (.int .i64 15))), none, false⟩,
 ⟨32, .mv (.t 4), none, false⟩,
 ⟨33, .ar .add false (.t 32) (.k (.sc (.int .i64 15))), none, false⟩,
 ⟨34, .ca (.k (.cl 121 [])) [(.t 29), (.t 31), (.t 33)], none, false⟩,
 ⟨35, .mv (.t 34), none, false⟩,
 ⟨36, .mv (.t 0), (some (35, true)), false⟩,
 ⟨37, .nc (.t 36), (some (35, true)), false⟩,
 ⟨38, .fa 2 (.t 37), (some (35, true)), false⟩,
 ⟨39, .ld 1 false (.t 38), (some (35, true)), false⟩,
 ⟨40, .ca (.k (.cl 226 [])) [(.t 39)], (some (35, true)), false⟩,
 ⟨41, .pk (.t 35) (.t 40) (.k (.sc (.bool false))), none, false⟩,
 ⟨2, .mv (.t 41), none, false⟩])
 .ret)))))⟩
attribute [simp] i177
set_option maxRecDepth 1000000 in
theorem c177 : cFn Try.prog 177 [[]] = some i177 := by kernel_rfl
theorem e177 : enterOk Try.prog 177 = true := by kernel_rfl
def w179_1 : IC :=
(.seq
 (.seq
 (.reg false [⟨13, .mv (.t 6), none, false⟩,
 ⟨14, .mv (.t 0), none, false⟩,
 ⟨15, .ln false (.t 14), none, false⟩,
 ⟨16, .ar .lss false (.t 13) (.t 15), none, false⟩])
 (.ite (.t 16)
 .skip
 (.exit 0)))
 (.seq
 (.block 1
 (.seq
 (.reg true [⟨19, .fa 0 (.t 4), none, false⟩,
 ⟨20, .ld 1 false (.t 19), none, false⟩,
 ⟨21, .mv (.t 0), none, false⟩,
 ⟨22, .mv (.t 6), none, false⟩,
 ⟨23, .ia 2 (.t 21) (.t 22), none, false⟩,
 ⟨24, .fa 0 (.t 23), none, false⟩,
 ⟨25, .ld 1 false (.t 24), none, false⟩,
 ⟨26, .ca (.k (.cl 171 [])) [(.t 20), (.t 25)], none, false⟩,
 ⟨27, .fa 0 (.t 4), none, false⟩,
 ⟨1, .so 1 (.t 27) (.t 26), none, true⟩])
 (.seq
 (.reg true [⟨28, .fa 1 (.t 4), none, false⟩,
 ⟨29, .ld 1 false (.t 28), none, false⟩,
 ⟨30, .mv (.t 0), none, false⟩,
 ⟨31, .mv (.t 6), none, false⟩,
 ⟨32, .ia 2 (.t 30) (.t 31), none, false⟩,
 ⟨33, .fa 1 (.t 32), none, false⟩,
 ⟨34, .ld 1 false (.t 33), none, false⟩,
 ⟨35, .ca (.k (.cl 171 [])) [(.t 29), (.t 34)], none, false⟩,
 ⟨36, .fa 1 (.t 4), none, false⟩,
 ⟨1, .so 1 (.t 36) (.t 35), none, true⟩])
 (.seq
 (.reg true [⟨37, .fa 0 (.t 5), none, false⟩,
 ⟨38, .ld 1 false (.t 37), none, false⟩,
 ⟨39, .mv (.t 0), none, false⟩,
 ⟨40, .mv (.t 6), none, false⟩,
 ⟨41, .ia 2 (.t 39) (.t 40), none, false⟩,
 ⟨42, .fa 0 (.t 41), none, false⟩,
 ⟨43, .ld 1 false (.t 42), none, false⟩,
 ⟨44, .ca (.k (.cl 169 [])) [(.t 38), (.t 43)], none, false⟩,
 ⟨45, .fa 0 (.t 5), none, false⟩,
 ⟨1, .so 1 (.t 45) (.t 44), none, true⟩])
 (.reg true [⟨46, .fa 1 (.t 5), none, false⟩,
 ⟨47, .ld 1 false (.t 46), none, false⟩,
 ⟨48, .mv (.t 0), none, false⟩,
 ⟨49, .mv (.t 6), none, false⟩,
 ⟨50, .ia 2 (.t 48) (.t 49), none, false⟩,
 ⟨51, .fa 1 (.t 50), none, false⟩,
 ⟨52, .ld 1 false (.t 51), none, false⟩,
 ⟨53, .ca (.k (.cl 169 [])) [(.t 47), (.t 52)], none, false⟩,
 ⟨54, .fa 1 (.t 5), none, false⟩,
 ⟨1, .so 1 (.t 54) (.t 53), none, true⟩])))))
 (.reg false [⟨17, .mv (.t 6), none, false⟩,
 ⟨18, .ar .add false (.t 17) (.k (.sc (.int .i64 1))), none, false⟩,
 ⟨6, .mv (.t 18), none, false⟩])))
def b179_1 : IC := w179_1
theorem u179_1 (call : CallF) (st : St) : evC call b179_1 st = evC call w179_1 st := rfl
attribute [simp] u179_1 w179_1
def i179 : Ev.Fn := ⟨1, 57, [.cell 2 2 true, .cell 3 2 true],
 (.seq
 (.reg false [⟨2, .al [(.sc (.int .i64 0)), (.sc (.int .i64 0))], none, false⟩,
 ⟨3, .al [(.sc (.int .i64 0)), (.sc (.int .i64 0))], none, false⟩])
 (.seq
 (.reg false [⟨7, .mv (.t 0), none, false⟩,
 ⟨8, .ia 2 (.t 7) (.k (.sc (.int .i64 0))), none, false⟩,
 ⟨9, .ld 2 true (.t 8), none, false⟩,
 ⟨4, .al [(.sc (.int .i64 0)), (.sc (.int .i64 0))], none, false⟩,
 ⟨1, .so 2 (.t 4) (.t 9), none, true⟩])
 (.seq
 (.reg false [⟨10, .mv (.t 0), none, false⟩,
 ⟨11, .ia 2 (.t 10) (.k (.sc (.int .i64 0))), none, false⟩,
 ⟨12, .ld 2 true (.t 11), none, false⟩,
 ⟨5, .al [(.sc (.int .i64 0)), (.sc (.int .i64 0))], none, false⟩,
 ⟨1, .so 2 (.t 5) (.t 12), none, true⟩])
 (.seq
 (.seq
 (.reg false [⟨6, .mv (.k (.sc (.int .i64 1))), none, false⟩])
 (.cln [2, 3, 4, 5] [2, 3]
 (.block 0
 (.loop [0, 2, 3, 4, 5, 6] b179_1))))
 (.seq
 (.rgc [.ne 2 5] [⟨55, .ld 2 true (.t 4), none, false⟩,
 ⟨56, .ld 2 true (.t 5), none, false⟩,
 ⟨0, .so 2 (.t 2) (.t 55), none, true⟩,
 ⟨0, .so 2 (.t 3) (.t 56), none, true⟩])
 .ret)))))⟩
attribute [simp] i179
set_option maxRecDepth 1000000 in
theorem c179 : cFn Try.prog 179 [[], [0, 2, 3, 4, 5, 6], [2, 3, 4, 5], [2, 3]] = some i179 := by kernel_rfl
theorem e179 : enterOk Try.prog 179 = true := by kernel_rfl
def i182 : Ev.Fn := ⟨1, 29, [.tmp 2],
 (.seq
 (.reg false [⟨1, .bx (.t 0), none, false⟩,
 ⟨2, .mv (.k (.sc (.bool false))), none, false⟩])
 (.seq
 (.reg false [⟨6, .fa 0 (.t 1), none, false⟩,
 ⟨7, .ld 1 false (.t 6), none, false⟩,
 ⟨8, .ca (.k (.cl 227 [])) [(.t 7)], none, false⟩,
 ⟨5, .mv (.t 8), none, false⟩,
 ⟨9, .xt (.t 5) 0, none, false⟩,
 ⟨10, .xt (.t 5) 1, none, false⟩,
 ⟨3, .mv (.t 9), none, false⟩,
 ⟨4, .mv (.t 10), none, false⟩])
 (.seq
 (.reg false [⟨11, .mv (.t 4), none, false⟩,
 ⟨12, .mv (.t 11), none, false⟩,
 ⟨13, .fa 1 (.t 1), (some (12, true)), false⟩,
 ⟨14, .ld 1 false (.t 13), (some (12, true)), false⟩,
 ⟨15, .ca (.k (.cl 124 [])) [(.t 14), (.k (.sc (.int .i64 0))), (.k (.sc (.int .i64 100)))], (some (12, true)), false⟩,
 ⟨16, .pk (.t 12) (.t 15) (.k (.sc (.bool false))), none, false⟩,
 ⟨17, .mv (.t 16), none, false⟩,
 ⟨18, .fa 1 (.t 1), (some (17, true)), false⟩,
 ⟨19, .ld 1 false (.t 18), (some (17, true)), false⟩,
 ⟨20, .mv (.t 3), (some (17, true)), false⟩,
 ⟨21, .ar .sub false (.t 19) (.t 20), (some (17, true)), false⟩,
 ⟨22, .ca (.k (.cl 124 [])) [(.t 21), (.k (.sc (.int .i64 (-15)))), (.k (.sc (.int .i64 15)))], (some (17, true)), false⟩,
 ⟨23, .pk (.t 17) (.t 22) (.k (.sc (.bool false))), none, false⟩,
 ⟨24, .mv (.t 23), none, false⟩,
 ⟨25, .fa 2 (.t 1), (some (24, true)), false⟩,
 ⟨26, .ld 1 false (.t 25), (some (24, true)), false⟩,
 ⟨27, .ca (.k (.cl 124 [])) [(.t 26), (.k (.sc (.int .i64 0))), (.k (.sc (.int .i64 179)))], (some (24, true)), false⟩,
 ⟨28, .pk (.t 24) (.t 27) (.k (.sc (.bool false))), none, false⟩,
 ⟨2, .mv (.t 28), none, false⟩])
 .ret)))⟩
attribute [simp] i182
set_option maxRecDepth 1000000 in
theorem c182 : cFn Try.prog 182 [[]] = some i182 := by kernel_rfl
theorem e182 : enterOk Try.prog 182 = true := by kernel_rfl
def w186_1 : IC :=
(.seq
 (.reg false [⟨17, .ar .lss false (.t 16) (.t 15), none, false⟩])
 (.seq
 (.ite (.t 17)
 .skip
 (.exit 0))
 (.seq
 (.block 1
 (.seq
 (.reg false [⟨18, .ia 2 (.t 14) (.t 16), none, false⟩,
 ⟨19, .ld 2 true (.t 18), none, false⟩,
 ⟨7, .al [(.sc (.int .i64 0)), (.sc (.int .i64 0))], none, false⟩,
 ⟨1, .so 2 (.t 7) (.t 19), none, true⟩])
 (.seq
 (.reg false [⟨20, .fa 0 (.t 4), none, false⟩,
 ⟨21, .ld 1 false (.t 20), none, false⟩,
 ⟨22, .fa 0 (.t 7), none, false⟩,
 ⟨23, .ld 1 false (.t 22), none, false⟩,
 ⟨24, .mn (.t 21) (.t 23), none, false⟩,
 ⟨25, .fa 1 (.t 4), none, false⟩,
 ⟨26, .ld 1 false (.t 25), none, false⟩,
 ⟨27, .fa 1 (.t 7), none, false⟩,
 ⟨28, .ld 1 false (.t 27), none, false⟩,
 ⟨29, .mn (.t 26) (.t 28), none, false⟩,
 ⟨30, .bd [(.sc (.int .i64 0)), (.sc (.int .i64 0))] [(0, 1, (.t 24)), (1, 1, (.t 29))], none, false⟩,
 ⟨1, .so 2 (.t 4) (.t 30), none, true⟩])
 (.reg false [⟨31, .fa 0 (.t 5), none, false⟩,
 ⟨32, .ld 1 false (.t 31), none, false⟩,
 ⟨33, .fa 0 (.t 7), none, false⟩,
 ⟨34, .ld 1 false (.t 33), none, false⟩,
 ⟨35, .mx (.t 32) (.t 34), none, false⟩,
 ⟨36, .fa 1 (.t 5), none, false⟩,
 ⟨37, .ld 1 false (.t 36), none, false⟩,
 ⟨38, .fa 1 (.t 7), none, false⟩,
 ⟨39, .ld 1 false (.t 38), none, false⟩,
 ⟨40, .mx (.t 37) (.t 39), none, false⟩,
 ⟨41, .bd [(.sc (.int .i64 0)), (.sc (.int .i64 0))] [(0, 1, (.t 35)), (1, 1, (.t 40))], none, false⟩,
 ⟨1, .so 2 (.t 5) (.t 41), none, true⟩]))))
 (.reg false [⟨42, .ar .add false (.t 16) (.k (.sc (.int .i64 1))), none, false⟩,
 ⟨16, .mv (.t 42), none, false⟩]))))
def b186_1 : IC := w186_1
theorem u186_1 (call : CallF) (st : St) : evC call b186_1 st = evC call w186_1 st := rfl
attribute [simp] u186_1 w186_1
def i186 : Ev.Fn := ⟨1, 45, [.cell 2 2 true, .cell 3 2 true],
 (.seq
 (.reg false [⟨2, .al [(.sc (.int .i64 0)), (.sc (.int .i64 0))], none, false⟩,
 ⟨3, .al [(.sc (.int .i64 0)), (.sc (.int .i64 0))], none, false⟩])
 (.seq
 (.rgc [.ne 4 11, .ne 4 12] [⟨8, .mv (.t 0), none, false⟩,
 ⟨9, .ia 2 (.t 8) (.k (.sc (.int .i64 0))), none, false⟩,
 ⟨10, .ld 2 true (.t 9), none, false⟩,
 ⟨11, .mv (.t 0), none, false⟩,
 ⟨12, .ia 2 (.t 11) (.k (.sc (.int .i64 0))), none, false⟩,
 ⟨13, .ld 2 true (.t 12), none, false⟩,
 ⟨4, .al [(.sc (.int .i64 0)), (.sc (.int .i64 0))], none, false⟩,
 ⟨5, .al [(.sc (.int .i64 0)), (.sc (.int .i64 0))], none, false⟩,
 ⟨0, .so 2 (.t 4) (.t 10), none, true⟩,
 ⟨0, .so 2 (.t 5) (.t 13), none, true⟩])
 (.seq
 (.seq
 (.reg false [⟨14, .mv (.t 0), none, false⟩,
 ⟨15, .ln false (.t 14), none, false⟩,
 ⟨16, .mv (.k (.sc (.int .i64 0))), none, false⟩])
 (.cln [2, 3, 4, 5] [2, 3]
 (.block 0
 (.loop [2, 3, 4, 5, 14, 15, 16] b186_1))))
 (.seq
 (.rgc [.ne 2 5] [⟨43, .ld 2 true (.t 4), none, false⟩,
 ⟨44, .ld 2 true (.t 5), none, false⟩,
 ⟨0, .so 2 (.t 2) (.t 43), none, true⟩,
 ⟨0, .so 2 (.t 3) (.t 44), none, true⟩])
 .ret))))⟩
attribute [simp] i186
set_option maxRecDepth 1000000 in
theorem c186 : cFn Try.prog 186 [[], [2, 3, 4, 5, 14, 15, 16], [2, 3, 4, 5], [2, 3]] = some i186 := by kernel_rfl
theorem e186 : enterOk Try.prog 186 = true := by kernel_rfl
def w195_1 : IC :=
(.seq
 (.seq
 (.reg false [⟨16, .mv (.t 5), none, false⟩,
 ⟨17, .ar .gtr false (.t 16) (.k (.sc (.int .i64 0))), none, false⟩])
 (.ite (.t 17)
 .skip
 (.exit 0)))
 (.seq
 (.block 1
 (.reg false [⟨20, .fa 1 (.t 2), none, false⟩,
 ⟨21, .ld 1 false (.t 20), none, false⟩,
 ⟨22, .ng (.t 21), none, false⟩,
 ⟨23, .fa 0 (.t 2), none, false⟩,
 ⟨24, .ld 1 false (.t 23), none, false⟩,
 ⟨25, .bd [(.sc (.int .i64 0)), (.sc (.int .i64 0))] [(0, 1, (.t 22)), (1, 1, (.t 24))], none, false⟩,
 ⟨1, .so 2 (.t 2) (.t 25), none, true⟩]))
 (.reg false [⟨18, .mv (.t 5), none, false⟩,
 ⟨19, .ar .sub false (.t 18) (.k (.sc (.int .i64 1))), none, false⟩,
 ⟨5, .mv (.t 19), none, false⟩])))
def b195_1 : IC := w195_1
theorem u195_1 (call : CallF) (st : St) : evC call b195_1 st = evC call w195_1 st := rfl
attribute [simp] u195_1 w195_1
def i195 : Ev.Fn := ⟨2, 27, [.cell 4 2 true],
 (.seq
 (.reg false [⟨2, .bx (.t 0), none, false⟩,
 ⟨4, .al [(.sc (.int .i64 0)), (.sc (.int .i64 0))], none, false⟩])
 (.seq
 (.seq
 (.reg false [⟨6, .mv (.t 1), none, false⟩,
 ⟨7, .ar .geq false (.t 6) (.k (.sc (.int .i64 4))), none, false⟩])
 (.ite (.t 7)
 (.reg false [⟨8, .fa 0 (.t 2), none, false⟩,
 ⟨9, .ld 1 false (.t 8), none, false⟩,
 ⟨10, .ng (.t 9), none, false⟩,
 ⟨11, .fa 1 (.t 2), none, false⟩,
 ⟨12, .ld 1 false (.t 11), none, false⟩,
 ⟨13, .bd [(.sc (.int .i64 0)), (.sc (.int .i64 0))] [(0, 1, (.t 10)), (1, 1, (.t 12))], none, false⟩,
 ⟨1, .so 2 (.t 2) (.t 13), none, true⟩])
 .skip))
 (.seq
 (.seq
 (.reg false [⟨14, .mv (.t 1), none, false⟩,
 ⟨15, .ar .rem false (.t 14) (.k (.sc (.int .i64 4))), none, false⟩,
 ⟨5, .mv (.t 15), none, false⟩])
 (.cln [2, 4] [4]
 (.block 0
 (.loop [2, 4, 5] b195_1))))
 (.seq
 (.reg false [⟨26, .ld 2 true (.t 2), none, false⟩,
 ⟨1, .so 2 (.t 4) (.t 26), none, true⟩])
 .ret))))⟩
attribute [simp] i195
set_option maxRecDepth 1000000 in
theorem c195 : cFn Try.prog 195 [[], [2, 4, 5], [2, 4], [4]] = some i195 := by kernel_rfl
theorem e195 : enterOk Try.prog 195 = true := by kernel_rfl
def i196 : Ev.Fn := ⟨4, 31, [.tmp 8],
 (.seq
 (.reg false [⟨4, .bx (.t 0), none, false⟩,
 ⟨5, .bx (.t 1), none, false⟩,
 ⟨6, .bx (.t 2), none, false⟩,
 ⟨7, .bx (.t 3), none, false⟩,
 ⟨8, .mv (.k (.sc (.bool false))), none, false⟩])
 (.seq
 (.reg true [⟨9, .ld 2 true (.t 4), none, false⟩,
 ⟨10, .ld 2 true (.t 5), none, false⟩,
 ⟨11, .ld 2 true (.t 6), none, false⟩,
 ⟨12, .ca (.k (.cl 146 [])) [(.t 9), (.t 10), (.t 11)], none, false⟩,
 ⟨13, .ld 2 true (.t 4), none, false⟩,
 ⟨14, .ld 2 true (.t 5), none, false⟩,
 ⟨15, .ld 2 true (.t 7), none, false⟩,
 ⟨16, .ca (.k (.cl 146 [])) [(.t 13), (.t 14), (.t 15)], none, false⟩,
 ⟨17, .ar .mul false (.t 12) (.t 16), none, false⟩,
 ⟨18, .ar .lss false (.t 17) (.k (.sc (.int .i64 0))), none, false⟩,
 ⟨19, .mv (.t 18), none, false⟩,
 ⟨20, .ld 2 true (.t 6), (some (19, true)), false⟩,
 ⟨21, .ld 2 true (.t 7), (some (19, true)), false⟩,
 ⟨22, .ld 2 true (.t 4), (some (19, true)), false⟩,
 ⟨23, .ca (.k (.cl 146 [])) [(.t 20), (.t 21), (.t 22)], (some (19, true)), false⟩,
 ⟨24, .ld 2 true (.t 6), (some (19, true)), false⟩,
 ⟨25, .ld 2 true (.t 7), (some (19, true)), false⟩,
 ⟨26, .ld 2 true (.t 5), (some (19, true)), false⟩,
 ⟨27, .ca (.k (.cl 146 [])) [(.t 24), (.t 25), (.t 26)], (some (19, true)), false⟩,
 ⟨28, .ar .mul false (.t 23) (.t 27), (some (19, true)), false⟩,
 ⟨29, .ar .lss false (.t 28) (.k (.sc (.int .i64 0))), (some (19, true)), false⟩,
 ⟨30, .pk (.t 19) (.t 29) (.k (.sc (.bool false))), none, false⟩,
 ⟨8, .mv (.t 30), none, false⟩])
 .ret))⟩
attribute [simp] i196
set_option maxRecDepth 1000000 in
theorem c196 : cFn Try.prog 196 [[]] = some i196 := by kernel_rfl
theorem e196 : enterOk Try.prog 196 = true := by kernel_rfl
def i197 : Ev.Fn := ⟨2, 9, [.tmp 4],
 (.seq
 (.reg false [⟨4, .mv (.k (.sc (.bool false))), none, false⟩])
 (.seq
 (.reg false [⟨5, .mv (.t 0), none, false⟩,
 ⟨6, .mv (.t 1), none, false⟩,
 ⟨7, .ca (.k (.cl 232 [])) [(.t 5), (.t 6)], none, false⟩,
 ⟨8, .ar .geq false (.t 7) (.k (.sc (.int .i64 0))), none, false⟩,
 ⟨4, .mv (.t 8), none, false⟩])
 .ret))⟩
attribute [simp] i197
set_option maxRecDepth 1000000 in
theorem c197 : cFn Try.prog 197 [[]] = some i197 := by kernel_rfl
theorem e197 : enterOk Try.prog 197 = true := by kernel_rfl
def i198 : Ev.Fn := ⟨1, 6, [.tmp 2],
 (.seq
 (.reg false [⟨1, .bx (.t 0), none, false⟩,
 ⟨2, .mv (.k (.sc (.bool false))), none, false⟩])
 (.seq
 (.reg false [⟨3, .ld 3 true (.t 1), none, false⟩,
 ⟨4, .ca (.k (.cl 182 [])) [(.t 3)], none, false⟩,
 ⟨5, .nt (.t 4), none, false⟩,
 ⟨2, .mv (.t 5), none, false⟩])
 .ret))⟩
attribute [simp] i198
set_option maxRecDepth 1000000 in
theorem c198 : cFn Try.prog 198 [[]] = some i198 := by kernel_rfl
theorem e198 : enterOk Try.prog 198 = true := by kernel_rfl
def w199_1 : IC :=
(.seq
 (.seq
 (.reg false [⟨30, .mv (.t 5), none, false⟩,
 ⟨31, .ar .gtr false (.t 30) (.k (.sc (.int .i64 0))), none, false⟩])
 (.ite (.t 31)
 .skip
 (.exit 0)))
 (.seq
 (.block 1
 (.reg false [⟨34, .fa 1 (.t 2), none, false⟩,
 ⟨35, .ld 1 false (.t 34), none, false⟩,
 ⟨36, .ng (.t 35), none, false⟩,
 ⟨37, .fa 0 (.t 2), none, false⟩,
 ⟨38, .ld 1 false (.t 37), none, false⟩,
 ⟨39, .bd [(.sc (.int .i64 0)), (.sc (.int .i64 0))] [(0, 1, (.t 36)), (1, 1, (.t 38))], none, false⟩,
 ⟨1, .so 2 (.t 2) (.t 39), none, true⟩]))
 (.reg false [⟨32, .mv (.t 5), none, false⟩,
 ⟨33, .ar .sub false (.t 32) (.k (.sc (.int .i64 1))), none, false⟩,
 ⟨5, .mv (.t 33), none, false⟩])))
def b199_1 : IC := w199_1
theorem u199_1 (call : CallF) (st : St) : evC call b199_1 st = evC call w199_1 st := rfl
attribute [simp] u199_1 w199_1
def i199 : Ev.Fn := ⟨2, 41, [.cell 4 2 true],
 (.seq
 (.reg false [⟨2, .bx (.t 0), none, false⟩,
 ⟨4, .al [(.sc (.int .i64 0)), (.sc (.int .i64 0))], none, false⟩])
 (.seq
 (.seq
 (.reg false [⟨6, .mv (.t 1), none, false⟩,
 ⟨7, .ca (.k (.cl 124 [])) [(.t 6), (.k (.sc (.int .i64 0))), (.k (.sc (.int .i64 7)))], none, false⟩,
 ⟨8, .nt (.t 7), none, false⟩,
 ⟨9, .mv (.t 8), none, false⟩,
 ⟨10, .fa 0 (.t 2), (some (9, false)), false⟩,
 ⟨11, .ld 1 false (.t 10), (some (9, false)), false⟩,
 ⟨12, .ca (.k (.cl 124 [])) [(.t 11), (.k (.sc (.int .i64 (-20000)))), (.k (.sc (.int .i64 20000)))], (some (9, false)), false⟩,
 ⟨13, .nt (.t 12), (some (9, false)), false⟩,
 ⟨14, .pk (.t 9) (.k (.sc (.bool true))) (.t 13), none, false⟩,
 ⟨15, .mv (.t 14), none, false⟩,
 ⟨16, .fa 1 (.t 2), (some (15, false)), false⟩,
 ⟨17, .ld 1 false (.t 16), (some (15, false)), false⟩,
 ⟨18, .ca (.k (.cl 124 [])) [(.t 17), (.k (.sc (.int .i64 (-20000)))), (.k (.sc (.int .i64 20000)))], (some (15, false)), false⟩,
 ⟨19, .nt (.t 18), (some (15, false)), false⟩,
 ⟨20, .pk (.t 15) (.k (.sc (.bool true))) (.t 19), none, false⟩])
 (.ite (.t 20)
 (.seq
 (.reg false [⟨21, .bd [(.sc (.int .i64 0)), (.sc (.int .i64 0))] [], none, false⟩,
 ⟨1, .so 2 (.t 4) (.t 21), none, true⟩])
 .ret)
 .skip))
 (.seq
 (.seq
 (.reg false [⟨22, .mv (.t 1), none, false⟩,
 ⟨23, .ar .gtr false (.t 22) (.k (.sc (.int .i64 3))), none, false⟩])
 (.ite (.t 23)
 (.reg false [⟨24, .fa 0 (.t 2), none, false⟩,
 ⟨25, .ld 1 false (.t 24), none, false⟩,
 ⟨26, .ng (.t 25), none, false⟩,
 ⟨27, .fa 0 (.t 2), none, false⟩,
 ⟨1, .so 1 (.t 27) (.t 26), none, true⟩])
 .skip))
 (.seq
 (.seq
 (.reg false [⟨28, .mv (.t 1), none, false⟩,
 ⟨29, .ar .rem false (.t 28) (.k (.sc (.int .i64 4))), none, false⟩,
 ⟨5, .mv (.t 29), none, false⟩])
 (.cln [2, 4] [4]
 (.block 0
 (.loop [2, 4, 5] b199_1))))
 (.seq
 (.reg false [⟨40, .ld 2 true (.t 2), none, false⟩,
 ⟨1, .so 2 (.t 4) (.t 40), none, true⟩])
 .ret)))))⟩
attribute [simp] i199
set_option maxRecDepth 1000000 in
theorem c199 : cFn Try.prog 199 [[], [2, 4, 5], [2, 4], [4]] = some i199 := by kernel_rfl
theorem e199 : enterOk Try.prog 199 = true := by kernel_rfl
def w200_1 : IC :=
(.seq
 (.seq
 (.reg false [⟨7, .mv (.t 2), none, false⟩,
 ⟨8, .mv (.t 3), none, false⟩,
 ⟨9, .ar .lss false (.t 7) (.t 8), none, false⟩])
 (.ite (.t 9)
 .skip
 (.exit 0)))
 (.seq
 (.block 1
 (.rgc [] [⟨14, .mv (.t 0), none, false⟩,
 ⟨15, .mv (.t 2), none, false⟩,
 ⟨16, .mv (.t 0), none, false⟩,
 ⟨17, .mv (.t 3), none, false⟩,
 ⟨18, .mv (.t 0), none, false⟩,
 ⟨19, .mv (.t 3), none, false⟩,
 ⟨20, .ia 2 (.t 18) (.t 19), none, false⟩,
 ⟨21, .ld 2 true (.t 20), none, false⟩,
 ⟨22, .mv (.t 0), none, false⟩,
 ⟨23, .mv (.t 2), none, false⟩,
 ⟨24, .ia 2 (.t 22) (.t 23), none, false⟩,
 ⟨25, .ld 2 true (.t 24), none, false⟩,
 ⟨26, .ia 2 (.t 14) (.t 15), none, false⟩,
 ⟨0, .so 2 (.t 26) (.t 21), none, true⟩,
 ⟨27, .ia 2 (.t 16) (.t 17), none, false⟩,
 ⟨0, .so 2 (.t 27) (.t 25), none, true⟩]))
 (.reg false [⟨10, .mv (.t 2), none, false⟩,
 ⟨11, .ar .add false (.t 10) (.k (.sc (.int .i64 1))), none, false⟩,
 ⟨12, .mv (.t 3), none, false⟩,
 ⟨13, .ar .sub false (.t 12) (.k (.sc (.int .i64 1))), none, false⟩,
 ⟨2, .mv (.t 11), none, false⟩,
 ⟨3, .mv (.t 13), none, false⟩])))
def b200_1 : IC := w200_1
theorem u200_1 (call : CallF) (st : St) : evC call b200_1 st = evC call w200_1 st := rfl
attribute [simp] u200_1 w200_1
def i200 : Ev.Fn := ⟨1, 28, [],
 (.seq
 (.reg false [⟨4, .mv (.t 0), none, false⟩,
 ⟨5, .ln false (.t 4), none, false⟩,
 ⟨6, .ar .sub false (.t 5) (.k (.sc (.int .i64 1))), none, false⟩,
 ⟨2, .mv (.k (.sc (.int .i64 0))), none, false⟩,
 ⟨3, .mv (.t 6), none, false⟩])
 (.cln [100000] [100000]
 (.block 0
 (.loop [0, 2, 3, 100000] b200_1))))⟩
attribute [simp] i200
set_option maxRecDepth 1000000 in
theorem c200 : cFn Try.prog 200 [[], [0, 2, 3, 100000], [100000], [100000]] = some i200 := by kernel_rfl
theorem e200 : enterOk Try.prog 200 = true := by kernel_rfl
def i201 : Ev.Fn := ⟨1, 11, [.tmp 2],
 (.seq
 (.reg false [⟨1, .bx (.t 0), none, false⟩,
 ⟨2, .mv (.k (.sc (.bool false))), none, false⟩])
 (.seq
 (.reg false [⟨3, .fa 0 (.t 1), none, false⟩,
 ⟨4, .ld 1 false (.t 3), none, false⟩,
 ⟨5, .ca (.k (.cl 124 [])) [(.t 4), (.k (.sc (.int .i64 0))), (.k (.sc (.int .i64 20000)))], none, false⟩,
 ⟨6, .mv (.t 5), none, false⟩,
 ⟨7, .fa 1 (.t 1), (some (6, true)), false⟩,
 ⟨8, .ld 1 false (.t 7), (some (6, true)), false⟩,
 ⟨9, .ca (.k (.cl 124 [])) [(.t 8), (.k (.sc (.int .i64 0))), (.k (.sc (.int .i64 20000)))], (some (6, true)), false⟩,
 ⟨10, .pk (.t 6) (.t 9) (.k (.sc (.bool false))), none, false⟩,
 ⟨2, .mv (.t 10), none, false⟩])
 .ret))⟩
attribute [simp] i201
set_option maxRecDepth 1000000 in
theorem c201 : cFn Try.prog 201 [[]] = some i201 := by kernel_rfl
theorem e201 : enterOk Try.prog 201 = true := by kernel_rfl
def i202 : Ev.Fn := ⟨4, 31, [.tmp 8],
 (.seq
 (.reg false [⟨4, .bx (.t 0), none, false⟩,
 ⟨5, .bx (.t 1), none, false⟩,
 ⟨6, .bx (.t 2), none, false⟩,
 ⟨7, .bx (.t 3), none, false⟩,
 ⟨8, .mv (.k (.sc (.bool false))), none, false⟩])
 (.seq
 (.reg true [⟨9, .ld 2 true (.t 4), none, false⟩,
 ⟨10, .ld 2 true (.t 5), none, false⟩,
 ⟨11, .ld 2 true (.t 6), none, false⟩,
 ⟨12, .ca (.k (.cl 153 [])) [(.t 9), (.t 10), (.t 11)], none, false⟩,
 ⟨13, .ld 2 true (.t 4), none, false⟩,
 ⟨14, .ld 2 true (.t 5), none, false⟩,
 ⟨15, .ld 2 true (.t 7), none, false⟩,
 ⟨16, .ca (.k (.cl 153 [])) [(.t 13), (.t 14), (.t 15)], none, false⟩,
 ⟨17, .ar .mul false (.t 12) (.t 16), none, false⟩,
 ⟨18, .ar .lss false (.t 17) (.k (.sc (.int .i64 0))), none, false⟩,
 ⟨19, .mv (.t 18), none, false⟩,
 ⟨20, .ld 2 true (.t 6), (some (19, true)), false⟩,
 ⟨21, .ld 2 true (.t 7), (some (19, true)), false⟩,
 ⟨22, .ld 2 true (.t 4), (some (19, true)), false⟩,
 ⟨23, .ca (.k (.cl 153 [])) [(.t 20), (.t 21), (.t 22)], (some (19, true)), false⟩,
 ⟨24, .ld 2 true (.t 6), (some (19, true)), false⟩,
 ⟨25, .ld 2 true (.t 7), (some (19, true)), false⟩,
 ⟨26, .ld 2 true (.t 5), (some (19, true)), false⟩,
 ⟨27, .ca (.k (.cl 153 [])) [(.t 24), (.t 25), (.t 26)], (some (19, true)), false⟩,
 ⟨28, .ar .mul false (.t 23) (.t 27), (some (19, true)), false⟩,
 ⟨29, .ar .lss false (.t 28) (.k (.sc (.int .i64 0))), (some (19, true)), false⟩,
 ⟨30, .pk (.t 19) (.t 29) (.k (.sc (.bool false))), none, false⟩,
 ⟨8, .mv (.t 30), none, false⟩])
 .ret))⟩
attribute [simp] i202
set_option maxRecDepth 1000000 in
theorem c202 : cFn Try.prog 202 [[]] = some i202 := by kernel_rfl
theorem e202 : enterOk Try.prog 202 = true := by kernel_rfl
def i203 : Ev.Fn := ⟨2, 12, [.tmp 4],
 (.seq
 (.reg false [⟨4, .mv (.k (.sc (.int .i64 0))), none, false⟩])
 (.seq
 (.reg false [⟨5, .mv (.t 1), none, false⟩,
 ⟨6, .mv (.t 0), none, false⟩,
 ⟨7, .ln false (.t 6), none, false⟩,
 ⟨8, .ar .sub false (.t 5) (.t 7), none, false⟩,
 ⟨1, .mv (.t 8), none, false⟩])
 (.seq
 (.seq
 (.reg false [⟨9, .mv (.t 1), none, false⟩,
 ⟨10, .ar .lss false (.t 9) (.k (.sc (.int .i64 0))), none, false⟩])
 (.ite (.t 10)
 (.seq
 (.reg false [⟨4, .mv (.k (.sc (.int .i64 (-1)))), none, false⟩])
 .ret)
 .skip))
 (.seq
 (.reg false [⟨11, .mv (.t 1), none, false⟩,
 ⟨4, .mv (.t 11), none, false⟩])
 .ret))))⟩
attribute [simp] i203
set_option maxRecDepth 1000000 in
theorem c203 : cFn Try.prog 203 [[]] = some i203 := by kernel_rfl
theorem e203 : enterOk Try.prog 203 = true := by kernel_rfl
def i204 : Ev.Fn := ⟨1, 9, [.tmp 2],
 (.seq
 (.reg false [⟨2, .mv (.k (.sc (.bool false))), none, false⟩])
 (.seq
 (.reg false [⟨3, .mv (.t 0), none, false⟩,
 ⟨4, .ar .geq false (.t 3) (.k (.sc (.int .u8 97))), none, false⟩,
 ⟨5, .mv (.t 4), none, false⟩,
 ⟨6, .mv (.t 0), (some (5, true)), false⟩,
 ⟨7, .ar .leq false (.t 6) (.k (.sc (.int .u8 122))), (some (5, true)), false⟩,
 ⟨8, .pk (.t 5) (.t 7) (.k (.sc (.bool false))), none, false⟩,
 ⟨2, .mv (.t 8), none, false⟩])
 .ret))⟩
attribute [simp] i204
set_option maxRecDepth 1000000 in
theorem c204 : cFn Try.prog 204 [[]] = some i204 := by kernel_rfl
theorem e204 : enterOk Try.prog 204 = true := by kernel_rfl
def i205 : Ev.Fn := ⟨1, 9, [.tmp 2],
 (.seq
 (.reg false [⟨2, .mv (.k (.sc (.bool false))), none, false⟩])
 (.seq
 (.reg false [⟨3, .mv (.t 0), none, false⟩,
 ⟨4, .ar .geq false (.t 3) (.k (.sc (.int .u8 48))), none, false⟩,
 ⟨5, .mv (.t 4), none, false⟩,
 ⟨6, .mv (.t 0), (some (5, true)), false⟩,
 ⟨7, .ar .leq false (.t 6) (.k (.sc (.int .u8 57))), (some (5, true)), false⟩,
 ⟨8, .pk (.t 5) (.t 7) (.k (.sc (.bool false))), none, false⟩,
 ⟨2, .mv (.t 8), none, false⟩])
 .ret))⟩
attribute [simp] i205
set_option maxRecDepth 1000000 in
theorem c205 : cFn Try.prog 205 [[]] = some i205 := by kernel_rfl
theorem e205 : enterOk Try.prog 205 = true := by kernel_rfl
def i206 : Ev.Fn := ⟨3, 30, [.tmp 6],
 (.seq
 (.reg false [⟨3, .bx (.t 0), none, false⟩,
 ⟨4, .bx (.t 1), none, false⟩,
 ⟨5, .bx (.t 2), none, false⟩,
 ⟨6, .mv (.k (.sc (.int .i64 0))), none, false⟩])
 (.seq
 (.reg false [⟨7, .fa 0 (.t 4), none, false⟩,
 ⟨8, .ld 1 false (.t 7), none, false⟩,
 ⟨9, .fa 0 (.t 3), none, false⟩,
 ⟨10, .ld 1 false (.t 9), none, false⟩,
 ⟨11, .ar .sub false (.t 8) (.t 10), none, false⟩,
 ⟨12, .fa 1 (.t 5), none, false⟩,
 ⟨13, .ld 1 false (.t 12), none, false⟩,
 ⟨14, .fa 1 (.t 3), none, false⟩,
 ⟨15, .ld 1 false (.t 14), none, false⟩,
 ⟨16, .ar .sub false (.t 13) (.t 15), none, false⟩,
 ⟨17, .ar .mul false (.t 11) (.t 16), none, false⟩,
 ⟨18, .fa 1 (.t 4), none, false⟩,
 ⟨19, .ld 1 false (.t 18), none, false⟩,
 ⟨20, .fa 1 (.t 3), none, false⟩,
 ⟨21, .ld 1 false (.t 20), none, false⟩,
 ⟨22, .ar .sub false (.t 19) (.t 21), none, false⟩,
 ⟨23, .fa 0 (.t 5), none, false⟩,
 ⟨24, .ld 1 false (.t 23), none, false⟩,
 ⟨25, .fa 0 (.t 3), none, false⟩,
 ⟨26, .ld 1 false (.t 25), none, false⟩,
 ⟨27, .ar .sub false (.t 24) (.t 26), none, false⟩,
 ⟨28, .ar .mul false (.t 22) (.t 27), none, false⟩,
 ⟨29, .ar .sub false (.t 17) (.t 28), none, false⟩,
 ⟨6, .mv (.t 29), none, false⟩])
 .ret))⟩
attribute [simp] i206
set_option maxRecDepth 1000000 in
theorem c206 : cFn Try.prog 206 [[]] = some i206 := by kernel_rfl
theorem e206 : enterOk Try.prog 206 = true := by kernel_rfl
def w224_1 : IC :=
(.seq
 (.seq
 (.reg false [⟨6, .mv (.t 4), none, false⟩,
 ⟨7, .mv (.t 3), none, false⟩,
 ⟨8, .ln false (.t 7), none, false⟩,
 ⟨9, .ar .lss false (.t 6) (.t 8), none, false⟩])
 (.ite (.t 9)
 .skip
 (.exit 0)))
 (.seq
 (.block 1
 (.seq
 (.reg false [⟨12, .mv (.t 3), none, false⟩,
 ⟨13, .mv (.t 4), none, false⟩,
 ⟨14, .ia 1 (.t 12) (.t 13), none, false⟩,
 ⟨15, .ld 1 false (.t 14), none, false⟩,
 ⟨16, .mv (.t 0), none, false⟩,
 ⟨17, .ar .eql false (.t 15) (.t 16), none, false⟩])
 (.ite (.t 17)
 (.seq
 (.reg false [⟨18, .mv (.t 4), none, false⟩,
 ⟨2, .mv (.t 18), none, false⟩])
 .ret)
 .skip)))
 (.reg false [⟨10, .mv (.t 4), none, false⟩,
 ⟨11, .ar .add false (.t 10) (.k (.sc (.int .i64 1))), none, false⟩,
 ⟨4, .mv (.t 11), none, false⟩])))
def b224_1 : IC := w224_1
theorem u224_1 (call : CallF) (st : St) : evC call b224_1 st = evC call w224_1 st := rfl
attribute [simp] u224_1 w224_1
def i224 : Ev.Fn := ⟨1, 19, [.tmp 2],
 (.seq
 (.reg false [⟨2, .mv (.k (.sc (.int .i64 0))), none, false⟩])
 (.seq
 (.reg false [⟨5, .ca (.k (.cl 242 [])) [], none, false⟩,
 ⟨3, .mv (.t 5), none, false⟩])
 (.seq
 (.seq
 (.reg false [⟨4, .mv (.k (.sc (.int .i64 0))), none, false⟩])
 (.cln [] [2]
 (.block 0
 (.loop [0, 3, 4] b224_1))))
 (.seq
 (.reg false [⟨2, .mv (.k (.sc (.int .i64 (-1)))), none, false⟩])
 .ret))))⟩
attribute [simp] i224
set_option maxRecDepth 1000000 in
theorem c224 : cFn Try.prog 224 [[], [0, 3, 4], [], [2]] = some i224 := by kernel_rfl
theorem e224 : enterOk Try.prog 224 = true := by kernel_rfl
def i225 : Ev.Fn := ⟨0, 12, [.tmp 0],
 (.seq
 (.reg false [⟨0, .mv (.k .nl), none, false⟩])
 (.seq
 (.reg false [⟨1, .bs 2 1 [(.sc (.int .i64 0))] 3 [(0, (.k (.sc (.int .i64 20)))), (1, (.k (.sc (.int .i64 40)))), (2, (.k (.sc (.int .i64 310))))], none, false⟩,
 ⟨2, .bs 2 1 [(.sc (.int .i64 0))] 3 [(0, (.k (.sc (.int .i64 35)))), (1, (.k (.sc (.int .i64 45)))), (2, (.k (.sc (.int .i64 410))))], none, false⟩,
 ⟨3, .bs 2 1 [(.sc (.int .i64 0))] 3 [(0, (.k (.sc (.int .i64 15)))), (1, (.k (.sc (.int .i64 33)))), (2, (.k (.sc (.int .i64 280))))], none, false⟩,
 ⟨4, .bs 2 1 [(.sc (.int .i64 0))] 3 [(0, (.k (.sc (.int .i64 50)))), (1, (.k (.sc (.int .i64 36)))), (2, (.k (.sc (.int .i64 240))))], none, false⟩,
 ⟨5, .bs 2 1 [(.sc (.int .i64 0))] 3 [(0, (.k (.sc (.int .i64 95)))), (1, (.k (.sc (.int .i64 85)))), (2, (.k (.sc (.int .i64 270))))], none, false⟩,
 ⟨6, .bs 2 1 [(.sc (.int .i64 0))] 3 [(0, (.k (.sc (.int .i64 5)))), (1, (.k (.sc (.int .i64 35)))), (2, (.k (.sc (.int .i64 370))))], none, false⟩,
 ⟨7, .bs 2 1 [(.sc (.int .i64 0))] 3 [(0, (.k (.sc (.int .i64 10)))), (1, (.k (.sc (.int .i64 42)))), (2, (.k (.sc (.int .i64 290))))], none, false⟩,
 ⟨8, .bs 2 1 [(.sc (.int .i64 0))] 3 [(0, (.k (.sc (.int .i64 40)))), (1, (.k (.sc (.int .i64 40)))), (2, (.k (.sc (.int .i64 330))))], none, false⟩,
 ⟨9, .bs 2 1 [(.sc (.int .i64 0))] 3 [(0, (.k (.sc (.int .i64 80)))), (1, (.k (.sc (.int .i64 60)))), (2, (.k (.sc (.int .i64 220))))], none, false⟩,
 ⟨10, .bs 2 1 [(.sc (.int .i64 0))] 3 [(0, (.k (.sc (.int .i64 70)))), (1, (.k (.sc (.int .i64 38)))), (2, (.k (.sc (.int .i64 260))))], none, false⟩,
 ⟨11, .bw 91 1 [.nl] 10 [(0, (.t 1)), (1, (.t 2)), (2, (.t 3)), (3, (.t 4)), (4, (.t 5)), (5, (.t 6)), (6, (.t 7)), (7, (.t 8)), (8, (.t 9)), (9, (.t 10))], none, false⟩,
 ⟨0, .mv (.t 11), none, false⟩])
 .ret))⟩
attribute [simp] i225
set_option maxRecDepth 1000000 in
theorem c225 : cFn Try.prog 225 [[]] = some i225 := by kernel_rfl
theorem e225 : enterOk Try.prog 225 = true := by kernel_rfl
def i226 : Ev.Fn := ⟨1, 5, [.tmp 2],
 (.seq
 (.reg false [⟨2, .mv (.k (.sc (.bool false))), none, false⟩])
 (.seq
 (.reg false [⟨3, .mv (.t 0), none, false⟩,
 ⟨4, .ca (.k (.cl 121 [])) [(.t 3), (.k (.sc (.int .i64 0))), (.k (.sc (.int .i64 179)))], none, false⟩,
 ⟨2, .mv (.t 4), none, false⟩])
 .ret))⟩
attribute [simp] i226
set_option maxRecDepth 1000000 in
theorem c226 : cFn Try.prog 226 [[]] = some i226 := by kernel_rfl
theorem e226 : enterOk Try.prog 226 = true := by kernel_rfl
def i227 : Ev.Fn := ⟨1, 18, [.tmp 2, .tmp 3],
 (.seq
 (.reg false [⟨2, .mv (.k (.sc (.int .i64 0))), none, false⟩,
 ⟨3, .mv (.k (.sc (.bool false))), none, false⟩])
 (.seq
 (.reg false [⟨9, .mv (.t 0), none, false⟩,
 ⟨10, .ca (.k (.cl 243 [])) [(.t 9)], none, false⟩,
 ⟨8, .mv (.t 10), none, false⟩,
 ⟨11, .xt (.t 8) 0, none, false⟩,
 ⟨12, .xt (.t 8) 1, none, false⟩,
 ⟨13, .xt (.t 8) 2, none, false⟩,
 ⟨14, .xt (.t 8) 3, none, false⟩,
 ⟨4, .mv (.t 11), none, false⟩,
 ⟨5, .mv (.t 12), none, false⟩,
 ⟨6, .mv (.t 13), none, false⟩,
 ⟨7, .mv (.t 14), none, false⟩])
 (.seq
 (.reg false [⟨15, .mv (.t 4), none, false⟩,
 ⟨16, .mv (.t 7), none, false⟩,
 ⟨17, .ar .eql false (.t 16) (.k (.sc (.int .i64 0))), none, false⟩,
 ⟨2, .mv (.t 15), none, false⟩,
 ⟨3, .mv (.t 17), none, false⟩])
 .ret)))⟩
attribute [simp] i227
set_option maxRecDepth 1000000 in
theorem c227 : cFn Try.prog 227 [[]] = some i227 := by kernel_rfl
theorem e227 : enterOk Try.prog 227 = true := by kernel_rfl
def w232_1 : IC :=
(.seq
 (.reg false [⟨9, .ar .lss false (.t 8) (.t 7), none, false⟩])
 (.seq
 (.ite (.t 9)
 .skip
 (.exit 0))
 (.seq
 (.block 1
 (.seq
 (.reg false [⟨10, .mv (.t 8), none, false⟩,
 ⟨5, .mv (.t 10), none, false⟩])
 (.seq
 (.reg false [⟨11, .mv (.t 1), none, false⟩,
 ⟨12, .mv (.t 0), none, false⟩,
 ⟨13, .mv (.t 5), none, false⟩,
 ⟨14, .ia 3 (.t 12) (.t 13), none, false⟩,
 ⟨15, .ld 3 true (.t 14), none, false⟩,
 ⟨16, .ca (.t 11) [(.t 15)], none, false⟩])
 (.ite (.t 16)
 (.seq
 (.reg false [⟨17, .mv (.t 5), none, false⟩,
 ⟨4, .mv (.t 17), none, false⟩])
 .ret)
 .skip))))
 (.reg false [⟨18, .ar .add false (.t 8) (.k (.sc (.int .i64 1))), none, false⟩,
 ⟨8, .mv (.t 18), none, false⟩]))))
def b232_1 : IC := w232_1
theorem u232_1 (call : CallF) (st : St) : evC call b232_1 st = evC call w232_1 st := rfl
attribute [simp] u232_1 w232_1
def i232 : Ev.Fn := ⟨2, 19, [.tmp 4],
 (.seq
 (.reg false [⟨4, .mv (.k (.sc (.int .i64 0))), none, false⟩])
 (.seq
 (.seq
 (.reg false [⟨6, .mv (.t 0), none, false⟩,
 ⟨7, .ln false (.t 6), none, false⟩,
 ⟨8, .mv (.k (.sc (.int .i64 0))), none, false⟩])
 (.cln [] [4]
 (.block 0
 (.loop [0, 1, 7, 8] b232_1))))
 (.seq
 (.reg false [⟨4, .mv (.k (.sc (.int .i64 (-1)))), none, false⟩])
 .ret)))⟩
attribute [simp] i232
set_option maxRecDepth 1000000 in
theorem c232 : cFn Try.prog 232 [[], [0, 1, 7, 8], [], [4]] = some i232 := by kernel_rfl
theorem e232 : enterOk Try.prog 232 = true := by kernel_rfl
def i242 : Ev.Fn := ⟨0, 2, [.tmp 0],
 (.seq
 (.reg false [⟨0, .mv (.k .nl), none, false⟩])
 (.seq
 (.reg false [⟨1, .bs 9 1 [(.sc (.string ⟨#[]⟩))] 10 [(0, (.k (.sc (.string ⟨#[97, 115, 104]⟩)))), (1, (.k (.sc (.string ⟨#[98, 101, 101, 99, 104]⟩)))), (2, (.k (.sc (.string ⟨#[98, 105, 114, 99, 104]⟩)))), (3, (.k (.sc (.string ⟨#[99, 104, 101, 114, 114, 121]⟩)))), (4, (.k (.sc (.string ⟨#[101, 98, 111, 110, 121]⟩)))), (5, (.k (.sc (.string ⟨#[104, 111, 108, 108, 121]⟩)))), (6, (.k (.sc (.string ⟨#[109, 97, 112, 108, 101]⟩)))), (7, (.k (.sc (.string ⟨#[111, 97, 107]⟩)))), (8, (.k (.sc (.string ⟨#[114, 111, 115, 101, 119, 111, 111, 100]⟩)))), (9, (.k (.sc (.string ⟨#[119, 97, 108, 110, 117, 116]⟩))))], none, false⟩,
 ⟨0, .mv (.t 1), none, false⟩])
 .ret))⟩
attribute [simp] i242
set_option maxRecDepth 1000000 in
theorem c242 : cFn Try.prog 242 [[]] = some i242 := by kernel_rfl
theorem e242 : enterOk Try.prog 242 = true := by kernel_rfl
def i243 : Ev.Fn := ⟨1, 27, [.tmp 2, .tmp 3, .tmp 4, .tmp 5],
 (.seq
 (.reg false [⟨2, .mv (.k (.sc (.int .i64 0))), none, false⟩,
 ⟨3, .mv (.k (.sc (.int .i64 0))), none, false⟩,
 ⟨4, .mv (.k (.sc (.int .i64 0))), none, false⟩,
 ⟨5, .mv (.k (.sc (.int .i64 0))), none, false⟩])
 (.seq
 (.seq
 (.reg false [⟨6, .mv (.t 0), none, false⟩])
 (.block 0
 (.seq
 (.reg false [⟨8, .ar .eql false (.t 6) (.k (.sc (.string ⟨#[97, 115, 104]⟩))), none, false⟩,
 ⟨7, .mv (.t 8), none, false⟩])
 (.ite (.t 7)
 (.seq
 (.reg false [⟨2, .mv (.k (.sc (.int .i64 20))), none, false⟩,
 ⟨3, .mv (.k (.sc (.int .i64 40))), none, false⟩,
 ⟨4, .mv (.k (.sc (.int .i64 310))), none, false⟩,
 ⟨5, .mv (.k (.sc (.int .i64 0))), none, false⟩])
 .ret)
 (.seq
 (.reg false [⟨10, .ar .eql false (.t 6) (.k (.sc (.string ⟨#[98, 101, 101, 99, 104]⟩))), none, false⟩,
 ⟨9, .mv (.t 10), none, false⟩])
 (.ite (.t 9)
 (.seq
 (.reg false [⟨2, .mv (.k (.sc (.int .i64 35))), none, false⟩,
 ⟨3, .mv (.k (.sc (.int .i64 45))), none, false⟩,
 ⟨4, .mv (.k (.sc (.int .i64 410))), none, false⟩,
 ⟨5, .mv (.k (.sc (.int .i64 0))), none, false⟩])
 .ret)
 (.seq
 (.reg false [⟨12, .ar .eql false (.t 6) (.k (.sc (.string ⟨#[98, 105, 114, 99, 104]⟩))), none, false⟩,
 ⟨11, .mv (.t 12), none, false⟩])
 (.ite (.t 11)
 (.seq
 (.reg false [⟨2, .mv (.k (.sc (.int .i64 15))), none, false⟩,
 ⟨3, .mv (.k (.sc (.int .i64 33))), none, false⟩,
 ⟨4, .mv (.k (.sc (.int .i64 280))), none, false⟩,
 ⟨5, .mv (.k (.sc (.int .i64 0))), none, false⟩])
 .ret)
 (.seq
 (.reg false [⟨14, .ar .eql false (.t 6) (.k (.sc (.string ⟨#[99, 104, 101, 114, 114, 121]⟩))), none, false⟩,
 ⟨13, .mv (.t 14), none, false⟩])
 (.ite (.t 13)
 (.seq
 (.reg false [⟨2, .mv (.k (.sc (.int .i64 50))), none, false⟩,
 ⟨3, .mv (.k (.sc (.int .i64 36))), none, false⟩,
 ⟨4, .mv (.k (.sc (.int .i64 240))), none, false⟩,
 ⟨5, .mv (.k (.sc (.int .i64 0))), none, false⟩])
 .ret)
 (.seq
 (.reg false [⟨16, .ar .eql false (.t 6) (.k (.sc (.string ⟨#[101, 98, 111, 110, 121]⟩))), none, false⟩,
 ⟨15, .mv (.t 16), none, false⟩])
 (.ite (.t 15)
 (.seq
 (.reg false [⟨2, .mv (.k (.sc (.int .i64 95))), none, false⟩,
 ⟨3, .mv (.k (.sc (.int .i64 85))), none, false⟩,
 ⟨4, .mv (.k (.sc (.int .i64 270))), none, false⟩,
 ⟨5, .mv (.k (.sc (.int .i64 0))), none, false⟩])
 .ret)
 (.seq
 (.reg false [⟨18, .ar .eql false (.t 6) (.k (.sc (.string ⟨#[104, 111, 108, 108, 121]⟩))), none, false⟩,
 ⟨17, .mv (.t 18), none, false⟩])
 (.ite (.t 17)
 (.seq
 (.reg false [⟨2, .mv (.k (.sc (.int .i64 5))), none, false⟩,
 ⟨3, .mv (.k (.sc (.int .i64 35))), none, false⟩,
 ⟨4, .mv (.k (.sc (.int .i64 370))), none, false⟩,
 ⟨5, .mv (.k (.sc (.int .i64 0))), none, false⟩])
 .ret)
 (.seq
 (.reg false [⟨20, .ar .eql false (.t 6) (.k (.sc (.string ⟨#[109, 97, 112, 108, 101]⟩))), none, false⟩,
 ⟨19, .mv (.t 20), none, false⟩])
 (.ite (.t 19)
 (.seq
 (.reg false [⟨2, .mv (.k (.sc (.int .i64 10))), none, false⟩,
 ⟨3, .mv (.k (.sc (.int .i64 42))), none, false⟩,
 ⟨4, .mv (.k (.sc (.int .i64 290))), none, false⟩,
 ⟨5, .mv (.k (.sc (.int .i64 0))), none, false⟩])
 .ret)
 (.seq
 (.reg false [⟨22, .ar .eql false (.t 6) (.k (.sc (.string ⟨#[111, 97, 107]⟩))), none, false⟩,
 ⟨21, .mv (.t 22), none, false⟩])
 (.ite (.t 21)
 (.seq
 (.reg false [⟨2, .mv (.k (.sc (.int .i64 40))), none, false⟩,
 ⟨3, .mv (.k (.sc (.int .i64 40))), none, false⟩,
 ⟨4, .mv (.k (.sc (.int .i64 330))), none, false⟩,
 ⟨5, .mv (.k (.sc (.int .i64 0))), none, false⟩])
 .ret)
 (.seq
 (.reg false [⟨24, .ar .eql false (.t 6) (.k (.sc (.string ⟨#[114, 111, 115, 101, 119, 111, 111, 100]⟩))), none, false⟩,
 ⟨23, .mv (.t 24), none, false⟩])
 (.ite (.t 23)
 (.seq
 (.reg false [⟨2, .mv (.k (.sc (.int .i64 80))), none, false⟩,
 ⟨3, .mv (.k (.sc (.int .i64 60))), none, false⟩,
 ⟨4, .mv (.k (.sc (.int .i64 220))), none, false⟩,
 ⟨5, .mv (.k (.sc (.int .i64 0))), none, false⟩])
 .ret)
 (.seq
 (.reg false [⟨26, .ar .eql false (.t 6) (.k (.sc (.string ⟨#[119, 97, 108, 110, 117, 116]⟩))), none, false⟩,
 ⟨25, .mv (.t 26), none, false⟩])
 (.ite (.t 25)
 (.seq
 (.reg false [⟨2, .mv (.k (.sc (.int .i64 70))), none, false⟩,
 ⟨3, .mv (.k (.sc (.int .i64 38))), none, false⟩,
 ⟨4, .mv (.k (.sc (.int .i64 260))), none, false⟩,
 ⟨5, .mv (.k (.sc (.int .i64 0))), none, false⟩])
 .ret)
 .skip))))))))))))))))))))))
 (.seq
 (.reg false [⟨2, .mv (.k (.sc (.int .i64 0))), none, false⟩,
 ⟨3, .mv (.k (.sc (.int .i64 0))), none, false⟩,
 ⟨4, .mv (.k (.sc (.int .i64 0))), none, false⟩,
 ⟨5, .mv (.k (.sc (.int .i64 3))), none, false⟩])
 .ret)))⟩
attribute [simp] i243
set_option maxRecDepth 1000000 in
theorem c243 : cFn Try.prog 243 [[]] = some i243 := by kernel_rfl
theorem e243 : enterOk Try.prog 243 = true := by kernel_rfl
theorem mixed : Try.prog.follows .mixedOrders = true := by kernel_rfl
def Ft : List (Nat × Ev.Fn) := [(3, i3), (10, i10), (11, i11), (12, i12), (13, i13), (14, i14), (15, i15), (16, i16), (17, i17), (18, i18), (19, i19), (20, i20), (22, i22), (24, i24), (25, i25), (40, i40), (43, i43), (48, i48), (50, i50), (51, i51), (53, i53), (54, i54), (55, i55), (56, i56), (57, i57), (58, i58), (59, i59), (60, i60), (61, i61), (62, i62), (63, i63), (64, i64), (65, i65), (66, i66), (67, i67), (70, i70), (71, i71), (77, i77), (78, i78), (88, i88), (91, i91), (92, i92), (103, i103), (105, i105), (107, i107), (112, i112), (113, i113), (118, i118), (121, i121), (124, i124), (127, i127), (128, i128), (129, i129), (130, i130), (131, i131), (132, i132), (133, i133), (134, i134), (135, i135), (136, i136), (137, i137), (138, i138), (139, i139), (140, i140), (141, i141), (142, i142), (143, i143), (144, i144), (145, i145), (146, i146), (147, i147), (148, i148), (149, i149), (150, i150), (153, i153), (154, i154), (169, i169), (171, i171), (177, i177), (179, i179), (182, i182), (186, i186), (195, i195), (196, i196), (197, i197), (198, i198), (199, i199), (200, i200), (201, i201), (202, i202), (203, i203), (204, i204), (205, i205), (206, i206), (224, i224), (225, i225), (226, i226), (227, i227), (232, i232), (242, i242), (243, i243)]
def F : Nat → Option Ev.Fn := getF Ft
noncomputable def ev (d : Nat) : CallF := evF F (fun _ _ => none) d
theorem ev_fn {f : Nat} {fn : Ev.Fn} (h : F f = some fn) (d : Nat) (args : List LV) (hl : args.length = fn.nargs) : ev (d + 1) f args = Ev.finish fn.res (evC (ev d) fn.body (Ev.start args)) := evF_fn h d args hl
set_option maxRecDepth 1000000 in
theorem tab : ∀ f fn, F f = some fn → enterOk Try.prog f = true ∧ ∃ ks, cFn Try.prog f ks = some fn :=
  tabF (L := Ft) ⟨⟨e3, _, c3⟩, ⟨e10, _, c10⟩, ⟨e11, _, c11⟩, ⟨e12, _, c12⟩, ⟨e13, _, c13⟩, ⟨e14, _, c14⟩, ⟨e15, _, c15⟩, ⟨e16, _, c16⟩, ⟨e17, _, c17⟩, ⟨e18, _, c18⟩, ⟨e19, _, c19⟩, ⟨e20, _, c20⟩, ⟨e22, _, c22⟩, ⟨e24, _, c24⟩, ⟨e25, _, c25⟩, ⟨e40, _, c40⟩, ⟨e43, _, c43⟩, ⟨e48, _, c48⟩, ⟨e50, _, c50⟩, ⟨e51, _, c51⟩, ⟨e53, _, c53⟩, ⟨e54, _, c54⟩, ⟨e55, _, c55⟩, ⟨e56, _, c56⟩, ⟨e57, _, c57⟩, ⟨e58, _, c58⟩, ⟨e59, _, c59⟩, ⟨e60, _, c60⟩, ⟨e61, _, c61⟩, ⟨e62, _, c62⟩, ⟨e63, _, c63⟩, ⟨e64, _, c64⟩, ⟨e65, _, c65⟩, ⟨e66, _, c66⟩, ⟨e67, _, c67⟩, ⟨e70, _, c70⟩, ⟨e71, _, c71⟩, ⟨e77, _, c77⟩, ⟨e78, _, c78⟩, ⟨e88, _, c88⟩, ⟨e91, _, c91⟩, ⟨e92, _, c92⟩, ⟨e103, _, c103⟩, ⟨e105, _, c105⟩, ⟨e107, _, c107⟩, ⟨e112, _, c112⟩, ⟨e113, _, c113⟩, ⟨e118, _, c118⟩, ⟨e121, _, c121⟩, ⟨e124, _, c124⟩, ⟨e127, _, c127⟩, ⟨e128, _, c128⟩, ⟨e129, _, c129⟩, ⟨e130, _, c130⟩, ⟨e131, _, c131⟩, ⟨e132, _, c132⟩, ⟨e133, _, c133⟩, ⟨e134, _, c134⟩, ⟨e135, _, c135⟩, ⟨e136, _, c136⟩, ⟨e137, _, c137⟩, ⟨e138, _, c138⟩, ⟨e139, _, c139⟩, ⟨e140, _, c140⟩, ⟨e141, _, c141⟩, ⟨e142, _, c142⟩, ⟨e143, _, c143⟩, ⟨e144, _, c144⟩, ⟨e145, _, c145⟩, ⟨e146, _, c146⟩, ⟨e147, _, c147⟩, ⟨e148, _, c148⟩, ⟨e149, _, c149⟩, ⟨e150, _, c150⟩, ⟨e153, _, c153⟩, ⟨e154, _, c154⟩, ⟨e169, _, c169⟩, ⟨e171, _, c171⟩, ⟨e177, _, c177⟩, ⟨e179, _, c179⟩, ⟨e182, _, c182⟩, ⟨e186, _, c186⟩, ⟨e195, _, c195⟩, ⟨e196, _, c196⟩, ⟨e197, _, c197⟩, ⟨e198, _, c198⟩, ⟨e199, _, c199⟩, ⟨e200, _, c200⟩, ⟨e201, _, c201⟩, ⟨e202, _, c202⟩, ⟨e203, _, c203⟩, ⟨e204, _, c204⟩, ⟨e205, _, c205⟩, ⟨e206, _, c206⟩, ⟨e224, _, c224⟩, ⟨e225, _, c225⟩, ⟨e226, _, c226⟩, ⟨e227, _, c227⟩, ⟨e232, _, c232⟩, ⟨e242, _, c242⟩, ⟨e243, _, c243⟩, trivial⟩
theorem tabn : ∀ f fn, F f = some fn → f < wrN := tabN (L := Ft) (by kernel_rfl)
theorem callOk (d : Nat) : CallOk [] Try.prog (ev d) := (evF_ok2 mixed tab tabn (noPrim_ok _ _) (noPrim_okW _ _) d).1
abbrev I (n : Int) : LV := .sc (.int .i64 n)
abbrev B (b : Bool) : LV := .sc (.bool b)
abbrev T (s : ByteArray) : LV := .sc (.string s)
theorem s3 (d : Nat) (args : List LV) (hl : args.length = i3.nargs) : ev (d + 1) 3 args = Ev.finish i3.res (evC (ev d) i3.body (Ev.start args)) := ev_fn (by kernel_rfl) d args hl
theorem s10 (d : Nat) (args : List LV) (hl : args.length = i10.nargs) : ev (d + 1) 10 args = Ev.finish i10.res (evC (ev d) i10.body (Ev.start args)) := ev_fn (by kernel_rfl) d args hl
theorem s11 (d : Nat) (args : List LV) (hl : args.length = i11.nargs) : ev (d + 1) 11 args = Ev.finish i11.res (evC (ev d) i11.body (Ev.start args)) := ev_fn (by kernel_rfl) d args hl
theorem s12 (d : Nat) (args : List LV) (hl : args.length = i12.nargs) : ev (d + 1) 12 args = Ev.finish i12.res (evC (ev d) i12.body (Ev.start args)) := ev_fn (by kernel_rfl) d args hl
theorem s13 (d : Nat) (args : List LV) (hl : args.length = i13.nargs) : ev (d + 1) 13 args = Ev.finish i13.res (evC (ev d) i13.body (Ev.start args)) := ev_fn (by kernel_rfl) d args hl
theorem s14 (d : Nat) (args : List LV) (hl : args.length = i14.nargs) : ev (d + 1) 14 args = Ev.finish i14.res (evC (ev d) i14.body (Ev.start args)) := ev_fn (by kernel_rfl) d args hl
theorem s15 (d : Nat) (args : List LV) (hl : args.length = i15.nargs) : ev (d + 1) 15 args = Ev.finish i15.res (evC (ev d) i15.body (Ev.start args)) := ev_fn (by kernel_rfl) d args hl
theorem s16 (d : Nat) (args : List LV) (hl : args.length = i16.nargs) : ev (d + 1) 16 args = Ev.finish i16.res (evC (ev d) i16.body (Ev.start args)) := ev_fn (by kernel_rfl) d args hl
theorem s17 (d : Nat) (args : List LV) (hl : args.length = i17.nargs) : ev (d + 1) 17 args = Ev.finish i17.res (evC (ev d) i17.body (Ev.start args)) := ev_fn (by kernel_rfl) d args hl
theorem s18 (d : Nat) (args : List LV) (hl : args.length = i18.nargs) : ev (d + 1) 18 args = Ev.finish i18.res (evC (ev d) i18.body (Ev.start args)) := ev_fn (by kernel_rfl) d args hl
theorem s19 (d : Nat) (args : List LV) (hl : args.length = i19.nargs) : ev (d + 1) 19 args = Ev.finish i19.res (evC (ev d) i19.body (Ev.start args)) := ev_fn (by kernel_rfl) d args hl
theorem s20 (d : Nat) (args : List LV) (hl : args.length = i20.nargs) : ev (d + 1) 20 args = Ev.finish i20.res (evC (ev d) i20.body (Ev.start args)) := ev_fn (by kernel_rfl) d args hl
theorem s22 (d : Nat) (args : List LV) (hl : args.length = i22.nargs) : ev (d + 1) 22 args = Ev.finish i22.res (evC (ev d) i22.body (Ev.start args)) := ev_fn (by kernel_rfl) d args hl
theorem s24 (d : Nat) (args : List LV) (hl : args.length = i24.nargs) : ev (d + 1) 24 args = Ev.finish i24.res (evC (ev d) i24.body (Ev.start args)) := ev_fn (by kernel_rfl) d args hl
theorem s25 (d : Nat) (args : List LV) (hl : args.length = i25.nargs) : ev (d + 1) 25 args = Ev.finish i25.res (evC (ev d) i25.body (Ev.start args)) := ev_fn (by kernel_rfl) d args hl
theorem s40 (d : Nat) (args : List LV) (hl : args.length = i40.nargs) : ev (d + 1) 40 args = Ev.finish i40.res (evC (ev d) i40.body (Ev.start args)) := ev_fn (by kernel_rfl) d args hl
theorem s43 (d : Nat) (args : List LV) (hl : args.length = i43.nargs) : ev (d + 1) 43 args = Ev.finish i43.res (evC (ev d) i43.body (Ev.start args)) := ev_fn (by kernel_rfl) d args hl
theorem s48 (d : Nat) (args : List LV) (hl : args.length = i48.nargs) : ev (d + 1) 48 args = Ev.finish i48.res (evC (ev d) i48.body (Ev.start args)) := ev_fn (by kernel_rfl) d args hl
theorem s50 (d : Nat) (args : List LV) (hl : args.length = i50.nargs) : ev (d + 1) 50 args = Ev.finish i50.res (evC (ev d) i50.body (Ev.start args)) := ev_fn (by kernel_rfl) d args hl
theorem s51 (d : Nat) (args : List LV) (hl : args.length = i51.nargs) : ev (d + 1) 51 args = Ev.finish i51.res (evC (ev d) i51.body (Ev.start args)) := ev_fn (by kernel_rfl) d args hl
theorem s53 (d : Nat) (args : List LV) (hl : args.length = i53.nargs) : ev (d + 1) 53 args = Ev.finish i53.res (evC (ev d) i53.body (Ev.start args)) := ev_fn (by kernel_rfl) d args hl
theorem s54 (d : Nat) (args : List LV) (hl : args.length = i54.nargs) : ev (d + 1) 54 args = Ev.finish i54.res (evC (ev d) i54.body (Ev.start args)) := ev_fn (by kernel_rfl) d args hl
theorem s55 (d : Nat) (args : List LV) (hl : args.length = i55.nargs) : ev (d + 1) 55 args = Ev.finish i55.res (evC (ev d) i55.body (Ev.start args)) := ev_fn (by kernel_rfl) d args hl
theorem s56 (d : Nat) (args : List LV) (hl : args.length = i56.nargs) : ev (d + 1) 56 args = Ev.finish i56.res (evC (ev d) i56.body (Ev.start args)) := ev_fn (by kernel_rfl) d args hl
theorem s57 (d : Nat) (args : List LV) (hl : args.length = i57.nargs) : ev (d + 1) 57 args = Ev.finish i57.res (evC (ev d) i57.body (Ev.start args)) := ev_fn (by kernel_rfl) d args hl
theorem s58 (d : Nat) (args : List LV) (hl : args.length = i58.nargs) : ev (d + 1) 58 args = Ev.finish i58.res (evC (ev d) i58.body (Ev.start args)) := ev_fn (by kernel_rfl) d args hl
theorem s59 (d : Nat) (args : List LV) (hl : args.length = i59.nargs) : ev (d + 1) 59 args = Ev.finish i59.res (evC (ev d) i59.body (Ev.start args)) := ev_fn (by kernel_rfl) d args hl
theorem s60 (d : Nat) (args : List LV) (hl : args.length = i60.nargs) : ev (d + 1) 60 args = Ev.finish i60.res (evC (ev d) i60.body (Ev.start args)) := ev_fn (by kernel_rfl) d args hl
theorem s61 (d : Nat) (args : List LV) (hl : args.length = i61.nargs) : ev (d + 1) 61 args = Ev.finish i61.res (evC (ev d) i61.body (Ev.start args)) := ev_fn (by kernel_rfl) d args hl
theorem s62 (d : Nat) (args : List LV) (hl : args.length = i62.nargs) : ev (d + 1) 62 args = Ev.finish i62.res (evC (ev d) i62.body (Ev.start args)) := ev_fn (by kernel_rfl) d args hl
theorem s63 (d : Nat) (args : List LV) (hl : args.length = i63.nargs) : ev (d + 1) 63 args = Ev.finish i63.res (evC (ev d) i63.body (Ev.start args)) := ev_fn (by kernel_rfl) d args hl
theorem s64 (d : Nat) (args : List LV) (hl : args.length = i64.nargs) : ev (d + 1) 64 args = Ev.finish i64.res (evC (ev d) i64.body (Ev.start args)) := ev_fn (by kernel_rfl) d args hl
theorem s65 (d : Nat) (args : List LV) (hl : args.length = i65.nargs) : ev (d + 1) 65 args = Ev.finish i65.res (evC (ev d) i65.body (Ev.start args)) := ev_fn (by kernel_rfl) d args hl
theorem s66 (d : Nat) (args : List LV) (hl : args.length = i66.nargs) : ev (d + 1) 66 args = Ev.finish i66.res (evC (ev d) i66.body (Ev.start args)) := ev_fn (by kernel_rfl) d args hl
theorem s67 (d : Nat) (args : List LV) (hl : args.length = i67.nargs) : ev (d + 1) 67 args = Ev.finish i67.res (evC (ev d) i67.body (Ev.start args)) := ev_fn (by kernel_rfl) d args hl
theorem s70 (d : Nat) (args : List LV) (hl : args.length = i70.nargs) : ev (d + 1) 70 args = Ev.finish i70.res (evC (ev d) i70.body (Ev.start args)) := ev_fn (by kernel_rfl) d args hl
theorem s71 (d : Nat) (args : List LV) (hl : args.length = i71.nargs) : ev (d + 1) 71 args = Ev.finish i71.res (evC (ev d) i71.body (Ev.start args)) := ev_fn (by kernel_rfl) d args hl
theorem s77 (d : Nat) (args : List LV) (hl : args.length = i77.nargs) : ev (d + 1) 77 args = Ev.finish i77.res (evC (ev d) i77.body (Ev.start args)) := ev_fn (by kernel_rfl) d args hl
theorem s78 (d : Nat) (args : List LV) (hl : args.length = i78.nargs) : ev (d + 1) 78 args = Ev.finish i78.res (evC (ev d) i78.body (Ev.start args)) := ev_fn (by kernel_rfl) d args hl
theorem s88 (d : Nat) (args : List LV) (hl : args.length = i88.nargs) : ev (d + 1) 88 args = Ev.finish i88.res (evC (ev d) i88.body (Ev.start args)) := ev_fn (by kernel_rfl) d args hl
theorem s91 (d : Nat) (args : List LV) (hl : args.length = i91.nargs) : ev (d + 1) 91 args = Ev.finish i91.res (evC (ev d) i91.body (Ev.start args)) := ev_fn (by kernel_rfl) d args hl
theorem s92 (d : Nat) (args : List LV) (hl : args.length = i92.nargs) : ev (d + 1) 92 args = Ev.finish i92.res (evC (ev d) i92.body (Ev.start args)) := ev_fn (by kernel_rfl) d args hl
theorem s103 (d : Nat) (args : List LV) (hl : args.length = i103.nargs) : ev (d + 1) 103 args = Ev.finish i103.res (evC (ev d) i103.body (Ev.start args)) := ev_fn (by kernel_rfl) d args hl
theorem s105 (d : Nat) (args : List LV) (hl : args.length = i105.nargs) : ev (d + 1) 105 args = Ev.finish i105.res (evC (ev d) i105.body (Ev.start args)) := ev_fn (by kernel_rfl) d args hl
theorem s107 (d : Nat) (args : List LV) (hl : args.length = i107.nargs) : ev (d + 1) 107 args = Ev.finish i107.res (evC (ev d) i107.body (Ev.start args)) := ev_fn (by kernel_rfl) d args hl
theorem s112 (d : Nat) (args : List LV) (hl : args.length = i112.nargs) : ev (d + 1) 112 args = Ev.finish i112.res (evC (ev d) i112.body (Ev.start args)) := ev_fn (by kernel_rfl) d args hl
theorem s113 (d : Nat) (args : List LV) (hl : args.length = i113.nargs) : ev (d + 1) 113 args = Ev.finish i113.res (evC (ev d) i113.body (Ev.start args)) := ev_fn (by kernel_rfl) d args hl
theorem s118 (d : Nat) (args : List LV) (hl : args.length = i118.nargs) : ev (d + 1) 118 args = Ev.finish i118.res (evC (ev d) i118.body (Ev.start args)) := ev_fn (by kernel_rfl) d args hl
theorem s121 (d : Nat) (args : List LV) (hl : args.length = i121.nargs) : ev (d + 1) 121 args = Ev.finish i121.res (evC (ev d) i121.body (Ev.start args)) := ev_fn (by kernel_rfl) d args hl
theorem s124 (d : Nat) (args : List LV) (hl : args.length = i124.nargs) : ev (d + 1) 124 args = Ev.finish i124.res (evC (ev d) i124.body (Ev.start args)) := ev_fn (by kernel_rfl) d args hl
theorem s127 (d : Nat) (args : List LV) (hl : args.length = i127.nargs) : ev (d + 1) 127 args = Ev.finish i127.res (evC (ev d) i127.body (Ev.start args)) := ev_fn (by kernel_rfl) d args hl
theorem s128 (d : Nat) (args : List LV) (hl : args.length = i128.nargs) : ev (d + 1) 128 args = Ev.finish i128.res (evC (ev d) i128.body (Ev.start args)) := ev_fn (by kernel_rfl) d args hl
theorem s129 (d : Nat) (args : List LV) (hl : args.length = i129.nargs) : ev (d + 1) 129 args = Ev.finish i129.res (evC (ev d) i129.body (Ev.start args)) := ev_fn (by kernel_rfl) d args hl
theorem s130 (d : Nat) (args : List LV) (hl : args.length = i130.nargs) : ev (d + 1) 130 args = Ev.finish i130.res (evC (ev d) i130.body (Ev.start args)) := ev_fn (by kernel_rfl) d args hl
theorem s131 (d : Nat) (args : List LV) (hl : args.length = i131.nargs) : ev (d + 1) 131 args = Ev.finish i131.res (evC (ev d) i131.body (Ev.start args)) := ev_fn (by kernel_rfl) d args hl
theorem s132 (d : Nat) (args : List LV) (hl : args.length = i132.nargs) : ev (d + 1) 132 args = Ev.finish i132.res (evC (ev d) i132.body (Ev.start args)) := ev_fn (by kernel_rfl) d args hl
theorem s133 (d : Nat) (args : List LV) (hl : args.length = i133.nargs) : ev (d + 1) 133 args = Ev.finish i133.res (evC (ev d) i133.body (Ev.start args)) := ev_fn (by kernel_rfl) d args hl
theorem s134 (d : Nat) (args : List LV) (hl : args.length = i134.nargs) : ev (d + 1) 134 args = Ev.finish i134.res (evC (ev d) i134.body (Ev.start args)) := ev_fn (by kernel_rfl) d args hl
theorem s135 (d : Nat) (args : List LV) (hl : args.length = i135.nargs) : ev (d + 1) 135 args = Ev.finish i135.res (evC (ev d) i135.body (Ev.start args)) := ev_fn (by kernel_rfl) d args hl
theorem s136 (d : Nat) (args : List LV) (hl : args.length = i136.nargs) : ev (d + 1) 136 args = Ev.finish i136.res (evC (ev d) i136.body (Ev.start args)) := ev_fn (by kernel_rfl) d args hl
theorem s137 (d : Nat) (args : List LV) (hl : args.length = i137.nargs) : ev (d + 1) 137 args = Ev.finish i137.res (evC (ev d) i137.body (Ev.start args)) := ev_fn (by kernel_rfl) d args hl
theorem s138 (d : Nat) (args : List LV) (hl : args.length = i138.nargs) : ev (d + 1) 138 args = Ev.finish i138.res (evC (ev d) i138.body (Ev.start args)) := ev_fn (by kernel_rfl) d args hl
theorem s139 (d : Nat) (args : List LV) (hl : args.length = i139.nargs) : ev (d + 1) 139 args = Ev.finish i139.res (evC (ev d) i139.body (Ev.start args)) := ev_fn (by kernel_rfl) d args hl
theorem s140 (d : Nat) (args : List LV) (hl : args.length = i140.nargs) : ev (d + 1) 140 args = Ev.finish i140.res (evC (ev d) i140.body (Ev.start args)) := ev_fn (by kernel_rfl) d args hl
theorem s141 (d : Nat) (args : List LV) (hl : args.length = i141.nargs) : ev (d + 1) 141 args = Ev.finish i141.res (evC (ev d) i141.body (Ev.start args)) := ev_fn (by kernel_rfl) d args hl
theorem s142 (d : Nat) (args : List LV) (hl : args.length = i142.nargs) : ev (d + 1) 142 args = Ev.finish i142.res (evC (ev d) i142.body (Ev.start args)) := ev_fn (by kernel_rfl) d args hl
theorem s143 (d : Nat) (args : List LV) (hl : args.length = i143.nargs) : ev (d + 1) 143 args = Ev.finish i143.res (evC (ev d) i143.body (Ev.start args)) := ev_fn (by kernel_rfl) d args hl
theorem s144 (d : Nat) (args : List LV) (hl : args.length = i144.nargs) : ev (d + 1) 144 args = Ev.finish i144.res (evC (ev d) i144.body (Ev.start args)) := ev_fn (by kernel_rfl) d args hl
theorem s145 (d : Nat) (args : List LV) (hl : args.length = i145.nargs) : ev (d + 1) 145 args = Ev.finish i145.res (evC (ev d) i145.body (Ev.start args)) := ev_fn (by kernel_rfl) d args hl
theorem s146 (d : Nat) (args : List LV) (hl : args.length = i146.nargs) : ev (d + 1) 146 args = Ev.finish i146.res (evC (ev d) i146.body (Ev.start args)) := ev_fn (by kernel_rfl) d args hl
theorem s147 (d : Nat) (args : List LV) (hl : args.length = i147.nargs) : ev (d + 1) 147 args = Ev.finish i147.res (evC (ev d) i147.body (Ev.start args)) := ev_fn (by kernel_rfl) d args hl
theorem s148 (d : Nat) (args : List LV) (hl : args.length = i148.nargs) : ev (d + 1) 148 args = Ev.finish i148.res (evC (ev d) i148.body (Ev.start args)) := ev_fn (by kernel_rfl) d args hl
theorem s149 (d : Nat) (args : List LV) (hl : args.length = i149.nargs) : ev (d + 1) 149 args = Ev.finish i149.res (evC (ev d) i149.body (Ev.start args)) := ev_fn (by kernel_rfl) d args hl
theorem s150 (d : Nat) (args : List LV) (hl : args.length = i150.nargs) : ev (d + 1) 150 args = Ev.finish i150.res (evC (ev d) i150.body (Ev.start args)) := ev_fn (by kernel_rfl) d args hl
theorem s153 (d : Nat) (args : List LV) (hl : args.length = i153.nargs) : ev (d + 1) 153 args = Ev.finish i153.res (evC (ev d) i153.body (Ev.start args)) := ev_fn (by kernel_rfl) d args hl
theorem s154 (d : Nat) (args : List LV) (hl : args.length = i154.nargs) : ev (d + 1) 154 args = Ev.finish i154.res (evC (ev d) i154.body (Ev.start args)) := ev_fn (by kernel_rfl) d args hl
theorem s169 (d : Nat) (args : List LV) (hl : args.length = i169.nargs) : ev (d + 1) 169 args = Ev.finish i169.res (evC (ev d) i169.body (Ev.start args)) := ev_fn (by kernel_rfl) d args hl
theorem s171 (d : Nat) (args : List LV) (hl : args.length = i171.nargs) : ev (d + 1) 171 args = Ev.finish i171.res (evC (ev d) i171.body (Ev.start args)) := ev_fn (by kernel_rfl) d args hl
theorem s177 (d : Nat) (args : List LV) (hl : args.length = i177.nargs) : ev (d + 1) 177 args = Ev.finish i177.res (evC (ev d) i177.body (Ev.start args)) := ev_fn (by kernel_rfl) d args hl
theorem s179 (d : Nat) (args : List LV) (hl : args.length = i179.nargs) : ev (d + 1) 179 args = Ev.finish i179.res (evC (ev d) i179.body (Ev.start args)) := ev_fn (by kernel_rfl) d args hl
theorem s182 (d : Nat) (args : List LV) (hl : args.length = i182.nargs) : ev (d + 1) 182 args = Ev.finish i182.res (evC (ev d) i182.body (Ev.start args)) := ev_fn (by kernel_rfl) d args hl
theorem s186 (d : Nat) (args : List LV) (hl : args.length = i186.nargs) : ev (d + 1) 186 args = Ev.finish i186.res (evC (ev d) i186.body (Ev.start args)) := ev_fn (by kernel_rfl) d args hl
theorem s195 (d : Nat) (args : List LV) (hl : args.length = i195.nargs) : ev (d + 1) 195 args = Ev.finish i195.res (evC (ev d) i195.body (Ev.start args)) := ev_fn (by kernel_rfl) d args hl
theorem s196 (d : Nat) (args : List LV) (hl : args.length = i196.nargs) : ev (d + 1) 196 args = Ev.finish i196.res (evC (ev d) i196.body (Ev.start args)) := ev_fn (by kernel_rfl) d args hl
theorem s197 (d : Nat) (args : List LV) (hl : args.length = i197.nargs) : ev (d + 1) 197 args = Ev.finish i197.res (evC (ev d) i197.body (Ev.start args)) := ev_fn (by kernel_rfl) d args hl
theorem s198 (d : Nat) (args : List LV) (hl : args.length = i198.nargs) : ev (d + 1) 198 args = Ev.finish i198.res (evC (ev d) i198.body (Ev.start args)) := ev_fn (by kernel_rfl) d args hl
theorem s199 (d : Nat) (args : List LV) (hl : args.length = i199.nargs) : ev (d + 1) 199 args = Ev.finish i199.res (evC (ev d) i199.body (Ev.start args)) := ev_fn (by kernel_rfl) d args hl
theorem s200 (d : Nat) (args : List LV) (hl : args.length = i200.nargs) : ev (d + 1) 200 args = Ev.finish i200.res (evC (ev d) i200.body (Ev.start args)) := ev_fn (by kernel_rfl) d args hl
theorem s201 (d : Nat) (args : List LV) (hl : args.length = i201.nargs) : ev (d + 1) 201 args = Ev.finish i201.res (evC (ev d) i201.body (Ev.start args)) := ev_fn (by kernel_rfl) d args hl
theorem s202 (d : Nat) (args : List LV) (hl : args.length = i202.nargs) : ev (d + 1) 202 args = Ev.finish i202.res (evC (ev d) i202.body (Ev.start args)) := ev_fn (by kernel_rfl) d args hl
theorem s203 (d : Nat) (args : List LV) (hl : args.length = i203.nargs) : ev (d + 1) 203 args = Ev.finish i203.res (evC (ev d) i203.body (Ev.start args)) := ev_fn (by kernel_rfl) d args hl
theorem s204 (d : Nat) (args : List LV) (hl : args.length = i204.nargs) : ev (d + 1) 204 args = Ev.finish i204.res (evC (ev d) i204.body (Ev.start args)) := ev_fn (by kernel_rfl) d args hl
theorem s205 (d : Nat) (args : List LV) (hl : args.length = i205.nargs) : ev (d + 1) 205 args = Ev.finish i205.res (evC (ev d) i205.body (Ev.start args)) := ev_fn (by kernel_rfl) d args hl
theorem s206 (d : Nat) (args : List LV) (hl : args.length = i206.nargs) : ev (d + 1) 206 args = Ev.finish i206.res (evC (ev d) i206.body (Ev.start args)) := ev_fn (by kernel_rfl) d args hl
theorem s224 (d : Nat) (args : List LV) (hl : args.length = i224.nargs) : ev (d + 1) 224 args = Ev.finish i224.res (evC (ev d) i224.body (Ev.start args)) := ev_fn (by kernel_rfl) d args hl
theorem s225 (d : Nat) (args : List LV) (hl : args.length = i225.nargs) : ev (d + 1) 225 args = Ev.finish i225.res (evC (ev d) i225.body (Ev.start args)) := ev_fn (by kernel_rfl) d args hl
theorem s226 (d : Nat) (args : List LV) (hl : args.length = i226.nargs) : ev (d + 1) 226 args = Ev.finish i226.res (evC (ev d) i226.body (Ev.start args)) := ev_fn (by kernel_rfl) d args hl
theorem s227 (d : Nat) (args : List LV) (hl : args.length = i227.nargs) : ev (d + 1) 227 args = Ev.finish i227.res (evC (ev d) i227.body (Ev.start args)) := ev_fn (by kernel_rfl) d args hl
theorem s232 (d : Nat) (args : List LV) (hl : args.length = i232.nargs) : ev (d + 1) 232 args = Ev.finish i232.res (evC (ev d) i232.body (Ev.start args)) := ev_fn (by kernel_rfl) d args hl
theorem s242 (d : Nat) (args : List LV) (hl : args.length = i242.nargs) : ev (d + 1) 242 args = Ev.finish i242.res (evC (ev d) i242.body (Ev.start args)) := ev_fn (by kernel_rfl) d args hl
theorem s243 (d : Nat) (args : List LV) (hl : args.length = i243.nargs) : ev (d + 1) 243 args = Ev.finish i243.res (evC (ev d) i243.body (Ev.start args)) := ev_fn (by kernel_rfl) d args hl
theorem p200 (d : Nat) {args bs : List LV} {st : St} (hs : startV 1 args = some (bs, st)) (hl : bs.length = i200.nargs) : ev (d + 1) (puN + 200) (.sc (.int .i64 1) :: args) = finishW bs i200.res (evC (ev d) i200.body st) := evF_fnP (by kernel_rfl) tabn d hs hl
theorem v17 (d : Nat) {args bs : List LV} {st : St} (hs : startW args = some (bs, st)) (hl : bs.length = i17.nargs) : ev (d + 1) (wrN + 17) args = finishW bs i17.res (evC (ev d) i17.body st) := evF_fnW (by kernel_rfl) tabn d hs hl
theorem v18 (d : Nat) {args bs : List LV} {st : St} (hs : startW args = some (bs, st)) (hl : bs.length = i18.nargs) : ev (d + 1) (wrN + 18) args = finishW bs i18.res (evC (ev d) i18.body st) := evF_fnW (by kernel_rfl) tabn d hs hl
theorem v25 (d : Nat) {args bs : List LV} {st : St} (hs : startW args = some (bs, st)) (hl : bs.length = i25.nargs) : ev (d + 1) (wrN + 25) args = finishW bs i25.res (evC (ev d) i25.body st) := evF_fnW (by kernel_rfl) tabn d hs hl
theorem v65 (d : Nat) {args bs : List LV} {st : St} (hs : startW args = some (bs, st)) (hl : bs.length = i65.nargs) : ev (d + 1) (wrN + 65) args = finishW bs i65.res (evC (ev d) i65.body st) := evF_fnW (by kernel_rfl) tabn d hs hl
theorem v78 (d : Nat) {args bs : List LV} {st : St} (hs : startW args = some (bs, st)) (hl : bs.length = i78.nargs) : ev (d + 1) (wrN + 78) args = finishW bs i78.res (evC (ev d) i78.body st) := evF_fnW (by kernel_rfl) tabn d hs hl
theorem v105 (d : Nat) {args bs : List LV} {st : St} (hs : startW args = some (bs, st)) (hl : bs.length = i105.nargs) : ev (d + 1) (wrN + 105) args = finishW bs i105.res (evC (ev d) i105.body st) := evF_fnW (by kernel_rfl) tabn d hs hl
end Go.Proofs.Ythnkioafikmmaaa.walkS
