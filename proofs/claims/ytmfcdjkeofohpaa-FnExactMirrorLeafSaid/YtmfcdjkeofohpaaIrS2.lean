/- The functions that some rows reach, turned; no conditions. -/
import Derived.Test.YtmfcdjkeofohpaaIrS1
import Derived.KernelRfl
import Derived.Test.YtmfcdjkeofohpaaProg
namespace Go.Proofs.Ytmfcdjkeofohpaa.walkS
open Go Go.Proofs.Ytmfcdjkeofohpaa.Ev
def i48 : Ev.Fn := ⟨4, 25, [.tmp 8, .tmp 9],
 (.seq
 (.reg false [⟨4, .bx (.t 0), none, false⟩,
 ⟨5, .bx (.t 1), none, false⟩,
 ⟨7, .bx (.t 3), none, false⟩,
 ⟨8, .mv (.k (.sc (.int .i64 0))), none, false⟩,
 ⟨9, .mv (.k (.sc (.int .i64 0))), none, false⟩])
 (.seq
 (.seq
 (.reg false [⟨10, .ca (.k (.cl 78 [])) [(.t 4)], none, false⟩,
 ⟨11, .nt (.t 10), none, false⟩,
 ⟨12, .mv (.t 11), none, false⟩,
 ⟨13, .ca (.k (.cl 82 [])) [(.t 5)], (some (12, false)), false⟩,
 ⟨14, .nt (.t 13), (some (12, false)), false⟩,
 ⟨15, .pk (.t 12) (.k (.sc (.bool true))) (.t 14), none, false⟩,
 ⟨16, .mv (.t 15), none, false⟩,
 ⟨17, .ca (.k (.cl 102 [])) [(.t 7)], (some (16, false)), false⟩,
 ⟨18, .nt (.t 17), (some (16, false)), false⟩,
 ⟨19, .pk (.t 16) (.k (.sc (.bool true))) (.t 18), none, false⟩])
 (.ite (.t 19)
 (.seq
 (.reg false [⟨8, .mv (.k (.sc (.int .i64 0))), none, false⟩,
 ⟨9, .mv (.k (.sc (.int .i64 1))), none, false⟩])
 .ret)
 .skip))
 (.seq
 (.seq
 (.reg false [⟨20, .mv (.t 2), none, false⟩,
 ⟨21, .ca (.k (.cl 103 [])) [(.t 20)], none, false⟩,
 ⟨22, .nt (.t 21), none, false⟩])
 (.ite (.t 22)
 (.seq
 (.reg false [⟨8, .mv (.k (.sc (.int .i64 0))), none, false⟩,
 ⟨9, .mv (.k (.sc (.int .i64 2))), none, false⟩])
 .ret)
 .skip))
 (.seq
 (.reg false [⟨23, .mv (.t 2), none, false⟩,
 ⟨24, .ca (.k (.cl 104 [])) [(.t 4), (.t 5), (.t 23), (.t 7)], none, false⟩,
 ⟨8, .mv (.t 24), none, false⟩,
 ⟨9, .mv (.k (.sc (.int .i64 0))), none, false⟩])
 .ret))))⟩
attribute [simp] i48
set_option maxRecDepth 1000000 in
theorem c48 : cFn Try.prog 48 [[]] = some i48 := by kernel_rfl
theorem e48 : enterOk Try.prog 48 = true := by kernel_rfl
def i49 : Ev.Fn := ⟨1, 14, [.cell 2 3 true],
 (.seq
 (.reg false [⟨1, .bx (.t 0), none, false⟩,
 ⟨2, .al [(.sc (.string ⟨#[]⟩)), (.sc (.int .i64 0)), (.sc (.int .i64 0))], none, false⟩])
 (.seq
 (.reg false [⟨3, .al [(.sc (.string ⟨#[]⟩)), (.sc (.int .i64 0)), (.sc (.int .i64 0))], none, false⟩])
 (.seq
 (.reg false [⟨4, .fa 0 (.t 1), none, false⟩,
 ⟨5, .ld 1 false (.t 4), none, false⟩,
 ⟨6, .fa 0 (.t 3), none, false⟩,
 ⟨1, .so 1 (.t 6) (.t 5), none, true⟩])
 (.seq
 (.reg false [⟨7, .fa 1 (.t 1), none, false⟩,
 ⟨8, .ld 1 false (.t 7), none, false⟩,
 ⟨9, .fa 1 (.t 3), none, false⟩,
 ⟨1, .so 1 (.t 9) (.t 8), none, true⟩])
 (.seq
 (.reg false [⟨10, .fa 2 (.t 1), none, false⟩,
 ⟨11, .ld 1 false (.t 10), none, false⟩,
 ⟨12, .fa 2 (.t 3), none, false⟩,
 ⟨1, .so 1 (.t 12) (.t 11), none, true⟩])
 (.seq
 (.reg false [⟨13, .ld 3 true (.t 3), none, false⟩,
 ⟨1, .so 3 (.t 2) (.t 13), none, true⟩])
 .ret))))))⟩
attribute [simp] i49
set_option maxRecDepth 1000000 in
theorem c49 : cFn Try.prog 49 [[]] = some i49 := by kernel_rfl
theorem e49 : enterOk Try.prog 49 = true := by kernel_rfl
def i50 : Ev.Fn := ⟨1, 17, [.cell 2 4 true],
 (.seq
 (.reg false [⟨1, .bx (.t 0), none, false⟩,
 ⟨2, .al [(.sc (.int .i64 0)), (.sc (.int .i64 0)), (.sc (.int .i64 0)), (.sc (.int .i64 0))], none, false⟩])
 (.seq
 (.reg false [⟨3, .al [(.sc (.int .i64 0)), (.sc (.int .i64 0)), (.sc (.int .i64 0)), (.sc (.int .i64 0))], none, false⟩])
 (.seq
 (.reg false [⟨4, .fa 0 (.t 1), none, false⟩,
 ⟨5, .ld 1 false (.t 4), none, false⟩,
 ⟨6, .fa 0 (.t 3), none, false⟩,
 ⟨1, .so 1 (.t 6) (.t 5), none, true⟩])
 (.seq
 (.reg false [⟨7, .fa 1 (.t 1), none, false⟩,
 ⟨8, .ld 1 false (.t 7), none, false⟩,
 ⟨9, .fa 1 (.t 3), none, false⟩,
 ⟨1, .so 1 (.t 9) (.t 8), none, true⟩])
 (.seq
 (.reg false [⟨10, .fa 2 (.t 1), none, false⟩,
 ⟨11, .ld 1 false (.t 10), none, false⟩,
 ⟨12, .fa 2 (.t 3), none, false⟩,
 ⟨1, .so 1 (.t 12) (.t 11), none, true⟩])
 (.seq
 (.reg false [⟨13, .fa 3 (.t 1), none, false⟩,
 ⟨14, .ld 1 false (.t 13), none, false⟩,
 ⟨15, .fa 3 (.t 3), none, false⟩,
 ⟨1, .so 1 (.t 15) (.t 14), none, true⟩])
 (.seq
 (.reg false [⟨16, .ld 4 true (.t 3), none, false⟩,
 ⟨1, .so 4 (.t 2) (.t 16), none, true⟩])
 .ret)))))))⟩
attribute [simp] i50
set_option maxRecDepth 1000000 in
theorem c50 : cFn Try.prog 50 [[]] = some i50 := by kernel_rfl
theorem e50 : enterOk Try.prog 50 = true := by kernel_rfl
def i51 : Ev.Fn := ⟨4, 33, [.tmp 8, .tmp 9],
 (.seq
 (.reg false [⟨4, .bx (.t 0), none, false⟩,
 ⟨5, .bx (.t 1), none, false⟩,
 ⟨7, .bx (.t 3), none, false⟩,
 ⟨8, .mv (.k (.sc (.int .i64 0))), none, false⟩,
 ⟨9, .mv (.k (.sc (.int .i64 0))), none, false⟩])
 (.seq
 (.block 0
 (.seq
 (.reg false [⟨11, .ld 3 true (.t 4), none, false⟩,
 ⟨12, .ca (.k (.cl 80 [])) [(.t 11)], none, false⟩,
 ⟨13, .nt (.t 12), none, false⟩,
 ⟨14, .mv (.t 13), none, false⟩,
 ⟨15, .ld 9 true (.t 5), (some (14, false)), false⟩,
 ⟨16, .ca (.k (.cl 28 [])) [(.t 15)], (some (14, false)), false⟩,
 ⟨17, .nt (.t 16), (some (14, false)), false⟩,
 ⟨18, .pk (.t 14) (.k (.sc (.bool true))) (.t 17), none, false⟩,
 ⟨19, .mv (.t 18), none, false⟩,
 ⟨20, .ld 4 true (.t 7), (some (19, false)), false⟩,
 ⟨21, .ca (.k (.cl 105 [])) [(.t 20)], (some (19, false)), false⟩,
 ⟨22, .nt (.t 21), (some (19, false)), false⟩,
 ⟨23, .pk (.t 19) (.k (.sc (.bool true))) (.t 22), none, false⟩,
 ⟨10, .mv (.t 23), none, false⟩])
 (.ite (.t 10)
 (.seq
 (.reg false [⟨8, .mv (.k (.sc (.int .i64 0))), none, false⟩,
 ⟨9, .mv (.k (.sc (.int .i64 1))), none, false⟩])
 .ret)
 (.seq
 (.reg false [⟨25, .mv (.t 2), none, false⟩,
 ⟨26, .ca (.k (.cl 84 [])) [(.t 25), (.k (.sc (.int .i64 0))), (.k (.sc (.int .i64 7)))], none, false⟩,
 ⟨27, .nt (.t 26), none, false⟩,
 ⟨24, .mv (.t 27), none, false⟩])
 (.ite (.t 24)
 (.seq
 (.reg false [⟨8, .mv (.k (.sc (.int .i64 0))), none, false⟩,
 ⟨9, .mv (.k (.sc (.int .i64 2))), none, false⟩])
 .ret)
 .skip)))))
 (.seq
 (.reg false [⟨28, .ld 3 true (.t 4), none, false⟩,
 ⟨29, .ld 9 true (.t 5), none, false⟩,
 ⟨30, .mv (.t 2), none, false⟩,
 ⟨31, .ld 4 true (.t 7), none, false⟩,
 ⟨32, .ca (.k (.cl 106 [])) [(.t 28), (.t 29), (.t 30), (.t 31)], none, false⟩,
 ⟨8, .mv (.t 32), none, false⟩,
 ⟨9, .mv (.k (.sc (.int .i64 0))), none, false⟩])
 .ret)))⟩
attribute [simp] i51
set_option maxRecDepth 1000000 in
theorem c51 : cFn Try.prog 51 [[]] = some i51 := by kernel_rfl
theorem e51 : enterOk Try.prog 51 = true := by kernel_rfl
def w52_1 : IC :=
(.seq
 (.seq
 (.reg false [⟨14, .mv (.t 5), none, false⟩,
 ⟨15, .mv (.t 1), none, false⟩,
 ⟨16, .ln false (.t 15), none, false⟩,
 ⟨17, .ar .lss false (.t 14) (.t 16), none, false⟩])
 (.ite (.t 17)
 .skip
 (.exit 0)))
 (.seq
 (.block 1
 (.seq
 (.seq
 (.reg false [⟨20, .mv (.t 1), none, false⟩,
 ⟨21, .mv (.t 5), none, false⟩,
 ⟨22, .ia 1 (.t 20) (.t 21), none, false⟩,
 ⟨23, .ld 1 false (.t 22), none, false⟩,
 ⟨24, .mv (.t 0), none, false⟩,
 ⟨25, .ln false (.t 24), none, false⟩,
 ⟨26, .ar .sub false (.t 25) (.k (.sc (.int .i64 1))), none, false⟩,
 ⟨27, .ca (.k (.cl 88 [])) [(.t 23), (.k (.sc (.int .i64 0))), (.t 26)], none, false⟩,
 ⟨28, .nt (.t 27), none, false⟩])
 (.ite (.t 28)
 (.seq
 (.reg false [⟨4, .mv (.k (.sc (.bool false))), none, false⟩])
 .ret)
 .skip))
 (.seq
 (.reg true [⟨29, .mv (.t 5), none, false⟩,
 ⟨30, .ar .gtr false (.t 29) (.k (.sc (.int .i64 0))), none, false⟩,
 ⟨31, .mv (.t 30), none, false⟩,
 ⟨32, .mv (.t 0), (some (31, true)), false⟩,
 ⟨33, .mv (.t 1), (some (31, true)), false⟩,
 ⟨34, .mv (.t 5), (some (31, true)), false⟩,
 ⟨35, .ia 1 (.t 33) (.t 34), (some (31, true)), false⟩,
 ⟨36, .ld 1 false (.t 35), (some (31, true)), false⟩,
 ⟨37, .ia 9 (.t 32) (.t 36), (some (31, true)), false⟩,
 ⟨38, .fa 1 (.t 37), (some (31, true)), false⟩,
 ⟨39, .ld 1 false (.t 38), (some (31, true)), false⟩,
 ⟨40, .mv (.t 0), (some (31, true)), false⟩,
 ⟨41, .mv (.t 1), (some (31, true)), false⟩,
 ⟨42, .mv (.t 5), (some (31, true)), false⟩,
 ⟨43, .ar .sub false (.t 42) (.k (.sc (.int .i64 1))), (some (31, true)), false⟩,
 ⟨44, .ia 1 (.t 41) (.t 43), (some (31, true)), false⟩,
 ⟨45, .ld 1 false (.t 44), (some (31, true)), false⟩,
 ⟨46, .ia 9 (.t 40) (.t 45), (some (31, true)), false⟩,
 ⟨47, .fa 1 (.t 46), (some (31, true)), false⟩,
 ⟨48, .ld 1 false (.t 47), (some (31, true)), false⟩,
 ⟨49, .ar .neq false (.t 39) (.t 48), (some (31, true)), false⟩,
 ⟨50, .mv (.t 49), (some (31, true)), false⟩,
 ⟨51, .mv (.t 0), (some (50, false)), false⟩,
 ⟨52, .mv (.t 1), (some (50, false)), false⟩,
 ⟨53, .mv (.t 5), (some (50, false)), false⟩,
 ⟨54, .ia 1 (.t 52) (.t 53), (some (50, false)), false⟩,
 ⟨55, .ld 1 false (.t 54), (some (50, false)), false⟩,
 ⟨56, .ia 9 (.t 51) (.t 55), (some (50, false)), false⟩,
 ⟨57, .fa 2 (.t 56), (some (50, false)), false⟩,
 ⟨58, .ld 1 false (.t 57), (some (50, false)), false⟩,
 ⟨59, .mv (.t 0), (some (50, false)), false⟩,
 ⟨60, .mv (.t 1), (some (50, false)), false⟩,
 ⟨61, .mv (.t 5), (some (50, false)), false⟩,
 ⟨62, .ar .sub false (.t 61) (.k (.sc (.int .i64 1))), (some (50, false)), false⟩,
 ⟨63, .ia 1 (.t 60) (.t 62), (some (50, false)), false⟩,
 ⟨64, .ld 1 false (.t 63), (some (50, false)), false⟩,
 ⟨65, .ia 9 (.t 59) (.t 64), (some (50, false)), false⟩,
 ⟨66, .fa 2 (.t 65), (some (50, false)), false⟩,
 ⟨67, .ld 1 false (.t 66), (some (50, false)), false⟩,
 ⟨68, .ar .add false (.t 67) (.k (.sc (.int .i64 1))), (some (50, false)), false⟩,
 ⟨69, .ar .neq false (.t 58) (.t 68), (some (50, false)), false⟩,
 ⟨70, .pk (.t 50) (.k (.sc (.bool true))) (.t 69), (some (31, true)), false⟩,
 ⟨71, .pk (.t 31) (.t 70) (.k (.sc (.bool false))), none, false⟩])
 (.ite (.t 71)
 (.seq
 (.reg false [⟨4, .mv (.k (.sc (.bool false))), none, false⟩])
 .ret)
 .skip))))
 (.reg false [⟨18, .mv (.t 5), none, false⟩,
 ⟨19, .ar .add false (.t 18) (.k (.sc (.int .i64 1))), none, false⟩,
 ⟨5, .mv (.t 19), none, false⟩])))
def b52_1 : IC := w52_1
theorem u52_1 (call : CallF) (st : St) : evC call b52_1 st = evC call w52_1 st := rfl
attribute [simp] u52_1 w52_1
def i52 : Ev.Fn := ⟨2, 72, [.tmp 4],
 (.seq
 (.reg false [⟨4, .mv (.k (.sc (.bool false))), none, false⟩])
 (.seq
 (.seq
 (.reg false [⟨6, .mv (.t 0), none, false⟩,
 ⟨7, .ca (.k (.cl 32 [])) [(.t 6)], none, false⟩,
 ⟨8, .nt (.t 7), none, false⟩,
 ⟨9, .mv (.t 8), none, false⟩,
 ⟨10, .mv (.t 1), (some (9, false)), false⟩,
 ⟨11, .ln false (.t 10), (some (9, false)), false⟩,
 ⟨12, .ar .eql false (.t 11) (.k (.sc (.int .i64 0))), (some (9, false)), false⟩,
 ⟨13, .pk (.t 9) (.k (.sc (.bool true))) (.t 12), none, false⟩])
 (.ite (.t 13)
 (.seq
 (.reg false [⟨4, .mv (.k (.sc (.bool false))), none, false⟩])
 .ret)
 .skip))
 (.seq
 (.seq
 (.reg false [⟨5, .mv (.k (.sc (.int .i64 0))), none, false⟩])
 (.cln [] [4]
 (.block 0
 (.loop [0, 1, 5] b52_1))))
 (.seq
 (.reg false [⟨4, .mv (.k (.sc (.bool true))), none, false⟩])
 .ret))))⟩
attribute [simp] i52
set_option maxRecDepth 1000000 in
theorem c52 : cFn Try.prog 52 [[], [0, 1, 5], [], [4]] = some i52 := by kernel_rfl
theorem e52 : enterOk Try.prog 52 = true := by kernel_rfl
def w53_1 : IC :=
(.seq
 (.seq
 (.reg false [⟨8, .mv (.t 4), none, false⟩,
 ⟨9, .mv (.t 0), none, false⟩,
 ⟨10, .ln false (.t 9), none, false⟩,
 ⟨11, .ar .lss false (.t 8) (.t 10), none, false⟩])
 (.ite (.t 11)
 .skip
 (.exit 0)))
 (.seq
 (.block 1
 (.reg false [⟨14, .mv (.t 3), none, false⟩,
 ⟨15, .mv (.t 4), none, false⟩,
 ⟨16, .mv (.t 0), none, false⟩,
 ⟨17, .mv (.t 4), none, false⟩,
 ⟨18, .ia 1 (.t 16) (.t 17), none, false⟩,
 ⟨19, .ld 1 false (.t 18), none, false⟩,
 ⟨20, .ia 1 (.t 14) (.t 15), none, false⟩,
 ⟨1, .so 1 (.t 20) (.t 19), none, true⟩]))
 (.reg false [⟨12, .mv (.t 4), none, false⟩,
 ⟨13, .ar .add false (.t 12) (.k (.sc (.int .i64 1))), none, false⟩,
 ⟨4, .mv (.t 13), none, false⟩])))
def b53_1 : IC := w53_1
theorem u53_1 (call : CallF) (st : St) : evC call b53_1 st = evC call w53_1 st := rfl
attribute [simp] u53_1 w53_1
def i53 : Ev.Fn := ⟨1, 22, [.tmp 2],
 (.seq
 (.reg false [⟨2, .mv (.k .nl), none, false⟩])
 (.seq
 (.reg false [⟨5, .mv (.t 0), none, false⟩,
 ⟨6, .ln false (.t 5), none, false⟩,
 ⟨7, .ms 2 1 [(.sc (.int .i64 0))] (.t 6), none, false⟩,
 ⟨3, .mv (.t 7), none, false⟩])
 (.seq
 (.seq
 (.reg false [⟨4, .mv (.k (.sc (.int .i64 0))), none, false⟩])
 (.cln [3] [2]
 (.block 0
 (.loop [0, 3, 4] b53_1))))
 (.seq
 (.reg false [⟨21, .mv (.t 3), none, false⟩,
 ⟨2, .mv (.t 21), none, false⟩])
 .ret))))⟩
attribute [simp] i53
set_option maxRecDepth 1000000 in
theorem c53 : cFn Try.prog 53 [[], [0, 3, 4], [3], [2]] = some i53 := by kernel_rfl
theorem e53 : enterOk Try.prog 53 = true := by kernel_rfl
def w54_1 : IC :=
(.seq
 (.reg false [⟨19, .ar .lss false (.t 18) (.t 17), none, false⟩])
 (.seq
 (.ite (.t 19)
 .skip
 (.exit 0))
 (.seq
 (.block 1
 (.seq
 (.reg false [⟨20, .mv (.t 18), none, false⟩,
 ⟨21, .ia 1 (.t 16) (.t 18), none, false⟩,
 ⟨22, .ld 1 false (.t 21), none, false⟩,
 ⟨5, .mv (.t 20), none, false⟩,
 ⟨6, .mv (.t 22), none, false⟩])
 (.seq
 (.seq
 (.reg false [⟨23, .mv (.t 6), none, false⟩,
 ⟨24, .mv (.t 0), none, false⟩,
 ⟨25, .ln false (.t 24), none, false⟩,
 ⟨26, .ar .sub false (.t 25) (.k (.sc (.int .i64 1))), none, false⟩,
 ⟨27, .ca (.k (.cl 84 [])) [(.t 23), (.k (.sc (.int .i64 0))), (.t 26)], none, false⟩,
 ⟨28, .nt (.t 27), none, false⟩])
 (.ite (.t 28)
 (.seq
 (.reg false [⟨4, .mv (.k (.sc (.bool false))), none, false⟩])
 .ret)
 .skip))
 (.seq
 (.reg false [⟨29, .mv (.t 5), none, false⟩,
 ⟨30, .ar .gtr false (.t 29) (.k (.sc (.int .i64 0))), none, false⟩])
 (.ite (.t 30)
 (.seq
 (.reg false [⟨31, .mv (.t 0), none, false⟩,
 ⟨32, .mv (.t 1), none, false⟩,
 ⟨33, .mv (.t 5), none, false⟩,
 ⟨34, .ar .sub false (.t 33) (.k (.sc (.int .i64 1))), none, false⟩,
 ⟨35, .ia 1 (.t 32) (.t 34), none, false⟩,
 ⟨36, .ld 1 false (.t 35), none, false⟩,
 ⟨37, .ia 9 (.t 31) (.t 36), none, false⟩,
 ⟨38, .ld 9 true (.t 37), none, false⟩,
 ⟨7, .al [(.sc (.string ⟨#[]⟩)), (.sc (.string ⟨#[]⟩)), (.sc (.int .i64 0)), (.sc (.string ⟨#[]⟩)), (.sc (.int .i64 0)), (.sc (.int .i64 0)), (.sc (.int .i64 0)), (.sc (.int .i64 0)), .nl], none, false⟩,
 ⟨1, .so 9 (.t 7) (.t 38), none, true⟩])
 (.seq
 (.reg true [⟨39, .mv (.t 0), none, false⟩,
 ⟨40, .mv (.t 6), none, false⟩,
 ⟨41, .ia 9 (.t 39) (.t 40), none, false⟩,
 ⟨42, .fa 1 (.t 41), none, false⟩,
 ⟨43, .ld 1 false (.t 42), none, false⟩,
 ⟨44, .fa 1 (.t 7), none, false⟩,
 ⟨45, .ld 1 false (.t 44), none, false⟩,
 ⟨46, .ar .neq false (.t 43) (.t 45), none, false⟩,
 ⟨47, .mv (.t 46), none, false⟩,
 ⟨48, .mv (.t 0), (some (47, false)), false⟩,
 ⟨49, .mv (.t 6), (some (47, false)), false⟩,
 ⟨50, .ia 9 (.t 48) (.t 49), (some (47, false)), false⟩,
 ⟨51, .fa 2 (.t 50), (some (47, false)), false⟩,
 ⟨52, .ld 1 false (.t 51), (some (47, false)), false⟩,
 ⟨53, .fa 2 (.t 7), (some (47, false)), false⟩,
 ⟨54, .ld 1 false (.t 53), (some (47, false)), false⟩,
 ⟨55, .ar .add false (.t 54) (.k (.sc (.int .i64 1))), (some (47, false)), false⟩,
 ⟨56, .ar .neq false (.t 52) (.t 55), (some (47, false)), false⟩,
 ⟨57, .pk (.t 47) (.k (.sc (.bool true))) (.t 56), none, false⟩])
 (.ite (.t 57)
 (.seq
 (.reg false [⟨4, .mv (.k (.sc (.bool false))), none, false⟩])
 .ret)
 .skip)))
 .skip)))))
 (.reg false [⟨58, .ar .add false (.t 18) (.k (.sc (.int .i64 1))), none, false⟩,
 ⟨18, .mv (.t 58), none, false⟩]))))
def b54_1 : IC := w54_1
theorem u54_1 (call : CallF) (st : St) : evC call b54_1 st = evC call w54_1 st := rfl
attribute [simp] u54_1 w54_1
def i54 : Ev.Fn := ⟨2, 59, [.tmp 4],
 (.seq
 (.reg false [⟨4, .mv (.k (.sc (.bool false))), none, false⟩])
 (.seq
 (.seq
 (.reg false [⟨8, .mv (.t 0), none, false⟩,
 ⟨9, .ca (.k (.cl 34 [])) [(.t 8)], none, false⟩,
 ⟨10, .nt (.t 9), none, false⟩,
 ⟨11, .mv (.t 10), none, false⟩,
 ⟨12, .mv (.t 1), (some (11, false)), false⟩,
 ⟨13, .ln false (.t 12), (some (11, false)), false⟩,
 ⟨14, .ar .eql false (.t 13) (.k (.sc (.int .i64 0))), (some (11, false)), false⟩,
 ⟨15, .pk (.t 11) (.k (.sc (.bool true))) (.t 14), none, false⟩])
 (.ite (.t 15)
 (.seq
 (.reg false [⟨4, .mv (.k (.sc (.bool false))), none, false⟩])
 .ret)
 .skip))
 (.seq
 (.seq
 (.reg false [⟨16, .mv (.t 1), none, false⟩,
 ⟨17, .ln false (.t 16), none, false⟩,
 ⟨18, .mv (.k (.sc (.int .i64 0))), none, false⟩])
 (.cln [] [4]
 (.block 0
 (.loop [0, 1, 16, 17, 18] b54_1))))
 (.seq
 (.reg false [⟨4, .mv (.k (.sc (.bool true))), none, false⟩])
 .ret))))⟩
attribute [simp] i54
set_option maxRecDepth 1000000 in
theorem c54 : cFn Try.prog 54 [[], [0, 1, 16, 17, 18], [], [4]] = some i54 := by kernel_rfl
theorem e54 : enterOk Try.prog 54 = true := by kernel_rfl
def w55_1 : IC :=
(.seq
 (.seq
 (.reg false [⟨11, .mv (.t 5), none, false⟩,
 ⟨12, .mv (.t 0), none, false⟩,
 ⟨13, .ln false (.t 12), none, false⟩,
 ⟨14, .ar .lss false (.t 11) (.t 13), none, false⟩])
 (.ite (.t 14)
 .skip
 (.exit 0)))
 (.seq
 (.block 1
 (.seq
 (.reg true [⟨17, .mv (.t 0), none, false⟩,
 ⟨18, .mv (.t 5), none, false⟩,
 ⟨19, .ia 1 (.t 17) (.t 18), none, false⟩,
 ⟨20, .ld 1 false (.t 19), none, false⟩,
 ⟨21, .mv (.t 1), none, false⟩,
 ⟨22, .mv (.t 5), none, false⟩,
 ⟨23, .ia 1 (.t 21) (.t 22), none, false⟩,
 ⟨24, .ld 1 false (.t 23), none, false⟩,
 ⟨25, .ar .neq false (.t 20) (.t 24), none, false⟩])
 (.ite (.t 25)
 (.seq
 (.reg false [⟨4, .mv (.k (.sc (.bool false))), none, false⟩])
 .ret)
 .skip)))
 (.reg false [⟨15, .mv (.t 5), none, false⟩,
 ⟨16, .ar .add false (.t 15) (.k (.sc (.int .i64 1))), none, false⟩,
 ⟨5, .mv (.t 16), none, false⟩])))
def b55_1 : IC := w55_1
theorem u55_1 (call : CallF) (st : St) : evC call b55_1 st = evC call w55_1 st := rfl
attribute [simp] u55_1 w55_1
def i55 : Ev.Fn := ⟨2, 26, [.tmp 4],
 (.seq
 (.reg false [⟨4, .mv (.k (.sc (.bool false))), none, false⟩])
 (.seq
 (.seq
 (.reg false [⟨6, .mv (.t 0), none, false⟩,
 ⟨7, .ln false (.t 6), none, false⟩,
 ⟨8, .mv (.t 1), none, false⟩,
 ⟨9, .ln false (.t 8), none, false⟩,
 ⟨10, .ar .neq false (.t 7) (.t 9), none, false⟩])
 (.ite (.t 10)
 (.seq
 (.reg false [⟨4, .mv (.k (.sc (.bool false))), none, false⟩])
 .ret)
 .skip))
 (.seq
 (.seq
 (.reg false [⟨5, .mv (.k (.sc (.int .i64 0))), none, false⟩])
 (.cln [] [4]
 (.block 0
 (.loop [0, 1, 5] b55_1))))
 (.seq
 (.reg false [⟨4, .mv (.k (.sc (.bool true))), none, false⟩])
 .ret))))⟩
attribute [simp] i55
set_option maxRecDepth 1000000 in
theorem c55 : cFn Try.prog 55 [[], [0, 1, 5], [], [4]] = some i55 := by kernel_rfl
theorem e55 : enterOk Try.prog 55 = true := by kernel_rfl
def w56_1 : IC :=
(.seq
 (.seq
 (.reg false [⟨41, .mv (.t 7), none, false⟩,
 ⟨42, .fa 8 (.t 2), none, false⟩,
 ⟨43, .ld 1 false (.t 42), none, false⟩,
 ⟨44, .ln false (.t 43), none, false⟩,
 ⟨45, .ar .lss false (.t 41) (.t 44), none, false⟩])
 (.ite (.t 45)
 .skip
 (.exit 0)))
 (.seq
 (.block 1
 (.seq
 (.reg false [⟨48, .fa 8 (.t 2), none, false⟩,
 ⟨49, .ld 1 false (.t 48), none, false⟩,
 ⟨50, .mv (.t 7), none, false⟩,
 ⟨51, .ia 4 (.t 49) (.t 50), none, false⟩,
 ⟨52, .ld 4 true (.t 51), none, false⟩,
 ⟨8, .al [(.sc (.int .i64 0)), (.sc (.int .i64 0)), (.sc (.int .i64 0)), (.sc (.int .i64 0))], none, false⟩,
 ⟨1, .so 4 (.t 8) (.t 52), none, true⟩])
 (.seq
 (.seq
 (.reg false [⟨53, .ca (.k (.cl 89 [])) [(.t 8), (.t 3)], none, false⟩,
 ⟨54, .nt (.t 53), none, false⟩])
 (.ite (.t 54)
 (.exit 1)
 .skip))
 (.seq
 (.reg false [⟨55, .fa 0 (.t 8), none, false⟩,
 ⟨56, .ld 1 false (.t 55), none, false⟩,
 ⟨57, .fa 0 (.t 3), none, false⟩,
 ⟨58, .ld 1 false (.t 57), none, false⟩,
 ⟨59, .ca (.k (.cl 108 [])) [(.t 56), (.t 58)], none, false⟩,
 ⟨9, .mv (.t 59), none, false⟩])
 (.seq
 (.reg false [⟨60, .fa 1 (.t 8), none, false⟩,
 ⟨61, .ld 1 false (.t 60), none, false⟩,
 ⟨62, .fa 1 (.t 3), none, false⟩,
 ⟨63, .ld 1 false (.t 62), none, false⟩,
 ⟨64, .ca (.k (.cl 108 [])) [(.t 61), (.t 63)], none, false⟩,
 ⟨10, .mv (.t 64), none, false⟩])
 (.seq
 (.reg false [⟨65, .fa 0 (.t 8), none, false⟩,
 ⟨66, .ld 1 false (.t 65), none, false⟩,
 ⟨67, .fa 2 (.t 8), none, false⟩,
 ⟨68, .ld 1 false (.t 67), none, false⟩,
 ⟨69, .ar .add false (.t 66) (.t 68), none, false⟩,
 ⟨70, .fa 0 (.t 3), none, false⟩,
 ⟨71, .ld 1 false (.t 70), none, false⟩,
 ⟨72, .fa 2 (.t 3), none, false⟩,
 ⟨73, .ld 1 false (.t 72), none, false⟩,
 ⟨74, .ar .add false (.t 71) (.t 73), none, false⟩,
 ⟨75, .ca (.k (.cl 109 [])) [(.t 69), (.t 74)], none, false⟩,
 ⟨76, .mv (.t 9), none, false⟩,
 ⟨77, .ar .sub false (.t 75) (.t 76), none, false⟩,
 ⟨11, .mv (.t 77), none, false⟩])
 (.seq
 (.reg false [⟨78, .fa 1 (.t 8), none, false⟩,
 ⟨79, .ld 1 false (.t 78), none, false⟩,
 ⟨80, .fa 3 (.t 8), none, false⟩,
 ⟨81, .ld 1 false (.t 80), none, false⟩,
 ⟨82, .ar .add false (.t 79) (.t 81), none, false⟩,
 ⟨83, .fa 1 (.t 3), none, false⟩,
 ⟨84, .ld 1 false (.t 83), none, false⟩,
 ⟨85, .fa 3 (.t 3), none, false⟩,
 ⟨86, .ld 1 false (.t 85), none, false⟩,
 ⟨87, .ar .add false (.t 84) (.t 86), none, false⟩,
 ⟨88, .ca (.k (.cl 109 [])) [(.t 82), (.t 87)], none, false⟩,
 ⟨89, .mv (.t 10), none, false⟩,
 ⟨90, .ar .sub false (.t 88) (.t 89), none, false⟩,
 ⟨12, .mv (.t 90), none, false⟩])
 (.reg false [⟨91, .fa 8 (.t 6), none, false⟩,
 ⟨92, .ld 1 false (.t 91), none, false⟩,
 ⟨93, .mv (.t 9), none, false⟩,
 ⟨94, .fa 0 (.t 3), none, false⟩,
 ⟨95, .ld 1 false (.t 94), none, false⟩,
 ⟨96, .ar .sub false (.t 93) (.t 95), none, false⟩,
 ⟨97, .mv (.t 10), none, false⟩,
 ⟨98, .fa 1 (.t 3), none, false⟩,
 ⟨99, .ld 1 false (.t 98), none, false⟩,
 ⟨100, .ar .sub false (.t 97) (.t 99), none, false⟩,
 ⟨101, .mv (.t 11), none, false⟩,
 ⟨102, .mv (.t 12), none, false⟩,
 ⟨103, .bd [(.sc (.int .i64 0)), (.sc (.int .i64 0)), (.sc (.int .i64 0)), (.sc (.int .i64 0))] [(0, 1, (.t 96)), (1, 1, (.t 100)), (2, 1, (.t 101)), (3, 1, (.t 102))], none, false⟩,
 ⟨104, .bs 91 4 [(.sc (.int .i64 0)), (.sc (.int .i64 0)), (.sc (.int .i64 0)), (.sc (.int .i64 0))] 1 [(0, (.t 103))], none, false⟩,
 ⟨105, .ap 91 4 false (.t 92) (.t 104), none, false⟩,
 ⟨106, .fa 8 (.t 6), none, false⟩,
 ⟨1, .so 1 (.t 106) (.t 105), none, true⟩]))))))))
 (.reg false [⟨46, .mv (.t 7), none, false⟩,
 ⟨47, .ar .add false (.t 46) (.k (.sc (.int .i64 1))), none, false⟩,
 ⟨7, .mv (.t 47), none, false⟩])))
def b56_1 : IC := w56_1
theorem u56_1 (call : CallF) (st : St) : evC call b56_1 st = evC call w56_1 st := rfl
attribute [simp] u56_1 w56_1
def i56 : Ev.Fn := ⟨2, 108, [.cell 4 9 true, .tmp 5],
 (.seq
 (.reg false [⟨2, .bx (.t 0), none, false⟩,
 ⟨3, .bx (.t 1), none, false⟩,
 ⟨4, .al [(.sc (.string ⟨#[]⟩)), (.sc (.string ⟨#[]⟩)), (.sc (.int .i64 0)), (.sc (.string ⟨#[]⟩)), (.sc (.int .i64 0)), (.sc (.int .i64 0)), (.sc (.int .i64 0)), (.sc (.int .i64 0)), .nl], none, false⟩,
 ⟨5, .mv (.k (.sc (.int .i64 0))), none, false⟩])
 (.seq
 (.seq
 (.reg false [⟨13, .ca (.k (.cl 82 [])) [(.t 2)], none, false⟩,
 ⟨14, .nt (.t 13), none, false⟩])
 (.ite (.t 14)
 (.seq
 (.reg false [⟨15, .bd [(.sc (.string ⟨#[]⟩)), (.sc (.string ⟨#[]⟩)), (.sc (.int .i64 0)), (.sc (.string ⟨#[]⟩)), (.sc (.int .i64 0)), (.sc (.int .i64 0)), (.sc (.int .i64 0)), (.sc (.int .i64 0)), .nl] [], none, false⟩,
 ⟨1, .so 9 (.t 4) (.t 15), none, true⟩,
 ⟨5, .mv (.k (.sc (.int .i64 1))), none, false⟩])
 .ret)
 .skip))
 (.seq
 (.seq
 (.reg false [⟨16, .fa 6 (.t 2), none, false⟩,
 ⟨17, .ld 1 false (.t 16), none, false⟩,
 ⟨18, .fa 7 (.t 2), none, false⟩,
 ⟨19, .ld 1 false (.t 18), none, false⟩,
 ⟨20, .ca (.k (.cl 107 [])) [(.t 3), (.t 17), (.t 19)], none, false⟩,
 ⟨21, .nt (.t 20), none, false⟩])
 (.ite (.t 21)
 (.seq
 (.reg false [⟨22, .bd [(.sc (.string ⟨#[]⟩)), (.sc (.string ⟨#[]⟩)), (.sc (.int .i64 0)), (.sc (.string ⟨#[]⟩)), (.sc (.int .i64 0)), (.sc (.int .i64 0)), (.sc (.int .i64 0)), (.sc (.int .i64 0)), .nl] [], none, false⟩,
 ⟨1, .so 9 (.t 4) (.t 22), none, true⟩,
 ⟨5, .mv (.k (.sc (.int .i64 2))), none, false⟩])
 .ret)
 .skip))
 (.seq
 (.seq
 (.reg false [⟨23, .fa 2 (.t 3), none, false⟩,
 ⟨24, .ld 1 false (.t 23), none, false⟩,
 ⟨25, .ar .lss false (.t 24) (.k (.sc (.int .i64 10))), none, false⟩,
 ⟨26, .mv (.t 25), none, false⟩,
 ⟨27, .fa 3 (.t 3), (some (26, false)), false⟩,
 ⟨28, .ld 1 false (.t 27), (some (26, false)), false⟩,
 ⟨29, .ar .lss false (.t 28) (.k (.sc (.int .i64 10))), (some (26, false)), false⟩,
 ⟨30, .pk (.t 26) (.k (.sc (.bool true))) (.t 29), none, false⟩])
 (.ite (.t 30)
 (.seq
 (.reg false [⟨31, .bd [(.sc (.string ⟨#[]⟩)), (.sc (.string ⟨#[]⟩)), (.sc (.int .i64 0)), (.sc (.string ⟨#[]⟩)), (.sc (.int .i64 0)), (.sc (.int .i64 0)), (.sc (.int .i64 0)), (.sc (.int .i64 0)), .nl] [], none, false⟩,
 ⟨1, .so 9 (.t 4) (.t 31), none, true⟩,
 ⟨5, .mv (.k (.sc (.int .i64 6))), none, false⟩])
 .ret)
 .skip))
 (.seq
 (.reg false [⟨32, .ld 9 true (.t 2), none, false⟩,
 ⟨6, .al [(.sc (.string ⟨#[]⟩)), (.sc (.string ⟨#[]⟩)), (.sc (.int .i64 0)), (.sc (.string ⟨#[]⟩)), (.sc (.int .i64 0)), (.sc (.int .i64 0)), (.sc (.int .i64 0)), (.sc (.int .i64 0)), .nl], none, false⟩,
 ⟨1, .so 9 (.t 6) (.t 32), none, true⟩])
 (.seq
 (.reg false [⟨33, .fa 2 (.t 3), none, false⟩,
 ⟨34, .ld 1 false (.t 33), none, false⟩,
 ⟨35, .fa 6 (.t 6), none, false⟩,
 ⟨1, .so 1 (.t 35) (.t 34), none, true⟩])
 (.seq
 (.reg false [⟨36, .fa 3 (.t 3), none, false⟩,
 ⟨37, .ld 1 false (.t 36), none, false⟩,
 ⟨38, .fa 7 (.t 6), none, false⟩,
 ⟨1, .so 1 (.t 38) (.t 37), none, true⟩])
 (.seq
 (.reg false [⟨39, .bs 91 4 [(.sc (.int .i64 0)), (.sc (.int .i64 0)), (.sc (.int .i64 0)), (.sc (.int .i64 0))] 0 [], none, false⟩,
 ⟨40, .fa 8 (.t 6), none, false⟩,
 ⟨1, .so 1 (.t 40) (.t 39), none, true⟩])
 (.seq
 (.seq
 (.reg false [⟨7, .mv (.k (.sc (.int .i64 0))), none, false⟩])
 (.cln [4, 6] [4, 5]
 (.block 0
 (.loop [2, 3, 4, 6, 7] b56_1))))
 (.seq
 (.reg false [⟨107, .ld 9 true (.t 6), none, false⟩,
 ⟨1, .so 9 (.t 4) (.t 107), none, true⟩,
 ⟨5, .mv (.k (.sc (.int .i64 0))), none, false⟩])
 .ret))))))))))⟩
attribute [simp] i56
set_option maxRecDepth 1000000 in
theorem c56 : cFn Try.prog 56 [[], [2, 3, 4, 6, 7], [4, 6], [4, 5]] = some i56 := by kernel_rfl
theorem e56 : enterOk Try.prog 56 = true := by kernel_rfl
def i57 : Ev.Fn := ⟨1, 17, [.cell 2 4 true],
 (.seq
 (.reg false [⟨1, .bx (.t 0), none, false⟩,
 ⟨2, .al [(.sc (.int .i64 0)), (.sc (.int .i64 0)), (.sc (.int .i64 0)), (.sc (.int .i64 0))], none, false⟩])
 (.seq
 (.reg false [⟨3, .al [(.sc (.int .i64 0)), (.sc (.int .i64 0)), (.sc (.int .i64 0)), (.sc (.int .i64 0))], none, false⟩])
 (.seq
 (.reg false [⟨4, .fa 0 (.t 1), none, false⟩,
 ⟨5, .ld 1 false (.t 4), none, false⟩,
 ⟨6, .fa 0 (.t 3), none, false⟩,
 ⟨1, .so 1 (.t 6) (.t 5), none, true⟩])
 (.seq
 (.reg false [⟨7, .fa 1 (.t 1), none, false⟩,
 ⟨8, .ld 1 false (.t 7), none, false⟩,
 ⟨9, .fa 1 (.t 3), none, false⟩,
 ⟨1, .so 1 (.t 9) (.t 8), none, true⟩])
 (.seq
 (.reg false [⟨10, .fa 2 (.t 1), none, false⟩,
 ⟨11, .ld 1 false (.t 10), none, false⟩,
 ⟨12, .fa 2 (.t 3), none, false⟩,
 ⟨1, .so 1 (.t 12) (.t 11), none, true⟩])
 (.seq
 (.reg false [⟨13, .fa 3 (.t 1), none, false⟩,
 ⟨14, .ld 1 false (.t 13), none, false⟩,
 ⟨15, .fa 3 (.t 3), none, false⟩,
 ⟨1, .so 1 (.t 15) (.t 14), none, true⟩])
 (.seq
 (.reg false [⟨16, .ld 4 true (.t 3), none, false⟩,
 ⟨1, .so 4 (.t 2) (.t 16), none, true⟩])
 .ret)))))))⟩
attribute [simp] i57
set_option maxRecDepth 1000000 in
theorem c57 : cFn Try.prog 57 [[]] = some i57 := by kernel_rfl
theorem e57 : enterOk Try.prog 57 = true := by kernel_rfl
def w58_1 : IC :=
(.seq
 (.reg false [⟨52, .ar .lss false (.t 51) (.t 50), none, false⟩])
 (.seq
 (.ite (.t 52)
 .skip
 (.exit 1))
 (.seq
 (.block 2
 (.seq
 (.reg false [⟨53, .ia 4 (.t 49) (.t 51), none, false⟩,
 ⟨54, .ld 4 true (.t 53), none, false⟩,
 ⟨8, .al [(.sc (.int .i64 0)), (.sc (.int .i64 0)), (.sc (.int .i64 0)), (.sc (.int .i64 0))], none, false⟩,
 ⟨1, .so 4 (.t 8) (.t 54), none, true⟩])
 (.seq
 (.reg false [⟨56, .ld 4 true (.t 8), none, false⟩,
 ⟨57, .ld 4 true (.t 3), none, false⟩,
 ⟨58, .ca (.k (.cl 110 [])) [(.t 56), (.t 57)], none, false⟩,
 ⟨55, .mv (.t 58), none, false⟩,
 ⟨59, .xt (.t 55) 0, none, false⟩,
 ⟨60, .xt (.t 55) 1, none, false⟩,
 ⟨9, .al [(.sc (.int .i64 0)), (.sc (.int .i64 0)), (.sc (.int .i64 0)), (.sc (.int .i64 0))], none, false⟩,
 ⟨1, .so 4 (.t 9) (.t 59), none, true⟩,
 ⟨10, .mv (.t 60), none, false⟩])
 (.seq
 (.reg false [⟨61, .mv (.t 10), none, false⟩])
 (.ite (.t 61)
 (.seq
 (.reg false [⟨62, .fa 0 (.t 9), none, false⟩,
 ⟨63, .ld 1 false (.t 62), none, false⟩,
 ⟨64, .fa 0 (.t 3), none, false⟩,
 ⟨65, .ld 1 false (.t 64), none, false⟩,
 ⟨66, .ar .sub false (.t 63) (.t 65), none, false⟩,
 ⟨67, .fa 0 (.t 9), none, false⟩,
 ⟨1, .so 1 (.t 67) (.t 66), none, true⟩])
 (.seq
 (.reg false [⟨68, .fa 1 (.t 9), none, false⟩,
 ⟨69, .ld 1 false (.t 68), none, false⟩,
 ⟨70, .fa 1 (.t 3), none, false⟩,
 ⟨71, .ld 1 false (.t 70), none, false⟩,
 ⟨72, .ar .sub false (.t 69) (.t 71), none, false⟩,
 ⟨73, .fa 1 (.t 9), none, false⟩,
 ⟨1, .so 1 (.t 73) (.t 72), none, true⟩])
 (.reg false [⟨74, .fa 8 (.t 6), none, false⟩,
 ⟨75, .ld 1 false (.t 74), none, false⟩,
 ⟨76, .ld 4 true (.t 9), none, false⟩,
 ⟨77, .bs 91 4 [(.sc (.int .i64 0)), (.sc (.int .i64 0)), (.sc (.int .i64 0)), (.sc (.int .i64 0))] 1 [(0, (.t 76))], none, false⟩,
 ⟨78, .ap 91 4 false (.t 75) (.t 77), none, false⟩,
 ⟨79, .fa 8 (.t 6), none, false⟩,
 ⟨1, .so 1 (.t 79) (.t 78), none, true⟩])))
 .skip)))))
 (.reg false [⟨80, .ar .add false (.t 51) (.k (.sc (.int .i64 1))), none, false⟩,
 ⟨51, .mv (.t 80), none, false⟩]))))
def b58_1 : IC := w58_1
theorem u58_1 (call : CallF) (st : St) : evC call b58_1 st = evC call w58_1 st := rfl
attribute [simp] u58_1 w58_1
def i58 : Ev.Fn := ⟨2, 82, [.cell 4 9 true, .tmp 5],
 (.seq
 (.reg false [⟨2, .bx (.t 0), none, false⟩,
 ⟨3, .bx (.t 1), none, false⟩,
 ⟨4, .al [(.sc (.string ⟨#[]⟩)), (.sc (.string ⟨#[]⟩)), (.sc (.int .i64 0)), (.sc (.string ⟨#[]⟩)), (.sc (.int .i64 0)), (.sc (.int .i64 0)), (.sc (.int .i64 0)), (.sc (.int .i64 0)), .nl], none, false⟩,
 ⟨5, .mv (.k (.sc (.int .i64 0))), none, false⟩])
 (.seq
 (.block 0
 (.seq
 (.reg false [⟨12, .ld 9 true (.t 2), none, false⟩,
 ⟨13, .ca (.k (.cl 28 [])) [(.t 12)], none, false⟩,
 ⟨14, .nt (.t 13), none, false⟩,
 ⟨11, .mv (.t 14), none, false⟩])
 (.ite (.t 11)
 (.seq
 (.reg false [⟨15, .bd [(.sc (.string ⟨#[]⟩)), (.sc (.string ⟨#[]⟩)), (.sc (.int .i64 0)), (.sc (.string ⟨#[]⟩)), (.sc (.int .i64 0)), (.sc (.int .i64 0)), (.sc (.int .i64 0)), (.sc (.int .i64 0)), .nl] [], none, false⟩,
 ⟨1, .so 9 (.t 4) (.t 15), none, true⟩,
 ⟨5, .mv (.k (.sc (.int .i64 1))), none, false⟩])
 .ret)
 (.seq
 (.reg false [⟨17, .ld 4 true (.t 3), none, false⟩,
 ⟨18, .fa 6 (.t 2), none, false⟩,
 ⟨19, .ld 1 false (.t 18), none, false⟩,
 ⟨20, .fa 7 (.t 2), none, false⟩,
 ⟨21, .ld 1 false (.t 20), none, false⟩,
 ⟨22, .ca (.k (.cl 87 [])) [(.t 17), (.t 19), (.t 21)], none, false⟩,
 ⟨23, .nt (.t 22), none, false⟩,
 ⟨16, .mv (.t 23), none, false⟩])
 (.ite (.t 16)
 (.seq
 (.reg false [⟨24, .bd [(.sc (.string ⟨#[]⟩)), (.sc (.string ⟨#[]⟩)), (.sc (.int .i64 0)), (.sc (.string ⟨#[]⟩)), (.sc (.int .i64 0)), (.sc (.int .i64 0)), (.sc (.int .i64 0)), (.sc (.int .i64 0)), .nl] [], none, false⟩,
 ⟨1, .so 9 (.t 4) (.t 24), none, true⟩,
 ⟨5, .mv (.k (.sc (.int .i64 2))), none, false⟩])
 .ret)
 (.seq
 (.reg false [⟨26, .fa 2 (.t 3), none, false⟩,
 ⟨27, .ld 1 false (.t 26), none, false⟩,
 ⟨28, .ar .lss false (.t 27) (.k (.sc (.int .i64 10))), none, false⟩,
 ⟨29, .mv (.t 28), none, false⟩,
 ⟨30, .fa 3 (.t 3), (some (29, false)), false⟩,
 ⟨31, .ld 1 false (.t 30), (some (29, false)), false⟩,
 ⟨32, .ar .lss false (.t 31) (.k (.sc (.int .i64 10))), (some (29, false)), false⟩,
 ⟨33, .pk (.t 29) (.k (.sc (.bool true))) (.t 32), none, false⟩,
 ⟨25, .mv (.t 33), none, false⟩])
 (.ite (.t 25)
 (.seq
 (.reg false [⟨34, .bd [(.sc (.string ⟨#[]⟩)), (.sc (.string ⟨#[]⟩)), (.sc (.int .i64 0)), (.sc (.string ⟨#[]⟩)), (.sc (.int .i64 0)), (.sc (.int .i64 0)), (.sc (.int .i64 0)), (.sc (.int .i64 0)), .nl] [], none, false⟩,
 ⟨1, .so 9 (.t 4) (.t 34), none, true⟩,
 ⟨5, .mv (.k (.sc (.int .i64 6))), none, false⟩])
 .ret)
 .skip)))))))
 (.seq
 (.reg false [⟨35, .fa 0 (.t 2), none, false⟩,
 ⟨36, .ld 1 false (.t 35), none, false⟩,
 ⟨37, .fa 1 (.t 2), none, false⟩,
 ⟨38, .ld 1 false (.t 37), none, false⟩,
 ⟨39, .fa 2 (.t 2), none, false⟩,
 ⟨40, .ld 1 false (.t 39), none, false⟩,
 ⟨41, .fa 3 (.t 2), none, false⟩,
 ⟨42, .ld 3 true (.t 41), none, false⟩,
 ⟨43, .fa 2 (.t 3), none, false⟩,
 ⟨44, .ld 1 false (.t 43), none, false⟩,
 ⟨45, .fa 3 (.t 3), none, false⟩,
 ⟨46, .ld 1 false (.t 45), none, false⟩,
 ⟨47, .bd [(.sc (.string ⟨#[]⟩)), (.sc (.string ⟨#[]⟩)), (.sc (.int .i64 0)), (.sc (.string ⟨#[]⟩)), (.sc (.int .i64 0)), (.sc (.int .i64 0)), (.sc (.int .i64 0)), (.sc (.int .i64 0)), .nl] [(0, 1, (.t 36)), (1, 1, (.t 38)), (2, 1, (.t 40)), (3, 3, (.t 42)), (6, 1, (.t 44)), (7, 1, (.t 46))], none, false⟩,
 ⟨6, .al [(.sc (.string ⟨#[]⟩)), (.sc (.string ⟨#[]⟩)), (.sc (.int .i64 0)), (.sc (.string ⟨#[]⟩)), (.sc (.int .i64 0)), (.sc (.int .i64 0)), (.sc (.int .i64 0)), (.sc (.int .i64 0)), .nl], none, false⟩,
 ⟨1, .so 9 (.t 6) (.t 47), none, true⟩])
 (.seq
 (.seq
 (.reg false [⟨48, .fa 8 (.t 2), none, false⟩,
 ⟨49, .ld 1 false (.t 48), none, false⟩,
 ⟨50, .ln false (.t 49), none, false⟩,
 ⟨51, .mv (.k (.sc (.int .i64 0))), none, false⟩])
 (.cln [4, 6] [4, 5]
 (.block 1
 (.loop [3, 4, 6, 49, 50, 51] b58_1))))
 (.seq
 (.reg false [⟨81, .ld 9 true (.t 6), none, false⟩,
 ⟨1, .so 9 (.t 4) (.t 81), none, true⟩,
 ⟨5, .mv (.k (.sc (.int .i64 0))), none, false⟩])
 .ret)))))⟩
attribute [simp] i58
set_option maxRecDepth 1000000 in
theorem c58 : cFn Try.prog 58 [[], [3, 4, 6, 49, 50, 51], [4, 6], [4, 5]] = some i58 := by kernel_rfl
theorem e58 : enterOk Try.prog 58 = true := by kernel_rfl
def w59_1 : IC :=
(.seq
 (.seq
 (.reg false [⟨15, .mv (.t 7), none, false⟩,
 ⟨16, .mv (.t 0), none, false⟩,
 ⟨17, .ln false (.t 16), none, false⟩,
 ⟨18, .ar .lss false (.t 15) (.t 17), none, false⟩])
 (.ite (.t 18)
 .skip
 (.exit 0)))
 (.seq
 (.block 1
 (.seq
 (.reg false [⟨21, .mv (.t 0), none, false⟩,
 ⟨22, .mv (.t 7), none, false⟩,
 ⟨23, .ia 9 (.t 21) (.t 22), none, false⟩,
 ⟨24, .fa 3 (.t 23), none, false⟩,
 ⟨25, .fa 0 (.t 24), none, false⟩,
 ⟨26, .ld 1 false (.t 25), none, false⟩,
 ⟨27, .mv (.t 1), none, false⟩,
 ⟨28, .ar .eql false (.t 26) (.t 27), none, false⟩])
 (.ite (.t 28)
 (.reg false [⟨29, .mv (.t 6), none, false⟩,
 ⟨30, .mv (.t 7), none, false⟩,
 ⟨31, .bs 2 1 [(.sc (.int .i64 0))] 1 [(0, (.t 30))], none, false⟩,
 ⟨32, .ap 2 1 false (.t 29) (.t 31), none, false⟩,
 ⟨6, .mv (.t 32), none, false⟩])
 .skip)))
 (.reg false [⟨19, .mv (.t 7), none, false⟩,
 ⟨20, .ar .add false (.t 19) (.k (.sc (.int .i64 1))), none, false⟩,
 ⟨7, .mv (.t 20), none, false⟩])))
def b59_1 : IC := w59_1
theorem u59_1 (call : CallF) (st : St) : evC call b59_1 st = evC call w59_1 st := rfl
attribute [simp] u59_1 w59_1
def i59 : Ev.Fn := ⟨2, 34, [.tmp 4, .tmp 5],
 (.seq
 (.reg false [⟨4, .mv (.k .nl), none, false⟩,
 ⟨5, .mv (.k (.sc (.int .i64 0))), none, false⟩])
 (.seq
 (.seq
 (.reg false [⟨8, .mv (.t 0), none, false⟩,
 ⟨9, .ca (.k (.cl 91 [])) [(.t 8)], none, false⟩,
 ⟨10, .nt (.t 9), none, false⟩])
 (.ite (.t 10)
 (.seq
 (.reg false [⟨4, .mv (.k .nl), none, false⟩,
 ⟨5, .mv (.k (.sc (.int .i64 1))), none, false⟩])
 .ret)
 .skip))
 (.seq
 (.seq
 (.reg false [⟨11, .mv (.t 1), none, false⟩,
 ⟨12, .ca (.k (.cl 111 [])) [(.t 11)], none, false⟩,
 ⟨13, .ar .lss false (.t 12) (.k (.sc (.int .i64 0))), none, false⟩])
 (.ite (.t 13)
 (.seq
 (.reg false [⟨4, .mv (.k .nl), none, false⟩,
 ⟨5, .mv (.k (.sc (.int .i64 3))), none, false⟩])
 .ret)
 .skip))
 (.seq
 (.reg false [⟨14, .bs 2 1 [(.sc (.int .i64 0))] 0 [], none, false⟩,
 ⟨6, .mv (.t 14), none, false⟩])
 (.seq
 (.seq
 (.reg false [⟨7, .mv (.k (.sc (.int .i64 0))), none, false⟩])
 (.cln [6] [4, 5]
 (.block 0
 (.loop [0, 1, 6, 7] b59_1))))
 (.seq
 (.reg false [⟨33, .mv (.t 6), none, false⟩,
 ⟨4, .mv (.t 33), none, false⟩,
 ⟨5, .mv (.k (.sc (.int .i64 0))), none, false⟩])
 .ret))))))⟩
attribute [simp] i59
set_option maxRecDepth 1000000 in
theorem c59 : cFn Try.prog 59 [[], [0, 1, 6, 7], [6], [4, 5]] = some i59 := by kernel_rfl
theorem e59 : enterOk Try.prog 59 = true := by kernel_rfl
def w60_1 : IC :=
(.seq
 (.reg false [⟨25, .ar .lss false (.t 24) (.t 23), none, false⟩])
 (.seq
 (.ite (.t 25)
 .skip
 (.exit 0))
 (.seq
 (.block 1
 (.seq
 (.reg false [⟨26, .mv (.t 24), none, false⟩,
 ⟨27, .ia 9 (.t 22) (.t 24), none, false⟩,
 ⟨28, .ld 9 true (.t 27), none, false⟩,
 ⟨10, .al [(.sc (.string ⟨#[]⟩)), (.sc (.string ⟨#[]⟩)), (.sc (.int .i64 0)), (.sc (.string ⟨#[]⟩)), (.sc (.int .i64 0)), (.sc (.int .i64 0)), (.sc (.int .i64 0)), (.sc (.int .i64 0)), .nl], none, false⟩,
 ⟨9, .mv (.t 26), none, false⟩,
 ⟨1, .so 9 (.t 10) (.t 28), none, true⟩])
 (.seq
 (.reg false [⟨29, .fa 3 (.t 10), none, false⟩,
 ⟨30, .fa 0 (.t 29), none, false⟩,
 ⟨31, .ld 1 false (.t 30), none, false⟩,
 ⟨32, .mv (.t 1), none, false⟩,
 ⟨33, .ar .eql false (.t 31) (.t 32), none, false⟩])
 (.ite (.t 33)
 (.reg false [⟨34, .mv (.t 8), none, false⟩,
 ⟨35, .mv (.t 9), none, false⟩,
 ⟨36, .bs 2 1 [(.sc (.int .i64 0))] 1 [(0, (.t 35))], none, false⟩,
 ⟨37, .ap 2 1 false (.t 34) (.t 36), none, false⟩,
 ⟨8, .mv (.t 37), none, false⟩])
 .skip))))
 (.reg false [⟨38, .ar .add false (.t 24) (.k (.sc (.int .i64 1))), none, false⟩,
 ⟨24, .mv (.t 38), none, false⟩]))))
def b60_1 : IC := w60_1
theorem u60_1 (call : CallF) (st : St) : evC call b60_1 st = evC call w60_1 st := rfl
attribute [simp] u60_1 w60_1
def i60 : Ev.Fn := ⟨2, 40, [.tmp 4, .tmp 5],
 (.seq
 (.reg false [⟨4, .mv (.k .nl), none, false⟩,
 ⟨5, .mv (.k (.sc (.int .i64 0))), none, false⟩])
 (.seq
 (.seq
 (.reg false [⟨11, .mv (.t 0), none, false⟩,
 ⟨12, .ca (.k (.cl 34 [])) [(.t 11)], none, false⟩,
 ⟨13, .nt (.t 12), none, false⟩])
 (.ite (.t 13)
 (.seq
 (.reg false [⟨4, .mv (.k .nl), none, false⟩,
 ⟨5, .mv (.k (.sc (.int .i64 1))), none, false⟩])
 .ret)
 .skip))
 (.seq
 (.seq
 (.reg false [⟨15, .mv (.t 1), none, false⟩,
 ⟨16, .ca (.k (.cl 112 [])) [(.t 15)], none, false⟩,
 ⟨14, .mv (.t 16), none, false⟩,
 ⟨17, .xt (.t 14) 0, none, false⟩,
 ⟨18, .xt (.t 14) 1, none, false⟩,
 ⟨6, .mv (.t 17), none, false⟩,
 ⟨7, .mv (.t 18), none, false⟩])
 (.seq
 (.reg false [⟨19, .mv (.t 7), none, false⟩,
 ⟨20, .nt (.t 19), none, false⟩])
 (.ite (.t 20)
 (.seq
 (.reg false [⟨4, .mv (.k .nl), none, false⟩,
 ⟨5, .mv (.k (.sc (.int .i64 3))), none, false⟩])
 .ret)
 .skip)))
 (.seq
 (.reg false [⟨21, .bs 2 1 [(.sc (.int .i64 0))] 0 [], none, false⟩,
 ⟨8, .mv (.t 21), none, false⟩])
 (.seq
 (.seq
 (.reg false [⟨22, .mv (.t 0), none, false⟩,
 ⟨23, .ln false (.t 22), none, false⟩,
 ⟨24, .mv (.k (.sc (.int .i64 0))), none, false⟩])
 (.cln [8] [4, 5]
 (.block 0
 (.loop [1, 8, 22, 23, 24] b60_1))))
 (.seq
 (.reg false [⟨39, .mv (.t 8), none, false⟩,
 ⟨4, .mv (.t 39), none, false⟩,
 ⟨5, .mv (.k (.sc (.int .i64 0))), none, false⟩])
 .ret))))))⟩
attribute [simp] i60
set_option maxRecDepth 1000000 in
theorem c60 : cFn Try.prog 60 [[], [1, 8, 22, 23, 24], [8], [4, 5]] = some i60 := by kernel_rfl
theorem e60 : enterOk Try.prog 60 = true := by kernel_rfl
def w61_1 : IC :=
(.seq
 (.seq
 (.reg false [⟨6, .mv (.t 5), none, false⟩,
 ⟨7, .mv (.t 0), none, false⟩,
 ⟨8, .ln false (.t 7), none, false⟩,
 ⟨9, .ar .lss false (.t 6) (.t 8), none, false⟩])
 (.ite (.t 9)
 .skip
 (.exit 0)))
 (.seq
 (.block 1
 (.seq
 (.reg false [⟨12, .mv (.t 0), none, false⟩,
 ⟨13, .mv (.t 5), none, false⟩,
 ⟨14, .mv (.t 1), none, false⟩,
 ⟨15, .ca (.k (.cl 113 [])) [(.t 14)], none, false⟩,
 ⟨16, .ia 9 (.t 12) (.t 13), none, false⟩,
 ⟨17, .fa 0 (.t 16), none, false⟩,
 ⟨1, .so 1 (.t 17) (.t 15), none, true⟩])
 (.seq
 (.reg false [⟨18, .mv (.t 1), none, false⟩,
 ⟨19, .ar .add false (.t 18) (.k (.sc (.int .i64 1))), none, false⟩,
 ⟨1, .mv (.t 19), none, false⟩])
 (.seq
 (.reg false [⟨20, .mv (.t 0), none, false⟩,
 ⟨21, .mv (.t 5), none, false⟩,
 ⟨22, .mv (.t 1), none, false⟩,
 ⟨23, .ca (.k (.cl 113 [])) [(.t 22)], none, false⟩,
 ⟨24, .ia 9 (.t 20) (.t 21), none, false⟩,
 ⟨25, .fa 1 (.t 24), none, false⟩,
 ⟨1, .so 1 (.t 25) (.t 23), none, true⟩])
 (.seq
 (.reg false [⟨26, .mv (.t 1), none, false⟩,
 ⟨27, .ar .add false (.t 26) (.k (.sc (.int .i64 1))), none, false⟩,
 ⟨1, .mv (.t 27), none, false⟩])
 (.seq
 (.reg false [⟨28, .mv (.t 0), none, false⟩,
 ⟨29, .mv (.t 5), none, false⟩,
 ⟨30, .mv (.t 1), none, false⟩,
 ⟨31, .ia 9 (.t 28) (.t 29), none, false⟩,
 ⟨32, .fa 2 (.t 31), none, false⟩,
 ⟨1, .so 1 (.t 32) (.t 30), none, true⟩])
 (.seq
 (.reg false [⟨33, .mv (.t 1), none, false⟩,
 ⟨34, .ar .add false (.t 33) (.k (.sc (.int .i64 1))), none, false⟩,
 ⟨1, .mv (.t 34), none, false⟩])
 (.seq
 (.reg false [⟨35, .mv (.t 0), none, false⟩,
 ⟨36, .mv (.t 5), none, false⟩,
 ⟨37, .mv (.t 1), none, false⟩,
 ⟨38, .ca (.k (.cl 113 [])) [(.t 37)], none, false⟩,
 ⟨39, .ia 9 (.t 35) (.t 36), none, false⟩,
 ⟨40, .fa 3 (.t 39), none, false⟩,
 ⟨41, .fa 0 (.t 40), none, false⟩,
 ⟨1, .so 1 (.t 41) (.t 38), none, true⟩])
 (.seq
 (.reg false [⟨42, .mv (.t 1), none, false⟩,
 ⟨43, .ar .add false (.t 42) (.k (.sc (.int .i64 1))), none, false⟩,
 ⟨1, .mv (.t 43), none, false⟩])
 (.seq
 (.reg false [⟨44, .mv (.t 0), none, false⟩,
 ⟨45, .mv (.t 5), none, false⟩,
 ⟨46, .mv (.t 1), none, false⟩,
 ⟨47, .ia 9 (.t 44) (.t 45), none, false⟩,
 ⟨48, .fa 3 (.t 47), none, false⟩,
 ⟨49, .fa 1 (.t 48), none, false⟩,
 ⟨1, .so 1 (.t 49) (.t 46), none, true⟩])
 (.seq
 (.reg false [⟨50, .mv (.t 1), none, false⟩,
 ⟨51, .ar .add false (.t 50) (.k (.sc (.int .i64 1))), none, false⟩,
 ⟨1, .mv (.t 51), none, false⟩])
 (.seq
 (.reg false [⟨52, .mv (.t 0), none, false⟩,
 ⟨53, .mv (.t 5), none, false⟩,
 ⟨54, .mv (.t 1), none, false⟩,
 ⟨55, .ia 9 (.t 52) (.t 53), none, false⟩,
 ⟨56, .fa 3 (.t 55), none, false⟩,
 ⟨57, .fa 2 (.t 56), none, false⟩,
 ⟨1, .so 1 (.t 57) (.t 54), none, true⟩])
 (.seq
 (.reg false [⟨58, .mv (.t 1), none, false⟩,
 ⟨59, .ar .add false (.t 58) (.k (.sc (.int .i64 1))), none, false⟩,
 ⟨1, .mv (.t 59), none, false⟩])
 (.seq
 (.reg false [⟨60, .mv (.t 0), none, false⟩,
 ⟨61, .mv (.t 5), none, false⟩,
 ⟨62, .mv (.t 1), none, false⟩,
 ⟨63, .ia 9 (.t 60) (.t 61), none, false⟩,
 ⟨64, .fa 6 (.t 63), none, false⟩,
 ⟨1, .so 1 (.t 64) (.t 62), none, true⟩])
 (.seq
 (.reg false [⟨65, .mv (.t 1), none, false⟩,
 ⟨66, .ar .add false (.t 65) (.k (.sc (.int .i64 1))), none, false⟩,
 ⟨1, .mv (.t 66), none, false⟩])
 (.seq
 (.reg false [⟨67, .mv (.t 0), none, false⟩,
 ⟨68, .mv (.t 5), none, false⟩,
 ⟨69, .mv (.t 1), none, false⟩,
 ⟨70, .ia 9 (.t 67) (.t 68), none, false⟩,
 ⟨71, .fa 7 (.t 70), none, false⟩,
 ⟨1, .so 1 (.t 71) (.t 69), none, true⟩])
 (.seq
 (.reg false [⟨72, .mv (.t 1), none, false⟩,
 ⟨73, .ar .add false (.t 72) (.k (.sc (.int .i64 1))), none, false⟩,
 ⟨1, .mv (.t 73), none, false⟩])
 (.rgw [⟨74, .mv (.t 0), none, false⟩,
 ⟨75, .mv (.t 5), none, false⟩,
 ⟨76, .ia 9 (.t 74) (.t 75), none, false⟩,
 ⟨77, .fa 8 (.t 76), none, false⟩,
 ⟨78, .ld 1 false (.t 77), none, false⟩,
 ⟨79, .mv (.t 1), none, false⟩,
 ⟨80, .cw 100 [] [(.t 78), (.t 79)], none, false⟩,
 ⟨1, .mv (.t 80), none, false⟩]))))))))))))))))))
 (.reg false [⟨10, .mv (.t 5), none, false⟩,
 ⟨11, .ar .add false (.t 10) (.k (.sc (.int .i64 1))), none, false⟩,
 ⟨5, .mv (.t 11), none, false⟩])))
def b61_1 : IC := w61_1
theorem u61_1 (call : CallF) (st : St) : evC call b61_1 st = evC call w61_1 st := rfl
attribute [simp] u61_1 w61_1
def i61 : Ev.Fn := ⟨2, 82, [.tmp 4],
 (.seq
 (.reg false [⟨4, .mv (.k (.sc (.int .i64 0))), none, false⟩])
 (.seq
 (.seq
 (.reg false [⟨5, .mv (.k (.sc (.int .i64 0))), none, false⟩])
 (.cln [1, 100000] [4, 100000]
 (.block 0
 (.loop [0, 1, 5, 100000] b61_1))))
 (.seq
 (.reg false [⟨81, .mv (.t 1), none, false⟩,
 ⟨4, .mv (.t 81), none, false⟩])
 .ret)))⟩
attribute [simp] i61
set_option maxRecDepth 1000000 in
theorem c61 : cFn Try.prog 61 [[100], [0, 1, 5, 100000], [1, 100000], [4, 100000]] = some i61 := by kernel_rfl
theorem e61 : enterOk Try.prog 61 = true := by kernel_rfl
def w62_1 : IC :=
(.seq
 (.seq
 (.reg false [⟨6, .mv (.t 5), none, false⟩,
 ⟨7, .mv (.t 0), none, false⟩,
 ⟨8, .ln false (.t 7), none, false⟩,
 ⟨9, .ar .lss false (.t 6) (.t 8), none, false⟩])
 (.ite (.t 9)
 .skip
 (.exit 0)))
 (.seq
 (.block 1
 (.seq
 (.reg false [⟨12, .mv (.t 0), none, false⟩,
 ⟨13, .mv (.t 5), none, false⟩,
 ⟨14, .mv (.t 1), none, false⟩,
 ⟨15, .ia 1 (.t 12) (.t 13), none, false⟩,
 ⟨1, .so 1 (.t 15) (.t 14), none, true⟩])
 (.reg false [⟨16, .mv (.t 1), none, false⟩,
 ⟨17, .ar .add false (.t 16) (.k (.sc (.int .i64 1))), none, false⟩,
 ⟨1, .mv (.t 17), none, false⟩])))
 (.reg false [⟨10, .mv (.t 5), none, false⟩,
 ⟨11, .ar .add false (.t 10) (.k (.sc (.int .i64 1))), none, false⟩,
 ⟨5, .mv (.t 11), none, false⟩])))
def b62_1 : IC := w62_1
theorem u62_1 (call : CallF) (st : St) : evC call b62_1 st = evC call w62_1 st := rfl
attribute [simp] u62_1 w62_1
def i62 : Ev.Fn := ⟨2, 19, [.tmp 4],
 (.seq
 (.reg false [⟨4, .mv (.k (.sc (.int .i64 0))), none, false⟩])
 (.seq
 (.seq
 (.reg false [⟨5, .mv (.k (.sc (.int .i64 0))), none, false⟩])
 (.cln [1, 100000] [4, 100000]
 (.block 0
 (.loop [0, 1, 5, 100000] b62_1))))
 (.seq
 (.reg false [⟨18, .mv (.t 1), none, false⟩,
 ⟨4, .mv (.t 18), none, false⟩])
 .ret)))⟩
attribute [simp] i62
set_option maxRecDepth 1000000 in
theorem c62 : cFn Try.prog 62 [[], [0, 1, 5, 100000], [1, 100000], [4, 100000]] = some i62 := by kernel_rfl
theorem e62 : enterOk Try.prog 62 = true := by kernel_rfl
def w63_1 : IC :=
(.seq
 (.seq
 (.reg false [⟨6, .mv (.t 5), none, false⟩,
 ⟨7, .mv (.t 0), none, false⟩,
 ⟨8, .ln false (.t 7), none, false⟩,
 ⟨9, .ar .lss false (.t 6) (.t 8), none, false⟩])
 (.ite (.t 9)
 .skip
 (.exit 0)))
 (.seq
 (.block 1
 (.seq
 (.seq
 (.reg false [⟨12, .mv (.t 0), none, false⟩,
 ⟨13, .mv (.t 5), none, false⟩,
 ⟨14, .ia 1 (.t 12) (.t 13), none, false⟩,
 ⟨15, .ld 1 false (.t 14), none, false⟩,
 ⟨16, .mv (.t 1), none, false⟩,
 ⟨17, .ar .neq false (.t 15) (.t 16), none, false⟩])
 (.ite (.t 17)
 (.seq
 (.reg false [⟨4, .mv (.k (.sc (.int .i64 (-1)))), none, false⟩])
 .ret)
 .skip))
 (.reg false [⟨18, .mv (.t 1), none, false⟩,
 ⟨19, .ar .add false (.t 18) (.k (.sc (.int .i64 1))), none, false⟩,
 ⟨1, .mv (.t 19), none, false⟩])))
 (.reg false [⟨10, .mv (.t 5), none, false⟩,
 ⟨11, .ar .add false (.t 10) (.k (.sc (.int .i64 1))), none, false⟩,
 ⟨5, .mv (.t 11), none, false⟩])))
def b63_1 : IC := w63_1
theorem u63_1 (call : CallF) (st : St) : evC call b63_1 st = evC call w63_1 st := rfl
attribute [simp] u63_1 w63_1
def i63 : Ev.Fn := ⟨2, 21, [.tmp 4],
 (.seq
 (.reg false [⟨4, .mv (.k (.sc (.int .i64 0))), none, false⟩])
 (.seq
 (.seq
 (.reg false [⟨5, .mv (.k (.sc (.int .i64 0))), none, false⟩])
 (.cln [1] [4]
 (.block 0
 (.loop [0, 1, 5] b63_1))))
 (.seq
 (.reg false [⟨20, .mv (.t 1), none, false⟩,
 ⟨4, .mv (.t 20), none, false⟩])
 .ret)))⟩
attribute [simp] i63
set_option maxRecDepth 1000000 in
theorem c63 : cFn Try.prog 63 [[], [0, 1, 5], [1], [4]] = some i63 := by kernel_rfl
theorem e63 : enterOk Try.prog 63 = true := by kernel_rfl
def w64_1 : IC :=
(.seq
 (.seq
 (.reg false [⟨22, .mv (.t 11), none, false⟩,
 ⟨23, .mv (.t 0), none, false⟩,
 ⟨24, .ln false (.t 23), none, false⟩,
 ⟨25, .ar .lss false (.t 22) (.t 24), none, false⟩])
 (.ite (.t 25)
 .skip
 (.exit 0)))
 (.seq
 (.block 1
 (.seq
 (.seq
 (.reg false [⟨28, .mv (.t 11), none, false⟩,
 ⟨29, .mv (.t 1), none, false⟩,
 ⟨30, .ar .eql false (.t 28) (.t 29), none, false⟩])
 (.ite (.t 30)
 (.exit 1)
 .skip))
 (.seq
 (.reg true [⟨31, .mv (.t 0), none, false⟩,
 ⟨32, .mv (.t 1), none, false⟩,
 ⟨33, .ia 9 (.t 31) (.t 32), none, false⟩,
 ⟨34, .mv (.t 0), none, false⟩,
 ⟨35, .mv (.t 11), none, false⟩,
 ⟨36, .ia 9 (.t 34) (.t 35), none, false⟩,
 ⟨37, .mv (.t 2), none, false⟩,
 ⟨38, .ca (.k (.cl 95 [])) [(.t 33), (.t 36), (.t 37)], none, false⟩,
 ⟨12, .mv (.t 38), none, false⟩])
 (.seq
 (.reg false [⟨39, .mv (.t 9), none, false⟩,
 ⟨40, .ar .lss false (.t 39) (.k (.sc (.int .i64 0))), none, false⟩,
 ⟨41, .mv (.t 40), none, false⟩,
 ⟨42, .mv (.t 12), (some (41, false)), false⟩,
 ⟨43, .mv (.t 10), (some (41, false)), false⟩,
 ⟨44, .ar .lss false (.t 42) (.t 43), (some (41, false)), false⟩,
 ⟨45, .pk (.t 41) (.k (.sc (.bool true))) (.t 44), none, false⟩])
 (.ite (.t 45)
 (.seq
 (.reg false [⟨46, .mv (.t 11), none, false⟩,
 ⟨9, .mv (.t 46), none, false⟩])
 (.reg false [⟨47, .mv (.t 12), none, false⟩,
 ⟨10, .mv (.t 47), none, false⟩]))
 .skip)))))
 (.reg false [⟨26, .mv (.t 11), none, false⟩,
 ⟨27, .ar .add false (.t 26) (.k (.sc (.int .i64 1))), none, false⟩,
 ⟨11, .mv (.t 27), none, false⟩])))
def b64_1 : IC := w64_1
theorem u64_1 (call : CallF) (st : St) : evC call b64_1 st = evC call w64_1 st := rfl
attribute [simp] u64_1 w64_1
def i64 : Ev.Fn := ⟨3, 52, [.tmp 6, .tmp 7, .tmp 8],
 (.seq
 (.reg false [⟨6, .mv (.k (.sc (.int .i64 0))), none, false⟩,
 ⟨7, .mv (.k (.sc (.int .i64 0))), none, false⟩,
 ⟨8, .mv (.k (.sc (.int .i64 0))), none, false⟩])
 (.seq
 (.seq
 (.reg false [⟨13, .mv (.t 0), none, false⟩,
 ⟨14, .ca (.k (.cl 32 [])) [(.t 13)], none, false⟩,
 ⟨15, .nt (.t 14), none, false⟩])
 (.ite (.t 15)
 (.seq
 (.reg false [⟨6, .mv (.k (.sc (.int .i64 0))), none, false⟩,
 ⟨7, .mv (.k (.sc (.int .i64 0))), none, false⟩,
 ⟨8, .mv (.k (.sc (.int .i64 1))), none, false⟩])
 .ret)
 .skip))
 (.seq
 (.seq
 (.reg false [⟨16, .mv (.t 1), none, false⟩,
 ⟨17, .mv (.t 0), none, false⟩,
 ⟨18, .ln false (.t 17), none, false⟩,
 ⟨19, .ar .sub false (.t 18) (.k (.sc (.int .i64 1))), none, false⟩,
 ⟨20, .ca (.k (.cl 88 [])) [(.t 16), (.k (.sc (.int .i64 0))), (.t 19)], none, false⟩,
 ⟨21, .nt (.t 20), none, false⟩])
 (.ite (.t 21)
 (.seq
 (.reg false [⟨6, .mv (.k (.sc (.int .i64 0))), none, false⟩,
 ⟨7, .mv (.k (.sc (.int .i64 0))), none, false⟩,
 ⟨8, .mv (.k (.sc (.int .i64 2))), none, false⟩])
 .ret)
 .skip))
 (.seq
 (.reg false [⟨9, .mv (.k (.sc (.int .i64 (-1)))), none, false⟩])
 (.seq
 (.reg false [⟨10, .mv (.k (.sc (.int .i64 0))), none, false⟩])
 (.seq
 (.seq
 (.reg false [⟨11, .mv (.k (.sc (.int .i64 0))), none, false⟩])
 (.cln [9, 10] [6, 7, 8]
 (.block 0
 (.loop [0, 1, 2, 9, 10, 11] b64_1))))
 (.seq
 (.seq
 (.reg false [⟨48, .mv (.t 9), none, false⟩,
 ⟨49, .ar .lss false (.t 48) (.k (.sc (.int .i64 0))), none, false⟩])
 (.ite (.t 49)
 (.seq
 (.reg false [⟨6, .mv (.k (.sc (.int .i64 0))), none, false⟩,
 ⟨7, .mv (.k (.sc (.int .i64 0))), none, false⟩,
 ⟨8, .mv (.k (.sc (.int .i64 3))), none, false⟩])
 .ret)
 .skip))
 (.seq
 (.reg false [⟨50, .mv (.t 9), none, false⟩,
 ⟨51, .mv (.t 10), none, false⟩,
 ⟨6, .mv (.t 50), none, false⟩,
 ⟨7, .mv (.t 51), none, false⟩,
 ⟨8, .mv (.k (.sc (.int .i64 0))), none, false⟩])
 .ret))))))))⟩
attribute [simp] i64
set_option maxRecDepth 1000000 in
theorem c64 : cFn Try.prog 64 [[], [0, 1, 2, 9, 10, 11], [9, 10], [6, 7, 8]] = some i64 := by kernel_rfl
theorem e64 : enterOk Try.prog 64 = true := by kernel_rfl
def w65_1 : IC :=
(.seq
 (.reg false [⟨32, .ar .lss false (.t 31) (.t 30), none, false⟩])
 (.seq
 (.ite (.t 32)
 .skip
 (.exit 1))
 (.seq
 (.block 2
 (.seq
 (.reg false [⟨33, .mv (.t 31), none, false⟩,
 ⟨34, .ia 9 (.t 29) (.t 31), none, false⟩,
 ⟨35, .ld 9 true (.t 34), none, false⟩,
 ⟨12, .al [(.sc (.string ⟨#[]⟩)), (.sc (.string ⟨#[]⟩)), (.sc (.int .i64 0)), (.sc (.string ⟨#[]⟩)), (.sc (.int .i64 0)), (.sc (.int .i64 0)), (.sc (.int .i64 0)), (.sc (.int .i64 0)), .nl], none, false⟩,
 ⟨11, .mv (.t 33), none, false⟩,
 ⟨1, .so 9 (.t 12) (.t 35), none, true⟩])
 (.seq
 (.seq
 (.reg false [⟨36, .mv (.t 11), none, false⟩,
 ⟨37, .mv (.t 1), none, false⟩,
 ⟨38, .ar .eql false (.t 36) (.t 37), none, false⟩])
 (.ite (.t 38)
 (.exit 2)
 .skip))
 (.seq
 (.reg true [⟨39, .mv (.t 0), none, false⟩,
 ⟨40, .mv (.t 1), none, false⟩,
 ⟨41, .ia 9 (.t 39) (.t 40), none, false⟩,
 ⟨42, .ld 9 true (.t 41), none, false⟩,
 ⟨43, .ld 9 true (.t 12), none, false⟩,
 ⟨44, .mv (.t 2), none, false⟩,
 ⟨45, .ca (.k (.cl 96 [])) [(.t 42), (.t 43), (.t 44)], none, false⟩,
 ⟨13, .mv (.t 45), none, false⟩])
 (.seq
 (.reg false [⟨46, .mv (.t 9), none, false⟩,
 ⟨47, .ar .lss false (.t 46) (.k (.sc (.int .i64 0))), none, false⟩,
 ⟨48, .mv (.t 47), none, false⟩,
 ⟨49, .mv (.t 13), (some (48, false)), false⟩,
 ⟨50, .mv (.t 10), (some (48, false)), false⟩,
 ⟨51, .ar .lss false (.t 49) (.t 50), (some (48, false)), false⟩,
 ⟨52, .pk (.t 48) (.k (.sc (.bool true))) (.t 51), none, false⟩])
 (.ite (.t 52)
 (.reg false [⟨53, .mv (.t 11), none, false⟩,
 ⟨54, .mv (.t 13), none, false⟩,
 ⟨9, .mv (.t 53), none, false⟩,
 ⟨10, .mv (.t 54), none, false⟩])
 .skip))))))
 (.reg false [⟨55, .ar .add false (.t 31) (.k (.sc (.int .i64 1))), none, false⟩,
 ⟨31, .mv (.t 55), none, false⟩]))))
def b65_1 : IC := w65_1
theorem u65_1 (call : CallF) (st : St) : evC call b65_1 st = evC call w65_1 st := rfl
attribute [simp] u65_1 w65_1
def i65 : Ev.Fn := ⟨3, 58, [.tmp 6, .tmp 7, .tmp 8],
 (.seq
 (.reg false [⟨6, .mv (.k (.sc (.int .i64 0))), none, false⟩,
 ⟨7, .mv (.k (.sc (.int .i64 0))), none, false⟩,
 ⟨8, .mv (.k (.sc (.int .i64 0))), none, false⟩])
 (.seq
 (.block 0
 (.seq
 (.reg false [⟨15, .mv (.t 0), none, false⟩,
 ⟨16, .ca (.k (.cl 34 [])) [(.t 15)], none, false⟩,
 ⟨17, .nt (.t 16), none, false⟩,
 ⟨14, .mv (.t 17), none, false⟩])
 (.ite (.t 14)
 (.seq
 (.reg false [⟨6, .mv (.k (.sc (.int .i64 0))), none, false⟩,
 ⟨7, .mv (.k (.sc (.int .i64 0))), none, false⟩,
 ⟨8, .mv (.k (.sc (.int .i64 1))), none, false⟩])
 .ret)
 (.seq
 (.reg false [⟨19, .mv (.t 1), none, false⟩,
 ⟨20, .mv (.t 0), none, false⟩,
 ⟨21, .ln false (.t 20), none, false⟩,
 ⟨22, .ar .sub false (.t 21) (.k (.sc (.int .i64 1))), none, false⟩,
 ⟨23, .ca (.k (.cl 84 [])) [(.t 19), (.k (.sc (.int .i64 0))), (.t 22)], none, false⟩,
 ⟨24, .nt (.t 23), none, false⟩,
 ⟨18, .mv (.t 24), none, false⟩])
 (.ite (.t 18)
 (.seq
 (.reg false [⟨6, .mv (.k (.sc (.int .i64 0))), none, false⟩,
 ⟨7, .mv (.k (.sc (.int .i64 0))), none, false⟩,
 ⟨8, .mv (.k (.sc (.int .i64 2))), none, false⟩])
 .ret)
 (.seq
 (.reg false [⟨26, .mv (.t 0), none, false⟩,
 ⟨27, .ln false (.t 26), none, false⟩,
 ⟨28, .ar .eql false (.t 27) (.k (.sc (.int .i64 1))), none, false⟩,
 ⟨25, .mv (.t 28), none, false⟩])
 (.ite (.t 25)
 (.seq
 (.reg false [⟨6, .mv (.k (.sc (.int .i64 0))), none, false⟩,
 ⟨7, .mv (.k (.sc (.int .i64 0))), none, false⟩,
 ⟨8, .mv (.k (.sc (.int .i64 3))), none, false⟩])
 .ret)
 .skip)))))))
 (.seq
 (.reg false [⟨9, .mv (.k (.sc (.int .i64 (-1)))), none, false⟩,
 ⟨10, .mv (.k (.sc (.int .i64 0))), none, false⟩])
 (.seq
 (.seq
 (.reg false [⟨29, .mv (.t 0), none, false⟩,
 ⟨30, .ln false (.t 29), none, false⟩,
 ⟨31, .mv (.k (.sc (.int .i64 0))), none, false⟩])
 (.cln [9, 10] [6, 7, 8]
 (.block 1
 (.loop [0, 1, 2, 9, 10, 29, 30, 31] b65_1))))
 (.seq
 (.reg false [⟨56, .mv (.t 9), none, false⟩,
 ⟨57, .mv (.t 10), none, false⟩,
 ⟨6, .mv (.t 56), none, false⟩,
 ⟨7, .mv (.t 57), none, false⟩,
 ⟨8, .mv (.k (.sc (.int .i64 0))), none, false⟩])
 .ret)))))⟩
attribute [simp] i65
set_option maxRecDepth 1000000 in
theorem c65 : cFn Try.prog 65 [[], [0, 1, 2, 9, 10, 29, 30, 31], [9, 10], [6, 7, 8]] = some i65 := by kernel_rfl
theorem e65 : enterOk Try.prog 65 = true := by kernel_rfl
def i66 : Ev.Fn := ⟨2, 18, [.tmp 4],
 (.seq
 (.reg false [⟨2, .bx (.t 0), none, false⟩,
 ⟨4, .mv (.k (.sc (.int .i64 0))), none, false⟩])
 (.seq
 (.reg false [⟨5, .fa 2 (.t 2), none, false⟩,
 ⟨6, .ld 1 false (.t 5), none, false⟩,
 ⟨7, .mv (.t 1), none, false⟩,
 ⟨8, .ca (.k (.cl 114 [])) [(.t 6), (.t 7)], none, false⟩,
 ⟨1, .mv (.t 8), none, false⟩])
 (.seq
 (.seq
 (.reg false [⟨9, .mv (.t 1), none, false⟩,
 ⟨10, .ar .lss false (.t 9) (.k (.sc (.int .i64 0))), none, false⟩])
 (.ite (.t 10)
 (.seq
 (.reg false [⟨4, .mv (.k (.sc (.int .i64 (-1)))), none, false⟩])
 .ret)
 .skip))
 (.seq
 (.reg false [⟨11, .fa 3 (.t 2), none, false⟩,
 ⟨12, .ld 1 false (.t 11), none, false⟩,
 ⟨13, .mv (.t 1), none, false⟩,
 ⟨14, .ca (.k (.cl 115 [])) [(.t 12), (.t 13)], none, false⟩,
 ⟨1, .mv (.t 14), none, false⟩])
 (.seq
 (.seq
 (.reg false [⟨15, .mv (.t 1), none, false⟩,
 ⟨16, .ar .lss false (.t 15) (.k (.sc (.int .i64 0))), none, false⟩])
 (.ite (.t 16)
 (.seq
 (.reg false [⟨4, .mv (.k (.sc (.int .i64 (-1)))), none, false⟩])
 .ret)
 .skip))
 (.seq
 (.reg false [⟨17, .mv (.t 1), none, false⟩,
 ⟨4, .mv (.t 17), none, false⟩])
 .ret))))))⟩
attribute [simp] i66
set_option maxRecDepth 1000000 in
theorem c66 : cFn Try.prog 66 [[]] = some i66 := by kernel_rfl
theorem e66 : enterOk Try.prog 66 = true := by kernel_rfl
def w67_1 : IC :=
(.seq
 (.seq
 (.reg false [⟨9, .mv (.t 5), none, false⟩,
 ⟨10, .fa 2 (.t 1), none, false⟩,
 ⟨11, .ld 1 false (.t 10), none, false⟩,
 ⟨12, .ln false (.t 11), none, false⟩,
 ⟨13, .ar .lss false (.t 9) (.t 12), none, false⟩])
 (.ite (.t 13)
 .skip
 (.exit 0)))
 (.seq
 (.block 1
 (.seq
 (.reg false [⟨16, .mv (.t 5), none, false⟩,
 ⟨17, .ca (.k (.cl 117 [])) [(.t 1), (.t 16)], none, false⟩])
 (.ite (.t 17)
 (.reg false [⟨18, .mv (.t 4), none, false⟩,
 ⟨19, .mv (.t 5), none, false⟩,
 ⟨20, .bs 2 1 [(.sc (.int .i64 0))] 1 [(0, (.t 19))], none, false⟩,
 ⟨21, .ap 2 1 false (.t 18) (.t 20), none, false⟩,
 ⟨4, .mv (.t 21), none, false⟩])
 .skip)))
 (.reg false [⟨14, .mv (.t 5), none, false⟩,
 ⟨15, .ar .add false (.t 14) (.k (.sc (.int .i64 1))), none, false⟩,
 ⟨5, .mv (.t 15), none, false⟩])))
def b67_1 : IC := w67_1
theorem u67_1 (call : CallF) (st : St) : evC call b67_1 st = evC call w67_1 st := rfl
attribute [simp] u67_1 w67_1
def i67 : Ev.Fn := ⟨1, 23, [.tmp 2, .tmp 3],
 (.seq
 (.reg false [⟨1, .bx (.t 0), none, false⟩,
 ⟨2, .mv (.k .nl), none, false⟩,
 ⟨3, .mv (.k (.sc (.int .i64 0))), none, false⟩])
 (.seq
 (.seq
 (.reg false [⟨6, .ca (.k (.cl 116 [])) [(.t 1)], none, false⟩,
 ⟨7, .nt (.t 6), none, false⟩])
 (.ite (.t 7)
 (.seq
 (.reg false [⟨2, .mv (.k .nl), none, false⟩,
 ⟨3, .mv (.k (.sc (.int .i64 1))), none, false⟩])
 .ret)
 .skip))
 (.seq
 (.reg false [⟨8, .bs 2 1 [(.sc (.int .i64 0))] 0 [], none, false⟩,
 ⟨4, .mv (.t 8), none, false⟩])
 (.seq
 (.seq
 (.reg false [⟨5, .mv (.k (.sc (.int .i64 0))), none, false⟩])
 (.cln [4] [2, 3]
 (.block 0
 (.loop [1, 4, 5] b67_1))))
 (.seq
 (.reg false [⟨22, .mv (.t 4), none, false⟩,
 ⟨2, .mv (.t 22), none, false⟩,
 ⟨3, .mv (.k (.sc (.int .i64 0))), none, false⟩])
 .ret)))))⟩
attribute [simp] i67
set_option maxRecDepth 1000000 in
theorem c67 : cFn Try.prog 67 [[], [1, 4, 5], [4], [2, 3]] = some i67 := by kernel_rfl
theorem e67 : enterOk Try.prog 67 = true := by kernel_rfl
def i68 : Ev.Fn := ⟨1, 19, [.cell 2 4 true],
 (.seq
 (.reg false [⟨1, .bx (.t 0), none, false⟩,
 ⟨2, .al [(.sc (.int .i64 0)), (.sc (.int .i64 0)), .nl, .nl], none, false⟩])
 (.seq
 (.reg false [⟨3, .al [(.sc (.int .i64 0)), (.sc (.int .i64 0)), .nl, .nl], none, false⟩])
 (.seq
 (.reg false [⟨4, .fa 0 (.t 1), none, false⟩,
 ⟨5, .ld 1 false (.t 4), none, false⟩,
 ⟨6, .fa 0 (.t 3), none, false⟩,
 ⟨1, .so 1 (.t 6) (.t 5), none, true⟩])
 (.seq
 (.reg false [⟨7, .fa 1 (.t 1), none, false⟩,
 ⟨8, .ld 1 false (.t 7), none, false⟩,
 ⟨9, .fa 1 (.t 3), none, false⟩,
 ⟨1, .so 1 (.t 9) (.t 8), none, true⟩])
 (.seq
 (.reg false [⟨10, .fa 2 (.t 1), none, false⟩,
 ⟨11, .ld 1 false (.t 10), none, false⟩,
 ⟨12, .ca (.k (.cl 118 [])) [(.t 11)], none, false⟩,
 ⟨13, .fa 2 (.t 3), none, false⟩,
 ⟨1, .so 1 (.t 13) (.t 12), none, true⟩])
 (.seq
 (.reg false [⟨14, .fa 3 (.t 1), none, false⟩,
 ⟨15, .ld 1 false (.t 14), none, false⟩,
 ⟨16, .ca (.k (.cl 119 [])) [(.t 15)], none, false⟩,
 ⟨17, .fa 3 (.t 3), none, false⟩,
 ⟨1, .so 1 (.t 17) (.t 16), none, true⟩])
 (.seq
 (.reg false [⟨18, .ld 4 true (.t 3), none, false⟩,
 ⟨1, .so 4 (.t 2) (.t 18), none, true⟩])
 .ret)))))))⟩
attribute [simp] i68
set_option maxRecDepth 1000000 in
theorem c68 : cFn Try.prog 68 [[]] = some i68 := by kernel_rfl
theorem e68 : enterOk Try.prog 68 = true := by kernel_rfl
def i69 : Ev.Fn := ⟨1, 9, [.tmp 2, .tmp 3],
 (.seq
 (.reg false [⟨1, .bx (.t 0), none, false⟩,
 ⟨2, .mv (.k .nl), none, false⟩,
 ⟨3, .mv (.k (.sc (.int .i64 0))), none, false⟩])
 (.seq
 (.seq
 (.reg false [⟨4, .ld 4 true (.t 1), none, false⟩,
 ⟨5, .ca (.k (.cl 120 [])) [(.t 4)], none, false⟩,
 ⟨6, .nt (.t 5), none, false⟩])
 (.ite (.t 6)
 (.seq
 (.reg false [⟨2, .mv (.k .nl), none, false⟩,
 ⟨3, .mv (.k (.sc (.int .i64 1))), none, false⟩])
 .ret)
 .skip))
 (.seq
 (.reg false [⟨7, .ld 4 true (.t 1), none, false⟩,
 ⟨8, .ca (.k (.cl 121 [])) [(.t 7)], none, false⟩,
 ⟨2, .mv (.t 8), none, false⟩,
 ⟨3, .mv (.k (.sc (.int .i64 0))), none, false⟩])
 .ret)))⟩
attribute [simp] i69
set_option maxRecDepth 1000000 in
theorem c69 : cFn Try.prog 69 [[]] = some i69 := by kernel_rfl
theorem e69 : enterOk Try.prog 69 = true := by kernel_rfl
def i70 : Ev.Fn := ⟨2, 27, [.tmp 4],
 (.seq
 (.reg false [⟨2, .bx (.t 0), none, false⟩,
 ⟨3, .bx (.t 1), none, false⟩,
 ⟨4, .mv (.k (.sc (.bool false))), none, false⟩])
 (.seq
 (.seq
 (.reg false [⟨5, .fa 0 (.t 2), none, false⟩,
 ⟨6, .ld 1 false (.t 5), none, false⟩,
 ⟨7, .fa 0 (.t 3), none, false⟩,
 ⟨8, .ld 1 false (.t 7), none, false⟩,
 ⟨9, .ar .neq false (.t 6) (.t 8), none, false⟩])
 (.ite (.t 9)
 (.seq
 (.reg false [⟨4, .mv (.k (.sc (.bool false))), none, false⟩])
 .ret)
 .skip))
 (.seq
 (.seq
 (.reg false [⟨10, .fa 1 (.t 2), none, false⟩,
 ⟨11, .ld 1 false (.t 10), none, false⟩,
 ⟨12, .fa 1 (.t 3), none, false⟩,
 ⟨13, .ld 1 false (.t 12), none, false⟩,
 ⟨14, .ar .neq false (.t 11) (.t 13), none, false⟩])
 (.ite (.t 14)
 (.seq
 (.reg false [⟨4, .mv (.k (.sc (.bool false))), none, false⟩])
 .ret)
 .skip))
 (.seq
 (.seq
 (.reg false [⟨15, .fa 2 (.t 2), none, false⟩,
 ⟨16, .ld 1 false (.t 15), none, false⟩,
 ⟨17, .fa 2 (.t 3), none, false⟩,
 ⟨18, .ld 1 false (.t 17), none, false⟩,
 ⟨19, .ca (.k (.cl 122 [])) [(.t 16), (.t 18)], none, false⟩,
 ⟨20, .nt (.t 19), none, false⟩])
 (.ite (.t 20)
 (.seq
 (.reg false [⟨4, .mv (.k (.sc (.bool false))), none, false⟩])
 .ret)
 .skip))
 (.seq
 (.seq
 (.reg false [⟨21, .fa 3 (.t 2), none, false⟩,
 ⟨22, .ld 1 false (.t 21), none, false⟩,
 ⟨23, .fa 3 (.t 3), none, false⟩,
 ⟨24, .ld 1 false (.t 23), none, false⟩,
 ⟨25, .ca (.k (.cl 123 [])) [(.t 22), (.t 24)], none, false⟩,
 ⟨26, .nt (.t 25), none, false⟩])
 (.ite (.t 26)
 (.seq
 (.reg false [⟨4, .mv (.k (.sc (.bool false))), none, false⟩])
 .ret)
 .skip))
 (.seq
 (.reg false [⟨4, .mv (.k (.sc (.bool true))), none, false⟩])
 .ret))))))⟩
attribute [simp] i70
set_option maxRecDepth 1000000 in
theorem c70 : cFn Try.prog 70 [[]] = some i70 := by kernel_rfl
theorem e70 : enterOk Try.prog 70 = true := by kernel_rfl
def i71 : Ev.Fn := ⟨2, 14, [.tmp 4],
 (.seq
 (.reg false [⟨2, .bx (.t 0), none, false⟩,
 ⟨4, .mv (.k (.sc (.int .i64 0))), none, false⟩])
 (.seq
 (.rgw [⟨5, .fa 2 (.t 2), none, false⟩,
 ⟨6, .ld 1 false (.t 5), none, false⟩,
 ⟨7, .mv (.t 1), none, false⟩,
 ⟨8, .cw 124 [] [(.t 6), (.t 7)], none, false⟩,
 ⟨1, .mv (.t 8), none, false⟩])
 (.seq
 (.rgw [⟨9, .fa 3 (.t 2), none, false⟩,
 ⟨10, .ld 1 false (.t 9), none, false⟩,
 ⟨11, .mv (.t 1), none, false⟩,
 ⟨12, .cw 125 [] [(.t 10), (.t 11)], none, false⟩,
 ⟨1, .mv (.t 12), none, false⟩])
 (.seq
 (.reg false [⟨13, .mv (.t 1), none, false⟩,
 ⟨4, .mv (.t 13), none, false⟩])
 .ret))))⟩
attribute [simp] i71
set_option maxRecDepth 1000000 in
theorem c71 : cFn Try.prog 71 [[124, 125]] = some i71 := by kernel_rfl
theorem e71 : enterOk Try.prog 71 = true := by kernel_rfl
def i72 : Ev.Fn := ⟨2, 12, [.tmp 4],
 (.seq
 (.reg false [⟨4, .mv (.k (.sc (.int .i64 0))), none, false⟩])
 (.seq
 (.reg false [⟨5, .mv (.t 1), none, false⟩,
 ⟨6, .mv (.t 0), none, false⟩,
 ⟨7, .ln false (.t 6), none, false⟩,
 ⟨8, .ar .sub false (.t 5) (.t 7), none, false⟩,
 ⟨1, .mv (.t 8), none, false⟩])
 (.seq
 (.seq
 (.reg false [⟨9, .mv (.t 1), none, false⟩,
 ⟨10, .ar .lss false (.t 9) (.k (.sc (.int .i64 0))), none, false⟩])
 (.ite (.t 10)
 (.seq
 (.reg false [⟨4, .mv (.k (.sc (.int .i64 (-1)))), none, false⟩])
 .ret)
 .skip))
 (.seq
 (.reg false [⟨11, .mv (.t 1), none, false⟩,
 ⟨4, .mv (.t 11), none, false⟩])
 .ret))))⟩
attribute [simp] i72
set_option maxRecDepth 1000000 in
theorem c72 : cFn Try.prog 72 [[]] = some i72 := by kernel_rfl
theorem e72 : enterOk Try.prog 72 = true := by kernel_rfl
def w73_1 : IC :=
(.seq
 (.seq
 (.reg false [⟨83, .mv (.t 5), none, false⟩,
 ⟨84, .mv (.t 0), none, false⟩,
 ⟨85, .nc (.t 84), none, false⟩,
 ⟨86, .fa 8 (.t 85), none, false⟩,
 ⟨87, .ld 1 false (.t 86), none, false⟩,
 ⟨88, .ln false (.t 87), none, false⟩,
 ⟨89, .ar .lss false (.t 83) (.t 88), none, false⟩])
 (.ite (.t 89)
 .skip
 (.exit 0)))
 (.seq
 (.block 1
 (.seq
 (.reg true [⟨92, .mv (.t 0), none, false⟩,
 ⟨93, .nc (.t 92), none, false⟩,
 ⟨94, .fa 8 (.t 93), none, false⟩,
 ⟨95, .ld 1 false (.t 94), none, false⟩,
 ⟨96, .mv (.t 5), none, false⟩,
 ⟨97, .ia 4 (.t 95) (.t 96), none, false⟩,
 ⟨98, .ld 4 true (.t 97), none, false⟩,
 ⟨99, .mv (.t 1), none, false⟩,
 ⟨100, .nc (.t 99), none, false⟩,
 ⟨101, .fa 8 (.t 100), none, false⟩,
 ⟨102, .ld 1 false (.t 101), none, false⟩,
 ⟨103, .mv (.t 5), none, false⟩,
 ⟨104, .ia 4 (.t 102) (.t 103), none, false⟩,
 ⟨105, .ld 4 true (.t 104), none, false⟩,
 ⟨106, .eq true [1, 1, 1, 1] (.t 98) (.t 105), none, false⟩])
 (.ite (.t 106)
 (.seq
 (.reg false [⟨4, .mv (.k (.sc (.bool false))), none, false⟩])
 .ret)
 .skip)))
 (.reg false [⟨90, .mv (.t 5), none, false⟩,
 ⟨91, .ar .add false (.t 90) (.k (.sc (.int .i64 1))), none, false⟩,
 ⟨5, .mv (.t 91), none, false⟩])))
def b73_1 : IC := w73_1
theorem u73_1 (call : CallF) (st : St) : evC call b73_1 st = evC call w73_1 st := rfl
attribute [simp] u73_1 w73_1
def i73 : Ev.Fn := ⟨2, 107, [.tmp 4],
 (.seq
 (.reg false [⟨4, .mv (.k (.sc (.bool false))), none, false⟩])
 (.seq
 (.seq
 (.reg true [⟨6, .mv (.t 0), none, false⟩,
 ⟨7, .nc (.t 6), none, false⟩,
 ⟨8, .fa 0 (.t 7), none, false⟩,
 ⟨9, .ld 1 false (.t 8), none, false⟩,
 ⟨10, .mv (.t 1), none, false⟩,
 ⟨11, .nc (.t 10), none, false⟩,
 ⟨12, .fa 0 (.t 11), none, false⟩,
 ⟨13, .ld 1 false (.t 12), none, false⟩,
 ⟨14, .ar .neq false (.t 9) (.t 13), none, false⟩,
 ⟨15, .mv (.t 14), none, false⟩,
 ⟨16, .mv (.t 0), (some (15, false)), false⟩,
 ⟨17, .nc (.t 16), (some (15, false)), false⟩,
 ⟨18, .fa 1 (.t 17), (some (15, false)), false⟩,
 ⟨19, .ld 1 false (.t 18), (some (15, false)), false⟩,
 ⟨20, .mv (.t 1), (some (15, false)), false⟩,
 ⟨21, .nc (.t 20), (some (15, false)), false⟩,
 ⟨22, .fa 1 (.t 21), (some (15, false)), false⟩,
 ⟨23, .ld 1 false (.t 22), (some (15, false)), false⟩,
 ⟨24, .ar .neq false (.t 19) (.t 23), (some (15, false)), false⟩,
 ⟨25, .pk (.t 15) (.k (.sc (.bool true))) (.t 24), none, false⟩,
 ⟨26, .mv (.t 25), none, false⟩,
 ⟨27, .mv (.t 0), (some (26, false)), false⟩,
 ⟨28, .nc (.t 27), (some (26, false)), false⟩,
 ⟨29, .fa 2 (.t 28), (some (26, false)), false⟩,
 ⟨30, .ld 1 false (.t 29), (some (26, false)), false⟩,
 ⟨31, .mv (.t 1), (some (26, false)), false⟩,
 ⟨32, .nc (.t 31), (some (26, false)), false⟩,
 ⟨33, .fa 2 (.t 32), (some (26, false)), false⟩,
 ⟨34, .ld 1 false (.t 33), (some (26, false)), false⟩,
 ⟨35, .ar .neq false (.t 30) (.t 34), (some (26, false)), false⟩,
 ⟨36, .pk (.t 26) (.k (.sc (.bool true))) (.t 35), none, false⟩,
 ⟨37, .mv (.t 36), none, false⟩,
 ⟨38, .mv (.t 0), (some (37, false)), false⟩,
 ⟨39, .nc (.t 38), (some (37, false)), false⟩,
 ⟨40, .fa 3 (.t 39), (some (37, false)), false⟩,
 ⟨41, .ld 3 true (.t 40), (some (37, false)), false⟩,
 ⟨42, .mv (.t 1), (some (37, false)), false⟩,
 ⟨43, .nc (.t 42), (some (37, false)), false⟩,
 ⟨44, .fa 3 (.t 43), (some (37, false)), false⟩,
 ⟨45, .ld 3 true (.t 44), (some (37, false)), false⟩,
 ⟨46, .eq true [2, 1, 1] (.t 41) (.t 45), (some (37, false)), false⟩,
 ⟨47, .pk (.t 37) (.k (.sc (.bool true))) (.t 46), none, false⟩,
 ⟨48, .mv (.t 47), none, false⟩,
 ⟨49, .mv (.t 0), (some (48, false)), false⟩,
 ⟨50, .nc (.t 49), (some (48, false)), false⟩,
 ⟨51, .fa 6 (.t 50), (some (48, false)), false⟩,
 ⟨52, .ld 1 false (.t 51), (some (48, false)), false⟩,
 ⟨53, .mv (.t 1), (some (48, false)), false⟩,
 ⟨54, .nc (.t 53), (some (48, false)), false⟩,
 ⟨55, .fa 6 (.t 54), (some (48, false)), false⟩,
 ⟨56, .ld 1 false (.t 55), (some (48, false)), false⟩,
 ⟨57, .ar .neq false (.t 52) (.t 56), (some (48, false)), false⟩,
 ⟨58, .pk (.t 48) (.k (.sc (.bool true))) (.t 57), none, false⟩,
 ⟨59, .mv (.t 58), none, false⟩,
 ⟨60, .mv (.t 0), (some (59, false)), false⟩,
 ⟨61, .nc (.t 60), (some (59, false)), false⟩,
 ⟨62, .fa 7 (.t 61), (some (59, false)), false⟩,
 ⟨63, .ld 1 false (.t 62), (some (59, false)), false⟩,
 ⟨64, .mv (.t 1), (some (59, false)), false⟩,
 ⟨65, .nc (.t 64), (some (59, false)), false⟩,
 ⟨66, .fa 7 (.t 65), (some (59, false)), false⟩,
 ⟨67, .ld 1 false (.t 66), (some (59, false)), false⟩,
 ⟨68, .ar .neq false (.t 63) (.t 67), (some (59, false)), false⟩,
 ⟨69, .pk (.t 59) (.k (.sc (.bool true))) (.t 68), none, false⟩,
 ⟨70, .mv (.t 69), none, false⟩,
 ⟨71, .mv (.t 0), (some (70, false)), false⟩,
 ⟨72, .nc (.t 71), (some (70, false)), false⟩,
 ⟨73, .fa 8 (.t 72), (some (70, false)), false⟩,
 ⟨74, .ld 1 false (.t 73), (some (70, false)), false⟩,
 ⟨75, .ln false (.t 74), (some (70, false)), false⟩,
 ⟨76, .mv (.t 1), (some (70, false)), false⟩,
 ⟨77, .nc (.t 76), (some (70, false)), false⟩,
 ⟨78, .fa 8 (.t 77), (some (70, false)), false⟩,
 ⟨79, .ld 1 false (.t 78), (some (70, false)), false⟩,
 ⟨80, .ln false (.t 79), (some (70, false)), false⟩,
 ⟨81, .ar .neq false (.t 75) (.t 80), (some (70, false)), false⟩,
 ⟨82, .pk (.t 70) (.k (.sc (.bool true))) (.t 81), none, false⟩])
 (.ite (.t 82)
 (.seq
 (.reg false [⟨4, .mv (.k (.sc (.bool false))), none, false⟩])
 .ret)
 .skip))
 (.seq
 (.seq
 (.reg false [⟨5, .mv (.k (.sc (.int .i64 0))), none, false⟩])
 (.cln [] [4]
 (.block 0
 (.loop [0, 1, 5] b73_1))))
 (.seq
 (.reg false [⟨4, .mv (.k (.sc (.bool true))), none, false⟩])
 .ret))))⟩
attribute [simp] i73
set_option maxRecDepth 1000000 in
theorem c73 : cFn Try.prog 73 [[], [0, 1, 5], [], [4]] = some i73 := by kernel_rfl
theorem e73 : enterOk Try.prog 73 = true := by kernel_rfl
def w74_1 : IC :=
(.seq
 (.seq
 (.reg false [⟨8, .mv (.t 4), none, false⟩,
 ⟨9, .mv (.t 0), none, false⟩,
 ⟨10, .ln false (.t 9), none, false⟩,
 ⟨11, .ar .lss false (.t 8) (.t 10), none, false⟩])
 (.ite (.t 11)
 .skip
 (.exit 0)))
 (.seq
 (.block 1
 (.reg false [⟨14, .mv (.t 3), none, false⟩,
 ⟨15, .mv (.t 4), none, false⟩,
 ⟨16, .mv (.t 0), none, false⟩,
 ⟨17, .mv (.t 4), none, false⟩,
 ⟨18, .ia 4 (.t 16) (.t 17), none, false⟩,
 ⟨19, .ld 4 true (.t 18), none, false⟩,
 ⟨20, .ca (.k (.cl 57 [])) [(.t 19)], none, false⟩,
 ⟨21, .ia 4 (.t 14) (.t 15), none, false⟩,
 ⟨1, .so 4 (.t 21) (.t 20), none, true⟩]))
 (.reg false [⟨12, .mv (.t 4), none, false⟩,
 ⟨13, .ar .add false (.t 12) (.k (.sc (.int .i64 1))), none, false⟩,
 ⟨4, .mv (.t 13), none, false⟩])))
def b74_1 : IC := w74_1
theorem u74_1 (call : CallF) (st : St) : evC call b74_1 st = evC call w74_1 st := rfl
attribute [simp] u74_1 w74_1
def i74 : Ev.Fn := ⟨1, 23, [.tmp 2],
 (.seq
 (.reg false [⟨2, .mv (.k .nl), none, false⟩])
 (.seq
 (.reg false [⟨5, .mv (.t 0), none, false⟩,
 ⟨6, .ln false (.t 5), none, false⟩,
 ⟨7, .ms 91 4 [(.sc (.int .i64 0)), (.sc (.int .i64 0)), (.sc (.int .i64 0)), (.sc (.int .i64 0))] (.t 6), none, false⟩,
 ⟨3, .mv (.t 7), none, false⟩])
 (.seq
 (.seq
 (.reg false [⟨4, .mv (.k (.sc (.int .i64 0))), none, false⟩])
 (.cln [3] [2]
 (.block 0
 (.loop [0, 3, 4] b74_1))))
 (.seq
 (.reg false [⟨22, .mv (.t 3), none, false⟩,
 ⟨2, .mv (.t 22), none, false⟩])
 .ret))))⟩
attribute [simp] i74
set_option maxRecDepth 1000000 in
theorem c74 : cFn Try.prog 74 [[], [0, 3, 4], [3], [2]] = some i74 := by kernel_rfl
theorem e74 : enterOk Try.prog 74 = true := by kernel_rfl
def w75_1 : IC :=
(.seq
 (.reg false [⟨14, .ar .lss false (.t 13) (.t 12), none, false⟩])
 (.seq
 (.ite (.t 14)
 .skip
 (.exit 0))
 (.seq
 (.block 1
 (.seq
 (.reg false [⟨15, .mv (.t 13), none, false⟩,
 ⟨5, .mv (.t 15), none, false⟩])
 (.seq
 (.reg true [⟨16, .mv (.t 0), none, false⟩,
 ⟨17, .mv (.t 5), none, false⟩,
 ⟨18, .ia 4 (.t 16) (.t 17), none, false⟩,
 ⟨19, .ld 4 true (.t 18), none, false⟩,
 ⟨20, .mv (.t 1), none, false⟩,
 ⟨21, .mv (.t 5), none, false⟩,
 ⟨22, .ia 4 (.t 20) (.t 21), none, false⟩,
 ⟨23, .ld 4 true (.t 22), none, false⟩,
 ⟨24, .eq true [1, 1, 1, 1] (.t 19) (.t 23), none, false⟩])
 (.ite (.t 24)
 (.seq
 (.reg false [⟨4, .mv (.k (.sc (.bool false))), none, false⟩])
 .ret)
 .skip))))
 (.reg false [⟨25, .ar .add false (.t 13) (.k (.sc (.int .i64 1))), none, false⟩,
 ⟨13, .mv (.t 25), none, false⟩]))))
def b75_1 : IC := w75_1
theorem u75_1 (call : CallF) (st : St) : evC call b75_1 st = evC call w75_1 st := rfl
attribute [simp] u75_1 w75_1
def i75 : Ev.Fn := ⟨2, 26, [.tmp 4],
 (.seq
 (.reg false [⟨4, .mv (.k (.sc (.bool false))), none, false⟩])
 (.seq
 (.seq
 (.reg false [⟨6, .mv (.t 0), none, false⟩,
 ⟨7, .ln false (.t 6), none, false⟩,
 ⟨8, .mv (.t 1), none, false⟩,
 ⟨9, .ln false (.t 8), none, false⟩,
 ⟨10, .ar .neq false (.t 7) (.t 9), none, false⟩])
 (.ite (.t 10)
 (.seq
 (.reg false [⟨4, .mv (.k (.sc (.bool false))), none, false⟩])
 .ret)
 .skip))
 (.seq
 (.seq
 (.reg false [⟨11, .mv (.t 0), none, false⟩,
 ⟨12, .ln false (.t 11), none, false⟩,
 ⟨13, .mv (.k (.sc (.int .i64 0))), none, false⟩])
 (.cln [] [4]
 (.block 0
 (.loop [0, 1, 12, 13] b75_1))))
 (.seq
 (.reg false [⟨4, .mv (.k (.sc (.bool true))), none, false⟩])
 .ret))))⟩
attribute [simp] i75
set_option maxRecDepth 1000000 in
theorem c75 : cFn Try.prog 75 [[], [0, 1, 12, 13], [], [4]] = some i75 := by kernel_rfl
theorem e75 : enterOk Try.prog 75 = true := by kernel_rfl
def i76 : Ev.Fn := ⟨2, 20, [.tmp 4],
 (.seq
 (.reg false [⟨2, .bx (.t 0), none, false⟩,
 ⟨3, .bx (.t 1), none, false⟩,
 ⟨4, .mv (.k (.sc (.bool false))), none, false⟩])
 (.seq
 (.seq
 (.reg false [⟨5, .fa 0 (.t 2), none, false⟩,
 ⟨6, .ld 1 false (.t 5), none, false⟩,
 ⟨7, .fa 0 (.t 3), none, false⟩,
 ⟨8, .ld 1 false (.t 7), none, false⟩,
 ⟨9, .ar .neq false (.t 6) (.t 8), none, false⟩])
 (.ite (.t 9)
 (.seq
 (.reg false [⟨4, .mv (.k (.sc (.bool false))), none, false⟩])
 .ret)
 .skip))
 (.seq
 (.seq
 (.reg false [⟨10, .fa 1 (.t 2), none, false⟩,
 ⟨11, .ld 1 false (.t 10), none, false⟩,
 ⟨12, .fa 1 (.t 3), none, false⟩,
 ⟨13, .ld 1 false (.t 12), none, false⟩,
 ⟨14, .ar .neq false (.t 11) (.t 13), none, false⟩])
 (.ite (.t 14)
 (.seq
 (.reg false [⟨4, .mv (.k (.sc (.bool false))), none, false⟩])
 .ret)
 .skip))
 (.seq
 (.seq
 (.reg false [⟨15, .fa 2 (.t 2), none, false⟩,
 ⟨16, .ld 1 false (.t 15), none, false⟩,
 ⟨17, .fa 2 (.t 3), none, false⟩,
 ⟨18, .ld 1 false (.t 17), none, false⟩,
 ⟨19, .ar .neq false (.t 16) (.t 18), none, false⟩])
 (.ite (.t 19)
 (.seq
 (.reg false [⟨4, .mv (.k (.sc (.bool false))), none, false⟩])
 .ret)
 .skip))
 (.seq
 (.reg false [⟨4, .mv (.k (.sc (.bool true))), none, false⟩])
 .ret)))))⟩
attribute [simp] i76
set_option maxRecDepth 1000000 in
theorem c76 : cFn Try.prog 76 [[]] = some i76 := by kernel_rfl
theorem e76 : enterOk Try.prog 76 = true := by kernel_rfl
def w77_1 : IC :=
(.seq
 (.seq
 (.reg false [⟨11, .mv (.t 5), none, false⟩,
 ⟨12, .mv (.t 0), none, false⟩,
 ⟨13, .ln false (.t 12), none, false⟩,
 ⟨14, .ar .lss false (.t 11) (.t 13), none, false⟩])
 (.ite (.t 14)
 .skip
 (.exit 0)))
 (.seq
 (.block 1
 (.seq
 (.reg true [⟨17, .mv (.t 0), none, false⟩,
 ⟨18, .mv (.t 5), none, false⟩,
 ⟨19, .ia 4 (.t 17) (.t 18), none, false⟩,
 ⟨20, .ld 4 true (.t 19), none, false⟩,
 ⟨21, .mv (.t 1), none, false⟩,
 ⟨22, .mv (.t 5), none, false⟩,
 ⟨23, .ia 4 (.t 21) (.t 22), none, false⟩,
 ⟨24, .ld 4 true (.t 23), none, false⟩,
 ⟨25, .ca (.k (.cl 126 [])) [(.t 20), (.t 24)], none, false⟩,
 ⟨26, .nt (.t 25), none, false⟩])
 (.ite (.t 26)
 (.seq
 (.reg false [⟨4, .mv (.k (.sc (.bool false))), none, false⟩])
 .ret)
 .skip)))
 (.reg false [⟨15, .mv (.t 5), none, false⟩,
 ⟨16, .ar .add false (.t 15) (.k (.sc (.int .i64 1))), none, false⟩,
 ⟨5, .mv (.t 16), none, false⟩])))
def b77_1 : IC := w77_1
theorem u77_1 (call : CallF) (st : St) : evC call b77_1 st = evC call w77_1 st := rfl
attribute [simp] u77_1 w77_1
def i77 : Ev.Fn := ⟨2, 27, [.tmp 4],
 (.seq
 (.reg false [⟨4, .mv (.k (.sc (.bool false))), none, false⟩])
 (.seq
 (.seq
 (.reg false [⟨6, .mv (.t 0), none, false⟩,
 ⟨7, .ln false (.t 6), none, false⟩,
 ⟨8, .mv (.t 1), none, false⟩,
 ⟨9, .ln false (.t 8), none, false⟩,
 ⟨10, .ar .neq false (.t 7) (.t 9), none, false⟩])
 (.ite (.t 10)
 (.seq
 (.reg false [⟨4, .mv (.k (.sc (.bool false))), none, false⟩])
 .ret)
 .skip))
 (.seq
 (.seq
 (.reg false [⟨5, .mv (.k (.sc (.int .i64 0))), none, false⟩])
 (.cln [] [4]
 (.block 0
 (.loop [0, 1, 5] b77_1))))
 (.seq
 (.reg false [⟨4, .mv (.k (.sc (.bool true))), none, false⟩])
 .ret))))⟩
attribute [simp] i77
set_option maxRecDepth 1000000 in
theorem c77 : cFn Try.prog 77 [[], [0, 1, 5], [], [4]] = some i77 := by kernel_rfl
theorem e77 : enterOk Try.prog 77 = true := by kernel_rfl
def i78 : Ev.Fn := ⟨1, 42, [.tmp 2],
 (.seq
 (.reg false [⟨2, .mv (.k (.sc (.bool false))), none, false⟩])
 (.seq
 (.reg false [⟨5, .mv (.t 0), none, false⟩,
 ⟨6, .nc (.t 5), none, false⟩,
 ⟨7, .fa 0 (.t 6), none, false⟩,
 ⟨8, .ld 1 false (.t 7), none, false⟩,
 ⟨9, .ca (.k (.cl 111 [])) [(.t 8)], none, false⟩,
 ⟨3, .mv (.t 9), none, false⟩])
 (.seq
 (.seq
 (.reg false [⟨10, .mv (.t 3), none, false⟩,
 ⟨11, .ar .lss false (.t 10) (.k (.sc (.int .i64 0))), none, false⟩,
 ⟨12, .mv (.t 11), none, false⟩,
 ⟨13, .mv (.t 0), (some (12, false)), false⟩,
 ⟨14, .nc (.t 13), (some (12, false)), false⟩,
 ⟨15, .fa 1 (.t 14), (some (12, false)), false⟩,
 ⟨16, .ld 1 false (.t 15), (some (12, false)), false⟩,
 ⟨17, .ca (.k (.cl 88 [])) [(.t 16), (.k (.sc (.int .i64 0))), (.k (.sc (.int .i64 100)))], (some (12, false)), false⟩,
 ⟨18, .nt (.t 17), (some (12, false)), false⟩,
 ⟨19, .pk (.t 12) (.k (.sc (.bool true))) (.t 18), none, false⟩])
 (.ite (.t 19)
 (.seq
 (.reg false [⟨2, .mv (.k (.sc (.bool false))), none, false⟩])
 .ret)
 .skip))
 (.seq
 (.reg false [⟨20, .ca (.k (.cl 127 [])) [], none, false⟩,
 ⟨21, .mv (.t 3), none, false⟩,
 ⟨22, .ia 1 (.t 20) (.t 21), none, false⟩,
 ⟨23, .ld 1 false (.t 22), none, false⟩,
 ⟨24, .ia 1 (.t 23) (.k (.sc (.int .i64 0))), none, false⟩,
 ⟨25, .ld 1 false (.t 24), none, false⟩,
 ⟨4, .mv (.t 25), none, false⟩])
 (.seq
 (.reg false [⟨26, .mv (.t 0), none, false⟩,
 ⟨27, .nc (.t 26), none, false⟩,
 ⟨28, .fa 1 (.t 27), none, false⟩,
 ⟨29, .ld 1 false (.t 28), none, false⟩,
 ⟨30, .mv (.t 4), none, false⟩,
 ⟨31, .ar .sub false (.t 30) (.k (.sc (.int .i64 15))), none, false⟩,
 ⟨32, .mv (.t 4), none, false⟩,
 ⟨33, .ar .add false (.t 32) (.k (.sc (.int .i64 15))), none, false⟩,
 ⟨34, .ca (.k (.cl 88 [])) [(.t 29), (.t 31), (.t 33)], none, false⟩,
 ⟨35, .mv (.t 34), none, false⟩,
 ⟨36, .mv (.t 0), (some (35, true)), false⟩,
 ⟨37, .nc (.t 36), (some (35, true)), false⟩,
 ⟨38, .fa 2 (.t 37), (some (35, true)), false⟩,
 ⟨39, .ld 1 false (.t 38), (some (35, true)), false⟩,
 ⟨40, .ca (.k (.cl 128 [])) [(.t 39)], (some (35, true)), false⟩,
 ⟨41, .pk (.t 35) (.t 40) (.k (.sc (.bool false))), none, false⟩,
 ⟨2, .mv (.t 41), none, false⟩])
 .ret)))))⟩
attribute [simp] i78
set_option maxRecDepth 1000000 in
theorem c78 : cFn Try.prog 78 [[]] = some i78 := by kernel_rfl
theorem e78 : enterOk Try.prog 78 = true := by kernel_rfl
def i79 : Ev.Fn := ⟨2, 28, [.tmp 4],
 (.seq
 (.reg false [⟨4, .mv (.k (.sc (.int .i64 0))), none, false⟩])
 (.seq
 (.seq
 (.reg false [⟨5, .mv (.t 1), none, false⟩,
 ⟨6, .ar .lss false (.t 5) (.k (.sc (.int .i64 0))), none, false⟩])
 (.ite (.t 6)
 (.seq
 (.reg false [⟨7, .mv (.t 0), none, false⟩,
 ⟨8, .ng (.t 7), none, false⟩,
 ⟨0, .mv (.t 8), none, false⟩])
 (.reg false [⟨9, .mv (.t 1), none, false⟩,
 ⟨10, .ng (.t 9), none, false⟩,
 ⟨1, .mv (.t 10), none, false⟩]))
 .skip))
 (.seq
 (.seq
 (.reg false [⟨11, .mv (.t 0), none, false⟩,
 ⟨12, .ar .lss false (.t 11) (.k (.sc (.int .i64 0))), none, false⟩])
 (.ite (.t 12)
 (.seq
 (.reg false [⟨13, .mv (.t 1), none, false⟩,
 ⟨14, .mv (.t 0), none, false⟩,
 ⟨15, .ar .mul false (.k (.sc (.int .i64 2))) (.t 14), none, false⟩,
 ⟨16, .ar .sub false (.t 13) (.t 15), none, false⟩,
 ⟨17, .mv (.t 1), none, false⟩,
 ⟨18, .ar .mul false (.k (.sc (.int .i64 2))) (.t 17), none, false⟩,
 ⟨19, .ar .quo false (.t 16) (.t 18), none, false⟩,
 ⟨20, .ng (.t 19), none, false⟩,
 ⟨4, .mv (.t 20), none, false⟩])
 .ret)
 .skip))
 (.seq
 (.reg false [⟨21, .mv (.t 0), none, false⟩,
 ⟨22, .ar .mul false (.k (.sc (.int .i64 2))) (.t 21), none, false⟩,
 ⟨23, .mv (.t 1), none, false⟩,
 ⟨24, .ar .add false (.t 22) (.t 23), none, false⟩,
 ⟨25, .mv (.t 1), none, false⟩,
 ⟨26, .ar .mul false (.k (.sc (.int .i64 2))) (.t 25), none, false⟩,
 ⟨27, .ar .quo false (.t 24) (.t 26), none, false⟩,
 ⟨4, .mv (.t 27), none, false⟩])
 .ret))))⟩
attribute [simp] i79
set_option maxRecDepth 1000000 in
theorem c79 : cFn Try.prog 79 [[]] = some i79 := by kernel_rfl
theorem e79 : enterOk Try.prog 79 = true := by kernel_rfl
def i80 : Ev.Fn := ⟨1, 29, [.tmp 2],
 (.seq
 (.reg false [⟨1, .bx (.t 0), none, false⟩,
 ⟨2, .mv (.k (.sc (.bool false))), none, false⟩])
 (.seq
 (.reg false [⟨6, .fa 0 (.t 1), none, false⟩,
 ⟨7, .ld 1 false (.t 6), none, false⟩,
 ⟨8, .ca (.k (.cl 112 [])) [(.t 7)], none, false⟩,
 ⟨5, .mv (.t 8), none, false⟩,
 ⟨9, .xt (.t 5) 0, none, false⟩,
 ⟨10, .xt (.t 5) 1, none, false⟩,
 ⟨3, .mv (.t 9), none, false⟩,
 ⟨4, .mv (.t 10), none, false⟩])
 (.seq
 (.reg false [⟨11, .mv (.t 4), none, false⟩,
 ⟨12, .mv (.t 11), none, false⟩,
 ⟨13, .fa 1 (.t 1), (some (12, true)), false⟩,
 ⟨14, .ld 1 false (.t 13), (some (12, true)), false⟩,
 ⟨15, .ca (.k (.cl 84 [])) [(.t 14), (.k (.sc (.int .i64 0))), (.k (.sc (.int .i64 100)))], (some (12, true)), false⟩,
 ⟨16, .pk (.t 12) (.t 15) (.k (.sc (.bool false))), none, false⟩,
 ⟨17, .mv (.t 16), none, false⟩,
 ⟨18, .fa 1 (.t 1), (some (17, true)), false⟩,
 ⟨19, .ld 1 false (.t 18), (some (17, true)), false⟩,
 ⟨20, .mv (.t 3), (some (17, true)), false⟩,
 ⟨21, .ar .sub false (.t 19) (.t 20), (some (17, true)), false⟩,
 ⟨22, .ca (.k (.cl 84 [])) [(.t 21), (.k (.sc (.int .i64 (-15)))), (.k (.sc (.int .i64 15)))], (some (17, true)), false⟩,
 ⟨23, .pk (.t 17) (.t 22) (.k (.sc (.bool false))), none, false⟩,
 ⟨24, .mv (.t 23), none, false⟩,
 ⟨25, .fa 2 (.t 1), (some (24, true)), false⟩,
 ⟨26, .ld 1 false (.t 25), (some (24, true)), false⟩,
 ⟨27, .ca (.k (.cl 84 [])) [(.t 26), (.k (.sc (.int .i64 0))), (.k (.sc (.int .i64 179)))], (some (24, true)), false⟩,
 ⟨28, .pk (.t 24) (.t 27) (.k (.sc (.bool false))), none, false⟩,
 ⟨2, .mv (.t 28), none, false⟩])
 .ret)))⟩
attribute [simp] i80
set_option maxRecDepth 1000000 in
theorem c80 : cFn Try.prog 80 [[]] = some i80 := by kernel_rfl
theorem e80 : enterOk Try.prog 80 = true := by kernel_rfl
def i81 : Ev.Fn := ⟨2, 40, [.tmp 4],
 (.seq
 (.reg false [⟨4, .mv (.k (.sc (.int .i64 0))), none, false⟩])
 (.seq
 (.seq
 (.reg false [⟨8, .mv (.t 1), none, false⟩,
 ⟨9, .ar .eql false (.t 8) (.k (.sc (.int .i64 0))), none, false⟩])
 (.ite (.t 9)
 (.seq
 (.reg false [⟨4, .mv (.k (.sc (.int .i64 0))), none, false⟩])
 .ret)
 .skip))
 (.seq
 (.reg false [⟨10, .mv (.t 0), none, false⟩,
 ⟨11, .ar .lss false (.t 10) (.k (.sc (.int .i64 0))), none, false⟩,
 ⟨12, .mv (.t 1), none, false⟩,
 ⟨13, .ar .lss false (.t 12) (.k (.sc (.int .i64 0))), none, false⟩,
 ⟨14, .ar .neq true (.t 11) (.t 13), none, false⟩,
 ⟨5, .mv (.t 14), none, false⟩])
 (.seq
 (.reg false [⟨15, .mv (.t 0), none, false⟩,
 ⟨16, .mv (.t 0), none, false⟩,
 ⟨17, .ng (.t 16), none, false⟩,
 ⟨18, .mx (.t 15) (.t 17), none, false⟩,
 ⟨19, .mv (.t 1), none, false⟩,
 ⟨20, .mv (.t 1), none, false⟩,
 ⟨21, .ng (.t 20), none, false⟩,
 ⟨22, .mx (.t 19) (.t 21), none, false⟩,
 ⟨0, .mv (.t 18), none, false⟩,
 ⟨1, .mv (.t 22), none, false⟩])
 (.seq
 (.reg false [⟨23, .mv (.t 0), none, false⟩,
 ⟨24, .mv (.t 1), none, false⟩,
 ⟨25, .ar .quo false (.t 23) (.t 24), none, false⟩,
 ⟨6, .mv (.t 25), none, false⟩])
 (.seq
 (.seq
 (.reg false [⟨26, .mv (.t 0), none, false⟩,
 ⟨27, .mv (.t 1), none, false⟩,
 ⟨28, .ar .rem false (.t 26) (.t 27), none, false⟩,
 ⟨7, .mv (.t 28), none, false⟩])
 (.seq
 (.reg false [⟨29, .mv (.t 7), none, false⟩,
 ⟨30, .mv (.t 1), none, false⟩,
 ⟨31, .mv (.t 7), none, false⟩,
 ⟨32, .ar .sub false (.t 30) (.t 31), none, false⟩,
 ⟨33, .ar .geq false (.t 29) (.t 32), none, false⟩])
 (.ite (.t 33)
 (.reg false [⟨34, .mv (.t 6), none, false⟩,
 ⟨35, .ar .add false (.t 34) (.k (.sc (.int .i64 1))), none, false⟩,
 ⟨6, .mv (.t 35), none, false⟩])
 .skip)))
 (.seq
 (.seq
 (.reg false [⟨36, .mv (.t 5), none, false⟩])
 (.ite (.t 36)
 (.seq
 (.reg false [⟨37, .mv (.t 6), none, false⟩,
 ⟨38, .ng (.t 37), none, false⟩,
 ⟨4, .mv (.t 38), none, false⟩])
 .ret)
 .skip))
 (.seq
 (.reg false [⟨39, .mv (.t 6), none, false⟩,
 ⟨4, .mv (.t 39), none, false⟩])
 .ret))))))))⟩
attribute [simp] i81
set_option maxRecDepth 1000000 in
theorem c81 : cFn Try.prog 81 [[]] = some i81 := by kernel_rfl
theorem e81 : enterOk Try.prog 81 = true := by kernel_rfl
def w82_1 : IC :=
(.seq
 (.seq
 (.reg false [⟨55, .mv (.t 3), none, false⟩,
 ⟨56, .mv (.t 0), none, false⟩,
 ⟨57, .nc (.t 56), none, false⟩,
 ⟨58, .fa 8 (.t 57), none, false⟩,
 ⟨59, .ld 1 false (.t 58), none, false⟩,
 ⟨60, .ln false (.t 59), none, false⟩,
 ⟨61, .ar .lss false (.t 55) (.t 60), none, false⟩])
 (.ite (.t 61)
 .skip
 (.exit 0)))
 (.seq
 (.block 1
 (.seq
 (.reg true [⟨64, .mv (.t 0), none, false⟩,
 ⟨65, .nc (.t 64), none, false⟩,
 ⟨66, .fa 8 (.t 65), none, false⟩,
 ⟨67, .ld 1 false (.t 66), none, false⟩,
 ⟨68, .mv (.t 3), none, false⟩,
 ⟨69, .ia 4 (.t 67) (.t 68), none, false⟩,
 ⟨70, .mv (.t 0), none, false⟩,
 ⟨71, .nc (.t 70), none, false⟩,
 ⟨72, .fa 6 (.t 71), none, false⟩,
 ⟨73, .ld 1 false (.t 72), none, false⟩,
 ⟨74, .mv (.t 0), none, false⟩,
 ⟨75, .nc (.t 74), none, false⟩,
 ⟨76, .fa 7 (.t 75), none, false⟩,
 ⟨77, .ld 1 false (.t 76), none, false⟩,
 ⟨78, .ca (.k (.cl 107 [])) [(.t 69), (.t 73), (.t 77)], none, false⟩,
 ⟨79, .nt (.t 78), none, false⟩])
 (.ite (.t 79)
 (.seq
 (.reg false [⟨2, .mv (.k (.sc (.bool false))), none, false⟩])
 .ret)
 .skip)))
 (.reg false [⟨62, .mv (.t 3), none, false⟩,
 ⟨63, .ar .add false (.t 62) (.k (.sc (.int .i64 1))), none, false⟩,
 ⟨3, .mv (.t 63), none, false⟩])))
def b82_1 : IC := w82_1
theorem u82_1 (call : CallF) (st : St) : evC call b82_1 st = evC call w82_1 st := rfl
attribute [simp] u82_1 w82_1
def i82 : Ev.Fn := ⟨1, 80, [.tmp 2],
 (.seq
 (.reg false [⟨2, .mv (.k (.sc (.bool false))), none, false⟩])
 (.seq
 (.seq
 (.reg false [⟨4, .mv (.t 0), none, false⟩,
 ⟨5, .nc (.t 4), none, false⟩,
 ⟨6, .fa 0 (.t 5), none, false⟩,
 ⟨7, .ld 1 false (.t 6), none, false⟩,
 ⟨8, .ca (.k (.cl 129 [])) [(.t 7)], none, false⟩,
 ⟨9, .nt (.t 8), none, false⟩,
 ⟨10, .mv (.t 9), none, false⟩,
 ⟨11, .mv (.t 0), (some (10, false)), false⟩,
 ⟨12, .nc (.t 11), (some (10, false)), false⟩,
 ⟨13, .fa 1 (.t 12), (some (10, false)), false⟩,
 ⟨14, .ld 1 false (.t 13), (some (10, false)), false⟩,
 ⟨15, .ca (.k (.cl 129 [])) [(.t 14)], (some (10, false)), false⟩,
 ⟨16, .nt (.t 15), (some (10, false)), false⟩,
 ⟨17, .pk (.t 10) (.k (.sc (.bool true))) (.t 16), none, false⟩,
 ⟨18, .mv (.t 17), none, false⟩,
 ⟨19, .mv (.t 0), (some (18, false)), false⟩,
 ⟨20, .nc (.t 19), (some (18, false)), false⟩,
 ⟨21, .fa 2 (.t 20), (some (18, false)), false⟩,
 ⟨22, .ld 1 false (.t 21), (some (18, false)), false⟩,
 ⟨23, .ca (.k (.cl 88 [])) [(.t 22), (.k (.sc (.int .i64 0))), (.k (.sc (.int .i64 999)))], (some (18, false)), false⟩,
 ⟨24, .nt (.t 23), (some (18, false)), false⟩,
 ⟨25, .pk (.t 18) (.k (.sc (.bool true))) (.t 24), none, false⟩,
 ⟨26, .mv (.t 25), none, false⟩,
 ⟨27, .mv (.t 0), (some (26, false)), false⟩,
 ⟨28, .nc (.t 27), (some (26, false)), false⟩,
 ⟨29, .fa 3 (.t 28), (some (26, false)), false⟩,
 ⟨30, .ca (.k (.cl 78 [])) [(.t 29)], (some (26, false)), false⟩,
 ⟨31, .nt (.t 30), (some (26, false)), false⟩,
 ⟨32, .pk (.t 26) (.k (.sc (.bool true))) (.t 31), none, false⟩])
 (.ite (.t 32)
 (.seq
 (.reg false [⟨2, .mv (.k (.sc (.bool false))), none, false⟩])
 .ret)
 .skip))
 (.seq
 (.seq
 (.reg false [⟨33, .mv (.t 0), none, false⟩,
 ⟨34, .nc (.t 33), none, false⟩,
 ⟨35, .fa 6 (.t 34), none, false⟩,
 ⟨36, .ld 1 false (.t 35), none, false⟩,
 ⟨37, .ca (.k (.cl 88 [])) [(.t 36), (.k (.sc (.int .i64 10))), (.k (.sc (.int .i64 20000)))], none, false⟩,
 ⟨38, .nt (.t 37), none, false⟩,
 ⟨39, .mv (.t 38), none, false⟩,
 ⟨40, .mv (.t 0), (some (39, false)), false⟩,
 ⟨41, .nc (.t 40), (some (39, false)), false⟩,
 ⟨42, .fa 7 (.t 41), (some (39, false)), false⟩,
 ⟨43, .ld 1 false (.t 42), (some (39, false)), false⟩,
 ⟨44, .ca (.k (.cl 88 [])) [(.t 43), (.k (.sc (.int .i64 10))), (.k (.sc (.int .i64 20000)))], (some (39, false)), false⟩,
 ⟨45, .nt (.t 44), (some (39, false)), false⟩,
 ⟨46, .pk (.t 39) (.k (.sc (.bool true))) (.t 45), none, false⟩,
 ⟨47, .mv (.t 46), none, false⟩,
 ⟨48, .mv (.t 0), (some (47, false)), false⟩,
 ⟨49, .nc (.t 48), (some (47, false)), false⟩,
 ⟨50, .fa 8 (.t 49), (some (47, false)), false⟩,
 ⟨51, .ld 1 false (.t 50), (some (47, false)), false⟩,
 ⟨52, .ln false (.t 51), (some (47, false)), false⟩,
 ⟨53, .ar .gtr false (.t 52) (.k (.sc (.int .i64 6))), (some (47, false)), false⟩,
 ⟨54, .pk (.t 47) (.k (.sc (.bool true))) (.t 53), none, false⟩])
 (.ite (.t 54)
 (.seq
 (.reg false [⟨2, .mv (.k (.sc (.bool false))), none, false⟩])
 .ret)
 .skip))
 (.seq
 (.seq
 (.reg false [⟨3, .mv (.k (.sc (.int .i64 0))), none, false⟩])
 (.cln [] [2]
 (.block 0
 (.loop [0, 3] b82_1))))
 (.seq
 (.reg false [⟨2, .mv (.k (.sc (.bool true))), none, false⟩])
 .ret)))))⟩
attribute [simp] i82
set_option maxRecDepth 1000000 in
theorem c82 : cFn Try.prog 82 [[], [0, 3], [], [2]] = some i82 := by kernel_rfl
theorem e82 : enterOk Try.prog 82 = true := by kernel_rfl
def w83_1 : IC :=
(.seq
 (.seq
 (.reg false [⟨22, .mv (.t 3), none, false⟩,
 ⟨23, .mv (.t 0), none, false⟩,
 ⟨24, .ln true (.t 23), none, false⟩,
 ⟨25, .ar .lss false (.t 22) (.t 24), none, false⟩])
 (.ite (.t 25)
 .skip
 (.exit 0)))
 (.seq
 (.block 1
 (.seq
 (.reg false [⟨28, .mv (.t 0), none, false⟩,
 ⟨29, .mv (.t 3), none, false⟩,
 ⟨30, .ix (.t 28) (.t 29), none, false⟩,
 ⟨31, .ar .lss false (.t 30) (.k (.sc (.int .u8 97))), none, false⟩,
 ⟨32, .mv (.t 31), none, false⟩,
 ⟨33, .mv (.t 0), (some (32, false)), false⟩,
 ⟨34, .mv (.t 3), (some (32, false)), false⟩,
 ⟨35, .ix (.t 33) (.t 34), (some (32, false)), false⟩,
 ⟨36, .ar .gtr false (.t 35) (.k (.sc (.int .u8 122))), (some (32, false)), false⟩,
 ⟨37, .pk (.t 32) (.k (.sc (.bool true))) (.t 36), none, false⟩,
 ⟨38, .mv (.t 37), none, false⟩,
 ⟨39, .mv (.t 0), (some (38, true)), false⟩,
 ⟨40, .mv (.t 3), (some (38, true)), false⟩,
 ⟨41, .ix (.t 39) (.t 40), (some (38, true)), false⟩,
 ⟨42, .ar .lss false (.t 41) (.k (.sc (.int .u8 48))), (some (38, true)), false⟩,
 ⟨43, .mv (.t 42), (some (38, true)), false⟩,
 ⟨44, .mv (.t 0), (some (43, false)), false⟩,
 ⟨45, .mv (.t 3), (some (43, false)), false⟩,
 ⟨46, .ix (.t 44) (.t 45), (some (43, false)), false⟩,
 ⟨47, .ar .gtr false (.t 46) (.k (.sc (.int .u8 57))), (some (43, false)), false⟩,
 ⟨48, .pk (.t 43) (.k (.sc (.bool true))) (.t 47), (some (38, true)), false⟩,
 ⟨49, .pk (.t 38) (.t 48) (.k (.sc (.bool false))), none, false⟩])
 (.ite (.t 49)
 (.seq
 (.reg false [⟨2, .mv (.k (.sc (.bool false))), none, false⟩])
 .ret)
 .skip)))
 (.reg false [⟨26, .mv (.t 3), none, false⟩,
 ⟨27, .ar .add false (.t 26) (.k (.sc (.int .i64 1))), none, false⟩,
 ⟨3, .mv (.t 27), none, false⟩])))
def b83_1 : IC := w83_1
theorem u83_1 (call : CallF) (st : St) : evC call b83_1 st = evC call w83_1 st := rfl
attribute [simp] u83_1 w83_1
def i83 : Ev.Fn := ⟨1, 50, [.tmp 2],
 (.seq
 (.reg false [⟨2, .mv (.k (.sc (.bool false))), none, false⟩])
 (.seq
 (.seq
 (.reg false [⟨4, .mv (.t 0), none, false⟩,
 ⟨5, .ln true (.t 4), none, false⟩,
 ⟨6, .ar .lss false (.t 5) (.k (.sc (.int .i64 1))), none, false⟩,
 ⟨7, .mv (.t 6), none, false⟩,
 ⟨8, .mv (.t 0), (some (7, false)), false⟩,
 ⟨9, .ln true (.t 8), (some (7, false)), false⟩,
 ⟨10, .ar .gtr false (.t 9) (.k (.sc (.int .i64 10))), (some (7, false)), false⟩,
 ⟨11, .pk (.t 7) (.k (.sc (.bool true))) (.t 10), none, false⟩,
 ⟨12, .mv (.t 11), none, false⟩,
 ⟨13, .mv (.t 0), (some (12, false)), false⟩,
 ⟨14, .ix (.t 13) (.k (.sc (.int .i64 0))), (some (12, false)), false⟩,
 ⟨15, .ar .lss false (.t 14) (.k (.sc (.int .u8 97))), (some (12, false)), false⟩,
 ⟨16, .pk (.t 12) (.k (.sc (.bool true))) (.t 15), none, false⟩,
 ⟨17, .mv (.t 16), none, false⟩,
 ⟨18, .mv (.t 0), (some (17, false)), false⟩,
 ⟨19, .ix (.t 18) (.k (.sc (.int .i64 0))), (some (17, false)), false⟩,
 ⟨20, .ar .gtr false (.t 19) (.k (.sc (.int .u8 122))), (some (17, false)), false⟩,
 ⟨21, .pk (.t 17) (.k (.sc (.bool true))) (.t 20), none, false⟩])
 (.ite (.t 21)
 (.seq
 (.reg false [⟨2, .mv (.k (.sc (.bool false))), none, false⟩])
 .ret)
 .skip))
 (.seq
 (.seq
 (.reg false [⟨3, .mv (.k (.sc (.int .i64 0))), none, false⟩])
 (.cln [] [2]
 (.block 0
 (.loop [0, 3] b83_1))))
 (.seq
 (.reg false [⟨2, .mv (.k (.sc (.bool true))), none, false⟩])
 .ret))))⟩
attribute [simp] i83
set_option maxRecDepth 1000000 in
theorem c83 : cFn Try.prog 83 [[], [0, 3], [], [2]] = some i83 := by kernel_rfl
theorem e83 : enterOk Try.prog 83 = true := by kernel_rfl
def i84 : Ev.Fn := ⟨3, 15, [.tmp 6],
 (.seq
 (.reg false [⟨6, .mv (.k (.sc (.bool false))), none, false⟩])
 (.seq
 (.reg false [⟨7, .mv (.t 0), none, false⟩,
 ⟨8, .mv (.t 1), none, false⟩,
 ⟨9, .ar .geq false (.t 7) (.t 8), none, false⟩,
 ⟨10, .mv (.t 9), none, false⟩,
 ⟨11, .mv (.t 0), (some (10, true)), false⟩,
 ⟨12, .mv (.t 2), (some (10, true)), false⟩,
 ⟨13, .ar .leq false (.t 11) (.t 12), (some (10, true)), false⟩,
 ⟨14, .pk (.t 10) (.t 13) (.k (.sc (.bool false))), none, false⟩,
 ⟨6, .mv (.t 14), none, false⟩])
 .ret))⟩
attribute [simp] i84
set_option maxRecDepth 1000000 in
theorem c84 : cFn Try.prog 84 [[]] = some i84 := by kernel_rfl
theorem e84 : enterOk Try.prog 84 = true := by kernel_rfl
def i85 : Ev.Fn := ⟨2, 9, [.tmp 4],
 (.seq
 (.reg false [⟨4, .mv (.k (.sc (.bool false))), none, false⟩])
 (.seq
 (.reg false [⟨5, .mv (.t 0), none, false⟩,
 ⟨6, .mv (.t 1), none, false⟩,
 ⟨7, .ca (.k (.cl 130 [])) [(.t 5), (.t 6)], none, false⟩,
 ⟨8, .ar .geq false (.t 7) (.k (.sc (.int .i64 0))), none, false⟩,
 ⟨4, .mv (.t 8), none, false⟩])
 .ret))⟩
attribute [simp] i85
set_option maxRecDepth 1000000 in
theorem c85 : cFn Try.prog 85 [[]] = some i85 := by kernel_rfl
theorem e85 : enterOk Try.prog 85 = true := by kernel_rfl
def i86 : Ev.Fn := ⟨2, 11, [.tmp 3],
 (.seq
 (.reg false [⟨2, .bx (.t 0), none, false⟩,
 ⟨3, .mv (.k (.sc (.bool false))), none, false⟩])
 (.seq
 (.reg false [⟨4, .ld 4 true (.t 2), none, false⟩,
 ⟨5, .fa 6 (.t 1), none, false⟩,
 ⟨6, .ld 1 false (.t 5), none, false⟩,
 ⟨7, .fa 7 (.t 1), none, false⟩,
 ⟨8, .ld 1 false (.t 7), none, false⟩,
 ⟨9, .ca (.k (.cl 87 [])) [(.t 4), (.t 6), (.t 8)], none, false⟩,
 ⟨10, .nt (.t 9), none, false⟩,
 ⟨3, .mv (.t 10), none, false⟩])
 .ret))⟩
attribute [simp] i86
set_option maxRecDepth 1000000 in
theorem c86 : cFn Try.prog 86 [[]] = some i86 := by kernel_rfl
theorem e86 : enterOk Try.prog 86 = true := by kernel_rfl
def i87 : Ev.Fn := ⟨3, 35, [.tmp 6],
 (.seq
 (.reg false [⟨3, .bx (.t 0), none, false⟩,
 ⟨6, .mv (.k (.sc (.bool false))), none, false⟩])
 (.seq
 (.reg false [⟨7, .fa 0 (.t 3), none, false⟩,
 ⟨8, .ld 1 false (.t 7), none, false⟩,
 ⟨9, .mv (.t 1), none, false⟩,
 ⟨10, .ca (.k (.cl 84 [])) [(.t 8), (.k (.sc (.int .i64 0))), (.t 9)], none, false⟩,
 ⟨11, .mv (.t 10), none, false⟩,
 ⟨12, .fa 1 (.t 3), (some (11, true)), false⟩,
 ⟨13, .ld 1 false (.t 12), (some (11, true)), false⟩,
 ⟨14, .mv (.t 2), (some (11, true)), false⟩,
 ⟨15, .ca (.k (.cl 84 [])) [(.t 13), (.k (.sc (.int .i64 0))), (.t 14)], (some (11, true)), false⟩,
 ⟨16, .pk (.t 11) (.t 15) (.k (.sc (.bool false))), none, false⟩,
 ⟨17, .mv (.t 16), none, false⟩,
 ⟨18, .fa 2 (.t 3), (some (17, true)), false⟩,
 ⟨19, .ld 1 false (.t 18), (some (17, true)), false⟩,
 ⟨20, .mv (.t 1), (some (17, true)), false⟩,
 ⟨21, .fa 0 (.t 3), (some (17, true)), false⟩,
 ⟨22, .ld 1 false (.t 21), (some (17, true)), false⟩,
 ⟨23, .ar .sub false (.t 20) (.t 22), (some (17, true)), false⟩,
 ⟨24, .ca (.k (.cl 84 [])) [(.t 19), (.k (.sc (.int .i64 1))), (.t 23)], (some (17, true)), false⟩,
 ⟨25, .pk (.t 17) (.t 24) (.k (.sc (.bool false))), none, false⟩,
 ⟨26, .mv (.t 25), none, false⟩,
 ⟨27, .fa 3 (.t 3), (some (26, true)), false⟩,
 ⟨28, .ld 1 false (.t 27), (some (26, true)), false⟩,
 ⟨29, .mv (.t 2), (some (26, true)), false⟩,
 ⟨30, .fa 1 (.t 3), (some (26, true)), false⟩,
 ⟨31, .ld 1 false (.t 30), (some (26, true)), false⟩,
 ⟨32, .ar .sub false (.t 29) (.t 31), (some (26, true)), false⟩,
 ⟨33, .ca (.k (.cl 84 [])) [(.t 28), (.k (.sc (.int .i64 1))), (.t 32)], (some (26, true)), false⟩,
 ⟨34, .pk (.t 26) (.t 33) (.k (.sc (.bool false))), none, false⟩,
 ⟨6, .mv (.t 34), none, false⟩])
 .ret))⟩
attribute [simp] i87
set_option maxRecDepth 1000000 in
theorem c87 : cFn Try.prog 87 [[]] = some i87 := by kernel_rfl
theorem e87 : enterOk Try.prog 87 = true := by kernel_rfl
def i88 : Ev.Fn := ⟨3, 15, [.tmp 6],
 (.seq
 (.reg false [⟨6, .mv (.k (.sc (.bool false))), none, false⟩])
 (.seq
 (.reg false [⟨7, .mv (.t 0), none, false⟩,
 ⟨8, .mv (.t 1), none, false⟩,
 ⟨9, .ar .geq false (.t 7) (.t 8), none, false⟩,
 ⟨10, .mv (.t 9), none, false⟩,
 ⟨11, .mv (.t 0), (some (10, true)), false⟩,
 ⟨12, .mv (.t 2), (some (10, true)), false⟩,
 ⟨13, .ar .leq false (.t 11) (.t 12), (some (10, true)), false⟩,
 ⟨14, .pk (.t 10) (.t 13) (.k (.sc (.bool false))), none, false⟩,
 ⟨6, .mv (.t 14), none, false⟩])
 .ret))⟩
attribute [simp] i88
set_option maxRecDepth 1000000 in
theorem c88 : cFn Try.prog 88 [[]] = some i88 := by kernel_rfl
theorem e88 : enterOk Try.prog 88 = true := by kernel_rfl
def i89 : Ev.Fn := ⟨2, 67, [.tmp 4],
 (.seq
 (.reg false [⟨4, .mv (.k (.sc (.bool false))), none, false⟩])
 (.seq
 (.reg true [⟨5, .mv (.t 0), none, false⟩,
 ⟨6, .nc (.t 5), none, false⟩,
 ⟨7, .fa 0 (.t 6), none, false⟩,
 ⟨8, .ld 1 false (.t 7), none, false⟩,
 ⟨9, .mv (.t 1), none, false⟩,
 ⟨10, .nc (.t 9), none, false⟩,
 ⟨11, .fa 0 (.t 10), none, false⟩,
 ⟨12, .ld 1 false (.t 11), none, false⟩,
 ⟨13, .mv (.t 1), none, false⟩,
 ⟨14, .nc (.t 13), none, false⟩,
 ⟨15, .fa 2 (.t 14), none, false⟩,
 ⟨16, .ld 1 false (.t 15), none, false⟩,
 ⟨17, .ar .add false (.t 12) (.t 16), none, false⟩,
 ⟨18, .ar .lss false (.t 8) (.t 17), none, false⟩,
 ⟨19, .mv (.t 18), none, false⟩,
 ⟨20, .mv (.t 1), (some (19, true)), false⟩,
 ⟨21, .nc (.t 20), (some (19, true)), false⟩,
 ⟨22, .fa 0 (.t 21), (some (19, true)), false⟩,
 ⟨23, .ld 1 false (.t 22), (some (19, true)), false⟩,
 ⟨24, .mv (.t 0), (some (19, true)), false⟩,
 ⟨25, .nc (.t 24), (some (19, true)), false⟩,
 ⟨26, .fa 0 (.t 25), (some (19, true)), false⟩,
 ⟨27, .ld 1 false (.t 26), (some (19, true)), false⟩,
 ⟨28, .mv (.t 0), (some (19, true)), false⟩,
 ⟨29, .nc (.t 28), (some (19, true)), false⟩,
 ⟨30, .fa 2 (.t 29), (some (19, true)), false⟩,
 ⟨31, .ld 1 false (.t 30), (some (19, true)), false⟩,
 ⟨32, .ar .add false (.t 27) (.t 31), (some (19, true)), false⟩,
 ⟨33, .ar .lss false (.t 23) (.t 32), (some (19, true)), false⟩,
 ⟨34, .pk (.t 19) (.t 33) (.k (.sc (.bool false))), none, false⟩,
 ⟨35, .mv (.t 34), none, false⟩,
 ⟨36, .mv (.t 0), (some (35, true)), false⟩,
 ⟨37, .nc (.t 36), (some (35, true)), false⟩,
 ⟨38, .fa 1 (.t 37), (some (35, true)), false⟩,
 ⟨39, .ld 1 false (.t 38), (some (35, true)), false⟩,
 ⟨40, .mv (.t 1), (some (35, true)), false⟩,
 ⟨41, .nc (.t 40), (some (35, true)), false⟩,
 ⟨42, .fa 1 (.t 41), (some (35, true)), false⟩,
 ⟨43, .ld 1 false (.t 42), (some (35, true)), false⟩,
 ⟨44, .mv (.t 1), (some (35, true)), false⟩,
 ⟨45, .nc (.t 44), (some (35, true)), false⟩,
 ⟨46, .fa 3 (.t 45), (some (35, true)), false⟩,
 ⟨47, .ld 1 false (.t 46), (some (35, true)), false⟩,
 ⟨48, .ar .add false (.t 43) (.t 47), (some (35, true)), false⟩,
 ⟨49, .ar .lss false (.t 39) (.t 48), (some (35, true)), false⟩,
 ⟨50, .pk (.t 35) (.t 49) (.k (.sc (.bool false))), none, false⟩,
 ⟨51, .mv (.t 50), none, false⟩,
 ⟨52, .mv (.t 1), (some (51, true)), false⟩,
 ⟨53, .nc (.t 52), (some (51, true)), false⟩,
 ⟨54, .fa 1 (.t 53), (some (51, true)), false⟩,
 ⟨55, .ld 1 false (.t 54), (some (51, true)), false⟩,
 ⟨56, .mv (.t 0), (some (51, true)), false⟩,
 ⟨57, .nc (.t 56), (some (51, true)), false⟩,
 ⟨58, .fa 1 (.t 57), (some (51, true)), false⟩,
 ⟨59, .ld 1 false (.t 58), (some (51, true)), false⟩,
 ⟨60, .mv (.t 0), (some (51, true)), false⟩,
 ⟨61, .nc (.t 60), (some (51, true)), false⟩,
 ⟨62, .fa 3 (.t 61), (some (51, true)), false⟩,
 ⟨63, .ld 1 false (.t 62), (some (51, true)), false⟩,
 ⟨64, .ar .add false (.t 59) (.t 63), (some (51, true)), false⟩,
 ⟨65, .ar .lss false (.t 55) (.t 64), (some (51, true)), false⟩,
 ⟨66, .pk (.t 51) (.t 65) (.k (.sc (.bool false))), none, false⟩,
 ⟨4, .mv (.t 66), none, false⟩])
 .ret))⟩
attribute [simp] i89
set_option maxRecDepth 1000000 in
theorem c89 : cFn Try.prog 89 [[]] = some i89 := by kernel_rfl
theorem e89 : enterOk Try.prog 89 = true := by kernel_rfl
def i90 : Ev.Fn := ⟨2, 14, [.tmp 4],
 (.seq
 (.reg false [⟨2, .bx (.t 0), none, false⟩,
 ⟨3, .bx (.t 1), none, false⟩,
 ⟨4, .mv (.k (.sc (.bool false))), none, false⟩])
 (.seq
 (.reg false [⟨8, .ld 4 true (.t 2), none, false⟩,
 ⟨9, .ld 4 true (.t 3), none, false⟩,
 ⟨10, .ca (.k (.cl 110 [])) [(.t 8), (.t 9)], none, false⟩,
 ⟨7, .mv (.t 10), none, false⟩,
 ⟨11, .xt (.t 7) 0, none, false⟩,
 ⟨12, .xt (.t 7) 1, none, false⟩,
 ⟨5, .al [(.sc (.int .i64 0)), (.sc (.int .i64 0)), (.sc (.int .i64 0)), (.sc (.int .i64 0))], none, false⟩,
 ⟨1, .so 4 (.t 5) (.t 11), none, true⟩,
 ⟨6, .mv (.t 12), none, false⟩])
 (.seq
 (.reg false [⟨13, .mv (.t 6), none, false⟩,
 ⟨4, .mv (.t 13), none, false⟩])
 .ret)))⟩
attribute [simp] i90
set_option maxRecDepth 1000000 in
theorem c90 : cFn Try.prog 90 [[]] = some i90 := by kernel_rfl
theorem e90 : enterOk Try.prog 90 = true := by kernel_rfl
def w91_1 : IC :=
(.seq
 (.seq
 (.reg false [⟨4, .mv (.t 3), none, false⟩,
 ⟨5, .mv (.t 0), none, false⟩,
 ⟨6, .ln false (.t 5), none, false⟩,
 ⟨7, .ar .lss false (.t 4) (.t 6), none, false⟩])
 (.ite (.t 7)
 .skip
 (.exit 0)))
 (.seq
 (.block 1
 (.seq
 (.reg true [⟨10, .mv (.t 0), none, false⟩,
 ⟨11, .mv (.t 3), none, false⟩,
 ⟨12, .ia 9 (.t 10) (.t 11), none, false⟩,
 ⟨13, .ca (.k (.cl 82 [])) [(.t 12)], none, false⟩,
 ⟨14, .nt (.t 13), none, false⟩,
 ⟨15, .mv (.t 14), none, false⟩,
 ⟨16, .mv (.t 3), (some (15, false)), false⟩,
 ⟨17, .ar .gtr false (.t 16) (.k (.sc (.int .i64 0))), (some (15, false)), false⟩,
 ⟨18, .mv (.t 17), (some (15, false)), false⟩,
 ⟨19, .mv (.t 0), (some (18, true)), false⟩,
 ⟨20, .mv (.t 3), (some (18, true)), false⟩,
 ⟨21, .ar .sub false (.t 20) (.k (.sc (.int .i64 1))), (some (18, true)), false⟩,
 ⟨22, .ia 9 (.t 19) (.t 21), (some (18, true)), false⟩,
 ⟨23, .fa 0 (.t 22), (some (18, true)), false⟩,
 ⟨24, .ld 1 false (.t 23), (some (18, true)), false⟩,
 ⟨25, .mv (.t 0), (some (18, true)), false⟩,
 ⟨26, .mv (.t 3), (some (18, true)), false⟩,
 ⟨27, .ia 9 (.t 25) (.t 26), (some (18, true)), false⟩,
 ⟨28, .fa 0 (.t 27), (some (18, true)), false⟩,
 ⟨29, .ld 1 false (.t 28), (some (18, true)), false⟩,
 ⟨30, .ar .geq false (.t 24) (.t 29), (some (18, true)), false⟩,
 ⟨31, .pk (.t 18) (.t 30) (.k (.sc (.bool false))), (some (15, false)), false⟩,
 ⟨32, .pk (.t 15) (.k (.sc (.bool true))) (.t 31), none, false⟩])
 (.ite (.t 32)
 (.seq
 (.reg false [⟨2, .mv (.k (.sc (.bool false))), none, false⟩])
 .ret)
 .skip)))
 (.reg false [⟨8, .mv (.t 3), none, false⟩,
 ⟨9, .ar .add false (.t 8) (.k (.sc (.int .i64 1))), none, false⟩,
 ⟨3, .mv (.t 9), none, false⟩])))
def b91_1 : IC := w91_1
theorem u91_1 (call : CallF) (st : St) : evC call b91_1 st = evC call w91_1 st := rfl
attribute [simp] u91_1 w91_1
def i91 : Ev.Fn := ⟨1, 36, [.tmp 2],
 (.seq
 (.reg false [⟨2, .mv (.k (.sc (.bool false))), none, false⟩])
 (.seq
 (.seq
 (.reg false [⟨3, .mv (.k (.sc (.int .i64 0))), none, false⟩])
 (.cln [0] [2]
 (.block 0
 (.loop [0, 3] b91_1))))
 (.seq
 (.reg false [⟨33, .mv (.t 0), none, false⟩,
 ⟨34, .ln false (.t 33), none, false⟩,
 ⟨35, .ar .leq false (.t 34) (.k (.sc (.int .i64 16))), none, false⟩,
 ⟨2, .mv (.t 35), none, false⟩])
 .ret)))⟩
attribute [simp] i91
set_option maxRecDepth 1000000 in
theorem c91 : cFn Try.prog 91 [[], [0, 3], [0], [2]] = some i91 := by kernel_rfl
theorem e91 : enterOk Try.prog 91 = true := by kernel_rfl
def w92_1 : IC :=
(.seq
 (.seq
 (.reg false [⟨27, .mv (.t 5), none, false⟩,
 ⟨28, .mv (.t 0), none, false⟩,
 ⟨29, .nc (.t 28), none, false⟩,
 ⟨30, .fa 4 (.t 29), none, false⟩,
 ⟨31, .ld 1 false (.t 30), none, false⟩,
 ⟨32, .ln false (.t 31), none, false⟩,
 ⟨33, .ar .lss false (.t 27) (.t 32), none, false⟩])
 (.ite (.t 33)
 .skip
 (.exit 0)))
 (.seq
 (.block 1
 (.seq
 (.reg true [⟨36, .mv (.t 0), none, false⟩,
 ⟨37, .nc (.t 36), none, false⟩,
 ⟨38, .fa 4 (.t 37), none, false⟩,
 ⟨39, .ld 1 false (.t 38), none, false⟩,
 ⟨40, .mv (.t 5), none, false⟩,
 ⟨41, .ia 3 (.t 39) (.t 40), none, false⟩,
 ⟨42, .ld 3 true (.t 41), none, false⟩,
 ⟨43, .mv (.t 1), none, false⟩,
 ⟨44, .nc (.t 43), none, false⟩,
 ⟨45, .fa 4 (.t 44), none, false⟩,
 ⟨46, .ld 1 false (.t 45), none, false⟩,
 ⟨47, .mv (.t 5), none, false⟩,
 ⟨48, .ia 3 (.t 46) (.t 47), none, false⟩,
 ⟨49, .ld 3 true (.t 48), none, false⟩,
 ⟨50, .eq true [2, 1, 1] (.t 42) (.t 49), none, false⟩])
 (.ite (.t 50)
 (.seq
 (.reg false [⟨4, .mv (.k (.sc (.bool false))), none, false⟩])
 .ret)
 .skip)))
 (.reg false [⟨34, .mv (.t 5), none, false⟩,
 ⟨35, .ar .add false (.t 34) (.k (.sc (.int .i64 1))), none, false⟩,
 ⟨5, .mv (.t 35), none, false⟩])))
def b92_1 : IC := w92_1
theorem u92_1 (call : CallF) (st : St) : evC call b92_1 st = evC call w92_1 st := rfl
attribute [simp] u92_1 w92_1
def i92 : Ev.Fn := ⟨2, 51, [.tmp 4],
 (.seq
 (.reg false [⟨4, .mv (.k (.sc (.bool false))), none, false⟩])
 (.seq
 (.seq
 (.reg true [⟨6, .mv (.t 0), none, false⟩,
 ⟨7, .nc (.t 6), none, false⟩,
 ⟨8, .fa 0 (.t 7), none, false⟩,
 ⟨9, .mv (.t 1), none, false⟩,
 ⟨10, .nc (.t 9), none, false⟩,
 ⟨11, .fa 0 (.t 10), none, false⟩,
 ⟨12, .ca (.k (.cl 131 [])) [(.t 8), (.t 11)], none, false⟩,
 ⟨13, .nt (.t 12), none, false⟩,
 ⟨14, .mv (.t 13), none, false⟩,
 ⟨15, .mv (.t 0), (some (14, false)), false⟩,
 ⟨16, .nc (.t 15), (some (14, false)), false⟩,
 ⟨17, .fa 4 (.t 16), (some (14, false)), false⟩,
 ⟨18, .ld 1 false (.t 17), (some (14, false)), false⟩,
 ⟨19, .ln false (.t 18), (some (14, false)), false⟩,
 ⟨20, .mv (.t 1), (some (14, false)), false⟩,
 ⟨21, .nc (.t 20), (some (14, false)), false⟩,
 ⟨22, .fa 4 (.t 21), (some (14, false)), false⟩,
 ⟨23, .ld 1 false (.t 22), (some (14, false)), false⟩,
 ⟨24, .ln false (.t 23), (some (14, false)), false⟩,
 ⟨25, .ar .neq false (.t 19) (.t 24), (some (14, false)), false⟩,
 ⟨26, .pk (.t 14) (.k (.sc (.bool true))) (.t 25), none, false⟩])
 (.ite (.t 26)
 (.seq
 (.reg false [⟨4, .mv (.k (.sc (.bool false))), none, false⟩])
 .ret)
 .skip))
 (.seq
 (.seq
 (.reg false [⟨5, .mv (.k (.sc (.int .i64 0))), none, false⟩])
 (.cln [] [4]
 (.block 0
 (.loop [0, 1, 5] b92_1))))
 (.seq
 (.reg false [⟨4, .mv (.k (.sc (.bool true))), none, false⟩])
 .ret))))⟩
attribute [simp] i92
set_option maxRecDepth 1000000 in
theorem c92 : cFn Try.prog 92 [[], [0, 1, 5], [], [4]] = some i92 := by kernel_rfl
theorem e92 : enterOk Try.prog 92 = true := by kernel_rfl
def i93 : Ev.Fn := ⟨2, 31, [.tmp 4],
 (.seq
 (.reg false [⟨2, .bx (.t 0), none, false⟩,
 ⟨3, .bx (.t 1), none, false⟩,
 ⟨4, .mv (.k (.sc (.bool false))), none, false⟩])
 (.seq
 (.reg false [⟨5, .fa 0 (.t 2), none, false⟩,
 ⟨6, .ld 1 false (.t 5), none, false⟩,
 ⟨7, .fa 0 (.t 3), none, false⟩,
 ⟨8, .ld 1 false (.t 7), none, false⟩,
 ⟨9, .ar .eql false (.t 6) (.t 8), none, false⟩,
 ⟨10, .mv (.t 9), none, false⟩,
 ⟨11, .fa 1 (.t 2), (some (10, true)), false⟩,
 ⟨12, .ld 1 false (.t 11), (some (10, true)), false⟩,
 ⟨13, .fa 1 (.t 3), (some (10, true)), false⟩,
 ⟨14, .ld 1 false (.t 13), (some (10, true)), false⟩,
 ⟨15, .ar .eql false (.t 12) (.t 14), (some (10, true)), false⟩,
 ⟨16, .pk (.t 10) (.t 15) (.k (.sc (.bool false))), none, false⟩,
 ⟨17, .mv (.t 16), none, false⟩,
 ⟨18, .fa 2 (.t 2), (some (17, true)), false⟩,
 ⟨19, .ld 1 false (.t 18), (some (17, true)), false⟩,
 ⟨20, .fa 2 (.t 3), (some (17, true)), false⟩,
 ⟨21, .ld 1 false (.t 20), (some (17, true)), false⟩,
 ⟨22, .ca (.k (.cl 132 [])) [(.t 19), (.t 21)], (some (17, true)), false⟩,
 ⟨23, .pk (.t 17) (.t 22) (.k (.sc (.bool false))), none, false⟩,
 ⟨24, .mv (.t 23), none, false⟩,
 ⟨25, .fa 3 (.t 2), (some (24, true)), false⟩,
 ⟨26, .ld 1 false (.t 25), (some (24, true)), false⟩,
 ⟨27, .fa 3 (.t 3), (some (24, true)), false⟩,
 ⟨28, .ld 1 false (.t 27), (some (24, true)), false⟩,
 ⟨29, .ca (.k (.cl 133 [])) [(.t 26), (.t 28), (.k (.cl 134 []))], (some (24, true)), false⟩,
 ⟨30, .pk (.t 24) (.t 29) (.k (.sc (.bool false))), none, false⟩,
 ⟨4, .mv (.t 30), none, false⟩])
 .ret))⟩
attribute [simp] i93
set_option maxRecDepth 1000000 in
theorem c93 : cFn Try.prog 93 [[]] = some i93 := by kernel_rfl
theorem e93 : enterOk Try.prog 93 = true := by kernel_rfl
def w94_1 : IC :=
(.seq
 (.reg false [⟨14, .ar .lss false (.t 13) (.t 12), none, false⟩])
 (.seq
 (.ite (.t 14)
 .skip
 (.exit 0))
 (.seq
 (.block 1
 (.seq
 (.reg false [⟨15, .mv (.t 13), none, false⟩,
 ⟨5, .mv (.t 15), none, false⟩])
 (.seq
 (.reg true [⟨16, .mv (.t 0), none, false⟩,
 ⟨17, .mv (.t 5), none, false⟩,
 ⟨18, .ia 3 (.t 16) (.t 17), none, false⟩,
 ⟨19, .ld 3 true (.t 18), none, false⟩,
 ⟨20, .mv (.t 1), none, false⟩,
 ⟨21, .mv (.t 5), none, false⟩,
 ⟨22, .ia 3 (.t 20) (.t 21), none, false⟩,
 ⟨23, .ld 3 true (.t 22), none, false⟩,
 ⟨24, .eq true [2, 1, 1] (.t 19) (.t 23), none, false⟩])
 (.ite (.t 24)
 (.seq
 (.reg false [⟨4, .mv (.k (.sc (.bool false))), none, false⟩])
 .ret)
 .skip))))
 (.reg false [⟨25, .ar .add false (.t 13) (.k (.sc (.int .i64 1))), none, false⟩,
 ⟨13, .mv (.t 25), none, false⟩]))))
def b94_1 : IC := w94_1
theorem u94_1 (call : CallF) (st : St) : evC call b94_1 st = evC call w94_1 st := rfl
attribute [simp] u94_1 w94_1
def i94 : Ev.Fn := ⟨2, 26, [.tmp 4],
 (.seq
 (.reg false [⟨4, .mv (.k (.sc (.bool false))), none, false⟩])
 (.seq
 (.seq
 (.reg false [⟨6, .mv (.t 0), none, false⟩,
 ⟨7, .ln false (.t 6), none, false⟩,
 ⟨8, .mv (.t 1), none, false⟩,
 ⟨9, .ln false (.t 8), none, false⟩,
 ⟨10, .ar .neq false (.t 7) (.t 9), none, false⟩])
 (.ite (.t 10)
 (.seq
 (.reg false [⟨4, .mv (.k (.sc (.bool false))), none, false⟩])
 .ret)
 .skip))
 (.seq
 (.seq
 (.reg false [⟨11, .mv (.t 0), none, false⟩,
 ⟨12, .ln false (.t 11), none, false⟩,
 ⟨13, .mv (.k (.sc (.int .i64 0))), none, false⟩])
 (.cln [] [4]
 (.block 0
 (.loop [0, 1, 12, 13] b94_1))))
 (.seq
 (.reg false [⟨4, .mv (.k (.sc (.bool true))), none, false⟩])
 .ret))))⟩
attribute [simp] i94
set_option maxRecDepth 1000000 in
theorem c94 : cFn Try.prog 94 [[], [0, 1, 12, 13], [], [4]] = some i94 := by kernel_rfl
theorem e94 : enterOk Try.prog 94 = true := by kernel_rfl
end Go.Proofs.Ytmfcdjkeofohpaa.walkS
