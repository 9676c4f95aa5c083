/- The functions that some rows reach, turned; no conditions. -/
import Derived.Test.YtojjkjbffihppaaIrS1
import Derived.KernelRfl
import Derived.Test.YtojjkjbffihppaaProg
namespace Go.Proofs.Ytojjkjbffihppaa.walkS
open Go Go.Proofs.Ytojjkjbffihppaa.Ev
def w176_2 : IC :=
(.seq
 (.seq
 (.reg false [⟨62, .mv (.t 8), none, false⟩,
 ⟨63, .mv (.t 3), none, false⟩,
 ⟨64, .ar .lss false (.t 62) (.t 63), none, false⟩])
 (.ite (.t 64)
 .skip
 (.exit 2)))
 (.seq
 (.block 3
 (.seq
 (.reg true [⟨67, .mv (.t 8), none, false⟩,
 ⟨68, .ar .add false (.t 67) (.k (.sc (.int .i64 1))), none, false⟩,
 ⟨69, .mv (.t 3), none, false⟩,
 ⟨70, .ar .rem false (.t 68) (.t 69), none, false⟩,
 ⟨71, .mv (.t 4), none, false⟩,
 ⟨72, .ar .neq false (.t 70) (.t 71), none, false⟩,
 ⟨73, .mv (.t 72), none, false⟩,
 ⟨74, .ld 2 true (.t 5), (some (73, true)), false⟩,
 ⟨75, .ld 2 true (.t 6), (some (73, true)), false⟩,
 ⟨76, .mv (.t 0), (some (73, true)), false⟩,
 ⟨77, .mv (.t 8), (some (73, true)), false⟩,
 ⟨78, .ia 2 (.t 76) (.t 77), (some (73, true)), false⟩,
 ⟨79, .ld 2 true (.t 78), (some (73, true)), false⟩,
 ⟨80, .mv (.t 0), (some (73, true)), false⟩,
 ⟨81, .mv (.t 8), (some (73, true)), false⟩,
 ⟨82, .ar .add false (.t 81) (.k (.sc (.int .i64 1))), (some (73, true)), false⟩,
 ⟨83, .mv (.t 3), (some (73, true)), false⟩,
 ⟨84, .ar .rem false (.t 82) (.t 83), (some (73, true)), false⟩,
 ⟨85, .ia 2 (.t 80) (.t 84), (some (73, true)), false⟩,
 ⟨86, .ld 2 true (.t 85), (some (73, true)), false⟩,
 ⟨87, .ca (.k (.cl 226 [])) [(.t 74), (.t 75), (.t 79), (.t 86)], (some (73, true)), false⟩,
 ⟨88, .pk (.t 73) (.t 87) (.k (.sc (.bool false))), none, false⟩])
 (.ite (.t 88)
 (.seq
 (.reg false [⟨2, .mv (.k (.sc (.bool false))), none, false⟩])
 .ret)
 .skip)))
 (.reg false [⟨65, .mv (.t 8), none, false⟩,
 ⟨66, .ar .add false (.t 65) (.k (.sc (.int .i64 1))), none, false⟩,
 ⟨8, .mv (.t 66), none, false⟩])))
def b176_2 : IC := w176_2
theorem u176_2 (call : CallF) (st : St) : evC call b176_2 st = evC call w176_2 st := rfl
attribute [simp] u176_2 w176_2
def w176_1 : IC :=
(.seq
 (.reg false [⟨25, .ar .lss false (.t 24) (.t 23), none, false⟩])
 (.seq
 (.ite (.t 25)
 .skip
 (.exit 0))
 (.seq
 (.block 1
 (.seq
 (.reg false [⟨26, .mv (.t 24), none, false⟩,
 ⟨4, .mv (.t 26), none, false⟩])
 (.seq
 (.rgc [.ne 5 31, .ne 5 35, .ne 5 36, .ne 5 38, .ne 5 42, .ne 5 43, .ne 6 38, .ne 6 42, .ne 6 43] [⟨27, .mv (.t 0), none, false⟩,
 ⟨28, .mv (.t 4), none, false⟩,
 ⟨29, .ia 2 (.t 27) (.t 28), none, false⟩,
 ⟨30, .ld 2 true (.t 29), none, false⟩,
 ⟨31, .mv (.t 0), none, false⟩,
 ⟨32, .mv (.t 4), none, false⟩,
 ⟨33, .ar .add false (.t 32) (.k (.sc (.int .i64 1))), none, false⟩,
 ⟨34, .mv (.t 3), none, false⟩,
 ⟨35, .ar .rem false (.t 33) (.t 34), none, false⟩,
 ⟨36, .ia 2 (.t 31) (.t 35), none, false⟩,
 ⟨37, .ld 2 true (.t 36), none, false⟩,
 ⟨38, .mv (.t 0), none, false⟩,
 ⟨39, .mv (.t 4), none, false⟩,
 ⟨40, .ar .add false (.t 39) (.k (.sc (.int .i64 2))), none, false⟩,
 ⟨41, .mv (.t 3), none, false⟩,
 ⟨42, .ar .rem false (.t 40) (.t 41), none, false⟩,
 ⟨43, .ia 2 (.t 38) (.t 42), none, false⟩,
 ⟨44, .ld 2 true (.t 43), none, false⟩,
 ⟨5, .al [(.sc (.int .i64 0)), (.sc (.int .i64 0))], none, false⟩,
 ⟨6, .al [(.sc (.int .i64 0)), (.sc (.int .i64 0))], none, false⟩,
 ⟨7, .al [(.sc (.int .i64 0)), (.sc (.int .i64 0))], none, false⟩,
 ⟨0, .so 2 (.t 5) (.t 30), none, true⟩,
 ⟨0, .so 2 (.t 6) (.t 37), none, true⟩,
 ⟨0, .so 2 (.t 7) (.t 44), none, true⟩])
 (.seq
 (.seq
 (.reg false [⟨45, .ld 2 true (.t 5), none, false⟩,
 ⟨46, .ld 2 true (.t 6), none, false⟩,
 ⟨47, .eq false [1, 1] (.t 45) (.t 46), none, false⟩,
 ⟨48, .mv (.t 47), none, false⟩,
 ⟨49, .ld 2 true (.t 5), (some (48, false)), false⟩,
 ⟨50, .ld 2 true (.t 6), (some (48, false)), false⟩,
 ⟨51, .ld 2 true (.t 7), (some (48, false)), false⟩,
 ⟨52, .ca (.k (.cl 225 [])) [(.t 49), (.t 50), (.t 51)], (some (48, false)), false⟩,
 ⟨53, .pk (.t 48) (.k (.sc (.bool true))) (.t 52), none, false⟩,
 ⟨54, .mv (.t 53), none, false⟩,
 ⟨55, .ld 2 true (.t 6), (some (54, false)), false⟩,
 ⟨56, .ld 2 true (.t 7), (some (54, false)), false⟩,
 ⟨57, .ld 2 true (.t 5), (some (54, false)), false⟩,
 ⟨58, .ca (.k (.cl 225 [])) [(.t 55), (.t 56), (.t 57)], (some (54, false)), false⟩,
 ⟨59, .pk (.t 54) (.k (.sc (.bool true))) (.t 58), none, false⟩])
 (.ite (.t 59)
 (.seq
 (.reg false [⟨2, .mv (.k (.sc (.bool false))), none, false⟩])
 .ret)
 .skip))
 (.seq
 (.reg false [⟨60, .mv (.t 4), none, false⟩,
 ⟨61, .ar .add false (.t 60) (.k (.sc (.int .i64 2))), none, false⟩,
 ⟨8, .mv (.t 61), none, false⟩])
 (.cln [0, 3, 23, 24] [2]
 (.block 2
 (.loop [0, 3, 4, 5, 6, 8, 23, 24] b176_2))))))))
 (.reg false [⟨89, .ar .add false (.t 24) (.k (.sc (.int .i64 1))), none, false⟩,
 ⟨24, .mv (.t 89), none, false⟩]))))
def b176_1 : IC := w176_1
theorem u176_1 (call : CallF) (st : St) : evC call b176_1 st = evC call w176_1 st := rfl
attribute [simp] u176_1 w176_1
def i176 : Ev.Fn := ⟨1, 93, [.tmp 2],
 (.seq
 (.reg false [⟨2, .mv (.k (.sc (.bool false))), none, false⟩])
 (.seq
 (.reg false [⟨9, .mv (.t 0), none, false⟩,
 ⟨10, .ln false (.t 9), none, false⟩,
 ⟨3, .mv (.t 10), none, false⟩])
 (.seq
 (.seq
 (.reg false [⟨11, .mv (.t 3), none, false⟩,
 ⟨12, .ar .lss false (.t 11) (.k (.sc (.int .i64 3))), none, false⟩,
 ⟨13, .mv (.t 12), none, false⟩,
 ⟨14, .mv (.t 3), (some (13, false)), false⟩,
 ⟨15, .ar .gtr false (.t 14) (.k (.sc (.int .i64 24))), (some (13, false)), false⟩,
 ⟨16, .pk (.t 13) (.k (.sc (.bool true))) (.t 15), none, false⟩,
 ⟨17, .mv (.t 16), none, false⟩,
 ⟨18, .mv (.t 0), (some (17, false)), false⟩,
 ⟨19, .ca (.k (.cl 177 [])) [(.t 18)], (some (17, false)), false⟩,
 ⟨20, .nt (.t 19), (some (17, false)), false⟩,
 ⟨21, .pk (.t 17) (.k (.sc (.bool true))) (.t 20), none, false⟩])
 (.ite (.t 21)
 (.seq
 (.reg false [⟨2, .mv (.k (.sc (.bool false))), none, false⟩])
 .ret)
 .skip))
 (.seq
 (.seq
 (.reg false [⟨22, .mv (.t 0), none, false⟩,
 ⟨23, .ln false (.t 22), none, false⟩,
 ⟨24, .mv (.k (.sc (.int .i64 0))), none, false⟩])
 (.cln [0] [2]
 (.block 0
 (.loop [0, 3, 23, 24] b176_1))))
 (.seq
 (.reg false [⟨90, .mv (.t 0), none, false⟩,
 ⟨91, .ca (.k (.cl 108 [])) [(.t 90)], none, false⟩,
 ⟨92, .ar .gtr false (.t 91) (.k (.sc (.int .i64 0))), none, false⟩,
 ⟨2, .mv (.t 92), none, false⟩])
 .ret)))))⟩
attribute [simp] i176
set_option maxRecDepth 1000000 in
theorem c176 : cFn Try.prog 176 [[], [0, 3, 23, 24], [0, 3, 4, 5, 6, 8, 23, 24], [0, 3, 23, 24], [2], [0], [2]] = some i176 := by kernel_rfl
theorem e176 : enterOk Try.prog 176 = true := by kernel_rfl
def w177_1 : IC :=
(.seq
 (.reg false [⟨8, .ar .lss false (.t 7) (.t 6), none, false⟩])
 (.seq
 (.ite (.t 8)
 .skip
 (.exit 0))
 (.seq
 (.block 1
 (.seq
 (.reg false [⟨9, .ia 2 (.t 5) (.t 7), none, false⟩,
 ⟨10, .ld 2 true (.t 9), none, false⟩,
 ⟨4, .al [(.sc (.int .i64 0)), (.sc (.int .i64 0))], none, false⟩,
 ⟨1, .so 2 (.t 4) (.t 10), none, true⟩])
 (.seq
 (.reg false [⟨11, .ld 2 true (.t 4), none, false⟩,
 ⟨12, .ca (.k (.cl 227 [])) [(.t 11)], none, false⟩,
 ⟨13, .nt (.t 12), none, false⟩])
 (.ite (.t 13)
 (.seq
 (.reg false [⟨2, .mv (.k (.sc (.bool false))), none, false⟩])
 .ret)
 .skip))))
 (.reg false [⟨14, .ar .add false (.t 7) (.k (.sc (.int .i64 1))), none, false⟩,
 ⟨7, .mv (.t 14), none, false⟩]))))
def b177_1 : IC := w177_1
theorem u177_1 (call : CallF) (st : St) : evC call b177_1 st = evC call w177_1 st := rfl
attribute [simp] u177_1 w177_1
def i177 : Ev.Fn := ⟨1, 15, [.tmp 2],
 (.seq
 (.reg false [⟨2, .mv (.k (.sc (.bool false))), none, false⟩])
 (.seq
 (.seq
 (.reg false [⟨5, .mv (.t 0), none, false⟩,
 ⟨6, .ln false (.t 5), none, false⟩,
 ⟨7, .mv (.k (.sc (.int .i64 0))), none, false⟩])
 (.cln [] [2]
 (.block 0
 (.loop [5, 6, 7] b177_1))))
 (.seq
 (.reg false [⟨2, .mv (.k (.sc (.bool true))), none, false⟩])
 .ret)))⟩
attribute [simp] i177
set_option maxRecDepth 1000000 in
theorem c177 : cFn Try.prog 177 [[], [5, 6, 7], [], [2]] = some i177 := by kernel_rfl
theorem e177 : enterOk Try.prog 177 = true := by kernel_rfl
def i180 : Ev.Fn := ⟨2, 15, [.tmp 4],
 (.seq
 (.reg false [⟨2, .bx (.t 0), none, false⟩,
 ⟨3, .bx (.t 1), none, false⟩,
 ⟨4, .mv (.k (.sc (.bool false))), none, false⟩])
 (.seq
 (.seq
 (.reg false [⟨5, .fa 0 (.t 2), none, false⟩,
 ⟨6, .ld 1 false (.t 5), none, false⟩,
 ⟨7, .fa 0 (.t 3), none, false⟩,
 ⟨8, .ld 1 false (.t 7), none, false⟩,
 ⟨9, .ar .neq false (.t 6) (.t 8), none, false⟩])
 (.ite (.t 9)
 (.seq
 (.reg false [⟨4, .mv (.k (.sc (.bool false))), none, false⟩])
 .ret)
 .skip))
 (.seq
 (.seq
 (.reg false [⟨10, .fa 1 (.t 2), none, false⟩,
 ⟨11, .ld 1 false (.t 10), none, false⟩,
 ⟨12, .fa 1 (.t 3), none, false⟩,
 ⟨13, .ld 1 false (.t 12), none, false⟩,
 ⟨14, .ar .neq false (.t 11) (.t 13), none, false⟩])
 (.ite (.t 14)
 (.seq
 (.reg false [⟨4, .mv (.k (.sc (.bool false))), none, false⟩])
 .ret)
 .skip))
 (.seq
 (.reg false [⟨4, .mv (.k (.sc (.bool true))), none, false⟩])
 .ret))))⟩
attribute [simp] i180
set_option maxRecDepth 1000000 in
theorem c180 : cFn Try.prog 180 [[]] = some i180 := by kernel_rfl
theorem e180 : enterOk Try.prog 180 = true := by kernel_rfl
def i181 : Ev.Fn := ⟨2, 16, [.tmp 4],
 (.seq
 (.reg false [⟨2, .bx (.t 0), none, false⟩,
 ⟨3, .bx (.t 1), none, false⟩,
 ⟨4, .mv (.k (.sc (.bool false))), none, false⟩])
 (.seq
 (.seq
 (.reg false [⟨5, .fa 0 (.t 2), none, false⟩,
 ⟨6, .ld 1 false (.t 5), none, false⟩,
 ⟨7, .fa 0 (.t 3), none, false⟩,
 ⟨8, .ld 1 false (.t 7), none, false⟩,
 ⟨9, .ar .neq false (.t 6) (.t 8), none, false⟩])
 (.ite (.t 9)
 (.seq
 (.reg false [⟨4, .mv (.k (.sc (.bool false))), none, false⟩])
 .ret)
 .skip))
 (.seq
 (.seq
 (.reg false [⟨10, .fa 1 (.t 2), none, false⟩,
 ⟨11, .ld 1 false (.t 10), none, false⟩,
 ⟨12, .fa 1 (.t 3), none, false⟩,
 ⟨13, .ld 1 false (.t 12), none, false⟩,
 ⟨14, .ca (.k (.cl 27 [])) [(.t 11), (.t 13)], none, false⟩,
 ⟨15, .nt (.t 14), none, false⟩])
 (.ite (.t 15)
 (.seq
 (.reg false [⟨4, .mv (.k (.sc (.bool false))), none, false⟩])
 .ret)
 .skip))
 (.seq
 (.reg false [⟨4, .mv (.k (.sc (.bool true))), none, false⟩])
 .ret))))⟩
attribute [simp] i181
set_option maxRecDepth 1000000 in
theorem c181 : cFn Try.prog 181 [[]] = some i181 := by kernel_rfl
theorem e181 : enterOk Try.prog 181 = true := by kernel_rfl
def i183 : Ev.Fn := ⟨3, 16, [.tmp 6],
 (.seq
 (.reg false [⟨3, .bx (.t 0), none, false⟩,
 ⟨4, .bx (.t 1), none, false⟩,
 ⟨5, .bx (.t 2), none, false⟩,
 ⟨6, .mv (.k (.sc (.int .i64 0))), none, false⟩])
 (.seq
 (.reg false [⟨8, .ld 2 true (.t 3), none, false⟩,
 ⟨9, .ld 2 true (.t 4), none, false⟩,
 ⟨10, .ld 2 true (.t 5), none, false⟩,
 ⟨11, .ca (.k (.cl 228 [])) [(.t 8), (.t 9), (.t 10)], none, false⟩,
 ⟨7, .mv (.t 11), none, false⟩])
 (.seq
 (.seq
 (.reg false [⟨12, .mv (.t 7), none, false⟩,
 ⟨13, .ar .gtr false (.t 12) (.k (.sc (.int .i64 0))), none, false⟩])
 (.ite (.t 13)
 (.seq
 (.reg false [⟨6, .mv (.k (.sc (.int .i64 1))), none, false⟩])
 .ret)
 .skip))
 (.seq
 (.seq
 (.reg false [⟨14, .mv (.t 7), none, false⟩,
 ⟨15, .ar .lss false (.t 14) (.k (.sc (.int .i64 0))), none, false⟩])
 (.ite (.t 15)
 (.seq
 (.reg false [⟨6, .mv (.k (.sc (.int .i64 (-1)))), none, false⟩])
 .ret)
 .skip))
 (.seq
 (.reg false [⟨6, .mv (.k (.sc (.int .i64 0))), none, false⟩])
 .ret)))))⟩
attribute [simp] i183
set_option maxRecDepth 1000000 in
theorem c183 : cFn Try.prog 183 [[]] = some i183 := by kernel_rfl
theorem e183 : enterOk Try.prog 183 = true := by kernel_rfl
def i185 : Ev.Fn := ⟨3, 37, [.tmp 6],
 (.seq
 (.reg false [⟨3, .bx (.t 0), none, false⟩,
 ⟨4, .bx (.t 1), none, false⟩,
 ⟨5, .bx (.t 2), none, false⟩,
 ⟨6, .mv (.k (.sc (.int .i64 0))), none, false⟩])
 (.seq
 (.reg false [⟨8, .fa 0 (.t 4), none, false⟩,
 ⟨9, .ld 1 false (.t 8), none, false⟩,
 ⟨10, .fa 0 (.t 3), none, false⟩,
 ⟨11, .ld 1 false (.t 10), none, false⟩,
 ⟨12, .ar .sub false (.t 9) (.t 11), none, false⟩,
 ⟨13, .fa 1 (.t 5), none, false⟩,
 ⟨14, .ld 1 false (.t 13), none, false⟩,
 ⟨15, .fa 1 (.t 3), none, false⟩,
 ⟨16, .ld 1 false (.t 15), none, false⟩,
 ⟨17, .ar .sub false (.t 14) (.t 16), none, false⟩,
 ⟨18, .ar .mul false (.t 12) (.t 17), none, false⟩,
 ⟨19, .fa 1 (.t 4), none, false⟩,
 ⟨20, .ld 1 false (.t 19), none, false⟩,
 ⟨21, .fa 1 (.t 3), none, false⟩,
 ⟨22, .ld 1 false (.t 21), none, false⟩,
 ⟨23, .ar .sub false (.t 20) (.t 22), none, false⟩,
 ⟨24, .fa 0 (.t 5), none, false⟩,
 ⟨25, .ld 1 false (.t 24), none, false⟩,
 ⟨26, .fa 0 (.t 3), none, false⟩,
 ⟨27, .ld 1 false (.t 26), none, false⟩,
 ⟨28, .ar .sub false (.t 25) (.t 27), none, false⟩,
 ⟨29, .ar .mul false (.t 23) (.t 28), none, false⟩,
 ⟨30, .ar .sub false (.t 18) (.t 29), none, false⟩,
 ⟨7, .mv (.t 30), none, false⟩])
 (.seq
 (.block 0
 (.seq
 (.reg false [⟨32, .mv (.t 7), none, false⟩,
 ⟨33, .ar .gtr false (.t 32) (.k (.sc (.int .i64 0))), none, false⟩,
 ⟨31, .mv (.t 33), none, false⟩])
 (.ite (.t 31)
 (.seq
 (.reg false [⟨6, .mv (.k (.sc (.int .i64 1))), none, false⟩])
 .ret)
 (.seq
 (.reg false [⟨35, .mv (.t 7), none, false⟩,
 ⟨36, .ar .lss false (.t 35) (.k (.sc (.int .i64 0))), none, false⟩,
 ⟨34, .mv (.t 36), none, false⟩])
 (.ite (.t 34)
 (.seq
 (.reg false [⟨6, .mv (.k (.sc (.int .i64 (-1)))), none, false⟩])
 .ret)
 .skip)))))
 (.seq
 (.reg false [⟨6, .mv (.k (.sc (.int .i64 0))), none, false⟩])
 .ret))))⟩
attribute [simp] i185
set_option maxRecDepth 1000000 in
theorem c185 : cFn Try.prog 185 [[]] = some i185 := by kernel_rfl
theorem e185 : enterOk Try.prog 185 = true := by kernel_rfl
def i186 : Ev.Fn := ⟨2, 9, [.tmp 4],
 (.seq
 (.reg false [⟨4, .mv (.k (.sc (.bool false))), none, false⟩])
 (.seq
 (.reg false [⟨5, .mv (.t 0), none, false⟩,
 ⟨6, .mv (.t 1), none, false⟩,
 ⟨7, .ca (.k (.cl 232 [])) [(.t 5), (.t 6)], none, false⟩,
 ⟨8, .ar .geq false (.t 7) (.k (.sc (.int .i64 0))), none, false⟩,
 ⟨4, .mv (.t 8), none, false⟩])
 .ret))⟩
attribute [simp] i186
set_option maxRecDepth 1000000 in
theorem c186 : cFn Try.prog 186 [[]] = some i186 := by kernel_rfl
theorem e186 : enterOk Try.prog 186 = true := by kernel_rfl
def i187 : Ev.Fn := ⟨2, 8, [.tmp 3],
 (.seq
 (.reg false [⟨2, .bx (.t 0), none, false⟩,
 ⟨3, .mv (.k (.sc (.bool false))), none, false⟩])
 (.seq
 (.reg false [⟨4, .fa 1 (.t 2), none, false⟩,
 ⟨5, .ld 1 false (.t 4), none, false⟩,
 ⟨6, .ld 1 false (.t 1), none, false⟩,
 ⟨7, .ca (.k (.cl 138 [])) [(.t 5), (.t 6)], none, false⟩,
 ⟨3, .mv (.t 7), none, false⟩])
 .ret))⟩
attribute [simp] i187
set_option maxRecDepth 1000000 in
theorem c187 : cFn Try.prog 187 [[]] = some i187 := by kernel_rfl
theorem e187 : enterOk Try.prog 187 = true := by kernel_rfl
def w196_1 : IC :=
(.seq
 (.seq
 (.reg false [⟨6, .mv (.t 4), none, false⟩,
 ⟨7, .mv (.t 0), none, false⟩,
 ⟨8, .ln false (.t 7), none, false⟩,
 ⟨9, .ar .lss false (.t 6) (.t 8), none, false⟩])
 (.ite (.t 9)
 .skip
 (.exit 0)))
 (.seq
 (.block 1
 (.seq
 (.reg true [⟨12, .mv (.t 3), none, false⟩,
 ⟨13, .ln false (.t 12), none, false⟩,
 ⟨14, .ar .eql false (.t 13) (.k (.sc (.int .i64 0))), none, false⟩,
 ⟨15, .mv (.t 14), none, false⟩,
 ⟨16, .mv (.t 3), (some (15, false)), false⟩,
 ⟨17, .mv (.t 3), (some (15, false)), false⟩,
 ⟨18, .ln false (.t 17), (some (15, false)), false⟩,
 ⟨19, .ar .sub false (.t 18) (.k (.sc (.int .i64 1))), (some (15, false)), false⟩,
 ⟨20, .ia 1 (.t 16) (.t 19), (some (15, false)), false⟩,
 ⟨21, .ld 1 false (.t 20), (some (15, false)), false⟩,
 ⟨22, .mv (.t 0), (some (15, false)), false⟩,
 ⟨23, .mv (.t 4), (some (15, false)), false⟩,
 ⟨24, .ia 1 (.t 22) (.t 23), (some (15, false)), false⟩,
 ⟨25, .ld 1 false (.t 24), (some (15, false)), false⟩,
 ⟨26, .ar .neq false (.t 21) (.t 25), (some (15, false)), false⟩,
 ⟨27, .pk (.t 15) (.k (.sc (.bool true))) (.t 26), none, false⟩])
 (.ite (.t 27)
 (.reg false [⟨28, .mv (.t 3), none, false⟩,
 ⟨29, .mv (.t 0), none, false⟩,
 ⟨30, .mv (.t 4), none, false⟩,
 ⟨31, .ia 1 (.t 29) (.t 30), none, false⟩,
 ⟨32, .ld 1 false (.t 31), none, false⟩,
 ⟨33, .bs 2 1 [(.sc (.int .i64 0))] 1 [(0, (.t 32))], none, false⟩,
 ⟨34, .ap 2 1 false (.t 28) (.t 33), none, false⟩,
 ⟨3, .mv (.t 34), none, false⟩])
 .skip)))
 (.reg false [⟨10, .mv (.t 4), none, false⟩,
 ⟨11, .ar .add false (.t 10) (.k (.sc (.int .i64 1))), none, false⟩,
 ⟨4, .mv (.t 11), none, false⟩])))
def b196_1 : IC := w196_1
theorem u196_1 (call : CallF) (st : St) : evC call b196_1 st = evC call w196_1 st := rfl
attribute [simp] u196_1 w196_1
def w196_2 : IC :=
(.seq
 (.seq
 (.reg true [⟨35, .mv (.t 3), none, false⟩,
 ⟨36, .ln false (.t 35), none, false⟩,
 ⟨37, .ar .gtr false (.t 36) (.k (.sc (.int .i64 1))), none, false⟩,
 ⟨38, .mv (.t 37), none, false⟩,
 ⟨39, .mv (.t 3), (some (38, true)), false⟩,
 ⟨40, .ia 1 (.t 39) (.k (.sc (.int .i64 0))), (some (38, true)), false⟩,
 ⟨41, .ld 1 false (.t 40), (some (38, true)), false⟩,
 ⟨42, .mv (.t 3), (some (38, true)), false⟩,
 ⟨43, .mv (.t 3), (some (38, true)), false⟩,
 ⟨44, .ln false (.t 43), (some (38, true)), false⟩,
 ⟨45, .ar .sub false (.t 44) (.k (.sc (.int .i64 1))), (some (38, true)), false⟩,
 ⟨46, .ia 1 (.t 42) (.t 45), (some (38, true)), false⟩,
 ⟨47, .ld 1 false (.t 46), (some (38, true)), false⟩,
 ⟨48, .ar .eql false (.t 41) (.t 47), (some (38, true)), false⟩,
 ⟨49, .pk (.t 38) (.t 48) (.k (.sc (.bool false))), none, false⟩])
 (.ite (.t 49)
 .skip
 (.exit 2)))
 (.block 3
 (.reg false [⟨50, .mv (.t 3), none, false⟩,
 ⟨51, .mv (.t 3), none, false⟩,
 ⟨52, .ln false (.t 51), none, false⟩,
 ⟨53, .ar .sub false (.t 52) (.k (.sc (.int .i64 1))), none, false⟩,
 ⟨54, .sl 1 (.t 50) none (some (.t 53)), none, false⟩,
 ⟨3, .mv (.t 54), none, false⟩])))
def b196_2 : IC := w196_2
theorem u196_2 (call : CallF) (st : St) : evC call b196_2 st = evC call w196_2 st := rfl
attribute [simp] u196_2 w196_2
def i196 : Ev.Fn := ⟨1, 56, [.tmp 2],
 (.seq
 (.reg false [⟨2, .mv (.k .nl), none, false⟩])
 (.seq
 (.reg false [⟨5, .bs 2 1 [(.sc (.int .i64 0))] 0 [], none, false⟩,
 ⟨3, .mv (.t 5), none, false⟩])
 (.seq
 (.seq
 (.reg false [⟨4, .mv (.k (.sc (.int .i64 0))), none, false⟩])
 (.cln [3] [2]
 (.block 0
 (.loop [0, 3, 4] b196_1))))
 (.seq
 (.cln [3] [2]
 (.block 2
 (.loop [3] b196_2)))
 (.seq
 (.reg false [⟨55, .mv (.t 3), none, false⟩,
 ⟨2, .mv (.t 55), none, false⟩])
 .ret)))))⟩
attribute [simp] i196
set_option maxRecDepth 1000000 in
theorem c196 : cFn Try.prog 196 [[], [0, 3, 4], [3], [2], [3], [3], [2]] = some i196 := by kernel_rfl
theorem e196 : enterOk Try.prog 196 = true := by kernel_rfl
def i219 : Ev.Fn := ⟨1, 9, [.tmp 2],
 (.seq
 (.reg false [⟨2, .mv (.k (.sc (.bool false))), none, false⟩])
 (.seq
 (.reg false [⟨3, .mv (.t 0), none, false⟩,
 ⟨4, .ar .geq false (.t 3) (.k (.sc (.int .u8 97))), none, false⟩,
 ⟨5, .mv (.t 4), none, false⟩,
 ⟨6, .mv (.t 0), (some (5, true)), false⟩,
 ⟨7, .ar .leq false (.t 6) (.k (.sc (.int .u8 122))), (some (5, true)), false⟩,
 ⟨8, .pk (.t 5) (.t 7) (.k (.sc (.bool false))), none, false⟩,
 ⟨2, .mv (.t 8), none, false⟩])
 .ret))⟩
attribute [simp] i219
set_option maxRecDepth 1000000 in
theorem c219 : cFn Try.prog 219 [[]] = some i219 := by kernel_rfl
theorem e219 : enterOk Try.prog 219 = true := by kernel_rfl
def i220 : Ev.Fn := ⟨1, 9, [.tmp 2],
 (.seq
 (.reg false [⟨2, .mv (.k (.sc (.bool false))), none, false⟩])
 (.seq
 (.reg false [⟨3, .mv (.t 0), none, false⟩,
 ⟨4, .ar .geq false (.t 3) (.k (.sc (.int .u8 48))), none, false⟩,
 ⟨5, .mv (.t 4), none, false⟩,
 ⟨6, .mv (.t 0), (some (5, true)), false⟩,
 ⟨7, .ar .leq false (.t 6) (.k (.sc (.int .u8 57))), (some (5, true)), false⟩,
 ⟨8, .pk (.t 5) (.t 7) (.k (.sc (.bool false))), none, false⟩,
 ⟨2, .mv (.t 8), none, false⟩])
 .ret))⟩
attribute [simp] i220
set_option maxRecDepth 1000000 in
theorem c220 : cFn Try.prog 220 [[]] = some i220 := by kernel_rfl
theorem e220 : enterOk Try.prog 220 = true := by kernel_rfl
def i221 : Ev.Fn := ⟨1, 11, [.tmp 2],
 (.seq
 (.reg false [⟨1, .bx (.t 0), none, false⟩,
 ⟨2, .mv (.k (.sc (.bool false))), none, false⟩])
 (.seq
 (.reg false [⟨3, .fa 0 (.t 1), none, false⟩,
 ⟨4, .ld 1 false (.t 3), none, false⟩,
 ⟨5, .ca (.k (.cl 97 [])) [(.t 4), (.k (.sc (.int .i64 0))), (.k (.sc (.int .i64 20000)))], none, false⟩,
 ⟨6, .mv (.t 5), none, false⟩,
 ⟨7, .fa 1 (.t 1), (some (6, true)), false⟩,
 ⟨8, .ld 1 false (.t 7), (some (6, true)), false⟩,
 ⟨9, .ca (.k (.cl 97 [])) [(.t 8), (.k (.sc (.int .i64 0))), (.k (.sc (.int .i64 20000)))], (some (6, true)), false⟩,
 ⟨10, .pk (.t 6) (.t 9) (.k (.sc (.bool false))), none, false⟩,
 ⟨2, .mv (.t 10), none, false⟩])
 .ret))⟩
attribute [simp] i221
set_option maxRecDepth 1000000 in
theorem c221 : cFn Try.prog 221 [[]] = some i221 := by kernel_rfl
theorem e221 : enterOk Try.prog 221 = true := by kernel_rfl
def i222 : Ev.Fn := ⟨3, 42, [.tmp 6],
 (.seq
 (.reg false [⟨3, .bx (.t 0), none, false⟩,
 ⟨4, .bx (.t 1), none, false⟩,
 ⟨5, .bx (.t 2), none, false⟩,
 ⟨6, .mv (.k (.sc (.bool false))), none, false⟩])
 (.seq
 (.reg true [⟨7, .ld 2 true (.t 3), none, false⟩,
 ⟨8, .ld 2 true (.t 4), none, false⟩,
 ⟨9, .ld 2 true (.t 5), none, false⟩,
 ⟨10, .ca (.k (.cl 183 [])) [(.t 7), (.t 8), (.t 9)], none, false⟩,
 ⟨11, .ar .eql false (.t 10) (.k (.sc (.int .i64 0))), none, false⟩,
 ⟨12, .mv (.t 11), none, false⟩,
 ⟨13, .fa 0 (.t 5), (some (12, true)), false⟩,
 ⟨14, .ld 1 false (.t 13), (some (12, true)), false⟩,
 ⟨15, .fa 0 (.t 3), (some (12, true)), false⟩,
 ⟨16, .ld 1 false (.t 15), (some (12, true)), false⟩,
 ⟨17, .fa 0 (.t 4), (some (12, true)), false⟩,
 ⟨18, .ld 1 false (.t 17), (some (12, true)), false⟩,
 ⟨19, .ca (.k (.cl 160 [])) [(.t 16), (.t 18)], (some (12, true)), false⟩,
 ⟨20, .fa 0 (.t 3), (some (12, true)), false⟩,
 ⟨21, .ld 1 false (.t 20), (some (12, true)), false⟩,
 ⟨22, .fa 0 (.t 4), (some (12, true)), false⟩,
 ⟨23, .ld 1 false (.t 22), (some (12, true)), false⟩,
 ⟨24, .ca (.k (.cl 99 [])) [(.t 21), (.t 23)], (some (12, true)), false⟩,
 ⟨25, .ca (.k (.cl 97 [])) [(.t 14), (.t 19), (.t 24)], (some (12, true)), false⟩,
 ⟨26, .pk (.t 12) (.t 25) (.k (.sc (.bool false))), none, false⟩,
 ⟨27, .mv (.t 26), none, false⟩,
 ⟨28, .fa 1 (.t 5), (some (27, true)), false⟩,
 ⟨29, .ld 1 false (.t 28), (some (27, true)), false⟩,
 ⟨30, .fa 1 (.t 3), (some (27, true)), false⟩,
 ⟨31, .ld 1 false (.t 30), (some (27, true)), false⟩,
 ⟨32, .fa 1 (.t 4), (some (27, true)), false⟩,
 ⟨33, .ld 1 false (.t 32), (some (27, true)), false⟩,
 ⟨34, .ca (.k (.cl 160 [])) [(.t 31), (.t 33)], (some (27, true)), false⟩,
 ⟨35, .fa 1 (.t 3), (some (27, true)), false⟩,
 ⟨36, .ld 1 false (.t 35), (some (27, true)), false⟩,
 ⟨37, .fa 1 (.t 4), (some (27, true)), false⟩,
 ⟨38, .ld 1 false (.t 37), (some (27, true)), false⟩,
 ⟨39, .ca (.k (.cl 99 [])) [(.t 36), (.t 38)], (some (27, true)), false⟩,
 ⟨40, .ca (.k (.cl 97 [])) [(.t 29), (.t 34), (.t 39)], (some (27, true)), false⟩,
 ⟨41, .pk (.t 27) (.t 40) (.k (.sc (.bool false))), none, false⟩,
 ⟨6, .mv (.t 41), none, false⟩])
 .ret))⟩
attribute [simp] i222
set_option maxRecDepth 1000000 in
theorem c222 : cFn Try.prog 222 [[]] = some i222 := by kernel_rfl
theorem e222 : enterOk Try.prog 222 = true := by kernel_rfl
def i223 : Ev.Fn := ⟨4, 38, [.tmp 8],
 (.seq
 (.reg false [⟨4, .bx (.t 0), none, false⟩,
 ⟨5, .bx (.t 1), none, false⟩,
 ⟨6, .bx (.t 2), none, false⟩,
 ⟨7, .bx (.t 3), none, false⟩,
 ⟨8, .mv (.k (.sc (.bool false))), none, false⟩])
 (.seq
 (.reg false [⟨9, .ld 2 true (.t 4), none, false⟩,
 ⟨10, .ld 2 true (.t 5), none, false⟩,
 ⟨11, .ld 2 true (.t 6), none, false⟩,
 ⟨12, .ld 2 true (.t 7), none, false⟩,
 ⟨13, .ca (.k (.cl 248 [])) [(.t 9), (.t 10), (.t 11), (.t 12)], none, false⟩,
 ⟨14, .mv (.t 13), none, false⟩,
 ⟨15, .ld 2 true (.t 4), (some (14, false)), false⟩,
 ⟨16, .ld 2 true (.t 5), (some (14, false)), false⟩,
 ⟨17, .ld 2 true (.t 6), (some (14, false)), false⟩,
 ⟨18, .ca (.k (.cl 222 [])) [(.t 15), (.t 16), (.t 17)], (some (14, false)), false⟩,
 ⟨19, .pk (.t 14) (.k (.sc (.bool true))) (.t 18), none, false⟩,
 ⟨20, .mv (.t 19), none, false⟩,
 ⟨21, .ld 2 true (.t 4), (some (20, false)), false⟩,
 ⟨22, .ld 2 true (.t 5), (some (20, false)), false⟩,
 ⟨23, .ld 2 true (.t 7), (some (20, false)), false⟩,
 ⟨24, .ca (.k (.cl 222 [])) [(.t 21), (.t 22), (.t 23)], (some (20, false)), false⟩,
 ⟨25, .pk (.t 20) (.k (.sc (.bool true))) (.t 24), none, false⟩,
 ⟨26, .mv (.t 25), none, false⟩,
 ⟨27, .ld 2 true (.t 6), (some (26, false)), false⟩,
 ⟨28, .ld 2 true (.t 7), (some (26, false)), false⟩,
 ⟨29, .ld 2 true (.t 4), (some (26, false)), false⟩,
 ⟨30, .ca (.k (.cl 222 [])) [(.t 27), (.t 28), (.t 29)], (some (26, false)), false⟩,
 ⟨31, .pk (.t 26) (.k (.sc (.bool true))) (.t 30), none, false⟩,
 ⟨32, .mv (.t 31), none, false⟩,
 ⟨33, .ld 2 true (.t 6), (some (32, false)), false⟩,
 ⟨34, .ld 2 true (.t 7), (some (32, false)), false⟩,
 ⟨35, .ld 2 true (.t 5), (some (32, false)), false⟩,
 ⟨36, .ca (.k (.cl 222 [])) [(.t 33), (.t 34), (.t 35)], (some (32, false)), false⟩,
 ⟨37, .pk (.t 32) (.k (.sc (.bool true))) (.t 36), none, false⟩,
 ⟨8, .mv (.t 37), none, false⟩])
 .ret))⟩
attribute [simp] i223
set_option maxRecDepth 1000000 in
theorem c223 : cFn Try.prog 223 [[]] = some i223 := by kernel_rfl
theorem e223 : enterOk Try.prog 223 = true := by kernel_rfl
def w224_1 : IC :=
(.seq
 (.reg false [⟨9, .ar .lss false (.t 8) (.t 7), none, false⟩])
 (.seq
 (.ite (.t 9)
 .skip
 (.exit 0))
 (.seq
 (.block 1
 (.seq
 (.reg false [⟨10, .mv (.t 8), none, false⟩,
 ⟨5, .mv (.t 10), none, false⟩])
 (.seq
 (.reg true [⟨11, .ld 2 true (.t 3), none, false⟩,
 ⟨12, .mv (.t 0), none, false⟩,
 ⟨13, .mv (.t 5), none, false⟩,
 ⟨14, .ia 2 (.t 12) (.t 13), none, false⟩,
 ⟨15, .ld 2 true (.t 14), none, false⟩,
 ⟨16, .eq false [1, 1] (.t 11) (.t 15), none, false⟩])
 (.ite (.t 16)
 (.seq
 (.reg false [⟨17, .mv (.t 5), none, false⟩,
 ⟨4, .mv (.t 17), none, false⟩])
 .ret)
 .skip))))
 (.reg false [⟨18, .ar .add false (.t 8) (.k (.sc (.int .i64 1))), none, false⟩,
 ⟨8, .mv (.t 18), none, false⟩]))))
def b224_1 : IC := w224_1
theorem u224_1 (call : CallF) (st : St) : evC call b224_1 st = evC call w224_1 st := rfl
attribute [simp] u224_1 w224_1
def i224 : Ev.Fn := ⟨2, 19, [.tmp 4],
 (.seq
 (.reg false [⟨3, .bx (.t 1), none, false⟩,
 ⟨4, .mv (.k (.sc (.int .i64 0))), none, false⟩])
 (.seq
 (.seq
 (.reg false [⟨6, .mv (.t 0), none, false⟩,
 ⟨7, .ln false (.t 6), none, false⟩,
 ⟨8, .mv (.k (.sc (.int .i64 0))), none, false⟩])
 (.cln [] [4]
 (.block 0
 (.loop [0, 3, 7, 8] b224_1))))
 (.seq
 (.reg false [⟨4, .mv (.k (.sc (.int .i64 (-1)))), none, false⟩])
 .ret)))⟩
attribute [simp] i224
set_option maxRecDepth 1000000 in
theorem c224 : cFn Try.prog 224 [[], [0, 3, 7, 8], [], [4]] = some i224 := by kernel_rfl
theorem e224 : enterOk Try.prog 224 = true := by kernel_rfl
def i225 : Ev.Fn := ⟨3, 42, [.tmp 6],
 (.seq
 (.reg false [⟨3, .bx (.t 0), none, false⟩,
 ⟨4, .bx (.t 1), none, false⟩,
 ⟨5, .bx (.t 2), none, false⟩,
 ⟨6, .mv (.k (.sc (.bool false))), none, false⟩])
 (.seq
 (.reg false [⟨7, .ld 2 true (.t 3), none, false⟩,
 ⟨8, .ld 2 true (.t 4), none, false⟩,
 ⟨9, .ld 2 true (.t 5), none, false⟩,
 ⟨10, .ca (.k (.cl 185 [])) [(.t 7), (.t 8), (.t 9)], none, false⟩,
 ⟨11, .ar .eql false (.t 10) (.k (.sc (.int .i64 0))), none, false⟩,
 ⟨12, .mv (.t 11), none, false⟩,
 ⟨13, .fa 0 (.t 5), (some (12, true)), false⟩,
 ⟨14, .ld 1 false (.t 13), (some (12, true)), false⟩,
 ⟨15, .fa 0 (.t 3), (some (12, true)), false⟩,
 ⟨16, .ld 1 false (.t 15), (some (12, true)), false⟩,
 ⟨17, .fa 0 (.t 4), (some (12, true)), false⟩,
 ⟨18, .ld 1 false (.t 17), (some (12, true)), false⟩,
 ⟨19, .mn (.t 16) (.t 18), (some (12, true)), false⟩,
 ⟨20, .fa 0 (.t 3), (some (12, true)), false⟩,
 ⟨21, .ld 1 false (.t 20), (some (12, true)), false⟩,
 ⟨22, .fa 0 (.t 4), (some (12, true)), false⟩,
 ⟨23, .ld 1 false (.t 22), (some (12, true)), false⟩,
 ⟨24, .mx (.t 21) (.t 23), (some (12, true)), false⟩,
 ⟨25, .ca (.k (.cl 105 [])) [(.t 14), (.t 19), (.t 24)], (some (12, true)), false⟩,
 ⟨26, .pk (.t 12) (.t 25) (.k (.sc (.bool false))), none, false⟩,
 ⟨27, .mv (.t 26), none, false⟩,
 ⟨28, .fa 1 (.t 5), (some (27, true)), false⟩,
 ⟨29, .ld 1 false (.t 28), (some (27, true)), false⟩,
 ⟨30, .fa 1 (.t 3), (some (27, true)), false⟩,
 ⟨31, .ld 1 false (.t 30), (some (27, true)), false⟩,
 ⟨32, .fa 1 (.t 4), (some (27, true)), false⟩,
 ⟨33, .ld 1 false (.t 32), (some (27, true)), false⟩,
 ⟨34, .mn (.t 31) (.t 33), (some (27, true)), false⟩,
 ⟨35, .fa 1 (.t 3), (some (27, true)), false⟩,
 ⟨36, .ld 1 false (.t 35), (some (27, true)), false⟩,
 ⟨37, .fa 1 (.t 4), (some (27, true)), false⟩,
 ⟨38, .ld 1 false (.t 37), (some (27, true)), false⟩,
 ⟨39, .mx (.t 36) (.t 38), (some (27, true)), false⟩,
 ⟨40, .ca (.k (.cl 105 [])) [(.t 29), (.t 34), (.t 39)], (some (27, true)), false⟩,
 ⟨41, .pk (.t 27) (.t 40) (.k (.sc (.bool false))), none, false⟩,
 ⟨6, .mv (.t 41), none, false⟩])
 .ret))⟩
attribute [simp] i225
set_option maxRecDepth 1000000 in
theorem c225 : cFn Try.prog 225 [[]] = some i225 := by kernel_rfl
theorem e225 : enterOk Try.prog 225 = true := by kernel_rfl
def i226 : Ev.Fn := ⟨4, 38, [.tmp 8],
 (.seq
 (.reg false [⟨4, .bx (.t 0), none, false⟩,
 ⟨5, .bx (.t 1), none, false⟩,
 ⟨6, .bx (.t 2), none, false⟩,
 ⟨7, .bx (.t 3), none, false⟩,
 ⟨8, .mv (.k (.sc (.bool false))), none, false⟩])
 (.seq
 (.reg false [⟨9, .ld 2 true (.t 4), none, false⟩,
 ⟨10, .ld 2 true (.t 5), none, false⟩,
 ⟨11, .ld 2 true (.t 6), none, false⟩,
 ⟨12, .ld 2 true (.t 7), none, false⟩,
 ⟨13, .ca (.k (.cl 249 [])) [(.t 9), (.t 10), (.t 11), (.t 12)], none, false⟩,
 ⟨14, .mv (.t 13), none, false⟩,
 ⟨15, .ld 2 true (.t 4), (some (14, false)), false⟩,
 ⟨16, .ld 2 true (.t 5), (some (14, false)), false⟩,
 ⟨17, .ld 2 true (.t 6), (some (14, false)), false⟩,
 ⟨18, .ca (.k (.cl 225 [])) [(.t 15), (.t 16), (.t 17)], (some (14, false)), false⟩,
 ⟨19, .pk (.t 14) (.k (.sc (.bool true))) (.t 18), none, false⟩,
 ⟨20, .mv (.t 19), none, false⟩,
 ⟨21, .ld 2 true (.t 4), (some (20, false)), false⟩,
 ⟨22, .ld 2 true (.t 5), (some (20, false)), false⟩,
 ⟨23, .ld 2 true (.t 7), (some (20, false)), false⟩,
 ⟨24, .ca (.k (.cl 225 [])) [(.t 21), (.t 22), (.t 23)], (some (20, false)), false⟩,
 ⟨25, .pk (.t 20) (.k (.sc (.bool true))) (.t 24), none, false⟩,
 ⟨26, .mv (.t 25), none, false⟩,
 ⟨27, .ld 2 true (.t 6), (some (26, false)), false⟩,
 ⟨28, .ld 2 true (.t 7), (some (26, false)), false⟩,
 ⟨29, .ld 2 true (.t 4), (some (26, false)), false⟩,
 ⟨30, .ca (.k (.cl 225 [])) [(.t 27), (.t 28), (.t 29)], (some (26, false)), false⟩,
 ⟨31, .pk (.t 26) (.k (.sc (.bool true))) (.t 30), none, false⟩,
 ⟨32, .mv (.t 31), none, false⟩,
 ⟨33, .ld 2 true (.t 6), (some (32, false)), false⟩,
 ⟨34, .ld 2 true (.t 7), (some (32, false)), false⟩,
 ⟨35, .ld 2 true (.t 5), (some (32, false)), false⟩,
 ⟨36, .ca (.k (.cl 225 [])) [(.t 33), (.t 34), (.t 35)], (some (32, false)), false⟩,
 ⟨37, .pk (.t 32) (.k (.sc (.bool true))) (.t 36), none, false⟩,
 ⟨8, .mv (.t 37), none, false⟩])
 .ret))⟩
attribute [simp] i226
set_option maxRecDepth 1000000 in
theorem c226 : cFn Try.prog 226 [[]] = some i226 := by kernel_rfl
theorem e226 : enterOk Try.prog 226 = true := by kernel_rfl
def i227 : Ev.Fn := ⟨1, 11, [.tmp 2],
 (.seq
 (.reg false [⟨1, .bx (.t 0), none, false⟩,
 ⟨2, .mv (.k (.sc (.bool false))), none, false⟩])
 (.seq
 (.reg false [⟨3, .fa 0 (.t 1), none, false⟩,
 ⟨4, .ld 1 false (.t 3), none, false⟩,
 ⟨5, .ca (.k (.cl 105 [])) [(.t 4), (.k (.sc (.int .i64 0))), (.k (.sc (.int .i64 20000)))], none, false⟩,
 ⟨6, .mv (.t 5), none, false⟩,
 ⟨7, .fa 1 (.t 1), (some (6, true)), false⟩,
 ⟨8, .ld 1 false (.t 7), (some (6, true)), false⟩,
 ⟨9, .ca (.k (.cl 105 [])) [(.t 8), (.k (.sc (.int .i64 0))), (.k (.sc (.int .i64 20000)))], (some (6, true)), false⟩,
 ⟨10, .pk (.t 6) (.t 9) (.k (.sc (.bool false))), none, false⟩,
 ⟨2, .mv (.t 10), none, false⟩])
 .ret))⟩
attribute [simp] i227
set_option maxRecDepth 1000000 in
theorem c227 : cFn Try.prog 227 [[]] = some i227 := by kernel_rfl
theorem e227 : enterOk Try.prog 227 = true := by kernel_rfl
def i228 : Ev.Fn := ⟨3, 30, [.tmp 6],
 (.seq
 (.reg false [⟨3, .bx (.t 0), none, false⟩,
 ⟨4, .bx (.t 1), none, false⟩,
 ⟨5, .bx (.t 2), none, false⟩,
 ⟨6, .mv (.k (.sc (.int .i64 0))), none, false⟩])
 (.seq
 (.reg false [⟨7, .fa 0 (.t 4), none, false⟩,
 ⟨8, .ld 1 false (.t 7), none, false⟩,
 ⟨9, .fa 0 (.t 3), none, false⟩,
 ⟨10, .ld 1 false (.t 9), none, false⟩,
 ⟨11, .ar .sub false (.t 8) (.t 10), none, false⟩,
 ⟨12, .fa 1 (.t 5), none, false⟩,
 ⟨13, .ld 1 false (.t 12), none, false⟩,
 ⟨14, .fa 1 (.t 3), none, false⟩,
 ⟨15, .ld 1 false (.t 14), none, false⟩,
 ⟨16, .ar .sub false (.t 13) (.t 15), none, false⟩,
 ⟨17, .ar .mul false (.t 11) (.t 16), none, false⟩,
 ⟨18, .fa 1 (.t 4), none, false⟩,
 ⟨19, .ld 1 false (.t 18), none, false⟩,
 ⟨20, .fa 1 (.t 3), none, false⟩,
 ⟨21, .ld 1 false (.t 20), none, false⟩,
 ⟨22, .ar .sub false (.t 19) (.t 21), none, false⟩,
 ⟨23, .fa 0 (.t 5), none, false⟩,
 ⟨24, .ld 1 false (.t 23), none, false⟩,
 ⟨25, .fa 0 (.t 3), none, false⟩,
 ⟨26, .ld 1 false (.t 25), none, false⟩,
 ⟨27, .ar .sub false (.t 24) (.t 26), none, false⟩,
 ⟨28, .ar .mul false (.t 22) (.t 27), none, false⟩,
 ⟨29, .ar .sub false (.t 17) (.t 28), none, false⟩,
 ⟨6, .mv (.t 29), none, false⟩])
 .ret))⟩
attribute [simp] i228
set_option maxRecDepth 1000000 in
theorem c228 : cFn Try.prog 228 [[]] = some i228 := by kernel_rfl
theorem e228 : enterOk Try.prog 228 = true := by kernel_rfl
def w232_1 : IC :=
(.seq
 (.reg false [⟨9, .ar .lss false (.t 8) (.t 7), none, false⟩])
 (.seq
 (.ite (.t 9)
 .skip
 (.exit 0))
 (.seq
 (.block 1
 (.seq
 (.reg false [⟨10, .mv (.t 8), none, false⟩,
 ⟨5, .mv (.t 10), none, false⟩])
 (.seq
 (.reg false [⟨11, .mv (.t 1), none, false⟩,
 ⟨12, .mv (.t 0), none, false⟩,
 ⟨13, .mv (.t 5), none, false⟩,
 ⟨14, .ia 2 (.t 12) (.t 13), none, false⟩,
 ⟨15, .ld 2 true (.t 14), none, false⟩,
 ⟨16, .ca (.t 11) [(.t 15)], none, false⟩])
 (.ite (.t 16)
 (.seq
 (.reg false [⟨17, .mv (.t 5), none, false⟩,
 ⟨4, .mv (.t 17), none, false⟩])
 .ret)
 .skip))))
 (.reg false [⟨18, .ar .add false (.t 8) (.k (.sc (.int .i64 1))), none, false⟩,
 ⟨8, .mv (.t 18), none, false⟩]))))
def b232_1 : IC := w232_1
theorem u232_1 (call : CallF) (st : St) : evC call b232_1 st = evC call w232_1 st := rfl
attribute [simp] u232_1 w232_1
def i232 : Ev.Fn := ⟨2, 19, [.tmp 4],
 (.seq
 (.reg false [⟨4, .mv (.k (.sc (.int .i64 0))), none, false⟩])
 (.seq
 (.seq
 (.reg false [⟨6, .mv (.t 0), none, false⟩,
 ⟨7, .ln false (.t 6), none, false⟩,
 ⟨8, .mv (.k (.sc (.int .i64 0))), none, false⟩])
 (.cln [] [4]
 (.block 0
 (.loop [0, 1, 7, 8] b232_1))))
 (.seq
 (.reg false [⟨4, .mv (.k (.sc (.int .i64 (-1)))), none, false⟩])
 .ret)))⟩
attribute [simp] i232
set_option maxRecDepth 1000000 in
theorem c232 : cFn Try.prog 232 [[], [0, 1, 7, 8], [], [4]] = some i232 := by kernel_rfl
theorem e232 : enterOk Try.prog 232 = true := by kernel_rfl
def i248 : Ev.Fn := ⟨4, 31, [.tmp 8],
 (.seq
 (.reg false [⟨4, .bx (.t 0), none, false⟩,
 ⟨5, .bx (.t 1), none, false⟩,
 ⟨6, .bx (.t 2), none, false⟩,
 ⟨7, .bx (.t 3), none, false⟩,
 ⟨8, .mv (.k (.sc (.bool false))), none, false⟩])
 (.seq
 (.reg true [⟨9, .ld 2 true (.t 4), none, false⟩,
 ⟨10, .ld 2 true (.t 5), none, false⟩,
 ⟨11, .ld 2 true (.t 6), none, false⟩,
 ⟨12, .ca (.k (.cl 183 [])) [(.t 9), (.t 10), (.t 11)], none, false⟩,
 ⟨13, .ld 2 true (.t 4), none, false⟩,
 ⟨14, .ld 2 true (.t 5), none, false⟩,
 ⟨15, .ld 2 true (.t 7), none, false⟩,
 ⟨16, .ca (.k (.cl 183 [])) [(.t 13), (.t 14), (.t 15)], none, false⟩,
 ⟨17, .ar .mul false (.t 12) (.t 16), none, false⟩,
 ⟨18, .ar .lss false (.t 17) (.k (.sc (.int .i64 0))), none, false⟩,
 ⟨19, .mv (.t 18), none, false⟩,
 ⟨20, .ld 2 true (.t 6), (some (19, true)), false⟩,
 ⟨21, .ld 2 true (.t 7), (some (19, true)), false⟩,
 ⟨22, .ld 2 true (.t 4), (some (19, true)), false⟩,
 ⟨23, .ca (.k (.cl 183 [])) [(.t 20), (.t 21), (.t 22)], (some (19, true)), false⟩,
 ⟨24, .ld 2 true (.t 6), (some (19, true)), false⟩,
 ⟨25, .ld 2 true (.t 7), (some (19, true)), false⟩,
 ⟨26, .ld 2 true (.t 5), (some (19, true)), false⟩,
 ⟨27, .ca (.k (.cl 183 [])) [(.t 24), (.t 25), (.t 26)], (some (19, true)), false⟩,
 ⟨28, .ar .mul false (.t 23) (.t 27), (some (19, true)), false⟩,
 ⟨29, .ar .lss false (.t 28) (.k (.sc (.int .i64 0))), (some (19, true)), false⟩,
 ⟨30, .pk (.t 19) (.t 29) (.k (.sc (.bool false))), none, false⟩,
 ⟨8, .mv (.t 30), none, false⟩])
 .ret))⟩
attribute [simp] i248
set_option maxRecDepth 1000000 in
theorem c248 : cFn Try.prog 248 [[]] = some i248 := by kernel_rfl
theorem e248 : enterOk Try.prog 248 = true := by kernel_rfl
def i249 : Ev.Fn := ⟨4, 31, [.tmp 8],
 (.seq
 (.reg false [⟨4, .bx (.t 0), none, false⟩,
 ⟨5, .bx (.t 1), none, false⟩,
 ⟨6, .bx (.t 2), none, false⟩,
 ⟨7, .bx (.t 3), none, false⟩,
 ⟨8, .mv (.k (.sc (.bool false))), none, false⟩])
 (.seq
 (.reg true [⟨9, .ld 2 true (.t 4), none, false⟩,
 ⟨10, .ld 2 true (.t 5), none, false⟩,
 ⟨11, .ld 2 true (.t 6), none, false⟩,
 ⟨12, .ca (.k (.cl 185 [])) [(.t 9), (.t 10), (.t 11)], none, false⟩,
 ⟨13, .ld 2 true (.t 4), none, false⟩,
 ⟨14, .ld 2 true (.t 5), none, false⟩,
 ⟨15, .ld 2 true (.t 7), none, false⟩,
 ⟨16, .ca (.k (.cl 185 [])) [(.t 13), (.t 14), (.t 15)], none, false⟩,
 ⟨17, .ar .mul false (.t 12) (.t 16), none, false⟩,
 ⟨18, .ar .lss false (.t 17) (.k (.sc (.int .i64 0))), none, false⟩,
 ⟨19, .mv (.t 18), none, false⟩,
 ⟨20, .ld 2 true (.t 6), (some (19, true)), false⟩,
 ⟨21, .ld 2 true (.t 7), (some (19, true)), false⟩,
 ⟨22, .ld 2 true (.t 4), (some (19, true)), false⟩,
 ⟨23, .ca (.k (.cl 185 [])) [(.t 20), (.t 21), (.t 22)], (some (19, true)), false⟩,
 ⟨24, .ld 2 true (.t 6), (some (19, true)), false⟩,
 ⟨25, .ld 2 true (.t 7), (some (19, true)), false⟩,
 ⟨26, .ld 2 true (.t 5), (some (19, true)), false⟩,
 ⟨27, .ca (.k (.cl 185 [])) [(.t 24), (.t 25), (.t 26)], (some (19, true)), false⟩,
 ⟨28, .ar .mul false (.t 23) (.t 27), (some (19, true)), false⟩,
 ⟨29, .ar .lss false (.t 28) (.k (.sc (.int .i64 0))), (some (19, true)), false⟩,
 ⟨30, .pk (.t 19) (.t 29) (.k (.sc (.bool false))), none, false⟩,
 ⟨8, .mv (.t 30), none, false⟩])
 .ret))⟩
attribute [simp] i249
set_option maxRecDepth 1000000 in
theorem c249 : cFn Try.prog 249 [[]] = some i249 := by kernel_rfl
theorem e249 : enterOk Try.prog 249 = true := by kernel_rfl
theorem mixed : Try.prog.follows .mixedOrders = true := by kernel_rfl
def Ft : List (Nat × Ev.Fn) := [(12, i12), (27, i27), (30, i30), (31, i31), (37, i37), (39, i39), (41, i41), (42, i42), (58, i58), (59, i59), (60, i60), (77, i77), (87, i87), (91, i91), (94, i94), (95, i95), (96, i96), (97, i97), (99, i99), (101, i101), (102, i102), (103, i103), (104, i104), (105, i105), (108, i108), (109, i109), (110, i110), (111, i111), (112, i112), (115, i115), (118, i118), (134, i134), (135, i135), (136, i136), (137, i137), (138, i138), (139, i139), (158, i158), (160, i160), (164, i164), (165, i165), (166, i166), (167, i167), (168, i168), (171, i171), (172, i172), (173, i173), (174, i174), (175, i175), (176, i176), (177, i177), (180, i180), (181, i181), (183, i183), (185, i185), (186, i186), (187, i187), (196, i196), (219, i219), (220, i220), (221, i221), (222, i222), (223, i223), (224, i224), (225, i225), (226, i226), (227, i227), (228, i228), (232, i232), (248, i248), (249, i249)]
def F : Nat → Option Ev.Fn := getF Ft
noncomputable def ev (d : Nat) : CallF := evF F (fun _ _ => none) d
theorem ev_fn {f : Nat} {fn : Ev.Fn} (h : F f = some fn) (d : Nat) (args : List LV) (hl : args.length = fn.nargs) : ev (d + 1) f args = Ev.finish fn.res (evC (ev d) fn.body (Ev.start args)) := evF_fn h d args hl
set_option maxRecDepth 1000000 in
theorem tab : ∀ f fn, F f = some fn → enterOk Try.prog f = true ∧ ∃ ks, cFn Try.prog f ks = some fn :=
  tabF (L := Ft) ⟨⟨e12, _, c12⟩, ⟨e27, _, c27⟩, ⟨e30, _, c30⟩, ⟨e31, _, c31⟩, ⟨e37, _, c37⟩, ⟨e39, _, c39⟩, ⟨e41, _, c41⟩, ⟨e42, _, c42⟩, ⟨e58, _, c58⟩, ⟨e59, _, c59⟩, ⟨e60, _, c60⟩, ⟨e77, _, c77⟩, ⟨e87, _, c87⟩, ⟨e91, _, c91⟩, ⟨e94, _, c94⟩, ⟨e95, _, c95⟩, ⟨e96, _, c96⟩, ⟨e97, _, c97⟩, ⟨e99, _, c99⟩, ⟨e101, _, c101⟩, ⟨e102, _, c102⟩, ⟨e103, _, c103⟩, ⟨e104, _, c104⟩, ⟨e105, _, c105⟩, ⟨e108, _, c108⟩, ⟨e109, _, c109⟩, ⟨e110, _, c110⟩, ⟨e111, _, c111⟩, ⟨e112, _, c112⟩, ⟨e115, _, c115⟩, ⟨e118, _, c118⟩, ⟨e134, _, c134⟩, ⟨e135, _, c135⟩, ⟨e136, _, c136⟩, ⟨e137, _, c137⟩, ⟨e138, _, c138⟩, ⟨e139, _, c139⟩, ⟨e158, _, c158⟩, ⟨e160, _, c160⟩, ⟨e164, _, c164⟩, ⟨e165, _, c165⟩, ⟨e166, _, c166⟩, ⟨e167, _, c167⟩, ⟨e168, _, c168⟩, ⟨e171, _, c171⟩, ⟨e172, _, c172⟩, ⟨e173, _, c173⟩, ⟨e174, _, c174⟩, ⟨e175, _, c175⟩, ⟨e176, _, c176⟩, ⟨e177, _, c177⟩, ⟨e180, _, c180⟩, ⟨e181, _, c181⟩, ⟨e183, _, c183⟩, ⟨e185, _, c185⟩, ⟨e186, _, c186⟩, ⟨e187, _, c187⟩, ⟨e196, _, c196⟩, ⟨e219, _, c219⟩, ⟨e220, _, c220⟩, ⟨e221, _, c221⟩, ⟨e222, _, c222⟩, ⟨e223, _, c223⟩, ⟨e224, _, c224⟩, ⟨e225, _, c225⟩, ⟨e226, _, c226⟩, ⟨e227, _, c227⟩, ⟨e228, _, c228⟩, ⟨e232, _, c232⟩, ⟨e248, _, c248⟩, ⟨e249, _, c249⟩, trivial⟩
theorem tabn : ∀ f fn, F f = some fn → f < wrN := tabN (L := Ft) (by kernel_rfl)
theorem callOk (d : Nat) : CallOk Try.prog (ev d) := (evF_ok2 mixed tab tabn (noPrim_ok _) (noPrim_okW _) d).1
abbrev I (n : Int) : LV := .sc (.int .i64 n)
abbrev B (b : Bool) : LV := .sc (.bool b)
abbrev T (s : ByteArray) : LV := .sc (.string s)
theorem s12 (d : Nat) (args : List LV) (hl : args.length = i12.nargs) : ev (d + 1) 12 args = Ev.finish i12.res (evC (ev d) i12.body (Ev.start args)) := ev_fn (by kernel_rfl) d args hl
theorem s27 (d : Nat) (args : List LV) (hl : args.length = i27.nargs) : ev (d + 1) 27 args = Ev.finish i27.res (evC (ev d) i27.body (Ev.start args)) := ev_fn (by kernel_rfl) d args hl
theorem s30 (d : Nat) (args : List LV) (hl : args.length = i30.nargs) : ev (d + 1) 30 args = Ev.finish i30.res (evC (ev d) i30.body (Ev.start args)) := ev_fn (by kernel_rfl) d args hl
theorem s31 (d : Nat) (args : List LV) (hl : args.length = i31.nargs) : ev (d + 1) 31 args = Ev.finish i31.res (evC (ev d) i31.body (Ev.start args)) := ev_fn (by kernel_rfl) d args hl
theorem s37 (d : Nat) (args : List LV) (hl : args.length = i37.nargs) : ev (d + 1) 37 args = Ev.finish i37.res (evC (ev d) i37.body (Ev.start args)) := ev_fn (by kernel_rfl) d args hl
theorem s39 (d : Nat) (args : List LV) (hl : args.length = i39.nargs) : ev (d + 1) 39 args = Ev.finish i39.res (evC (ev d) i39.body (Ev.start args)) := ev_fn (by kernel_rfl) d args hl
theorem s41 (d : Nat) (args : List LV) (hl : args.length = i41.nargs) : ev (d + 1) 41 args = Ev.finish i41.res (evC (ev d) i41.body (Ev.start args)) := ev_fn (by kernel_rfl) d args hl
theorem s42 (d : Nat) (args : List LV) (hl : args.length = i42.nargs) : ev (d + 1) 42 args = Ev.finish i42.res (evC (ev d) i42.body (Ev.start args)) := ev_fn (by kernel_rfl) d args hl
theorem s58 (d : Nat) (args : List LV) (hl : args.length = i58.nargs) : ev (d + 1) 58 args = Ev.finish i58.res (evC (ev d) i58.body (Ev.start args)) := ev_fn (by kernel_rfl) d args hl
theorem s59 (d : Nat) (args : List LV) (hl : args.length = i59.nargs) : ev (d + 1) 59 args = Ev.finish i59.res (evC (ev d) i59.body (Ev.start args)) := ev_fn (by kernel_rfl) d args hl
theorem s60 (d : Nat) (args : List LV) (hl : args.length = i60.nargs) : ev (d + 1) 60 args = Ev.finish i60.res (evC (ev d) i60.body (Ev.start args)) := ev_fn (by kernel_rfl) d args hl
theorem s77 (d : Nat) (args : List LV) (hl : args.length = i77.nargs) : ev (d + 1) 77 args = Ev.finish i77.res (evC (ev d) i77.body (Ev.start args)) := ev_fn (by kernel_rfl) d args hl
theorem s87 (d : Nat) (args : List LV) (hl : args.length = i87.nargs) : ev (d + 1) 87 args = Ev.finish i87.res (evC (ev d) i87.body (Ev.start args)) := ev_fn (by kernel_rfl) d args hl
theorem s91 (d : Nat) (args : List LV) (hl : args.length = i91.nargs) : ev (d + 1) 91 args = Ev.finish i91.res (evC (ev d) i91.body (Ev.start args)) := ev_fn (by kernel_rfl) d args hl
theorem s94 (d : Nat) (args : List LV) (hl : args.length = i94.nargs) : ev (d + 1) 94 args = Ev.finish i94.res (evC (ev d) i94.body (Ev.start args)) := ev_fn (by kernel_rfl) d args hl
theorem s95 (d : Nat) (args : List LV) (hl : args.length = i95.nargs) : ev (d + 1) 95 args = Ev.finish i95.res (evC (ev d) i95.body (Ev.start args)) := ev_fn (by kernel_rfl) d args hl
theorem s96 (d : Nat) (args : List LV) (hl : args.length = i96.nargs) : ev (d + 1) 96 args = Ev.finish i96.res (evC (ev d) i96.body (Ev.start args)) := ev_fn (by kernel_rfl) d args hl
theorem s97 (d : Nat) (args : List LV) (hl : args.length = i97.nargs) : ev (d + 1) 97 args = Ev.finish i97.res (evC (ev d) i97.body (Ev.start args)) := ev_fn (by kernel_rfl) d args hl
theorem s99 (d : Nat) (args : List LV) (hl : args.length = i99.nargs) : ev (d + 1) 99 args = Ev.finish i99.res (evC (ev d) i99.body (Ev.start args)) := ev_fn (by kernel_rfl) d args hl
theorem s101 (d : Nat) (args : List LV) (hl : args.length = i101.nargs) : ev (d + 1) 101 args = Ev.finish i101.res (evC (ev d) i101.body (Ev.start args)) := ev_fn (by kernel_rfl) d args hl
theorem s102 (d : Nat) (args : List LV) (hl : args.length = i102.nargs) : ev (d + 1) 102 args = Ev.finish i102.res (evC (ev d) i102.body (Ev.start args)) := ev_fn (by kernel_rfl) d args hl
theorem s103 (d : Nat) (args : List LV) (hl : args.length = i103.nargs) : ev (d + 1) 103 args = Ev.finish i103.res (evC (ev d) i103.body (Ev.start args)) := ev_fn (by kernel_rfl) d args hl
theorem s104 (d : Nat) (args : List LV) (hl : args.length = i104.nargs) : ev (d + 1) 104 args = Ev.finish i104.res (evC (ev d) i104.body (Ev.start args)) := ev_fn (by kernel_rfl) d args hl
theorem s105 (d : Nat) (args : List LV) (hl : args.length = i105.nargs) : ev (d + 1) 105 args = Ev.finish i105.res (evC (ev d) i105.body (Ev.start args)) := ev_fn (by kernel_rfl) d args hl
theorem s108 (d : Nat) (args : List LV) (hl : args.length = i108.nargs) : ev (d + 1) 108 args = Ev.finish i108.res (evC (ev d) i108.body (Ev.start args)) := ev_fn (by kernel_rfl) d args hl
theorem s109 (d : Nat) (args : List LV) (hl : args.length = i109.nargs) : ev (d + 1) 109 args = Ev.finish i109.res (evC (ev d) i109.body (Ev.start args)) := ev_fn (by kernel_rfl) d args hl
theorem s110 (d : Nat) (args : List LV) (hl : args.length = i110.nargs) : ev (d + 1) 110 args = Ev.finish i110.res (evC (ev d) i110.body (Ev.start args)) := ev_fn (by kernel_rfl) d args hl
theorem s111 (d : Nat) (args : List LV) (hl : args.length = i111.nargs) : ev (d + 1) 111 args = Ev.finish i111.res (evC (ev d) i111.body (Ev.start args)) := ev_fn (by kernel_rfl) d args hl
theorem s112 (d : Nat) (args : List LV) (hl : args.length = i112.nargs) : ev (d + 1) 112 args = Ev.finish i112.res (evC (ev d) i112.body (Ev.start args)) := ev_fn (by kernel_rfl) d args hl
theorem s115 (d : Nat) (args : List LV) (hl : args.length = i115.nargs) : ev (d + 1) 115 args = Ev.finish i115.res (evC (ev d) i115.body (Ev.start args)) := ev_fn (by kernel_rfl) d args hl
theorem s118 (d : Nat) (args : List LV) (hl : args.length = i118.nargs) : ev (d + 1) 118 args = Ev.finish i118.res (evC (ev d) i118.body (Ev.start args)) := ev_fn (by kernel_rfl) d args hl
theorem s134 (d : Nat) (args : List LV) (hl : args.length = i134.nargs) : ev (d + 1) 134 args = Ev.finish i134.res (evC (ev d) i134.body (Ev.start args)) := ev_fn (by kernel_rfl) d args hl
theorem s135 (d : Nat) (args : List LV) (hl : args.length = i135.nargs) : ev (d + 1) 135 args = Ev.finish i135.res (evC (ev d) i135.body (Ev.start args)) := ev_fn (by kernel_rfl) d args hl
theorem s136 (d : Nat) (args : List LV) (hl : args.length = i136.nargs) : ev (d + 1) 136 args = Ev.finish i136.res (evC (ev d) i136.body (Ev.start args)) := ev_fn (by kernel_rfl) d args hl
theorem s137 (d : Nat) (args : List LV) (hl : args.length = i137.nargs) : ev (d + 1) 137 args = Ev.finish i137.res (evC (ev d) i137.body (Ev.start args)) := ev_fn (by kernel_rfl) d args hl
theorem s138 (d : Nat) (args : List LV) (hl : args.length = i138.nargs) : ev (d + 1) 138 args = Ev.finish i138.res (evC (ev d) i138.body (Ev.start args)) := ev_fn (by kernel_rfl) d args hl
theorem s139 (d : Nat) (args : List LV) (hl : args.length = i139.nargs) : ev (d + 1) 139 args = Ev.finish i139.res (evC (ev d) i139.body (Ev.start args)) := ev_fn (by kernel_rfl) d args hl
theorem s158 (d : Nat) (args : List LV) (hl : args.length = i158.nargs) : ev (d + 1) 158 args = Ev.finish i158.res (evC (ev d) i158.body (Ev.start args)) := ev_fn (by kernel_rfl) d args hl
theorem s160 (d : Nat) (args : List LV) (hl : args.length = i160.nargs) : ev (d + 1) 160 args = Ev.finish i160.res (evC (ev d) i160.body (Ev.start args)) := ev_fn (by kernel_rfl) d args hl
theorem s164 (d : Nat) (args : List LV) (hl : args.length = i164.nargs) : ev (d + 1) 164 args = Ev.finish i164.res (evC (ev d) i164.body (Ev.start args)) := ev_fn (by kernel_rfl) d args hl
theorem s165 (d : Nat) (args : List LV) (hl : args.length = i165.nargs) : ev (d + 1) 165 args = Ev.finish i165.res (evC (ev d) i165.body (Ev.start args)) := ev_fn (by kernel_rfl) d args hl
theorem s166 (d : Nat) (args : List LV) (hl : args.length = i166.nargs) : ev (d + 1) 166 args = Ev.finish i166.res (evC (ev d) i166.body (Ev.start args)) := ev_fn (by kernel_rfl) d args hl
theorem s167 (d : Nat) (args : List LV) (hl : args.length = i167.nargs) : ev (d + 1) 167 args = Ev.finish i167.res (evC (ev d) i167.body (Ev.start args)) := ev_fn (by kernel_rfl) d args hl
theorem s168 (d : Nat) (args : List LV) (hl : args.length = i168.nargs) : ev (d + 1) 168 args = Ev.finish i168.res (evC (ev d) i168.body (Ev.start args)) := ev_fn (by kernel_rfl) d args hl
theorem s171 (d : Nat) (args : List LV) (hl : args.length = i171.nargs) : ev (d + 1) 171 args = Ev.finish i171.res (evC (ev d) i171.body (Ev.start args)) := ev_fn (by kernel_rfl) d args hl
theorem s172 (d : Nat) (args : List LV) (hl : args.length = i172.nargs) : ev (d + 1) 172 args = Ev.finish i172.res (evC (ev d) i172.body (Ev.start args)) := ev_fn (by kernel_rfl) d args hl
theorem s173 (d : Nat) (args : List LV) (hl : args.length = i173.nargs) : ev (d + 1) 173 args = Ev.finish i173.res (evC (ev d) i173.body (Ev.start args)) := ev_fn (by kernel_rfl) d args hl
theorem s174 (d : Nat) (args : List LV) (hl : args.length = i174.nargs) : ev (d + 1) 174 args = Ev.finish i174.res (evC (ev d) i174.body (Ev.start args)) := ev_fn (by kernel_rfl) d args hl
theorem s175 (d : Nat) (args : List LV) (hl : args.length = i175.nargs) : ev (d + 1) 175 args = Ev.finish i175.res (evC (ev d) i175.body (Ev.start args)) := ev_fn (by kernel_rfl) d args hl
theorem s176 (d : Nat) (args : List LV) (hl : args.length = i176.nargs) : ev (d + 1) 176 args = Ev.finish i176.res (evC (ev d) i176.body (Ev.start args)) := ev_fn (by kernel_rfl) d args hl
theorem s177 (d : Nat) (args : List LV) (hl : args.length = i177.nargs) : ev (d + 1) 177 args = Ev.finish i177.res (evC (ev d) i177.body (Ev.start args)) := ev_fn (by kernel_rfl) d args hl
theorem s180 (d : Nat) (args : List LV) (hl : args.length = i180.nargs) : ev (d + 1) 180 args = Ev.finish i180.res (evC (ev d) i180.body (Ev.start args)) := ev_fn (by kernel_rfl) d args hl
theorem s181 (d : Nat) (args : List LV) (hl : args.length = i181.nargs) : ev (d + 1) 181 args = Ev.finish i181.res (evC (ev d) i181.body (Ev.start args)) := ev_fn (by kernel_rfl) d args hl
theorem s183 (d : Nat) (args : List LV) (hl : args.length = i183.nargs) : ev (d + 1) 183 args = Ev.finish i183.res (evC (ev d) i183.body (Ev.start args)) := ev_fn (by kernel_rfl) d args hl
theorem s185 (d : Nat) (args : List LV) (hl : args.length = i185.nargs) : ev (d + 1) 185 args = Ev.finish i185.res (evC (ev d) i185.body (Ev.start args)) := ev_fn (by kernel_rfl) d args hl
theorem s186 (d : Nat) (args : List LV) (hl : args.length = i186.nargs) : ev (d + 1) 186 args = Ev.finish i186.res (evC (ev d) i186.body (Ev.start args)) := ev_fn (by kernel_rfl) d args hl
theorem s187 (d : Nat) (args : List LV) (hl : args.length = i187.nargs) : ev (d + 1) 187 args = Ev.finish i187.res (evC (ev d) i187.body (Ev.start args)) := ev_fn (by kernel_rfl) d args hl
theorem s196 (d : Nat) (args : List LV) (hl : args.length = i196.nargs) : ev (d + 1) 196 args = Ev.finish i196.res (evC (ev d) i196.body (Ev.start args)) := ev_fn (by kernel_rfl) d args hl
theorem s219 (d : Nat) (args : List LV) (hl : args.length = i219.nargs) : ev (d + 1) 219 args = Ev.finish i219.res (evC (ev d) i219.body (Ev.start args)) := ev_fn (by kernel_rfl) d args hl
theorem s220 (d : Nat) (args : List LV) (hl : args.length = i220.nargs) : ev (d + 1) 220 args = Ev.finish i220.res (evC (ev d) i220.body (Ev.start args)) := ev_fn (by kernel_rfl) d args hl
theorem s221 (d : Nat) (args : List LV) (hl : args.length = i221.nargs) : ev (d + 1) 221 args = Ev.finish i221.res (evC (ev d) i221.body (Ev.start args)) := ev_fn (by kernel_rfl) d args hl
theorem s222 (d : Nat) (args : List LV) (hl : args.length = i222.nargs) : ev (d + 1) 222 args = Ev.finish i222.res (evC (ev d) i222.body (Ev.start args)) := ev_fn (by kernel_rfl) d args hl
theorem s223 (d : Nat) (args : List LV) (hl : args.length = i223.nargs) : ev (d + 1) 223 args = Ev.finish i223.res (evC (ev d) i223.body (Ev.start args)) := ev_fn (by kernel_rfl) d args hl
theorem s224 (d : Nat) (args : List LV) (hl : args.length = i224.nargs) : ev (d + 1) 224 args = Ev.finish i224.res (evC (ev d) i224.body (Ev.start args)) := ev_fn (by kernel_rfl) d args hl
theorem s225 (d : Nat) (args : List LV) (hl : args.length = i225.nargs) : ev (d + 1) 225 args = Ev.finish i225.res (evC (ev d) i225.body (Ev.start args)) := ev_fn (by kernel_rfl) d args hl
theorem s226 (d : Nat) (args : List LV) (hl : args.length = i226.nargs) : ev (d + 1) 226 args = Ev.finish i226.res (evC (ev d) i226.body (Ev.start args)) := ev_fn (by kernel_rfl) d args hl
theorem s227 (d : Nat) (args : List LV) (hl : args.length = i227.nargs) : ev (d + 1) 227 args = Ev.finish i227.res (evC (ev d) i227.body (Ev.start args)) := ev_fn (by kernel_rfl) d args hl
theorem s228 (d : Nat) (args : List LV) (hl : args.length = i228.nargs) : ev (d + 1) 228 args = Ev.finish i228.res (evC (ev d) i228.body (Ev.start args)) := ev_fn (by kernel_rfl) d args hl
theorem s232 (d : Nat) (args : List LV) (hl : args.length = i232.nargs) : ev (d + 1) 232 args = Ev.finish i232.res (evC (ev d) i232.body (Ev.start args)) := ev_fn (by kernel_rfl) d args hl
theorem s248 (d : Nat) (args : List LV) (hl : args.length = i248.nargs) : ev (d + 1) 248 args = Ev.finish i248.res (evC (ev d) i248.body (Ev.start args)) := ev_fn (by kernel_rfl) d args hl
theorem s249 (d : Nat) (args : List LV) (hl : args.length = i249.nargs) : ev (d + 1) 249 args = Ev.finish i249.res (evC (ev d) i249.body (Ev.start args)) := ev_fn (by kernel_rfl) d args hl
theorem m134 (d : Nat) {args bs : List LV} {st : St} (hs : startW args = some (bs, st)) (hl : bs.length = i134.nargs) : ev (d + 1) (mvN + 134) args = finishM i134.res (evC (ev d) i134.body st) := evF_fnM (by kernel_rfl) tabn d hs hl
theorem v30 (d : Nat) {args bs : List LV} {st : St} (hs : startW args = some (bs, st)) (hl : bs.length = i30.nargs) : ev (d + 1) (wrN + 30) args = finishW bs i30.res (evC (ev d) i30.body st) := evF_fnW (by kernel_rfl) tabn d hs hl
theorem v42 (d : Nat) {args bs : List LV} {st : St} (hs : startW args = some (bs, st)) (hl : bs.length = i42.nargs) : ev (d + 1) (wrN + 42) args = finishW bs i42.res (evC (ev d) i42.body st) := evF_fnW (by kernel_rfl) tabn d hs hl
theorem v111 (d : Nat) {args bs : List LV} {st : St} (hs : startW args = some (bs, st)) (hl : bs.length = i111.nargs) : ev (d + 1) (wrN + 111) args = finishW bs i111.res (evC (ev d) i111.body st) := evF_fnW (by kernel_rfl) tabn d hs hl
theorem v112 (d : Nat) {args bs : List LV} {st : St} (hs : startW args = some (bs, st)) (hl : bs.length = i112.nargs) : ev (d + 1) (wrN + 112) args = finishW bs i112.res (evC (ev d) i112.body st) := evF_fnW (by kernel_rfl) tabn d hs hl
end Go.Proofs.Ytojjkjbffihppaa.walkS
