/- The functions that some rows reach, turned; no conditions. -/
import Derived.Test.YtojjkjbffihppaaIrS1
import Derived.KernelRfl
import Derived.Test.YtojjkjbffihppaaProg
namespace Go.Proofs.Ytojjkjbffihppaa.walkS
open Go Go.Proofs.Ytojjkjbffihppaa.Ev
def w169_1 : IC :=
(.seq
 (.seq
 (.reg false [⟨6, .mv (.t 3), none, false⟩,
 ⟨7, .mv (.t 4), none, false⟩,
 ⟨8, .ar .lss false (.t 6) (.t 7), none, false⟩])
 (.ite (.t 8)
 .skip
 (.exit 0)))
 (.block 1
 (.seq
 (.reg false [⟨9, .mv (.t 3), none, false⟩,
 ⟨10, .mv (.t 4), none, false⟩,
 ⟨11, .ar .add false (.t 9) (.t 10), none, false⟩,
 ⟨12, .ar .add false (.t 11) (.k (.sc (.int .i64 1))), none, false⟩,
 ⟨13, .ar .quo false (.t 12) (.k (.sc (.int .i64 2))), none, false⟩,
 ⟨5, .mv (.t 13), none, false⟩])
 (.seq
 (.reg false [⟨14, .mv (.t 5), none, false⟩,
 ⟨15, .mv (.t 5), none, false⟩,
 ⟨16, .ar .mul false (.t 14) (.t 15), none, false⟩,
 ⟨17, .mv (.t 0), none, false⟩,
 ⟨18, .ar .leq false (.t 16) (.t 17), none, false⟩])
 (.ite (.t 18)
 (.reg false [⟨19, .mv (.t 5), none, false⟩,
 ⟨3, .mv (.t 19), none, false⟩])
 (.reg false [⟨20, .mv (.t 5), none, false⟩,
 ⟨21, .ar .sub false (.t 20) (.k (.sc (.int .i64 1))), none, false⟩,
 ⟨4, .mv (.t 21), none, false⟩]))))))
def b169_1 : IC := w169_1
theorem u169_1 (call : CallF) (st : St) : evC call b169_1 st = evC call w169_1 st := rfl
attribute [simp] u169_1 w169_1
def i169 : Ev.Fn := ⟨1, 23, [.tmp 2],
 (.seq
 (.reg false [⟨2, .mv (.k (.sc (.int .i64 0))), none, false⟩])
 (.seq
 (.reg false [⟨3, .mv (.k (.sc (.int .i64 0))), none, false⟩])
 (.seq
 (.reg false [⟨4, .mv (.k (.sc (.int .i64 3037000499))), none, false⟩])
 (.seq
 (.cln [3] [2]
 (.block 0
 (.loop [0, 3, 4] b169_1)))
 (.seq
 (.reg false [⟨22, .mv (.t 3), none, false⟩,
 ⟨2, .mv (.t 22), none, false⟩])
 .ret)))))⟩
attribute [simp] i169
set_option maxRecDepth 1000000 in
theorem c169 : cFn Try.prog 169 [[], [0, 3, 4], [3], [2]] = some i169 := by kernel_rfl
theorem e169 : enterOk Try.prog 169 = true := by kernel_rfl
def i170 : Ev.Fn := ⟨2, 28, [.tmp 4],
 (.seq
 (.reg false [⟨2, .bx (.t 0), none, false⟩,
 ⟨3, .bx (.t 1), none, false⟩,
 ⟨4, .mv (.k (.sc (.int .i64 0))), none, false⟩])
 (.seq
 (.reg false [⟨5, .fa 0 (.t 2), none, false⟩,
 ⟨6, .ld 1 false (.t 5), none, false⟩,
 ⟨7, .fa 0 (.t 3), none, false⟩,
 ⟨8, .ld 1 false (.t 7), none, false⟩,
 ⟨9, .ar .sub false (.t 6) (.t 8), none, false⟩,
 ⟨10, .fa 0 (.t 2), none, false⟩,
 ⟨11, .ld 1 false (.t 10), none, false⟩,
 ⟨12, .fa 0 (.t 3), none, false⟩,
 ⟨13, .ld 1 false (.t 12), none, false⟩,
 ⟨14, .ar .sub false (.t 11) (.t 13), none, false⟩,
 ⟨15, .ar .mul false (.t 9) (.t 14), none, false⟩,
 ⟨16, .fa 1 (.t 2), none, false⟩,
 ⟨17, .ld 1 false (.t 16), none, false⟩,
 ⟨18, .fa 1 (.t 3), none, false⟩,
 ⟨19, .ld 1 false (.t 18), none, false⟩,
 ⟨20, .ar .sub false (.t 17) (.t 19), none, false⟩,
 ⟨21, .fa 1 (.t 2), none, false⟩,
 ⟨22, .ld 1 false (.t 21), none, false⟩,
 ⟨23, .fa 1 (.t 3), none, false⟩,
 ⟨24, .ld 1 false (.t 23), none, false⟩,
 ⟨25, .ar .sub false (.t 22) (.t 24), none, false⟩,
 ⟨26, .ar .mul false (.t 20) (.t 25), none, false⟩,
 ⟨27, .ar .add false (.t 15) (.t 26), none, false⟩,
 ⟨4, .mv (.t 27), none, false⟩])
 .ret))⟩
attribute [simp] i170
set_option maxRecDepth 1000000 in
theorem c170 : cFn Try.prog 170 [[]] = some i170 := by kernel_rfl
theorem e170 : enterOk Try.prog 170 = true := by kernel_rfl
def i171 : Ev.Fn := ⟨1, 11, [.cell 2 2 true],
 (.seq
 (.reg false [⟨1, .bx (.t 0), none, false⟩,
 ⟨2, .al [(.sc (.int .i64 0)), (.sc (.int .i64 0))], none, false⟩])
 (.seq
 (.reg false [⟨3, .al [(.sc (.int .i64 0)), (.sc (.int .i64 0))], none, false⟩])
 (.seq
 (.reg false [⟨4, .fa 0 (.t 1), none, false⟩,
 ⟨5, .ld 1 false (.t 4), none, false⟩,
 ⟨6, .fa 0 (.t 3), none, false⟩,
 ⟨1, .so 1 (.t 6) (.t 5), none, true⟩])
 (.seq
 (.reg false [⟨7, .fa 1 (.t 1), none, false⟩,
 ⟨8, .ld 1 false (.t 7), none, false⟩,
 ⟨9, .fa 1 (.t 3), none, false⟩,
 ⟨1, .so 1 (.t 9) (.t 8), none, true⟩])
 (.seq
 (.reg false [⟨10, .ld 2 true (.t 3), none, false⟩,
 ⟨1, .so 2 (.t 2) (.t 10), none, true⟩])
 .ret)))))⟩
attribute [simp] i171
set_option maxRecDepth 1000000 in
theorem c171 : cFn Try.prog 171 [[]] = some i171 := by kernel_rfl
theorem e171 : enterOk Try.prog 171 = true := by kernel_rfl
def i172 : Ev.Fn := ⟨1, 12, [.cell 2 2 true],
 (.seq
 (.reg false [⟨1, .bx (.t 0), none, false⟩,
 ⟨2, .al [(.sc (.string ⟨#[]⟩)), .nl], none, false⟩])
 (.seq
 (.reg false [⟨3, .al [(.sc (.string ⟨#[]⟩)), .nl], none, false⟩])
 (.seq
 (.reg false [⟨4, .fa 0 (.t 1), none, false⟩,
 ⟨5, .ld 1 false (.t 4), none, false⟩,
 ⟨6, .fa 0 (.t 3), none, false⟩,
 ⟨1, .so 1 (.t 6) (.t 5), none, true⟩])
 (.seq
 (.reg false [⟨7, .fa 1 (.t 1), none, false⟩,
 ⟨8, .ld 1 false (.t 7), none, false⟩,
 ⟨9, .ca (.k (.cl 91 [])) [(.t 8)], none, false⟩,
 ⟨10, .fa 1 (.t 3), none, false⟩,
 ⟨1, .so 1 (.t 10) (.t 9), none, true⟩])
 (.seq
 (.reg false [⟨11, .ld 2 true (.t 3), none, false⟩,
 ⟨1, .so 2 (.t 2) (.t 11), none, true⟩])
 .ret)))))⟩
attribute [simp] i172
set_option maxRecDepth 1000000 in
theorem c172 : cFn Try.prog 172 [[]] = some i172 := by kernel_rfl
theorem e172 : enterOk Try.prog 172 = true := by kernel_rfl
def i173 : Ev.Fn := ⟨2, 9, [.tmp 4],
 (.seq
 (.reg false [⟨3, .bx (.t 1), none, false⟩,
 ⟨4, .mv (.k (.sc (.bool false))), none, false⟩])
 (.seq
 (.reg false [⟨5, .mv (.t 0), none, false⟩,
 ⟨6, .ld 2 true (.t 3), none, false⟩,
 ⟨7, .ca (.k (.cl 224 [])) [(.t 5), (.t 6)], none, false⟩,
 ⟨8, .ar .geq false (.t 7) (.k (.sc (.int .i64 0))), none, false⟩,
 ⟨4, .mv (.t 8), none, false⟩])
 .ret))⟩
attribute [simp] i173
set_option maxRecDepth 1000000 in
theorem c173 : cFn Try.prog 173 [[]] = some i173 := by kernel_rfl
theorem e173 : enterOk Try.prog 173 = true := by kernel_rfl
def w174_1 : IC :=
(.seq
 (.seq
 (.reg false [⟨22, .mv (.t 3), none, false⟩,
 ⟨23, .mv (.t 0), none, false⟩,
 ⟨24, .ln true (.t 23), none, false⟩,
 ⟨25, .ar .lss false (.t 22) (.t 24), none, false⟩])
 (.ite (.t 25)
 .skip
 (.exit 0)))
 (.seq
 (.block 1
 (.seq
 (.reg false [⟨28, .mv (.t 0), none, false⟩,
 ⟨29, .mv (.t 3), none, false⟩,
 ⟨30, .ix (.t 28) (.t 29), none, false⟩,
 ⟨31, .ar .lss false (.t 30) (.k (.sc (.int .u8 97))), none, false⟩,
 ⟨32, .mv (.t 31), none, false⟩,
 ⟨33, .mv (.t 0), (some (32, false)), false⟩,
 ⟨34, .mv (.t 3), (some (32, false)), false⟩,
 ⟨35, .ix (.t 33) (.t 34), (some (32, false)), false⟩,
 ⟨36, .ar .gtr false (.t 35) (.k (.sc (.int .u8 122))), (some (32, false)), false⟩,
 ⟨37, .pk (.t 32) (.k (.sc (.bool true))) (.t 36), none, false⟩,
 ⟨38, .mv (.t 37), none, false⟩,
 ⟨39, .mv (.t 0), (some (38, true)), false⟩,
 ⟨40, .mv (.t 3), (some (38, true)), false⟩,
 ⟨41, .ix (.t 39) (.t 40), (some (38, true)), false⟩,
 ⟨42, .ar .lss false (.t 41) (.k (.sc (.int .u8 48))), (some (38, true)), false⟩,
 ⟨43, .mv (.t 42), (some (38, true)), false⟩,
 ⟨44, .mv (.t 0), (some (43, false)), false⟩,
 ⟨45, .mv (.t 3), (some (43, false)), false⟩,
 ⟨46, .ix (.t 44) (.t 45), (some (43, false)), false⟩,
 ⟨47, .ar .gtr false (.t 46) (.k (.sc (.int .u8 57))), (some (43, false)), false⟩,
 ⟨48, .pk (.t 43) (.k (.sc (.bool true))) (.t 47), (some (38, true)), false⟩,
 ⟨49, .pk (.t 38) (.t 48) (.k (.sc (.bool false))), none, false⟩])
 (.ite (.t 49)
 (.seq
 (.reg false [⟨2, .mv (.k (.sc (.bool false))), none, false⟩])
 .ret)
 .skip)))
 (.reg false [⟨26, .mv (.t 3), none, false⟩,
 ⟨27, .ar .add false (.t 26) (.k (.sc (.int .i64 1))), none, false⟩,
 ⟨3, .mv (.t 27), none, false⟩])))
def b174_1 : IC := w174_1
theorem u174_1 (call : CallF) (st : St) : evC call b174_1 st = evC call w174_1 st := rfl
attribute [simp] u174_1 w174_1
def i174 : Ev.Fn := ⟨1, 50, [.tmp 2],
 (.seq
 (.reg false [⟨2, .mv (.k (.sc (.bool false))), none, false⟩])
 (.seq
 (.seq
 (.reg false [⟨4, .mv (.t 0), none, false⟩,
 ⟨5, .ln true (.t 4), none, false⟩,
 ⟨6, .ar .lss false (.t 5) (.k (.sc (.int .i64 1))), none, false⟩,
 ⟨7, .mv (.t 6), none, false⟩,
 ⟨8, .mv (.t 0), (some (7, false)), false⟩,
 ⟨9, .ln true (.t 8), (some (7, false)), false⟩,
 ⟨10, .ar .gtr false (.t 9) (.k (.sc (.int .i64 10))), (some (7, false)), false⟩,
 ⟨11, .pk (.t 7) (.k (.sc (.bool true))) (.t 10), none, false⟩,
 ⟨12, .mv (.t 11), none, false⟩,
 ⟨13, .mv (.t 0), (some (12, false)), false⟩,
 ⟨14, .ix (.t 13) (.k (.sc (.int .i64 0))), (some (12, false)), false⟩,
 ⟨15, .ar .lss false (.t 14) (.k (.sc (.int .u8 97))), (some (12, false)), false⟩,
 ⟨16, .pk (.t 12) (.k (.sc (.bool true))) (.t 15), none, false⟩,
 ⟨17, .mv (.t 16), none, false⟩,
 ⟨18, .mv (.t 0), (some (17, false)), false⟩,
 ⟨19, .ix (.t 18) (.k (.sc (.int .i64 0))), (some (17, false)), false⟩,
 ⟨20, .ar .gtr false (.t 19) (.k (.sc (.int .u8 122))), (some (17, false)), false⟩,
 ⟨21, .pk (.t 17) (.k (.sc (.bool true))) (.t 20), none, false⟩])
 (.ite (.t 21)
 (.seq
 (.reg false [⟨2, .mv (.k (.sc (.bool false))), none, false⟩])
 .ret)
 .skip))
 (.seq
 (.seq
 (.reg false [⟨3, .mv (.k (.sc (.int .i64 0))), none, false⟩])
 (.cln [] [2]
 (.block 0
 (.loop [0, 3] b174_1))))
 (.seq
 (.reg false [⟨2, .mv (.k (.sc (.bool true))), none, false⟩])
 .ret))))⟩
attribute [simp] i174
set_option maxRecDepth 1000000 in
theorem c174 : cFn Try.prog 174 [[], [0, 3], [], [2]] = some i174 := by kernel_rfl
theorem e174 : enterOk Try.prog 174 = true := by kernel_rfl
def w175_1 : IC :=
(.seq
 (.reg false [⟨13, .ar .lss false (.t 12) (.t 11), none, false⟩])
 (.seq
 (.ite (.t 13)
 .skip
 (.exit 0))
 (.seq
 (.block 1
 (.seq
 (.reg false [⟨14, .ia 1 (.t 10) (.t 12), none, false⟩,
 ⟨15, .ld 1 false (.t 14), none, false⟩,
 ⟨8, .mv (.t 15), none, false⟩])
 (.seq
 (.seq
 (.reg false [⟨16, .mv (.t 8), none, false⟩,
 ⟨17, .mv (.t 0), none, false⟩,
 ⟨18, .ln false (.t 17), none, false⟩,
 ⟨19, .ar .sub false (.t 18) (.k (.sc (.int .i64 1))), none, false⟩,
 ⟨20, .ca (.k (.cl 105 [])) [(.t 16), (.k (.sc (.int .i64 0))), (.t 19)], none, false⟩,
 ⟨21, .nt (.t 20), none, false⟩])
 (.ite (.t 21)
 (.seq
 (.reg false [⟨4, .mv (.k .nl), none, false⟩,
 ⟨5, .mv (.k (.sc (.bool false))), none, false⟩])
 .ret)
 .skip))
 (.reg false [⟨22, .mv (.t 6), none, false⟩,
 ⟨23, .mv (.t 0), none, false⟩,
 ⟨24, .mv (.t 8), none, false⟩,
 ⟨25, .ia 2 (.t 23) (.t 24), none, false⟩,
 ⟨26, .ld 2 true (.t 25), none, false⟩,
 ⟨27, .bs 127 2 [(.sc (.int .i64 0)), (.sc (.int .i64 0))] 1 [(0, (.t 26))], none, false⟩,
 ⟨28, .ap 127 2 false (.t 22) (.t 27), none, false⟩,
 ⟨6, .mv (.t 28), none, false⟩]))))
 (.reg false [⟨29, .ar .add false (.t 12) (.k (.sc (.int .i64 1))), none, false⟩,
 ⟨12, .mv (.t 29), none, false⟩]))))
def b175_1 : IC := w175_1
theorem u175_1 (call : CallF) (st : St) : evC call b175_1 st = evC call w175_1 st := rfl
attribute [simp] u175_1 w175_1
def i175 : Ev.Fn := ⟨2, 31, [.tmp 4, .tmp 5],
 (.seq
 (.reg false [⟨4, .mv (.k .nl), none, false⟩,
 ⟨5, .mv (.k (.sc (.bool false))), none, false⟩])
 (.seq
 (.reg false [⟨9, .bs 127 2 [(.sc (.int .i64 0)), (.sc (.int .i64 0))] 0 [], none, false⟩,
 ⟨6, .mv (.t 9), none, false⟩])
 (.seq
 (.seq
 (.reg false [⟨10, .mv (.t 1), none, false⟩,
 ⟨11, .ln false (.t 10), none, false⟩,
 ⟨12, .mv (.k (.sc (.int .i64 0))), none, false⟩])
 (.cln [6] [4, 5]
 (.block 0
 (.loop [0, 6, 10, 11, 12] b175_1))))
 (.seq
 (.reg false [⟨30, .mv (.t 6), none, false⟩,
 ⟨4, .mv (.t 30), none, false⟩,
 ⟨5, .mv (.k (.sc (.bool true))), none, false⟩])
 .ret))))⟩
attribute [simp] i175
set_option maxRecDepth 1000000 in
theorem c175 : cFn Try.prog 175 [[], [0, 6, 10, 11, 12], [6], [4, 5]] = some i175 := by kernel_rfl
theorem e175 : enterOk Try.prog 175 = true := by kernel_rfl
def w176_2 : IC :=
(.seq
 (.seq
 (.reg false [⟨62, .mv (.t 8), none, false⟩,
 ⟨63, .mv (.t 3), none, false⟩,
 ⟨64, .ar .lss false (.t 62) (.t 63), none, false⟩])
 (.ite (.t 64)
 .skip
 (.exit 2)))
 (.seq
 (.block 3
 (.seq
 (.reg true [⟨67, .mv (.t 8), none, false⟩,
 ⟨68, .ar .add false (.t 67) (.k (.sc (.int .i64 1))), none, false⟩,
 ⟨69, .mv (.t 3), none, false⟩,
 ⟨70, .ar .rem false (.t 68) (.t 69), none, false⟩,
 ⟨71, .mv (.t 4), none, false⟩,
 ⟨72, .ar .neq false (.t 70) (.t 71), none, false⟩,
 ⟨73, .mv (.t 72), none, false⟩,
 ⟨74, .ld 2 true (.t 5), (some (73, true)), false⟩,
 ⟨75, .ld 2 true (.t 6), (some (73, true)), false⟩,
 ⟨76, .mv (.t 0), (some (73, true)), false⟩,
 ⟨77, .mv (.t 8), (some (73, true)), false⟩,
 ⟨78, .ia 2 (.t 76) (.t 77), (some (73, true)), false⟩,
 ⟨79, .ld 2 true (.t 78), (some (73, true)), false⟩,
 ⟨80, .mv (.t 0), (some (73, true)), false⟩,
 ⟨81, .mv (.t 8), (some (73, true)), false⟩,
 ⟨82, .ar .add false (.t 81) (.k (.sc (.int .i64 1))), (some (73, true)), false⟩,
 ⟨83, .mv (.t 3), (some (73, true)), false⟩,
 ⟨84, .ar .rem false (.t 82) (.t 83), (some (73, true)), false⟩,
 ⟨85, .ia 2 (.t 80) (.t 84), (some (73, true)), false⟩,
 ⟨86, .ld 2 true (.t 85), (some (73, true)), false⟩,
 ⟨87, .ca (.k (.cl 226 [])) [(.t 74), (.t 75), (.t 79), (.t 86)], (some (73, true)), false⟩,
 ⟨88, .pk (.t 73) (.t 87) (.k (.sc (.bool false))), none, false⟩])
 (.ite (.t 88)
 (.seq
 (.reg false [⟨2, .mv (.k (.sc (.bool false))), none, false⟩])
 .ret)
 .skip)))
 (.reg false [⟨65, .mv (.t 8), none, false⟩,
 ⟨66, .ar .add false (.t 65) (.k (.sc (.int .i64 1))), none, false⟩,
 ⟨8, .mv (.t 66), none, false⟩])))
def b176_2 : IC := w176_2
theorem u176_2 (call : CallF) (st : St) : evC call b176_2 st = evC call w176_2 st := rfl
attribute [simp] u176_2 w176_2
def w176_1 : IC :=
(.seq
 (.reg false [⟨25, .ar .lss false (.t 24) (.t 23), none, false⟩])
 (.seq
 (.ite (.t 25)
 .skip
 (.exit 0))
 (.seq
 (.block 1
 (.seq
 (.reg false [⟨26, .mv (.t 24), none, false⟩,
 ⟨4, .mv (.t 26), none, false⟩])
 (.seq
 (.rgc [.ne 5 0, .ne 5 4, .ne 5 32, .ne 5 3, .ne 5 33, .ne 5 34, .ne 5 31, .ne 5 35, .ne 5 36, .ne 5 39, .ne 5 40, .ne 5 41, .ne 5 38, .ne 5 42, .ne 5 43, .ne 6 0, .ne 6 4, .ne 6 39, .ne 6 3, .ne 6 40, .ne 6 41, .ne 6 38, .ne 6 42, .ne 6 43] [⟨27, .mv (.t 0), none, false⟩,
 ⟨28, .mv (.t 4), none, false⟩,
 ⟨29, .ia 2 (.t 27) (.t 28), none, false⟩,
 ⟨30, .ld 2 true (.t 29), none, false⟩,
 ⟨31, .mv (.t 0), none, false⟩,
 ⟨32, .mv (.t 4), none, false⟩,
 ⟨33, .ar .add false (.t 32) (.k (.sc (.int .i64 1))), none, false⟩,
 ⟨34, .mv (.t 3), none, false⟩,
 ⟨35, .ar .rem false (.t 33) (.t 34), none, false⟩,
 ⟨36, .ia 2 (.t 31) (.t 35), none, false⟩,
 ⟨37, .ld 2 true (.t 36), none, false⟩,
 ⟨38, .mv (.t 0), none, false⟩,
 ⟨39, .mv (.t 4), none, false⟩,
 ⟨40, .ar .add false (.t 39) (.k (.sc (.int .i64 2))), none, false⟩,
 ⟨41, .mv (.t 3), none, false⟩,
 ⟨42, .ar .rem false (.t 40) (.t 41), none, false⟩,
 ⟨43, .ia 2 (.t 38) (.t 42), none, false⟩,
 ⟨44, .ld 2 true (.t 43), none, false⟩,
 ⟨5, .al [(.sc (.int .i64 0)), (.sc (.int .i64 0))], none, false⟩,
 ⟨6, .al [(.sc (.int .i64 0)), (.sc (.int .i64 0))], none, false⟩,
 ⟨7, .al [(.sc (.int .i64 0)), (.sc (.int .i64 0))], none, false⟩,
 ⟨0, .so 2 (.t 5) (.t 30), none, true⟩,
 ⟨0, .so 2 (.t 6) (.t 37), none, true⟩,
 ⟨0, .so 2 (.t 7) (.t 44), none, true⟩])
 (.seq
 (.seq
 (.reg false [⟨45, .ld 2 true (.t 5), none, false⟩,
 ⟨46, .ld 2 true (.t 6), none, false⟩,
 ⟨47, .eq false [1, 1] (.t 45) (.t 46), none, false⟩,
 ⟨48, .mv (.t 47), none, false⟩,
 ⟨49, .ld 2 true (.t 5), (some (48, false)), false⟩,
 ⟨50, .ld 2 true (.t 6), (some (48, false)), false⟩,
 ⟨51, .ld 2 true (.t 7), (some (48, false)), false⟩,
 ⟨52, .ca (.k (.cl 225 [])) [(.t 49), (.t 50), (.t 51)], (some (48, false)), false⟩,
 ⟨53, .pk (.t 48) (.k (.sc (.bool true))) (.t 52), none, false⟩,
 ⟨54, .mv (.t 53), none, false⟩,
 ⟨55, .ld 2 true (.t 6), (some (54, false)), false⟩,
 ⟨56, .ld 2 true (.t 7), (some (54, false)), false⟩,
 ⟨57, .ld 2 true (.t 5), (some (54, false)), false⟩,
 ⟨58, .ca (.k (.cl 225 [])) [(.t 55), (.t 56), (.t 57)], (some (54, false)), false⟩,
 ⟨59, .pk (.t 54) (.k (.sc (.bool true))) (.t 58), none, false⟩])
 (.ite (.t 59)
 (.seq
 (.reg false [⟨2, .mv (.k (.sc (.bool false))), none, false⟩])
 .ret)
 .skip))
 (.seq
 (.reg false [⟨60, .mv (.t 4), none, false⟩,
 ⟨61, .ar .add false (.t 60) (.k (.sc (.int .i64 2))), none, false⟩,
 ⟨8, .mv (.t 61), none, false⟩])
 (.cln [0, 3, 23, 24] [2]
 (.block 2
 (.loop [0, 3, 4, 5, 6, 8, 23, 24] b176_2))))))))
 (.reg false [⟨89, .ar .add false (.t 24) (.k (.sc (.int .i64 1))), none, false⟩,
 ⟨24, .mv (.t 89), none, false⟩]))))
def b176_1 : IC := w176_1
theorem u176_1 (call : CallF) (st : St) : evC call b176_1 st = evC call w176_1 st := rfl
attribute [simp] u176_1 w176_1
def i176 : Ev.Fn := ⟨1, 93, [.tmp 2],
 (.seq
 (.reg false [⟨2, .mv (.k (.sc (.bool false))), none, false⟩])
 (.seq
 (.reg false [⟨9, .mv (.t 0), none, false⟩,
 ⟨10, .ln false (.t 9), none, false⟩,
 ⟨3, .mv (.t 10), none, false⟩])
 (.seq
 (.seq
 (.reg false [⟨11, .mv (.t 3), none, false⟩,
 ⟨12, .ar .lss false (.t 11) (.k (.sc (.int .i64 3))), none, false⟩,
 ⟨13, .mv (.t 12), none, false⟩,
 ⟨14, .mv (.t 3), (some (13, false)), false⟩,
 ⟨15, .ar .gtr false (.t 14) (.k (.sc (.int .i64 24))), (some (13, false)), false⟩,
 ⟨16, .pk (.t 13) (.k (.sc (.bool true))) (.t 15), none, false⟩,
 ⟨17, .mv (.t 16), none, false⟩,
 ⟨18, .mv (.t 0), (some (17, false)), false⟩,
 ⟨19, .ca (.k (.cl 177 [])) [(.t 18)], (some (17, false)), false⟩,
 ⟨20, .nt (.t 19), (some (17, false)), false⟩,
 ⟨21, .pk (.t 17) (.k (.sc (.bool true))) (.t 20), none, false⟩])
 (.ite (.t 21)
 (.seq
 (.reg false [⟨2, .mv (.k (.sc (.bool false))), none, false⟩])
 .ret)
 .skip))
 (.seq
 (.seq
 (.reg false [⟨22, .mv (.t 0), none, false⟩,
 ⟨23, .ln false (.t 22), none, false⟩,
 ⟨24, .mv (.k (.sc (.int .i64 0))), none, false⟩])
 (.cln [0] [2]
 (.block 0
 (.loop [0, 3, 23, 24] b176_1))))
 (.seq
 (.reg false [⟨90, .mv (.t 0), none, false⟩,
 ⟨91, .ca (.k (.cl 108 [])) [(.t 90)], none, false⟩,
 ⟨92, .ar .gtr false (.t 91) (.k (.sc (.int .i64 0))), none, false⟩,
 ⟨2, .mv (.t 92), none, false⟩])
 .ret)))))⟩
attribute [simp] i176
set_option maxRecDepth 1000000 in
theorem c176 : cFn Try.prog 176 [[], [0, 3, 23, 24], [0, 3, 4, 5, 6, 8, 23, 24], [0, 3, 23, 24], [2], [0], [2]] = some i176 := by kernel_rfl
theorem e176 : enterOk Try.prog 176 = true := by kernel_rfl
def w177_1 : IC :=
(.seq
 (.reg false [⟨8, .ar .lss false (.t 7) (.t 6), none, false⟩])
 (.seq
 (.ite (.t 8)
 .skip
 (.exit 0))
 (.seq
 (.block 1
 (.seq
 (.reg false [⟨9, .ia 2 (.t 5) (.t 7), none, false⟩,
 ⟨10, .ld 2 true (.t 9), none, false⟩,
 ⟨4, .al [(.sc (.int .i64 0)), (.sc (.int .i64 0))], none, false⟩,
 ⟨1, .so 2 (.t 4) (.t 10), none, true⟩])
 (.seq
 (.reg false [⟨11, .ld 2 true (.t 4), none, false⟩,
 ⟨12, .ca (.k (.cl 227 [])) [(.t 11)], none, false⟩,
 ⟨13, .nt (.t 12), none, false⟩])
 (.ite (.t 13)
 (.seq
 (.reg false [⟨2, .mv (.k (.sc (.bool false))), none, false⟩])
 .ret)
 .skip))))
 (.reg false [⟨14, .ar .add false (.t 7) (.k (.sc (.int .i64 1))), none, false⟩,
 ⟨7, .mv (.t 14), none, false⟩]))))
def b177_1 : IC := w177_1
theorem u177_1 (call : CallF) (st : St) : evC call b177_1 st = evC call w177_1 st := rfl
attribute [simp] u177_1 w177_1
def i177 : Ev.Fn := ⟨1, 15, [.tmp 2],
 (.seq
 (.reg false [⟨2, .mv (.k (.sc (.bool false))), none, false⟩])
 (.seq
 (.seq
 (.reg false [⟨5, .mv (.t 0), none, false⟩,
 ⟨6, .ln false (.t 5), none, false⟩,
 ⟨7, .mv (.k (.sc (.int .i64 0))), none, false⟩])
 (.cln [] [2]
 (.block 0
 (.loop [5, 6, 7] b177_1))))
 (.seq
 (.reg false [⟨2, .mv (.k (.sc (.bool true))), none, false⟩])
 .ret)))⟩
attribute [simp] i177
set_option maxRecDepth 1000000 in
theorem c177 : cFn Try.prog 177 [[], [5, 6, 7], [], [2]] = some i177 := by kernel_rfl
theorem e177 : enterOk Try.prog 177 = true := by kernel_rfl
def w178_1 : IC :=
(.seq
 (.seq
 (.reg false [⟨8, .mv (.t 3), none, false⟩,
 ⟨9, .mv (.t 4), none, false⟩,
 ⟨10, .ar .lss false (.t 8) (.t 9), none, false⟩])
 (.ite (.t 10)
 .skip
 (.exit 0)))
 (.block 1
 (.seq
 (.reg false [⟨11, .mv (.t 3), none, false⟩,
 ⟨12, .mv (.t 4), none, false⟩,
 ⟨13, .ar .add false (.t 11) (.t 12), none, false⟩,
 ⟨14, .ar .add false (.t 13) (.k (.sc (.int .i64 1))), none, false⟩,
 ⟨15, .ar .quo false (.t 14) (.k (.sc (.int .i64 2))), none, false⟩,
 ⟨5, .mv (.t 15), none, false⟩])
 (.seq
 (.reg false [⟨16, .mv (.t 5), none, false⟩,
 ⟨17, .mv (.t 0), none, false⟩,
 ⟨18, .mv (.t 5), none, false⟩,
 ⟨19, .ar .quo false (.t 17) (.t 18), none, false⟩,
 ⟨20, .ar .leq false (.t 16) (.t 19), none, false⟩])
 (.ite (.t 20)
 (.reg false [⟨21, .mv (.t 5), none, false⟩,
 ⟨3, .mv (.t 21), none, false⟩])
 (.reg false [⟨22, .mv (.t 5), none, false⟩,
 ⟨23, .ar .sub false (.t 22) (.k (.sc (.int .i64 1))), none, false⟩,
 ⟨4, .mv (.t 23), none, false⟩]))))))
def b178_1 : IC := w178_1
theorem u178_1 (call : CallF) (st : St) : evC call b178_1 st = evC call w178_1 st := rfl
attribute [simp] u178_1 w178_1
def i178 : Ev.Fn := ⟨1, 25, [.tmp 2],
 (.seq
 (.reg false [⟨2, .mv (.k (.sc (.int .i64 0))), none, false⟩])
 (.seq
 (.seq
 (.reg false [⟨6, .mv (.t 0), none, false⟩,
 ⟨7, .ar .lss false (.t 6) (.k (.sc (.int .i64 1))), none, false⟩])
 (.ite (.t 7)
 (.seq
 (.reg false [⟨2, .mv (.k (.sc (.int .i64 0))), none, false⟩])
 .ret)
 .skip))
 (.seq
 (.reg false [⟨3, .mv (.k (.sc (.int .i64 1))), none, false⟩,
 ⟨4, .mv (.k (.sc (.int .i64 3037000499))), none, false⟩])
 (.seq
 (.cln [3] [2]
 (.block 0
 (.loop [0, 3, 4] b178_1)))
 (.seq
 (.reg false [⟨24, .mv (.t 3), none, false⟩,
 ⟨2, .mv (.t 24), none, false⟩])
 .ret)))))⟩
attribute [simp] i178
set_option maxRecDepth 1000000 in
theorem c178 : cFn Try.prog 178 [[], [0, 3, 4], [3], [2]] = some i178 := by kernel_rfl
theorem e178 : enterOk Try.prog 178 = true := by kernel_rfl
def i179 : Ev.Fn := ⟨2, 28, [.tmp 4],
 (.seq
 (.reg false [⟨2, .bx (.t 0), none, false⟩,
 ⟨3, .bx (.t 1), none, false⟩,
 ⟨4, .mv (.k (.sc (.int .i64 0))), none, false⟩])
 (.seq
 (.reg false [⟨5, .fa 0 (.t 2), none, false⟩,
 ⟨6, .ld 1 false (.t 5), none, false⟩,
 ⟨7, .fa 0 (.t 3), none, false⟩,
 ⟨8, .ld 1 false (.t 7), none, false⟩,
 ⟨9, .ar .sub false (.t 6) (.t 8), none, false⟩,
 ⟨10, .fa 0 (.t 2), none, false⟩,
 ⟨11, .ld 1 false (.t 10), none, false⟩,
 ⟨12, .fa 0 (.t 3), none, false⟩,
 ⟨13, .ld 1 false (.t 12), none, false⟩,
 ⟨14, .ar .sub false (.t 11) (.t 13), none, false⟩,
 ⟨15, .ar .mul false (.t 9) (.t 14), none, false⟩,
 ⟨16, .fa 1 (.t 2), none, false⟩,
 ⟨17, .ld 1 false (.t 16), none, false⟩,
 ⟨18, .fa 1 (.t 3), none, false⟩,
 ⟨19, .ld 1 false (.t 18), none, false⟩,
 ⟨20, .ar .sub false (.t 17) (.t 19), none, false⟩,
 ⟨21, .fa 1 (.t 2), none, false⟩,
 ⟨22, .ld 1 false (.t 21), none, false⟩,
 ⟨23, .fa 1 (.t 3), none, false⟩,
 ⟨24, .ld 1 false (.t 23), none, false⟩,
 ⟨25, .ar .sub false (.t 22) (.t 24), none, false⟩,
 ⟨26, .ar .mul false (.t 20) (.t 25), none, false⟩,
 ⟨27, .ar .add false (.t 15) (.t 26), none, false⟩,
 ⟨4, .mv (.t 27), none, false⟩])
 .ret))⟩
attribute [simp] i179
set_option maxRecDepth 1000000 in
theorem c179 : cFn Try.prog 179 [[]] = some i179 := by kernel_rfl
theorem e179 : enterOk Try.prog 179 = true := by kernel_rfl
def i180 : Ev.Fn := ⟨2, 15, [.tmp 4],
 (.seq
 (.reg false [⟨2, .bx (.t 0), none, false⟩,
 ⟨3, .bx (.t 1), none, false⟩,
 ⟨4, .mv (.k (.sc (.bool false))), none, false⟩])
 (.seq
 (.seq
 (.reg false [⟨5, .fa 0 (.t 2), none, false⟩,
 ⟨6, .ld 1 false (.t 5), none, false⟩,
 ⟨7, .fa 0 (.t 3), none, false⟩,
 ⟨8, .ld 1 false (.t 7), none, false⟩,
 ⟨9, .ar .neq false (.t 6) (.t 8), none, false⟩])
 (.ite (.t 9)
 (.seq
 (.reg false [⟨4, .mv (.k (.sc (.bool false))), none, false⟩])
 .ret)
 .skip))
 (.seq
 (.seq
 (.reg false [⟨10, .fa 1 (.t 2), none, false⟩,
 ⟨11, .ld 1 false (.t 10), none, false⟩,
 ⟨12, .fa 1 (.t 3), none, false⟩,
 ⟨13, .ld 1 false (.t 12), none, false⟩,
 ⟨14, .ar .neq false (.t 11) (.t 13), none, false⟩])
 (.ite (.t 14)
 (.seq
 (.reg false [⟨4, .mv (.k (.sc (.bool false))), none, false⟩])
 .ret)
 .skip))
 (.seq
 (.reg false [⟨4, .mv (.k (.sc (.bool true))), none, false⟩])
 .ret))))⟩
attribute [simp] i180
set_option maxRecDepth 1000000 in
theorem c180 : cFn Try.prog 180 [[]] = some i180 := by kernel_rfl
theorem e180 : enterOk Try.prog 180 = true := by kernel_rfl
def i181 : Ev.Fn := ⟨2, 16, [.tmp 4],
 (.seq
 (.reg false [⟨2, .bx (.t 0), none, false⟩,
 ⟨3, .bx (.t 1), none, false⟩,
 ⟨4, .mv (.k (.sc (.bool false))), none, false⟩])
 (.seq
 (.seq
 (.reg false [⟨5, .fa 0 (.t 2), none, false⟩,
 ⟨6, .ld 1 false (.t 5), none, false⟩,
 ⟨7, .fa 0 (.t 3), none, false⟩,
 ⟨8, .ld 1 false (.t 7), none, false⟩,
 ⟨9, .ar .neq false (.t 6) (.t 8), none, false⟩])
 (.ite (.t 9)
 (.seq
 (.reg false [⟨4, .mv (.k (.sc (.bool false))), none, false⟩])
 .ret)
 .skip))
 (.seq
 (.seq
 (.reg false [⟨10, .fa 1 (.t 2), none, false⟩,
 ⟨11, .ld 1 false (.t 10), none, false⟩,
 ⟨12, .fa 1 (.t 3), none, false⟩,
 ⟨13, .ld 1 false (.t 12), none, false⟩,
 ⟨14, .ca (.k (.cl 27 [])) [(.t 11), (.t 13)], none, false⟩,
 ⟨15, .nt (.t 14), none, false⟩])
 (.ite (.t 15)
 (.seq
 (.reg false [⟨4, .mv (.k (.sc (.bool false))), none, false⟩])
 .ret)
 .skip))
 (.seq
 (.reg false [⟨4, .mv (.k (.sc (.bool true))), none, false⟩])
 .ret))))⟩
attribute [simp] i181
set_option maxRecDepth 1000000 in
theorem c181 : cFn Try.prog 181 [[]] = some i181 := by kernel_rfl
theorem e181 : enterOk Try.prog 181 = true := by kernel_rfl
def i183 : Ev.Fn := ⟨3, 16, [.tmp 6],
 (.seq
 (.reg false [⟨3, .bx (.t 0), none, false⟩,
 ⟨4, .bx (.t 1), none, false⟩,
 ⟨5, .bx (.t 2), none, false⟩,
 ⟨6, .mv (.k (.sc (.int .i64 0))), none, false⟩])
 (.seq
 (.reg false [⟨8, .ld 2 true (.t 3), none, false⟩,
 ⟨9, .ld 2 true (.t 4), none, false⟩,
 ⟨10, .ld 2 true (.t 5), none, false⟩,
 ⟨11, .ca (.k (.cl 228 [])) [(.t 8), (.t 9), (.t 10)], none, false⟩,
 ⟨7, .mv (.t 11), none, false⟩])
 (.seq
 (.seq
 (.reg false [⟨12, .mv (.t 7), none, false⟩,
 ⟨13, .ar .gtr false (.t 12) (.k (.sc (.int .i64 0))), none, false⟩])
 (.ite (.t 13)
 (.seq
 (.reg false [⟨6, .mv (.k (.sc (.int .i64 1))), none, false⟩])
 .ret)
 .skip))
 (.seq
 (.seq
 (.reg false [⟨14, .mv (.t 7), none, false⟩,
 ⟨15, .ar .lss false (.t 14) (.k (.sc (.int .i64 0))), none, false⟩])
 (.ite (.t 15)
 (.seq
 (.reg false [⟨6, .mv (.k (.sc (.int .i64 (-1)))), none, false⟩])
 .ret)
 .skip))
 (.seq
 (.reg false [⟨6, .mv (.k (.sc (.int .i64 0))), none, false⟩])
 .ret)))))⟩
attribute [simp] i183
set_option maxRecDepth 1000000 in
theorem c183 : cFn Try.prog 183 [[]] = some i183 := by kernel_rfl
theorem e183 : enterOk Try.prog 183 = true := by kernel_rfl
def i185 : Ev.Fn := ⟨3, 37, [.tmp 6],
 (.seq
 (.reg false [⟨3, .bx (.t 0), none, false⟩,
 ⟨4, .bx (.t 1), none, false⟩,
 ⟨5, .bx (.t 2), none, false⟩,
 ⟨6, .mv (.k (.sc (.int .i64 0))), none, false⟩])
 (.seq
 (.reg false [⟨8, .fa 0 (.t 4), none, false⟩,
 ⟨9, .ld 1 false (.t 8), none, false⟩,
 ⟨10, .fa 0 (.t 3), none, false⟩,
 ⟨11, .ld 1 false (.t 10), none, false⟩,
 ⟨12, .ar .sub false (.t 9) (.t 11), none, false⟩,
 ⟨13, .fa 1 (.t 5), none, false⟩,
 ⟨14, .ld 1 false (.t 13), none, false⟩,
 ⟨15, .fa 1 (.t 3), none, false⟩,
 ⟨16, .ld 1 false (.t 15), none, false⟩,
 ⟨17, .ar .sub false (.t 14) (.t 16), none, false⟩,
 ⟨18, .ar .mul false (.t 12) (.t 17), none, false⟩,
 ⟨19, .fa 1 (.t 4), none, false⟩,
 ⟨20, .ld 1 false (.t 19), none, false⟩,
 ⟨21, .fa 1 (.t 3), none, false⟩,
 ⟨22, .ld 1 false (.t 21), none, false⟩,
 ⟨23, .ar .sub false (.t 20) (.t 22), none, false⟩,
 ⟨24, .fa 0 (.t 5), none, false⟩,
 ⟨25, .ld 1 false (.t 24), none, false⟩,
 ⟨26, .fa 0 (.t 3), none, false⟩,
 ⟨27, .ld 1 false (.t 26), none, false⟩,
 ⟨28, .ar .sub false (.t 25) (.t 27), none, false⟩,
 ⟨29, .ar .mul false (.t 23) (.t 28), none, false⟩,
 ⟨30, .ar .sub false (.t 18) (.t 29), none, false⟩,
 ⟨7, .mv (.t 30), none, false⟩])
 (.seq
 (.block 0
 (.seq
 (.reg false [⟨32, .mv (.t 7), none, false⟩,
 ⟨33, .ar .gtr false (.t 32) (.k (.sc (.int .i64 0))), none, false⟩,
 ⟨31, .mv (.t 33), none, false⟩])
 (.ite (.t 31)
 (.seq
 (.reg false [⟨6, .mv (.k (.sc (.int .i64 1))), none, false⟩])
 .ret)
 (.seq
 (.reg false [⟨35, .mv (.t 7), none, false⟩,
 ⟨36, .ar .lss false (.t 35) (.k (.sc (.int .i64 0))), none, false⟩,
 ⟨34, .mv (.t 36), none, false⟩])
 (.ite (.t 34)
 (.seq
 (.reg false [⟨6, .mv (.k (.sc (.int .i64 (-1)))), none, false⟩])
 .ret)
 .skip)))))
 (.seq
 (.reg false [⟨6, .mv (.k (.sc (.int .i64 0))), none, false⟩])
 .ret))))⟩
attribute [simp] i185
set_option maxRecDepth 1000000 in
theorem c185 : cFn Try.prog 185 [[]] = some i185 := by kernel_rfl
theorem e185 : enterOk Try.prog 185 = true := by kernel_rfl
def w190_1 : IC :=
(.seq
 (.seq
 (.reg false [⟨4, .mv (.t 3), none, false⟩,
 ⟨5, .mv (.t 0), none, false⟩,
 ⟨6, .ln false (.t 5), none, false⟩,
 ⟨7, .ar .lss false (.t 4) (.t 6), none, false⟩])
 (.ite (.t 7)
 .skip
 (.exit 0)))
 (.seq
 (.block 1
 (.seq
 (.reg false [⟨10, .mv (.t 0), none, false⟩,
 ⟨11, .mv (.t 3), none, false⟩,
 ⟨12, .ia 3 (.t 10) (.t 11), none, false⟩,
 ⟨13, .ca (.k (.cl 197 [])) [(.t 12)], none, false⟩,
 ⟨14, .nt (.t 13), none, false⟩])
 (.ite (.t 14)
 (.seq
 (.reg false [⟨2, .mv (.k (.sc (.bool false))), none, false⟩])
 .ret)
 .skip)))
 (.reg false [⟨8, .mv (.t 3), none, false⟩,
 ⟨9, .ar .add false (.t 8) (.k (.sc (.int .i64 1))), none, false⟩,
 ⟨3, .mv (.t 9), none, false⟩])))
def b190_1 : IC := w190_1
theorem u190_1 (call : CallF) (st : St) : evC call b190_1 st = evC call w190_1 st := rfl
attribute [simp] u190_1 w190_1
def i190 : Ev.Fn := ⟨1, 15, [.tmp 2],
 (.seq
 (.reg false [⟨2, .mv (.k (.sc (.bool false))), none, false⟩])
 (.seq
 (.seq
 (.reg false [⟨3, .mv (.k (.sc (.int .i64 0))), none, false⟩])
 (.cln [] [2]
 (.block 0
 (.loop [0, 3] b190_1))))
 (.seq
 (.reg false [⟨2, .mv (.k (.sc (.bool true))), none, false⟩])
 .ret)))⟩
attribute [simp] i190
set_option maxRecDepth 1000000 in
theorem c190 : cFn Try.prog 190 [[], [0, 3], [], [2]] = some i190 := by kernel_rfl
theorem e190 : enterOk Try.prog 190 = true := by kernel_rfl
def i191 : Ev.Fn := ⟨2, 9, [.tmp 4],
 (.seq
 (.reg false [⟨4, .mv (.k (.sc (.bool false))), none, false⟩])
 (.seq
 (.reg false [⟨5, .mv (.t 0), none, false⟩,
 ⟨6, .mv (.t 1), none, false⟩,
 ⟨7, .ca (.k (.cl 235 [])) [(.t 5), (.t 6)], none, false⟩,
 ⟨8, .ar .geq false (.t 7) (.k (.sc (.int .i64 0))), none, false⟩,
 ⟨4, .mv (.t 8), none, false⟩])
 .ret))⟩
attribute [simp] i191
set_option maxRecDepth 1000000 in
theorem c191 : cFn Try.prog 191 [[]] = some i191 := by kernel_rfl
theorem e191 : enterOk Try.prog 191 = true := by kernel_rfl
def i192 : Ev.Fn := ⟨1, 6, [.tmp 2],
 (.seq
 (.reg false [⟨1, .bx (.t 0), none, false⟩,
 ⟨2, .mv (.k (.sc (.bool false))), none, false⟩])
 (.seq
 (.reg false [⟨3, .ld 3 true (.t 1), none, false⟩,
 ⟨4, .ca (.k (.cl 193 [])) [(.t 3)], none, false⟩,
 ⟨5, .nt (.t 4), none, false⟩,
 ⟨2, .mv (.t 5), none, false⟩])
 .ret))⟩
attribute [simp] i192
set_option maxRecDepth 1000000 in
theorem c192 : cFn Try.prog 192 [[]] = some i192 := by kernel_rfl
theorem e192 : enterOk Try.prog 192 = true := by kernel_rfl
def i193 : Ev.Fn := ⟨1, 29, [.tmp 2],
 (.seq
 (.reg false [⟨1, .bx (.t 0), none, false⟩,
 ⟨2, .mv (.k (.sc (.bool false))), none, false⟩])
 (.seq
 (.reg false [⟨6, .fa 0 (.t 1), none, false⟩,
 ⟨7, .ld 1 false (.t 6), none, false⟩,
 ⟨8, .ca (.k (.cl 236 [])) [(.t 7)], none, false⟩,
 ⟨5, .mv (.t 8), none, false⟩,
 ⟨9, .xt (.t 5) 0, none, false⟩,
 ⟨10, .xt (.t 5) 1, none, false⟩,
 ⟨3, .mv (.t 9), none, false⟩,
 ⟨4, .mv (.t 10), none, false⟩])
 (.seq
 (.reg false [⟨11, .mv (.t 4), none, false⟩,
 ⟨12, .mv (.t 11), none, false⟩,
 ⟨13, .fa 1 (.t 1), (some (12, true)), false⟩,
 ⟨14, .ld 1 false (.t 13), (some (12, true)), false⟩,
 ⟨15, .ca (.k (.cl 105 [])) [(.t 14), (.k (.sc (.int .i64 0))), (.k (.sc (.int .i64 100)))], (some (12, true)), false⟩,
 ⟨16, .pk (.t 12) (.t 15) (.k (.sc (.bool false))), none, false⟩,
 ⟨17, .mv (.t 16), none, false⟩,
 ⟨18, .fa 1 (.t 1), (some (17, true)), false⟩,
 ⟨19, .ld 1 false (.t 18), (some (17, true)), false⟩,
 ⟨20, .mv (.t 3), (some (17, true)), false⟩,
 ⟨21, .ar .sub false (.t 19) (.t 20), (some (17, true)), false⟩,
 ⟨22, .ca (.k (.cl 105 [])) [(.t 21), (.k (.sc (.int .i64 (-15)))), (.k (.sc (.int .i64 15)))], (some (17, true)), false⟩,
 ⟨23, .pk (.t 17) (.t 22) (.k (.sc (.bool false))), none, false⟩,
 ⟨24, .mv (.t 23), none, false⟩,
 ⟨25, .fa 2 (.t 1), (some (24, true)), false⟩,
 ⟨26, .ld 1 false (.t 25), (some (24, true)), false⟩,
 ⟨27, .ca (.k (.cl 105 [])) [(.t 26), (.k (.sc (.int .i64 0))), (.k (.sc (.int .i64 179)))], (some (24, true)), false⟩,
 ⟨28, .pk (.t 24) (.t 27) (.k (.sc (.bool false))), none, false⟩,
 ⟨2, .mv (.t 28), none, false⟩])
 .ret)))⟩
attribute [simp] i193
set_option maxRecDepth 1000000 in
theorem c193 : cFn Try.prog 193 [[]] = some i193 := by kernel_rfl
theorem e193 : enterOk Try.prog 193 = true := by kernel_rfl
def i197 : Ev.Fn := ⟨1, 42, [.tmp 2],
 (.seq
 (.reg false [⟨2, .mv (.k (.sc (.bool false))), none, false⟩])
 (.seq
 (.reg false [⟨5, .mv (.t 0), none, false⟩,
 ⟨6, .nc (.t 5), none, false⟩,
 ⟨7, .fa 0 (.t 6), none, false⟩,
 ⟨8, .ld 1 false (.t 7), none, false⟩,
 ⟨9, .ca (.k (.cl 237 [])) [(.t 8)], none, false⟩,
 ⟨3, .mv (.t 9), none, false⟩])
 (.seq
 (.seq
 (.reg false [⟨10, .mv (.t 3), none, false⟩,
 ⟨11, .ar .lss false (.t 10) (.k (.sc (.int .i64 0))), none, false⟩,
 ⟨12, .mv (.t 11), none, false⟩,
 ⟨13, .mv (.t 0), (some (12, false)), false⟩,
 ⟨14, .nc (.t 13), (some (12, false)), false⟩,
 ⟨15, .fa 1 (.t 14), (some (12, false)), false⟩,
 ⟨16, .ld 1 false (.t 15), (some (12, false)), false⟩,
 ⟨17, .ca (.k (.cl 97 [])) [(.t 16), (.k (.sc (.int .i64 0))), (.k (.sc (.int .i64 100)))], (some (12, false)), false⟩,
 ⟨18, .nt (.t 17), (some (12, false)), false⟩,
 ⟨19, .pk (.t 12) (.k (.sc (.bool true))) (.t 18), none, false⟩])
 (.ite (.t 19)
 (.seq
 (.reg false [⟨2, .mv (.k (.sc (.bool false))), none, false⟩])
 .ret)
 .skip))
 (.seq
 (.reg false [⟨20, .ca (.k (.cl 238 [])) [], none, false⟩,
 ⟨21, .mv (.t 3), none, false⟩,
 ⟨22, .ia 1 (.t 20) (.t 21), none, false⟩,
 ⟨23, .ld 1 false (.t 22), none, false⟩,
 ⟨24, .ia 1 (.t 23) (.k (.sc (.int .i64 0))), none, false⟩,
 ⟨25, .ld 1 false (.t 24), none, false⟩,
 ⟨4, .mv (.t 25), none, false⟩])
 (.seq
 (.reg false [⟨26, .mv (.t 0), none, false⟩,
 ⟨27, .nc (.t 26), none, false⟩,
 ⟨28, .fa 1 (.t 27), none, false⟩,
 ⟨29, .ld 1 false (.t 28), none, false⟩,
 ⟨30, .mv (.t 4), none, false⟩,
 ⟨31, .ar .sub false (.t 30) (.k (.sc (.int .i64 15))), none, false⟩,
 ⟨32, .mv (.t 4), none, false⟩,
 ⟨33, .ar .add false (.t 32) (.k (.sc (.int .i64 15))), none, false⟩,
 ⟨34, .ca (.k (.cl 97 [])) [(.t 29), (.t 31), (.t 33)], none, false⟩,
 ⟨35, .mv (.t 34), none, false⟩,
 ⟨36, .mv (.t 0), (some (35, true)), false⟩,
 ⟨37, .nc (.t 36), (some (35, true)), false⟩,
 ⟨38, .fa 2 (.t 37), (some (35, true)), false⟩,
 ⟨39, .ld 1 false (.t 38), (some (35, true)), false⟩,
 ⟨40, .ca (.k (.cl 239 [])) [(.t 39)], (some (35, true)), false⟩,
 ⟨41, .pk (.t 35) (.t 40) (.k (.sc (.bool false))), none, false⟩,
 ⟨2, .mv (.t 41), none, false⟩])
 .ret)))))⟩
attribute [simp] i197
set_option maxRecDepth 1000000 in
theorem c197 : cFn Try.prog 197 [[]] = some i197 := by kernel_rfl
theorem e197 : enterOk Try.prog 197 = true := by kernel_rfl
def i219 : Ev.Fn := ⟨1, 9, [.tmp 2],
 (.seq
 (.reg false [⟨2, .mv (.k (.sc (.bool false))), none, false⟩])
 (.seq
 (.reg false [⟨3, .mv (.t 0), none, false⟩,
 ⟨4, .ar .geq false (.t 3) (.k (.sc (.int .u8 97))), none, false⟩,
 ⟨5, .mv (.t 4), none, false⟩,
 ⟨6, .mv (.t 0), (some (5, true)), false⟩,
 ⟨7, .ar .leq false (.t 6) (.k (.sc (.int .u8 122))), (some (5, true)), false⟩,
 ⟨8, .pk (.t 5) (.t 7) (.k (.sc (.bool false))), none, false⟩,
 ⟨2, .mv (.t 8), none, false⟩])
 .ret))⟩
attribute [simp] i219
set_option maxRecDepth 1000000 in
theorem c219 : cFn Try.prog 219 [[]] = some i219 := by kernel_rfl
theorem e219 : enterOk Try.prog 219 = true := by kernel_rfl
def i220 : Ev.Fn := ⟨1, 9, [.tmp 2],
 (.seq
 (.reg false [⟨2, .mv (.k (.sc (.bool false))), none, false⟩])
 (.seq
 (.reg false [⟨3, .mv (.t 0), none, false⟩,
 ⟨4, .ar .geq false (.t 3) (.k (.sc (.int .u8 48))), none, false⟩,
 ⟨5, .mv (.t 4), none, false⟩,
 ⟨6, .mv (.t 0), (some (5, true)), false⟩,
 ⟨7, .ar .leq false (.t 6) (.k (.sc (.int .u8 57))), (some (5, true)), false⟩,
 ⟨8, .pk (.t 5) (.t 7) (.k (.sc (.bool false))), none, false⟩,
 ⟨2, .mv (.t 8), none, false⟩])
 .ret))⟩
attribute [simp] i220
set_option maxRecDepth 1000000 in
theorem c220 : cFn Try.prog 220 [[]] = some i220 := by kernel_rfl
theorem e220 : enterOk Try.prog 220 = true := by kernel_rfl
def i221 : Ev.Fn := ⟨1, 11, [.tmp 2],
 (.seq
 (.reg false [⟨1, .bx (.t 0), none, false⟩,
 ⟨2, .mv (.k (.sc (.bool false))), none, false⟩])
 (.seq
 (.reg false [⟨3, .fa 0 (.t 1), none, false⟩,
 ⟨4, .ld 1 false (.t 3), none, false⟩,
 ⟨5, .ca (.k (.cl 97 [])) [(.t 4), (.k (.sc (.int .i64 0))), (.k (.sc (.int .i64 20000)))], none, false⟩,
 ⟨6, .mv (.t 5), none, false⟩,
 ⟨7, .fa 1 (.t 1), (some (6, true)), false⟩,
 ⟨8, .ld 1 false (.t 7), (some (6, true)), false⟩,
 ⟨9, .ca (.k (.cl 97 [])) [(.t 8), (.k (.sc (.int .i64 0))), (.k (.sc (.int .i64 20000)))], (some (6, true)), false⟩,
 ⟨10, .pk (.t 6) (.t 9) (.k (.sc (.bool false))), none, false⟩,
 ⟨2, .mv (.t 10), none, false⟩])
 .ret))⟩
attribute [simp] i221
set_option maxRecDepth 1000000 in
theorem c221 : cFn Try.prog 221 [[]] = some i221 := by kernel_rfl
theorem e221 : enterOk Try.prog 221 = true := by kernel_rfl
def i222 : Ev.Fn := ⟨3, 42, [.tmp 6],
 (.seq
 (.reg false [⟨3, .bx (.t 0), none, false⟩,
 ⟨4, .bx (.t 1), none, false⟩,
 ⟨5, .bx (.t 2), none, false⟩,
 ⟨6, .mv (.k (.sc (.bool false))), none, false⟩])
 (.seq
 (.reg true [⟨7, .ld 2 true (.t 3), none, false⟩,
 ⟨8, .ld 2 true (.t 4), none, false⟩,
 ⟨9, .ld 2 true (.t 5), none, false⟩,
 ⟨10, .ca (.k (.cl 183 [])) [(.t 7), (.t 8), (.t 9)], none, false⟩,
 ⟨11, .ar .eql false (.t 10) (.k (.sc (.int .i64 0))), none, false⟩,
 ⟨12, .mv (.t 11), none, false⟩,
 ⟨13, .fa 0 (.t 5), (some (12, true)), false⟩,
 ⟨14, .ld 1 false (.t 13), (some (12, true)), false⟩,
 ⟨15, .fa 0 (.t 3), (some (12, true)), false⟩,
 ⟨16, .ld 1 false (.t 15), (some (12, true)), false⟩,
 ⟨17, .fa 0 (.t 4), (some (12, true)), false⟩,
 ⟨18, .ld 1 false (.t 17), (some (12, true)), false⟩,
 ⟨19, .ca (.k (.cl 160 [])) [(.t 16), (.t 18)], (some (12, true)), false⟩,
 ⟨20, .fa 0 (.t 3), (some (12, true)), false⟩,
 ⟨21, .ld 1 false (.t 20), (some (12, true)), false⟩,
 ⟨22, .fa 0 (.t 4), (some (12, true)), false⟩,
 ⟨23, .ld 1 false (.t 22), (some (12, true)), false⟩,
 ⟨24, .ca (.k (.cl 99 [])) [(.t 21), (.t 23)], (some (12, true)), false⟩,
 ⟨25, .ca (.k (.cl 97 [])) [(.t 14), (.t 19), (.t 24)], (some (12, true)), false⟩,
 ⟨26, .pk (.t 12) (.t 25) (.k (.sc (.bool false))), none, false⟩,
 ⟨27, .mv (.t 26), none, false⟩,
 ⟨28, .fa 1 (.t 5), (some (27, true)), false⟩,
 ⟨29, .ld 1 false (.t 28), (some (27, true)), false⟩,
 ⟨30, .fa 1 (.t 3), (some (27, true)), false⟩,
 ⟨31, .ld 1 false (.t 30), (some (27, true)), false⟩,
 ⟨32, .fa 1 (.t 4), (some (27, true)), false⟩,
 ⟨33, .ld 1 false (.t 32), (some (27, true)), false⟩,
 ⟨34, .ca (.k (.cl 160 [])) [(.t 31), (.t 33)], (some (27, true)), false⟩,
 ⟨35, .fa 1 (.t 3), (some (27, true)), false⟩,
 ⟨36, .ld 1 false (.t 35), (some (27, true)), false⟩,
 ⟨37, .fa 1 (.t 4), (some (27, true)), false⟩,
 ⟨38, .ld 1 false (.t 37), (some (27, true)), false⟩,
 ⟨39, .ca (.k (.cl 99 [])) [(.t 36), (.t 38)], (some (27, true)), false⟩,
 ⟨40, .ca (.k (.cl 97 [])) [(.t 29), (.t 34), (.t 39)], (some (27, true)), false⟩,
 ⟨41, .pk (.t 27) (.t 40) (.k (.sc (.bool false))), none, false⟩,
 ⟨6, .mv (.t 41), none, false⟩])
 .ret))⟩
attribute [simp] i222
set_option maxRecDepth 1000000 in
theorem c222 : cFn Try.prog 222 [[]] = some i222 := by kernel_rfl
theorem e222 : enterOk Try.prog 222 = true := by kernel_rfl
def i223 : Ev.Fn := ⟨4, 38, [.tmp 8],
 (.seq
 (.reg false [⟨4, .bx (.t 0), none, false⟩,
 ⟨5, .bx (.t 1), none, false⟩,
 ⟨6, .bx (.t 2), none, false⟩,
 ⟨7, .bx (.t 3), none, false⟩,
 ⟨8, .mv (.k (.sc (.bool false))), none, false⟩])
 (.seq
 (.reg false [⟨9, .ld 2 true (.t 4), none, false⟩,
 ⟨10, .ld 2 true (.t 5), none, false⟩,
 ⟨11, .ld 2 true (.t 6), none, false⟩,
 ⟨12, .ld 2 true (.t 7), none, false⟩,
 ⟨13, .ca (.k (.cl 248 [])) [(.t 9), (.t 10), (.t 11), (.t 12)], none, false⟩,
 ⟨14, .mv (.t 13), none, false⟩,
 ⟨15, .ld 2 true (.t 4), (some (14, false)), false⟩,
 ⟨16, .ld 2 true (.t 5), (some (14, false)), false⟩,
 ⟨17, .ld 2 true (.t 6), (some (14, false)), false⟩,
 ⟨18, .ca (.k (.cl 222 [])) [(.t 15), (.t 16), (.t 17)], (some (14, false)), false⟩,
 ⟨19, .pk (.t 14) (.k (.sc (.bool true))) (.t 18), none, false⟩,
 ⟨20, .mv (.t 19), none, false⟩,
 ⟨21, .ld 2 true (.t 4), (some (20, false)), false⟩,
 ⟨22, .ld 2 true (.t 5), (some (20, false)), false⟩,
 ⟨23, .ld 2 true (.t 7), (some (20, false)), false⟩,
 ⟨24, .ca (.k (.cl 222 [])) [(.t 21), (.t 22), (.t 23)], (some (20, false)), false⟩,
 ⟨25, .pk (.t 20) (.k (.sc (.bool true))) (.t 24), none, false⟩,
 ⟨26, .mv (.t 25), none, false⟩,
 ⟨27, .ld 2 true (.t 6), (some (26, false)), false⟩,
 ⟨28, .ld 2 true (.t 7), (some (26, false)), false⟩,
 ⟨29, .ld 2 true (.t 4), (some (26, false)), false⟩,
 ⟨30, .ca (.k (.cl 222 [])) [(.t 27), (.t 28), (.t 29)], (some (26, false)), false⟩,
 ⟨31, .pk (.t 26) (.k (.sc (.bool true))) (.t 30), none, false⟩,
 ⟨32, .mv (.t 31), none, false⟩,
 ⟨33, .ld 2 true (.t 6), (some (32, false)), false⟩,
 ⟨34, .ld 2 true (.t 7), (some (32, false)), false⟩,
 ⟨35, .ld 2 true (.t 5), (some (32, false)), false⟩,
 ⟨36, .ca (.k (.cl 222 [])) [(.t 33), (.t 34), (.t 35)], (some (32, false)), false⟩,
 ⟨37, .pk (.t 32) (.k (.sc (.bool true))) (.t 36), none, false⟩,
 ⟨8, .mv (.t 37), none, false⟩])
 .ret))⟩
attribute [simp] i223
set_option maxRecDepth 1000000 in
theorem c223 : cFn Try.prog 223 [[]] = some i223 := by kernel_rfl
theorem e223 : enterOk Try.prog 223 = true := by kernel_rfl
def w224_1 : IC :=
(.seq
 (.reg false [⟨9, .ar .lss false (.t 8) (.t 7), none, false⟩])
 (.seq
 (.ite (.t 9)
 .skip
 (.exit 0))
 (.seq
 (.block 1
 (.seq
 (.reg false [⟨10, .mv (.t 8), none, false⟩,
 ⟨5, .mv (.t 10), none, false⟩])
 (.seq
 (.reg true [⟨11, .ld 2 true (.t 3), none, false⟩,
 ⟨12, .mv (.t 0), none, false⟩,
 ⟨13, .mv (.t 5), none, false⟩,
 ⟨14, .ia 2 (.t 12) (.t 13), none, false⟩,
 ⟨15, .ld 2 true (.t 14), none, false⟩,
 ⟨16, .eq false [1, 1] (.t 11) (.t 15), none, false⟩])
 (.ite (.t 16)
 (.seq
 (.reg false [⟨17, .mv (.t 5), none, false⟩,
 ⟨4, .mv (.t 17), none, false⟩])
 .ret)
 .skip))))
 (.reg false [⟨18, .ar .add false (.t 8) (.k (.sc (.int .i64 1))), none, false⟩,
 ⟨8, .mv (.t 18), none, false⟩]))))
def b224_1 : IC := w224_1
theorem u224_1 (call : CallF) (st : St) : evC call b224_1 st = evC call w224_1 st := rfl
attribute [simp] u224_1 w224_1
def i224 : Ev.Fn := ⟨2, 19, [.tmp 4],
 (.seq
 (.reg false [⟨3, .bx (.t 1), none, false⟩,
 ⟨4, .mv (.k (.sc (.int .i64 0))), none, false⟩])
 (.seq
 (.seq
 (.reg false [⟨6, .mv (.t 0), none, false⟩,
 ⟨7, .ln false (.t 6), none, false⟩,
 ⟨8, .mv (.k (.sc (.int .i64 0))), none, false⟩])
 (.cln [] [4]
 (.block 0
 (.loop [0, 3, 7, 8] b224_1))))
 (.seq
 (.reg false [⟨4, .mv (.k (.sc (.int .i64 (-1)))), none, false⟩])
 .ret)))⟩
attribute [simp] i224
set_option maxRecDepth 1000000 in
theorem c224 : cFn Try.prog 224 [[], [0, 3, 7, 8], [], [4]] = some i224 := by kernel_rfl
theorem e224 : enterOk Try.prog 224 = true := by kernel_rfl
def i225 : Ev.Fn := ⟨3, 42, [.tmp 6],
 (.seq
 (.reg false [⟨3, .bx (.t 0), none, false⟩,
 ⟨4, .bx (.t 1), none, false⟩,
 ⟨5, .bx (.t 2), none, false⟩,
 ⟨6, .mv (.k (.sc (.bool false))), none, false⟩])
 (.seq
 (.reg false [⟨7, .ld 2 true (.t 3), none, false⟩,
 ⟨8, .ld 2 true (.t 4), none, false⟩,
 ⟨9, .ld 2 true (.t 5), none, false⟩,
 ⟨10, .ca (.k (.cl 185 [])) [(.t 7), (.t 8), (.t 9)], none, false⟩,
 ⟨11, .ar .eql false (.t 10) (.k (.sc (.int .i64 0))), none, false⟩,
 ⟨12, .mv (.t 11), none, false⟩,
 ⟨13, .fa 0 (.t 5), (some (12, true)), false⟩,
 ⟨14, .ld 1 false (.t 13), (some (12, true)), false⟩,
 ⟨15, .fa 0 (.t 3), (some (12, true)), false⟩,
 ⟨16, .ld 1 false (.t 15), (some (12, true)), false⟩,
 ⟨17, .fa 0 (.t 4), (some (12, true)), false⟩,
 ⟨18, .ld 1 false (.t 17), (some (12, true)), false⟩,
 ⟨19, .mn (.t 16) (.t 18), (some (12, true)), false⟩,
 ⟨20, .fa 0 (.t 3), (some (12, true)), false⟩,
 ⟨21, .ld 1 false (.t 20), (some (12, true)), false⟩,
 ⟨22, .fa 0 (.t 4), (some (12, true)), false⟩,
 ⟨23, .ld 1 false (.t 22), (some (12, true)), false⟩,
 ⟨24, .mx (.t 21) (.t 23), (some (12, true)), false⟩,
 ⟨25, .ca (.k (.cl 105 [])) [(.t 14), (.t 19), (.t 24)], (some (12, true)), false⟩,
 ⟨26, .pk (.t 12) (.t 25) (.k (.sc (.bool false))), none, false⟩,
 ⟨27, .mv (.t 26), none, false⟩,
 ⟨28, .fa 1 (.t 5), (some (27, true)), false⟩,
 ⟨29, .ld 1 false (.t 28), (some (27, true)), false⟩,
 ⟨30, .fa 1 (.t 3), (some (27, true)), false⟩,
 ⟨31, .ld 1 false (.t 30), (some (27, true)), false⟩,
 ⟨32, .fa 1 (.t 4), (some (27, true)), false⟩,
 ⟨33, .ld 1 false (.t 32), (some (27, true)), false⟩,
 ⟨34, .mn (.t 31) (.t 33), (some (27, true)), false⟩,
 ⟨35, .fa 1 (.t 3), (some (27, true)), false⟩,
 ⟨36, .ld 1 false (.t 35), (some (27, true)), false⟩,
 ⟨37, .fa 1 (.t 4), (some (27, true)), false⟩,
 ⟨38, .ld 1 false (.t 37), (some (27, true)), false⟩,
 ⟨39, .mx (.t 36) (.t 38), (some (27, true)), false⟩,
 ⟨40, .ca (.k (.cl 105 [])) [(.t 29), (.t 34), (.t 39)], (some (27, true)), false⟩,
 ⟨41, .pk (.t 27) (.t 40) (.k (.sc (.bool false))), none, false⟩,
 ⟨6, .mv (.t 41), none, false⟩])
 .ret))⟩
attribute [simp] i225
set_option maxRecDepth 1000000 in
theorem c225 : cFn Try.prog 225 [[]] = some i225 := by kernel_rfl
theorem e225 : enterOk Try.prog 225 = true := by kernel_rfl
def i226 : Ev.Fn := ⟨4, 38, [.tmp 8],
 (.seq
 (.reg false [⟨4, .bx (.t 0), none, false⟩,
 ⟨5, .bx (.t 1), none, false⟩,
 ⟨6, .bx (.t 2), none, false⟩,
 ⟨7, .bx (.t 3), none, false⟩,
 ⟨8, .mv (.k (.sc (.bool false))), none, false⟩])
 (.seq
 (.reg false [⟨9, .ld 2 true (.t 4), none, false⟩,
 ⟨10, .ld 2 true (.t 5), none, false⟩,
 ⟨11, .ld 2 true (.t 6), none, false⟩,
 ⟨12, .ld 2 true (.t 7), none, false⟩,
 ⟨13, .ca (.k (.cl 249 [])) [(.t 9), (.t 10), (.t 11), (.t 12)], none, false⟩,
 ⟨14, .mv (.t 13), none, false⟩,
 ⟨15, .ld 2 true (.t 4), (some (14, false)), false⟩,
 ⟨16, .ld 2 true (.t 5), (some (14, false)), false⟩,
 ⟨17, .ld 2 true (.t 6), (some (14, false)), false⟩,
 ⟨18, .ca (.k (.cl 225 [])) [(.t 15), (.t 16), (.t 17)], (some (14, false)), false⟩,
 ⟨19, .pk (.t 14) (.k (.sc (.bool true))) (.t 18), none, false⟩,
 ⟨20, .mv (.t 19), none, false⟩,
 ⟨21, .ld 2 true (.t 4), (some (20, false)), false⟩,
 ⟨22, .ld 2 true (.t 5), (some (20, false)), false⟩,
 ⟨23, .ld 2 true (.t 7), (some (20, false)), false⟩,
 ⟨24, .ca (.k (.cl 225 [])) [(.t 21), (.t 22), (.t 23)], (some (20, false)), false⟩,
 ⟨25, .pk (.t 20) (.k (.sc (.bool true))) (.t 24), none, false⟩,
 ⟨26, .mv (.t 25), none, false⟩,
 ⟨27, .ld 2 true (.t 6), (some (26, false)), false⟩,
 ⟨28, .ld 2 true (.t 7), (some (26, false)), false⟩,
 ⟨29, .ld 2 true (.t 4), (some (26, false)), false⟩,
 ⟨30, .ca (.k (.cl 225 [])) [(.t 27), (.t 28), (.t 29)], (some (26, false)), false⟩,
 ⟨31, .pk (.t 26) (.k (.sc (.bool true))) (.t 30), none, false⟩,
 ⟨32, .mv (.t 31), none, false⟩,
 ⟨33, .ld 2 true (.t 6), (some (32, false)), false⟩,
 ⟨34, .ld 2 true (.t 7), (some (32, false)), false⟩,
 ⟨35, .ld 2 true (.t 5), (some (32, false)), false⟩,
 ⟨36, .ca (.k (.cl 225 [])) [(.t 33), (.t 34), (.t 35)], (some (32, false)), false⟩,
 ⟨37, .pk (.t 32) (.k (.sc (.bool true))) (.t 36), none, false⟩,
 ⟨8, .mv (.t 37), none, false⟩])
 .ret))⟩
attribute [simp] i226
set_option maxRecDepth 1000000 in
theorem c226 : cFn Try.prog 226 [[]] = some i226 := by kernel_rfl
theorem e226 : enterOk Try.prog 226 = true := by kernel_rfl
def i227 : Ev.Fn := ⟨1, 11, [.tmp 2],
 (.seq
 (.reg false [⟨1, .bx (.t 0), none, false⟩,
 ⟨2, .mv (.k (.sc (.bool false))), none, false⟩])
 (.seq
 (.reg false [⟨3, .fa 0 (.t 1), none, false⟩,
 ⟨4, .ld 1 false (.t 3), none, false⟩,
 ⟨5, .ca (.k (.cl 105 [])) [(.t 4), (.k (.sc (.int .i64 0))), (.k (.sc (.int .i64 20000)))], none, false⟩,
 ⟨6, .mv (.t 5), none, false⟩,
 ⟨7, .fa 1 (.t 1), (some (6, true)), false⟩,
 ⟨8, .ld 1 false (.t 7), (some (6, true)), false⟩,
 ⟨9, .ca (.k (.cl 105 [])) [(.t 8), (.k (.sc (.int .i64 0))), (.k (.sc (.int .i64 20000)))], (some (6, true)), false⟩,
 ⟨10, .pk (.t 6) (.t 9) (.k (.sc (.bool false))), none, false⟩,
 ⟨2, .mv (.t 10), none, false⟩])
 .ret))⟩
attribute [simp] i227
set_option maxRecDepth 1000000 in
theorem c227 : cFn Try.prog 227 [[]] = some i227 := by kernel_rfl
theorem e227 : enterOk Try.prog 227 = true := by kernel_rfl
def i228 : Ev.Fn := ⟨3, 30, [.tmp 6],
 (.seq
 (.reg false [⟨3, .bx (.t 0), none, false⟩,
 ⟨4, .bx (.t 1), none, false⟩,
 ⟨5, .bx (.t 2), none, false⟩,
 ⟨6, .mv (.k (.sc (.int .i64 0))), none, false⟩])
 (.seq
 (.reg false [⟨7, .fa 0 (.t 4), none, false⟩,
 ⟨8, .ld 1 false (.t 7), none, false⟩,
 ⟨9, .fa 0 (.t 3), none, false⟩,
 ⟨10, .ld 1 false (.t 9), none, false⟩,
 ⟨11, .ar .sub false (.t 8) (.t 10), none, false⟩,
 ⟨12, .fa 1 (.t 5), none, false⟩,
 ⟨13, .ld 1 false (.t 12), none, false⟩,
 ⟨14, .fa 1 (.t 3), none, false⟩,
 ⟨15, .ld 1 false (.t 14), none, false⟩,
 ⟨16, .ar .sub false (.t 13) (.t 15), none, false⟩,
 ⟨17, .ar .mul false (.t 11) (.t 16), none, false⟩,
 ⟨18, .fa 1 (.t 4), none, false⟩,
 ⟨19, .ld 1 false (.t 18), none, false⟩,
 ⟨20, .fa 1 (.t 3), none, false⟩,
 ⟨21, .ld 1 false (.t 20), none, false⟩,
 ⟨22, .ar .sub false (.t 19) (.t 21), none, false⟩,
 ⟨23, .fa 0 (.t 5), none, false⟩,
 ⟨24, .ld 1 false (.t 23), none, false⟩,
 ⟨25, .fa 0 (.t 3), none, false⟩,
 ⟨26, .ld 1 false (.t 25), none, false⟩,
 ⟨27, .ar .sub false (.t 24) (.t 26), none, false⟩,
 ⟨28, .ar .mul false (.t 22) (.t 27), none, false⟩,
 ⟨29, .ar .sub false (.t 17) (.t 28), none, false⟩,
 ⟨6, .mv (.t 29), none, false⟩])
 .ret))⟩
attribute [simp] i228
set_option maxRecDepth 1000000 in
theorem c228 : cFn Try.prog 228 [[]] = some i228 := by kernel_rfl
theorem e228 : enterOk Try.prog 228 = true := by kernel_rfl
def w235_1 : IC :=
(.seq
 (.reg false [⟨9, .ar .lss false (.t 8) (.t 7), none, false⟩])
 (.seq
 (.ite (.t 9)
 .skip
 (.exit 0))
 (.seq
 (.block 1
 (.seq
 (.reg false [⟨10, .mv (.t 8), none, false⟩,
 ⟨5, .mv (.t 10), none, false⟩])
 (.seq
 (.reg false [⟨11, .mv (.t 1), none, false⟩,
 ⟨12, .mv (.t 0), none, false⟩,
 ⟨13, .mv (.t 5), none, false⟩,
 ⟨14, .ia 3 (.t 12) (.t 13), none, false⟩,
 ⟨15, .ld 3 true (.t 14), none, false⟩,
 ⟨16, .ca (.t 11) [(.t 15)], none, false⟩])
 (.ite (.t 16)
 (.seq
 (.reg false [⟨17, .mv (.t 5), none, false⟩,
 ⟨4, .mv (.t 17), none, false⟩])
 .ret)
 .skip))))
 (.reg false [⟨18, .ar .add false (.t 8) (.k (.sc (.int .i64 1))), none, false⟩,
 ⟨8, .mv (.t 18), none, false⟩]))))
def b235_1 : IC := w235_1
theorem u235_1 (call : CallF) (st : St) : evC call b235_1 st = evC call w235_1 st := rfl
attribute [simp] u235_1 w235_1
def i235 : Ev.Fn := ⟨2, 19, [.tmp 4],
 (.seq
 (.reg false [⟨4, .mv (.k (.sc (.int .i64 0))), none, false⟩])
 (.seq
 (.seq
 (.reg false [⟨6, .mv (.t 0), none, false⟩,
 ⟨7, .ln false (.t 6), none, false⟩,
 ⟨8, .mv (.k (.sc (.int .i64 0))), none, false⟩])
 (.cln [] [4]
 (.block 0
 (.loop [0, 1, 7, 8] b235_1))))
 (.seq
 (.reg false [⟨4, .mv (.k (.sc (.int .i64 (-1)))), none, false⟩])
 .ret)))⟩
attribute [simp] i235
set_option maxRecDepth 1000000 in
theorem c235 : cFn Try.prog 235 [[], [0, 1, 7, 8], [], [4]] = some i235 := by kernel_rfl
theorem e235 : enterOk Try.prog 235 = true := by kernel_rfl
def i236 : Ev.Fn := ⟨1, 18, [.tmp 2, .tmp 3],
 (.seq
 (.reg false [⟨2, .mv (.k (.sc (.int .i64 0))), none, false⟩,
 ⟨3, .mv (.k (.sc (.bool false))), none, false⟩])
 (.seq
 (.reg false [⟨9, .mv (.t 0), none, false⟩,
 ⟨10, .ca (.k (.cl 251 [])) [(.t 9)], none, false⟩,
 ⟨8, .mv (.t 10), none, false⟩,
 ⟨11, .xt (.t 8) 0, none, false⟩,
 ⟨12, .xt (.t 8) 1, none, false⟩,
 ⟨13, .xt (.t 8) 2, none, false⟩,
 ⟨14, .xt (.t 8) 3, none, false⟩,
 ⟨4, .mv (.t 11), none, false⟩,
 ⟨5, .mv (.t 12), none, false⟩,
 ⟨6, .mv (.t 13), none, false⟩,
 ⟨7, .mv (.t 14), none, false⟩])
 (.seq
 (.reg false [⟨15, .mv (.t 4), none, false⟩,
 ⟨16, .mv (.t 7), none, false⟩,
 ⟨17, .ar .eql false (.t 16) (.k (.sc (.int .i64 0))), none, false⟩,
 ⟨2, .mv (.t 15), none, false⟩,
 ⟨3, .mv (.t 17), none, false⟩])
 .ret)))⟩
attribute [simp] i236
set_option maxRecDepth 1000000 in
theorem c236 : cFn Try.prog 236 [[]] = some i236 := by kernel_rfl
theorem e236 : enterOk Try.prog 236 = true := by kernel_rfl
def w237_1 : IC :=
(.seq
 (.seq
 (.reg false [⟨6, .mv (.t 4), none, false⟩,
 ⟨7, .mv (.t 3), none, false⟩,
 ⟨8, .ln false (.t 7), none, false⟩,
 ⟨9, .ar .lss false (.t 6) (.t 8), none, false⟩])
 (.ite (.t 9)
 .skip
 (.exit 0)))
 (.seq
 (.block 1
 (.seq
 (.reg false [⟨12, .mv (.t 3), none, false⟩,
 ⟨13, .mv (.t 4), none, false⟩,
 ⟨14, .ia 1 (.t 12) (.t 13), none, false⟩,
 ⟨15, .ld 1 false (.t 14), none, false⟩,
 ⟨16, .mv (.t 0), none, false⟩,
 ⟨17, .ar .eql false (.t 15) (.t 16), none, false⟩])
 (.ite (.t 17)
 (.seq
 (.reg false [⟨18, .mv (.t 4), none, false⟩,
 ⟨2, .mv (.t 18), none, false⟩])
 .ret)
 .skip)))
 (.reg false [⟨10, .mv (.t 4), none, false⟩,
 ⟨11, .ar .add false (.t 10) (.k (.sc (.int .i64 1))), none, false⟩,
 ⟨4, .mv (.t 11), none, false⟩])))
def b237_1 : IC := w237_1
theorem u237_1 (call : CallF) (st : St) : evC call b237_1 st = evC call w237_1 st := rfl
attribute [simp] u237_1 w237_1
def i237 : Ev.Fn := ⟨1, 19, [.tmp 2],
 (.seq
 (.reg false [⟨2, .mv (.k (.sc (.int .i64 0))), none, false⟩])
 (.seq
 (.reg false [⟨5, .ca (.k (.cl 252 [])) [], none, false⟩,
 ⟨3, .mv (.t 5), none, false⟩])
 (.seq
 (.seq
 (.reg false [⟨4, .mv (.k (.sc (.int .i64 0))), none, false⟩])
 (.cln [] [2]
 (.block 0
 (.loop [0, 3, 4] b237_1))))
 (.seq
 (.reg false [⟨2, .mv (.k (.sc (.int .i64 (-1)))), none, false⟩])
 .ret))))⟩
attribute [simp] i237
set_option maxRecDepth 1000000 in
theorem c237 : cFn Try.prog 237 [[], [0, 3, 4], [], [2]] = some i237 := by kernel_rfl
theorem e237 : enterOk Try.prog 237 = true := by kernel_rfl
def i238 : Ev.Fn := ⟨0, 12, [.tmp 0],
 (.seq
 (.reg false [⟨0, .mv (.k .nl), none, false⟩])
 (.seq
 (.reg false [⟨1, .bs 2 1 [(.sc (.int .i64 0))] 3 [(0, (.k (.sc (.int .i64 20)))), (1, (.k (.sc (.int .i64 40)))), (2, (.k (.sc (.int .i64 310))))], none, false⟩,
 ⟨2, .bs 2 1 [(.sc (.int .i64 0))] 3 [(0, (.k (.sc (.int .i64 35)))), (1, (.k (.sc (.int .i64 45)))), (2, (.k (.sc (.int .i64 410))))], none, false⟩,
 ⟨3, .bs 2 1 [(.sc (.int .i64 0))] 3 [(0, (.k (.sc (.int .i64 15)))), (1, (.k (.sc (.int .i64 33)))), (2, (.k (.sc (.int .i64 280))))], none, false⟩,
 ⟨4, .bs 2 1 [(.sc (.int .i64 0))] 3 [(0, (.k (.sc (.int .i64 50)))), (1, (.k (.sc (.int .i64 36)))), (2, (.k (.sc (.int .i64 240))))], none, false⟩,
 ⟨5, .bs 2 1 [(.sc (.int .i64 0))] 3 [(0, (.k (.sc (.int .i64 95)))), (1, (.k (.sc (.int .i64 85)))), (2, (.k (.sc (.int .i64 270))))], none, false⟩,
 ⟨6, .bs 2 1 [(.sc (.int .i64 0))] 3 [(0, (.k (.sc (.int .i64 5)))), (1, (.k (.sc (.int .i64 35)))), (2, (.k (.sc (.int .i64 370))))], none, false⟩,
 ⟨7, .bs 2 1 [(.sc (.int .i64 0))] 3 [(0, (.k (.sc (.int .i64 10)))), (1, (.k (.sc (.int .i64 42)))), (2, (.k (.sc (.int .i64 290))))], none, false⟩,
 ⟨8, .bs 2 1 [(.sc (.int .i64 0))] 3 [(0, (.k (.sc (.int .i64 40)))), (1, (.k (.sc (.int .i64 40)))), (2, (.k (.sc (.int .i64 330))))], none, false⟩,
 ⟨9, .bs 2 1 [(.sc (.int .i64 0))] 3 [(0, (.k (.sc (.int .i64 80)))), (1, (.k (.sc (.int .i64 60)))), (2, (.k (.sc (.int .i64 220))))], none, false⟩,
 ⟨10, .bs 2 1 [(.sc (.int .i64 0))] 3 [(0, (.k (.sc (.int .i64 70)))), (1, (.k (.sc (.int .i64 38)))), (2, (.k (.sc (.int .i64 260))))], none, false⟩,
 ⟨11, .bw 33 1 [.nl] 10 [(0, (.t 1)), (1, (.t 2)), (2, (.t 3)), (3, (.t 4)), (4, (.t 5)), (5, (.t 6)), (6, (.t 7)), (7, (.t 8)), (8, (.t 9)), (9, (.t 10))], none, false⟩,
 ⟨0, .mv (.t 11), none, false⟩])
 .ret))⟩
attribute [simp] i238
set_option maxRecDepth 1000000 in
theorem c238 : cFn Try.prog 238 [[]] = some i238 := by kernel_rfl
theorem e238 : enterOk Try.prog 238 = true := by kernel_rfl
def i239 : Ev.Fn := ⟨1, 5, [.tmp 2],
 (.seq
 (.reg false [⟨2, .mv (.k (.sc (.bool false))), none, false⟩])
 (.seq
 (.reg false [⟨3, .mv (.t 0), none, false⟩,
 ⟨4, .ca (.k (.cl 97 [])) [(.t 3), (.k (.sc (.int .i64 0))), (.k (.sc (.int .i64 179)))], none, false⟩,
 ⟨2, .mv (.t 4), none, false⟩])
 .ret))⟩
attribute [simp] i239
set_option maxRecDepth 1000000 in
theorem c239 : cFn Try.prog 239 [[]] = some i239 := by kernel_rfl
theorem e239 : enterOk Try.prog 239 = true := by kernel_rfl
def i248 : Ev.Fn := ⟨4, 31, [.tmp 8],
 (.seq
 (.reg false [⟨4, .bx (.t 0), none, false⟩,
 ⟨5, .bx (.t 1), none, false⟩,
 ⟨6, .bx (.t 2), none, false⟩,
 ⟨7, .bx (.t 3), none, false⟩,
 ⟨8, .mv (.k (.sc (.bool false))), none, false⟩])
 (.seq
 (.reg true [⟨9, .ld 2 true (.t 4), none, false⟩,
 ⟨10, .ld 2 true (.t 5), none, false⟩,
 ⟨11, .ld 2 true (.t 6), none, false⟩,
 ⟨12, .ca (.k (.cl 183 [])) [(.t 9), (.t 10), (.t 11)], none, false⟩,
 ⟨13, .ld 2 true (.t 4), none, false⟩,
 ⟨14, .ld 2 true (.t 5), none, false⟩,
 ⟨15, .ld 2 true (.t 7), none, false⟩,
 ⟨16, .ca (.k (.cl 183 [])) [(.t 13), (.t 14), (.t 15)], none, false⟩,
 ⟨17, .ar .mul false (.t 12) (.t 16), none, false⟩,
 ⟨18, .ar .lss false (.t 17) (.k (.sc (.int .i64 0))), none, false⟩,
 ⟨19, .mv (.t 18), none, false⟩,
 ⟨20, .ld 2 true (.t 6), (some (19, true)), false⟩,
 ⟨21, .ld 2 true (.t 7), (some (19, true)), false⟩,
 ⟨22, .ld 2 true (.t 4), (some (19, true)), false⟩,
 ⟨23, .ca (.k (.cl 183 [])) [(.t 20), (.t 21), (.t 22)], (some (19, true)), false⟩,
 ⟨24, .ld 2 true (.t 6), (some (19, true)), false⟩,
 ⟨25, .ld 2 true (.t 7), (some (19, true)), false⟩,
 ⟨26, .ld 2 true (.t 5), (some (19, true)), false⟩,
 ⟨27, .ca (.k (.cl 183 [])) [(.t 24), (.t 25), (.t 26)], (some (19, true)), false⟩,
 ⟨28, .ar .mul false (.t 23) (.t 27), (some (19, true)), false⟩,
 ⟨29, .ar .lss false (.t 28) (.k (.sc (.int .i64 0))), (some (19, true)), false⟩,
 ⟨30, .pk (.t 19) (.t 29) (.k (.sc (.bool false))), none, false⟩,
 ⟨8, .mv (.t 30), none, false⟩])
 .ret))⟩
attribute [simp] i248
set_option maxRecDepth 1000000 in
theorem c248 : cFn Try.prog 248 [[]] = some i248 := by kernel_rfl
theorem e248 : enterOk Try.prog 248 = true := by kernel_rfl
def i249 : Ev.Fn := ⟨4, 31, [.tmp 8],
 (.seq
 (.reg false [⟨4, .bx (.t 0), none, false⟩,
 ⟨5, .bx (.t 1), none, false⟩,
 ⟨6, .bx (.t 2), none, false⟩,
 ⟨7, .bx (.t 3), none, false⟩,
 ⟨8, .mv (.k (.sc (.bool false))), none, false⟩])
 (.seq
 (.reg true [⟨9, .ld 2 true (.t 4), none, false⟩,
 ⟨10, .ld 2 true (.t 5), none, false⟩,
 ⟨11, .ld 2 true (.t 6), none, false⟩,
 ⟨12, .ca (.k (.cl 185 [])) [(.t 9), (.t 10), (.t 11)], none, false⟩,
 ⟨13, .ld 2 true (.t 4), none, false⟩,
 ⟨14, .ld 2 true (.t 5), none, false⟩,
 ⟨15, .ld 2 true (.t 7), none, false⟩,
 ⟨16, .ca (.k (.cl 185 [])) [(.t 13), (.t 14), (.t 15)], none, false⟩,
 ⟨17, .ar .mul false (.t 12) (.t 16), none, false⟩,
 ⟨18, .ar .lss false (.t 17) (.k (.sc (.int .i64 0))), none, false⟩,
 ⟨19, .mv (.t 18), none, false⟩,
 ⟨20, .ld 2 true (.t 6), (some (19, true)), false⟩,
 ⟨21, .ld 2 true (.t 7), (some (19, true)), false⟩,
 ⟨22, .ld 2 true (.t 4), (some (19, true)), false⟩,
 ⟨23, .ca (.k (.cl 185 [])) [(.t 20), (.t 21), (.t 22)], (some (19, true)), false⟩,
 ⟨24, .ld 2 true (.t 6), (some (19, true)), false⟩,
 ⟨25, .ld 2 true (.t 7), (some (19, true)), false⟩,
 ⟨26, .ld 2 true (.t 5), (some (19, true)), false⟩,
 ⟨27, .ca (.k (.cl 185 [])) [(.t 24), (.t 25), (.t 26)], (some (19, true)), false⟩,
 ⟨28, .ar .mul false (.t 23) (.t 27), (some (19, true)), false⟩,
 ⟨29, .ar .lss false (.t 28) (.k (.sc (.int .i64 0))), (some (19, true)), false⟩,
 ⟨30, .pk (.t 19) (.t 29) (.k (.sc (.bool false))), none, false⟩,
 ⟨8, .mv (.t 30), none, false⟩])
 .ret))⟩
attribute [simp] i249
set_option maxRecDepth 1000000 in
theorem c249 : cFn Try.prog 249 [[]] = some i249 := by kernel_rfl
theorem e249 : enterOk Try.prog 249 = true := by kernel_rfl
def i251 : Ev.Fn := ⟨1, 27, [.tmp 2, .tmp 3, .tmp 4, .tmp 5],
 (.seq
 (.reg false [⟨2, .mv (.k (.sc (.int .i64 0))), none, false⟩,
 ⟨3, .mv (.k (.sc (.int .i64 0))), none, false⟩,
 ⟨4, .mv (.k (.sc (.int .i64 0))), none, false⟩,
 ⟨5, .mv (.k (.sc (.int .i64 0))), none, false⟩])
 (.seq
 (.seq
 (.reg false [⟨6, .mv (.t 0), none, false⟩])
 (.block 0
 (.seq
 (.reg false [⟨8, .ar .eql false (.t 6) (.k (.sc (.string ⟨#[97, 115, 104]⟩))), none, false⟩,
 ⟨7, .mv (.t 8), none, false⟩])
 (.ite (.t 7)
 (.seq
 (.reg false [⟨2, .mv (.k (.sc (.int .i64 20))), none, false⟩,
 ⟨3, .mv (.k (.sc (.int .i64 40))), none, false⟩,
 ⟨4, .mv (.k (.sc (.int .i64 310))), none, false⟩,
 ⟨5, .mv (.k (.sc (.int .i64 0))), none, false⟩])
 .ret)
 (.seq
 (.reg false [⟨10, .ar .eql false (.t 6) (.k (.sc (.string ⟨#[98, 101, 101, 99, 104]⟩))), none, false⟩,
 ⟨9, .mv (.t 10), none, false⟩])
 (.ite (.t 9)
 (.seq
 (.reg false [⟨2, .mv (.k (.sc (.int .i64 35))), none, false⟩,
 ⟨3, .mv (.k (.sc (.int .i64 45))), none, false⟩,
 ⟨4, .mv (.k (.sc (.int .i64 410))), none, false⟩,
 ⟨5, .mv (.k (.sc (.int .i64 0))), none, false⟩])
 .ret)
 (.seq
 (.reg false [⟨12, .ar .eql false (.t 6) (.k (.sc (.string ⟨#[98, 105, 114, 99, 104]⟩))), none, false⟩,
 ⟨11, .mv (.t 12), none, false⟩])
 (.ite (.t 11)
 (.seq
 (.reg false [⟨2, .mv (.k (.sc (.int .i64 15))), none, false⟩,
 ⟨3, .mv (.k (.sc (.int .i64 33))), none, false⟩,
 ⟨4, .mv (.k (.sc (.int .i64 280))), none, false⟩,
 ⟨5, .mv (.k (.sc (.int .i64 0))), none, false⟩])
 .ret)
 (.seq
 (.reg false [⟨14, .ar .eql false (.t 6) (.k (.sc (.string ⟨#[99, 104, 101, 114, 114, 121]⟩))), none, false⟩,
 ⟨13, .mv (.t 14), none, false⟩])
 (.ite (.t 13)
 (.seq
 (.reg false [⟨2, .mv (.k (.sc (.int .i64 50))), none, false⟩,
 ⟨3, .mv (.k (.sc (.int .i64 36))), none, false⟩,
 ⟨4, .mv (.k (.sc (.int .i64 240))), none, false⟩,
 ⟨5, .mv (.k (.sc (.int .i64 0))), none, false⟩])
 .ret)
 (.seq
 (.reg false [⟨16, .ar .eql false (.t 6) (.k (.sc (.string ⟨#[101, 98, 111, 110, 121]⟩))), none, false⟩,
 ⟨15, .mv (.t 16), none, false⟩])
 (.ite (.t 15)
 (.seq
 (.reg false [⟨2, .mv (.k (.sc (.int .i64 95))), none, false⟩,
 ⟨3, .mv (.k (.sc (.int .i64 85))), none, false⟩,
 ⟨4, .mv (.k (.sc (.int .i64 270))), none, false⟩,
 ⟨5, .mv (.k (.sc (.int .i64 0))), none, false⟩])
 .ret)
 (.seq
 (.reg false [⟨18, .ar .eql false (.t 6) (.k (.sc (.string ⟨#[104, 111, 108, 108, 121]⟩))), none, false⟩,
 ⟨17, .mv (.t 18), none, false⟩])
 (.ite (.t 17)
 (.seq
 (.reg false [⟨2, .mv (.k (.sc (.int .i64 5))), none, false⟩,
 ⟨3, .mv (.k (.sc (.int .i64 35))), none, false⟩,
 ⟨4, .mv (.k (.sc (.int .i64 370))), none, false⟩,
 ⟨5, .mv (.k (.sc (.int .i64 0))), none, false⟩])
 .ret)
 (.seq
 (.reg false [⟨20, .ar .eql false (.t 6) (.k (.sc (.string ⟨#[109, 97, 112, 108, 101]⟩))), none, false⟩,
 ⟨19, .mv (.t 20), none, false⟩])
 (.ite (.t 19)
 (.seq
 (.reg false [⟨2, .mv (.k (.sc (.int .i64 10))), none, false⟩,
 ⟨3, .mv (.k (.sc (.int .i64 42))), none, false⟩,
 ⟨4, .mv (.k (.sc (.int .i64 290))), none, false⟩,
 ⟨5, .mv (.k (.sc (.int .i64 0))), none, false⟩])
 .ret)
 (.seq
 (.reg false [⟨22, .ar .eql false (.t 6) (.k (.sc (.string ⟨#[111, 97, 107]⟩))), none, false⟩,
 ⟨21, .mv (.t 22), none, false⟩])
 (.ite (.t 21)
 (.seq
 (.reg false [⟨2, .mv (.k (.sc (.int .i64 40))), none, false⟩,
 ⟨3, .mv (.k (.sc (.int .i64 40))), none, false⟩,
 ⟨4, .mv (.k (.sc (.int .i64 330))), none, false⟩,
 ⟨5, .mv (.k (.sc (.int .i64 0))), none, false⟩])
 .ret)
 (.seq
 (.reg false [⟨24, .ar .eql false (.t 6) (.k (.sc (.string ⟨#[114, 111, 115, 101, 119, 111, 111, 100]⟩))), none, false⟩,
 ⟨23, .mv (.t 24), none, false⟩])
 (.ite (.t 23)
 (.seq
 (.reg false [⟨2, .mv (.k (.sc (.int .i64 80))), none, false⟩,
 ⟨3, .mv (.k (.sc (.int .i64 60))), none, false⟩,
 ⟨4, .mv (.k (.sc (.int .i64 220))), none, false⟩,
 ⟨5, .mv (.k (.sc (.int .i64 0))), none, false⟩])
 .ret)
 (.seq
 (.reg false [⟨26, .ar .eql false (.t 6) (.k (.sc (.string ⟨#[119, 97, 108, 110, 117, 116]⟩))), none, false⟩,
 ⟨25, .mv (.t 26), none, false⟩])
 (.ite (.t 25)
 (.seq
 (.reg false [⟨2, .mv (.k (.sc (.int .i64 70))), none, false⟩,
 ⟨3, .mv (.k (.sc (.int .i64 38))), none, false⟩,
 ⟨4, .mv (.k (.sc (.int .i64 260))), none, false⟩,
 ⟨5, .mv (.k (.sc (.int .i64 0))), none, false⟩])
 .ret)
 .skip))))))))))))))))))))))
 (.seq
 (.reg false [⟨2, .mv (.k (.sc (.int .i64 0))), none, false⟩,
 ⟨3, .mv (.k (.sc (.int .i64 0))), none, false⟩,
 ⟨4, .mv (.k (.sc (.int .i64 0))), none, false⟩,
 ⟨5, .mv (.k (.sc (.int .i64 3))), none, false⟩])
 .ret)))⟩
attribute [simp] i251
set_option maxRecDepth 1000000 in
theorem c251 : cFn Try.prog 251 [[]] = some i251 := by kernel_rfl
theorem e251 : enterOk Try.prog 251 = true := by kernel_rfl
def i252 : Ev.Fn := ⟨0, 2, [.tmp 0],
 (.seq
 (.reg false [⟨0, .mv (.k .nl), none, false⟩])
 (.seq
 (.reg false [⟨1, .bs 9 1 [(.sc (.string ⟨#[]⟩))] 10 [(0, (.k (.sc (.string ⟨#[97, 115, 104]⟩)))), (1, (.k (.sc (.string ⟨#[98, 101, 101, 99, 104]⟩)))), (2, (.k (.sc (.string ⟨#[98, 105, 114, 99, 104]⟩)))), (3, (.k (.sc (.string ⟨#[99, 104, 101, 114, 114, 121]⟩)))), (4, (.k (.sc (.string ⟨#[101, 98, 111, 110, 121]⟩)))), (5, (.k (.sc (.string ⟨#[104, 111, 108, 108, 121]⟩)))), (6, (.k (.sc (.string ⟨#[109, 97, 112, 108, 101]⟩)))), (7, (.k (.sc (.string ⟨#[111, 97, 107]⟩)))), (8, (.k (.sc (.string ⟨#[114, 111, 115, 101, 119, 111, 111, 100]⟩)))), (9, (.k (.sc (.string ⟨#[119, 97, 108, 110, 117, 116]⟩))))], none, false⟩,
 ⟨0, .mv (.t 1), none, false⟩])
 .ret))⟩
attribute [simp] i252
set_option maxRecDepth 1000000 in
theorem c252 : cFn Try.prog 252 [[]] = some i252 := by kernel_rfl
theorem e252 : enterOk Try.prog 252 = true := by kernel_rfl
theorem mixed : Try.prog.follows .mixedOrders = true := by kernel_rfl
def Ft : List (Nat × Ev.Fn) := [(6, i6), (10, i10), (15, i15), (27, i27), (30, i30), (31, i31), (37, i37), (38, i38), (39, i39), (40, i40), (41, i41), (42, i42), (51, i51), (52, i52), (53, i53), (54, i54), (55, i55), (65, i65), (66, i66), (77, i77), (87, i87), (91, i91), (94, i94), (95, i95), (96, i96), (97, i97), (98, i98), (99, i99), (100, i100), (101, i101), (102, i102), (103, i103), (104, i104), (105, i105), (106, i106), (107, i107), (108, i108), (109, i109), (110, i110), (111, i111), (112, i112), (122, i122), (123, i123), (124, i124), (125, i125), (126, i126), (141, i141), (145, i145), (152, i152), (160, i160), (164, i164), (165, i165), (166, i166), (167, i167), (168, i168), (169, i169), (170, i170), (171, i171), (172, i172), (173, i173), (174, i174), (175, i175), (176, i176), (177, i177), (178, i178), (179, i179), (180, i180), (181, i181), (183, i183), (185, i185), (190, i190), (191, i191), (192, i192), (193, i193), (197, i197), (219, i219), (220, i220), (221, i221), (222, i222), (223, i223), (224, i224), (225, i225), (226, i226), (227, i227), (228, i228), (235, i235), (236, i236), (237, i237), (238, i238), (239, i239), (248, i248), (249, i249), (251, i251), (252, i252)]
def F : Nat → Option Ev.Fn := getF Ft
noncomputable def ev (d : Nat) : CallF := evF F (fun _ _ => none) d
theorem ev_fn {f : Nat} {fn : Ev.Fn} (h : F f = some fn) (d : Nat) (args : List LV) (hl : args.length = fn.nargs) : ev (d + 1) f args = Ev.finish fn.res (evC (ev d) fn.body (Ev.start args)) := evF_fn h d args hl
set_option maxRecDepth 1000000 in
theorem tab : ∀ f fn, F f = some fn → enterOk Try.prog f = true ∧ ∃ ks, cFn Try.prog f ks = some fn :=
  tabF (L := Ft) ⟨⟨e6, _, c6⟩, ⟨e10, _, c10⟩, ⟨e15, _, c15⟩, ⟨e27, _, c27⟩, ⟨e30, _, c30⟩, ⟨e31, _, c31⟩, ⟨e37, _, c37⟩, ⟨e38, _, c38⟩, ⟨e39, _, c39⟩, ⟨e40, _, c40⟩, ⟨e41, _, c41⟩, ⟨e42, _, c42⟩, ⟨e51, _, c51⟩, ⟨e52, _, c52⟩, ⟨e53, _, c53⟩, ⟨e54, _, c54⟩, ⟨e55, _, c55⟩, ⟨e65, _, c65⟩, ⟨e66, _, c66⟩, ⟨e77, _, c77⟩, ⟨e87, _, c87⟩, ⟨e91, _, c91⟩, ⟨e94, _, c94⟩, ⟨e95, _, c95⟩, ⟨e96, _, c96⟩, ⟨e97, _, c97⟩, ⟨e98, _, c98⟩, ⟨e99, _, c99⟩, ⟨e100, _, c100⟩, ⟨e101, _, c101⟩, ⟨e102, _, c102⟩, ⟨e103, _, c103⟩, ⟨e104, _, c104⟩, ⟨e105, _, c105⟩, ⟨e106, _, c106⟩, ⟨e107, _, c107⟩, ⟨e108, _, c108⟩, ⟨e109, _, c109⟩, ⟨e110, _, c110⟩, ⟨e111, _, c111⟩, ⟨e112, _, c112⟩, ⟨e122, _, c122⟩, ⟨e123, _, c123⟩, ⟨e124, _, c124⟩, ⟨e125, _, c125⟩, ⟨e126, _, c126⟩, ⟨e141, _, c141⟩, ⟨e145, _, c145⟩, ⟨e152, _, c152⟩, ⟨e160, _, c160⟩, ⟨e164, _, c164⟩, ⟨e165, _, c165⟩, ⟨e166, _, c166⟩, ⟨e167, _, c167⟩, ⟨e168, _, c168⟩, ⟨e169, _, c169⟩, ⟨e170, _, c170⟩, ⟨e171, _, c171⟩, ⟨e172, _, c172⟩, ⟨e173, _, c173⟩, ⟨e174, _, c174⟩, ⟨e175, _, c175⟩, ⟨e176, _, c176⟩, ⟨e177, _, c177⟩, ⟨e178, _, c178⟩, ⟨e179, _, c179⟩, ⟨e180, _, c180⟩, ⟨e181, _, c181⟩, ⟨e183, _, c183⟩, ⟨e185, _, c185⟩, ⟨e190, _, c190⟩, ⟨e191, _, c191⟩, ⟨e192, _, c192⟩, ⟨e193, _, c193⟩, ⟨e197, _, c197⟩, ⟨e219, _, c219⟩, ⟨e220, _, c220⟩, ⟨e221, _, c221⟩, ⟨e222, _, c222⟩, ⟨e223, _, c223⟩, ⟨e224, _, c224⟩, ⟨e225, _, c225⟩, ⟨e226, _, c226⟩, ⟨e227, _, c227⟩, ⟨e228, _, c228⟩, ⟨e235, _, c235⟩, ⟨e236, _, c236⟩, ⟨e237, _, c237⟩, ⟨e238, _, c238⟩, ⟨e239, _, c239⟩, ⟨e248, _, c248⟩, ⟨e249, _, c249⟩, ⟨e251, _, c251⟩, ⟨e252, _, c252⟩, trivial⟩
theorem tabn : ∀ f fn, F f = some fn → f < wrN := tabN (L := Ft) (by kernel_rfl)
theorem callOk (d : Nat) : CallOk Try.prog (ev d) := (evF_ok2 mixed tab tabn (noPrim_ok _) (noPrim_okW _) d).1
abbrev I (n : Int) : LV := .sc (.int .i64 n)
abbrev B (b : Bool) : LV := .sc (.bool b)
abbrev T (s : ByteArray) : LV := .sc (.string s)
theorem s6 (d : Nat) (args : List LV) (hl : args.length = i6.nargs) : ev (d + 1) 6 args = Ev.finish i6.res (evC (ev d) i6.body (Ev.start args)) := ev_fn (by kernel_rfl) d args hl
theorem s10 (d : Nat) (args : List LV) (hl : args.length = i10.nargs) : ev (d + 1) 10 args = Ev.finish i10.res (evC (ev d) i10.body (Ev.start args)) := ev_fn (by kernel_rfl) d args hl
theorem s15 (d : Nat) (args : List LV) (hl : args.length = i15.nargs) : ev (d + 1) 15 args = Ev.finish i15.res (evC (ev d) i15.body (Ev.start args)) := ev_fn (by kernel_rfl) d args hl
theorem s27 (d : Nat) (args : List LV) (hl : args.length = i27.nargs) : ev (d + 1) 27 args = Ev.finish i27.res (evC (ev d) i27.body (Ev.start args)) := ev_fn (by kernel_rfl) d args hl
theorem s30 (d : Nat) (args : List LV) (hl : args.length = i30.nargs) : ev (d + 1) 30 args = Ev.finish i30.res (evC (ev d) i30.body (Ev.start args)) := ev_fn (by kernel_rfl) d args hl
theorem s31 (d : Nat) (args : List LV) (hl : args.length = i31.nargs) : ev (d + 1) 31 args = Ev.finish i31.res (evC (ev d) i31.body (Ev.start args)) := ev_fn (by kernel_rfl) d args hl
theorem s37 (d : Nat) (args : List LV) (hl : args.length = i37.nargs) : ev (d + 1) 37 args = Ev.finish i37.res (evC (ev d) i37.body (Ev.start args)) := ev_fn (by kernel_rfl) d args hl
theorem s38 (d : Nat) (args : List LV) (hl : args.length = i38.nargs) : ev (d + 1) 38 args = Ev.finish i38.res (evC (ev d) i38.body (Ev.start args)) := ev_fn (by kernel_rfl) d args hl
theorem s39 (d : Nat) (args : List LV) (hl : args.length = i39.nargs) : ev (d + 1) 39 args = Ev.finish i39.res (evC (ev d) i39.body (Ev.start args)) := ev_fn (by kernel_rfl) d args hl
theorem s40 (d : Nat) (args : List LV) (hl : args.length = i40.nargs) : ev (d + 1) 40 args = Ev.finish i40.res (evC (ev d) i40.body (Ev.start args)) := ev_fn (by kernel_rfl) d args hl
theorem s41 (d : Nat) (args : List LV) (hl : args.length = i41.nargs) : ev (d + 1) 41 args = Ev.finish i41.res (evC (ev d) i41.body (Ev.start args)) := ev_fn (by kernel_rfl) d args hl
theorem s42 (d : Nat) (args : List LV) (hl : args.length = i42.nargs) : ev (d + 1) 42 args = Ev.finish i42.res (evC (ev d) i42.body (Ev.start args)) := ev_fn (by kernel_rfl) d args hl
theorem s51 (d : Nat) (args : List LV) (hl : args.length = i51.nargs) : ev (d + 1) 51 args = Ev.finish i51.res (evC (ev d) i51.body (Ev.start args)) := ev_fn (by kernel_rfl) d args hl
theorem s52 (d : Nat) (args : List LV) (hl : args.length = i52.nargs) : ev (d + 1) 52 args = Ev.finish i52.res (evC (ev d) i52.body (Ev.start args)) := ev_fn (by kernel_rfl) d args hl
theorem s53 (d : Nat) (args : List LV) (hl : args.length = i53.nargs) : ev (d + 1) 53 args = Ev.finish i53.res (evC (ev d) i53.body (Ev.start args)) := ev_fn (by kernel_rfl) d args hl
theorem s54 (d : Nat) (args : List LV) (hl : args.length = i54.nargs) : ev (d + 1) 54 args = Ev.finish i54.res (evC (ev d) i54.body (Ev.start args)) := ev_fn (by kernel_rfl) d args hl
theorem s55 (d : Nat) (args : List LV) (hl : args.length = i55.nargs) : ev (d + 1) 55 args = Ev.finish i55.res (evC (ev d) i55.body (Ev.start args)) := ev_fn (by kernel_rfl) d args hl
theorem s65 (d : Nat) (args : List LV) (hl : args.length = i65.nargs) : ev (d + 1) 65 args = Ev.finish i65.res (evC (ev d) i65.body (Ev.start args)) := ev_fn (by kernel_rfl) d args hl
theorem s66 (d : Nat) (args : List LV) (hl : args.length = i66.nargs) : ev (d + 1) 66 args = Ev.finish i66.res (evC (ev d) i66.body (Ev.start args)) := ev_fn (by kernel_rfl) d args hl
theorem s77 (d : Nat) (args : List LV) (hl : args.length = i77.nargs) : ev (d + 1) 77 args = Ev.finish i77.res (evC (ev d) i77.body (Ev.start args)) := ev_fn (by kernel_rfl) d args hl
theorem s87 (d : Nat) (args : List LV) (hl : args.length = i87.nargs) : ev (d + 1) 87 args = Ev.finish i87.res (evC (ev d) i87.body (Ev.start args)) := ev_fn (by kernel_rfl) d args hl
theorem s91 (d : Nat) (args : List LV) (hl : args.length = i91.nargs) : ev (d + 1) 91 args = Ev.finish i91.res (evC (ev d) i91.body (Ev.start args)) := ev_fn (by kernel_rfl) d args hl
theorem s94 (d : Nat) (args : List LV) (hl : args.length = i94.nargs) : ev (d + 1) 94 args = Ev.finish i94.res (evC (ev d) i94.body (Ev.start args)) := ev_fn (by kernel_rfl) d args hl
theorem s95 (d : Nat) (args : List LV) (hl : args.length = i95.nargs) : ev (d + 1) 95 args = Ev.finish i95.res (evC (ev d) i95.body (Ev.start args)) := ev_fn (by kernel_rfl) d args hl
theorem s96 (d : Nat) (args : List LV) (hl : args.length = i96.nargs) : ev (d + 1) 96 args = Ev.finish i96.res (evC (ev d) i96.body (Ev.start args)) := ev_fn (by kernel_rfl) d args hl
theorem s97 (d : Nat) (args : List LV) (hl : args.length = i97.nargs) : ev (d + 1) 97 args = Ev.finish i97.res (evC (ev d) i97.body (Ev.start args)) := ev_fn (by kernel_rfl) d args hl
theorem s98 (d : Nat) (args : List LV) (hl : args.length = i98.nargs) : ev (d + 1) 98 args = Ev.finish i98.res (evC (ev d) i98.body (Ev.start args)) := ev_fn (by kernel_rfl) d args hl
theorem s99 (d : Nat) (args : List LV) (hl : args.length = i99.nargs) : ev (d + 1) 99 args = Ev.finish i99.res (evC (ev d) i99.body (Ev.start args)) := ev_fn (by kernel_rfl) d args hl
theorem s100 (d : Nat) (args : List LV) (hl : args.length = i100.nargs) : ev (d + 1) 100 args = Ev.finish i100.res (evC (ev d) i100.body (Ev.start args)) := ev_fn (by kernel_rfl) d args hl
theorem s101 (d : Nat) (args : List LV) (hl : args.length = i101.nargs) : ev (d + 1) 101 args = Ev.finish i101.res (evC (ev d) i101.body (Ev.start args)) := ev_fn (by kernel_rfl) d args hl
theorem s102 (d : Nat) (args : List LV) (hl : args.length = i102.nargs) : ev (d + 1) 102 args = Ev.finish i102.res (evC (ev d) i102.body (Ev.start args)) := ev_fn (by kernel_rfl) d args hl
theorem s103 (d : Nat) (args : List LV) (hl : args.length = i103.nargs) : ev (d + 1) 103 args = Ev.finish i103.res (evC (ev d) i103.body (Ev.start args)) := ev_fn (by kernel_rfl) d args hl
theorem s104 (d : Nat) (args : List LV) (hl : args.length = i104.nargs) : ev (d + 1) 104 args = Ev.finish i104.res (evC (ev d) i104.body (Ev.start args)) := ev_fn (by kernel_rfl) d args hl
theorem s105 (d : Nat) (args : List LV) (hl : args.length = i105.nargs) : ev (d + 1) 105 args = Ev.finish i105.res (evC (ev d) i105.body (Ev.start args)) := ev_fn (by kernel_rfl) d args hl
theorem s106 (d : Nat) (args : List LV) (hl : args.length = i106.nargs) : ev (d + 1) 106 args = Ev.finish i106.res (evC (ev d) i106.body (Ev.start args)) := ev_fn (by kernel_rfl) d args hl
theorem s107 (d : Nat) (args : List LV) (hl : args.length = i107.nargs) : ev (d + 1) 107 args = Ev.finish i107.res (evC (ev d) i107.body (Ev.start args)) := ev_fn (by kernel_rfl) d args hl
theorem s108 (d : Nat) (args : List LV) (hl : args.length = i108.nargs) : ev (d + 1) 108 args = Ev.finish i108.res (evC (ev d) i108.body (Ev.start args)) := ev_fn (by kernel_rfl) d args hl
theorem s109 (d : Nat) (args : List LV) (hl : args.length = i109.nargs) : ev (d + 1) 109 args = Ev.finish i109.res (evC (ev d) i109.body (Ev.start args)) := ev_fn (by kernel_rfl) d args hl
theorem s110 (d : Nat) (args : List LV) (hl : args.length = i110.nargs) : ev (d + 1) 110 args = Ev.finish i110.res (evC (ev d) i110.body (Ev.start args)) := ev_fn (by kernel_rfl) d args hl
theorem s111 (d : Nat) (args : List LV) (hl : args.length = i111.nargs) : ev (d + 1) 111 args = Ev.finish i111.res (evC (ev d) i111.body (Ev.start args)) := ev_fn (by kernel_rfl) d args hl
theorem s112 (d : Nat) (args : List LV) (hl : args.length = i112.nargs) : ev (d + 1) 112 args = Ev.finish i112.res (evC (ev d) i112.body (Ev.start args)) := ev_fn (by kernel_rfl) d args hl
theorem s122 (d : Nat) (args : List LV) (hl : args.length = i122.nargs) : ev (d + 1) 122 args = Ev.finish i122.res (evC (ev d) i122.body (Ev.start args)) := ev_fn (by kernel_rfl) d args hl
theorem s123 (d : Nat) (args : List LV) (hl : args.length = i123.nargs) : ev (d + 1) 123 args = Ev.finish i123.res (evC (ev d) i123.body (Ev.start args)) := ev_fn (by kernel_rfl) d args hl
theorem s124 (d : Nat) (args : List LV) (hl : args.length = i124.nargs) : ev (d + 1) 124 args = Ev.finish i124.res (evC (ev d) i124.body (Ev.start args)) := ev_fn (by kernel_rfl) d args hl
theorem s125 (d : Nat) (args : List LV) (hl : args.length = i125.nargs) : ev (d + 1) 125 args = Ev.finish i125.res (evC (ev d) i125.body (Ev.start args)) := ev_fn (by kernel_rfl) d args hl
theorem s126 (d : Nat) (args : List LV) (hl : args.length = i126.nargs) : ev (d + 1) 126 args = Ev.finish i126.res (evC (ev d) i126.body (Ev.start args)) := ev_fn (by kernel_rfl) d args hl
theorem s141 (d : Nat) (args : List LV) (hl : args.length = i141.nargs) : ev (d + 1) 141 args = Ev.finish i141.res (evC (ev d) i141.body (Ev.start args)) := ev_fn (by kernel_rfl) d args hl
theorem s145 (d : Nat) (args : List LV) (hl : args.length = i145.nargs) : ev (d + 1) 145 args = Ev.finish i145.res (evC (ev d) i145.body (Ev.start args)) := ev_fn (by kernel_rfl) d args hl
theorem s152 (d : Nat) (args : List LV) (hl : args.length = i152.nargs) : ev (d + 1) 152 args = Ev.finish i152.res (evC (ev d) i152.body (Ev.start args)) := ev_fn (by kernel_rfl) d args hl
theorem s160 (d : Nat) (args : List LV) (hl : args.length = i160.nargs) : ev (d + 1) 160 args = Ev.finish i160.res (evC (ev d) i160.body (Ev.start args)) := ev_fn (by kernel_rfl) d args hl
theorem s164 (d : Nat) (args : List LV) (hl : args.length = i164.nargs) : ev (d + 1) 164 args = Ev.finish i164.res (evC (ev d) i164.body (Ev.start args)) := ev_fn (by kernel_rfl) d args hl
theorem s165 (d : Nat) (args : List LV) (hl : args.length = i165.nargs) : ev (d + 1) 165 args = Ev.finish i165.res (evC (ev d) i165.body (Ev.start args)) := ev_fn (by kernel_rfl) d args hl
theorem s166 (d : Nat) (args : List LV) (hl : args.length = i166.nargs) : ev (d + 1) 166 args = Ev.finish i166.res (evC (ev d) i166.body (Ev.start args)) := ev_fn (by kernel_rfl) d args hl
theorem s167 (d : Nat) (args : List LV) (hl : args.length = i167.nargs) : ev (d + 1) 167 args = Ev.finish i167.res (evC (ev d) i167.body (Ev.start args)) := ev_fn (by kernel_rfl) d args hl
theorem s168 (d : Nat) (args : List LV) (hl : args.length = i168.nargs) : ev (d + 1) 168 args = Ev.finish i168.res (evC (ev d) i168.body (Ev.start args)) := ev_fn (by kernel_rfl) d args hl
theorem s169 (d : Nat) (args : List LV) (hl : args.length = i169.nargs) : ev (d + 1) 169 args = Ev.finish i169.res (evC (ev d) i169.body (Ev.start args)) := ev_fn (by kernel_rfl) d args hl
theorem s170 (d : Nat) (args : List LV) (hl : args.length = i170.nargs) : ev (d + 1) 170 args = Ev.finish i170.res (evC (ev d) i170.body (Ev.start args)) := ev_fn (by kernel_rfl) d args hl
theorem s171 (d : Nat) (args : List LV) (hl : args.length = i171.nargs) : ev (d + 1) 171 args = Ev.finish i171.res (evC (ev d) i171.body (Ev.start args)) := ev_fn (by kernel_rfl) d args hl
theorem s172 (d : Nat) (args : List LV) (hl : args.length = i172.nargs) : ev (d + 1) 172 args = Ev.finish i172.res (evC (ev d) i172.body (Ev.start args)) := ev_fn (by kernel_rfl) d args hl
theorem s173 (d : Nat) (args : List LV) (hl : args.length = i173.nargs) : ev (d + 1) 173 args = Ev.finish i173.res (evC (ev d) i173.body (Ev.start args)) := ev_fn (by kernel_rfl) d args hl
theorem s174 (d : Nat) (args : List LV) (hl : args.length = i174.nargs) : ev (d + 1) 174 args = Ev.finish i174.res (evC (ev d) i174.body (Ev.start args)) := ev_fn (by kernel_rfl) d args hl
theorem s175 (d : Nat) (args : List LV) (hl : args.length = i175.nargs) : ev (d + 1) 175 args = Ev.finish i175.res (evC (ev d) i175.body (Ev.start args)) := ev_fn (by kernel_rfl) d args hl
theorem s176 (d : Nat) (args : List LV) (hl : args.length = i176.nargs) : ev (d + 1) 176 args = Ev.finish i176.res (evC (ev d) i176.body (Ev.start args)) := ev_fn (by kernel_rfl) d args hl
theorem s177 (d : Nat) (args : List LV) (hl : args.length = i177.nargs) : ev (d + 1) 177 args = Ev.finish i177.res (evC (ev d) i177.body (Ev.start args)) := ev_fn (by kernel_rfl) d args hl
theorem s178 (d : Nat) (args : List LV) (hl : args.length = i178.nargs) : ev (d + 1) 178 args = Ev.finish i178.res (evC (ev d) i178.body (Ev.start args)) := ev_fn (by kernel_rfl) d args hl
theorem s179 (d : Nat) (args : List LV) (hl : args.length = i179.nargs) : ev (d + 1) 179 args = Ev.finish i179.res (evC (ev d) i179.body (Ev.start args)) := ev_fn (by kernel_rfl) d args hl
theorem s180 (d : Nat) (args : List LV) (hl : args.length = i180.nargs) : ev (d + 1) 180 args = Ev.finish i180.res (evC (ev d) i180.body (Ev.start args)) := ev_fn (by kernel_rfl) d args hl
theorem s181 (d : Nat) (args : List LV) (hl : args.length = i181.nargs) : ev (d + 1) 181 args = Ev.finish i181.res (evC (ev d) i181.body (Ev.start args)) := ev_fn (by kernel_rfl) d args hl
theorem s183 (d : Nat) (args : List LV) (hl : args.length = i183.nargs) : ev (d + 1) 183 args = Ev.finish i183.res (evC (ev d) i183.body (Ev.start args)) := ev_fn (by kernel_rfl) d args hl
theorem s185 (d : Nat) (args : List LV) (hl : args.length = i185.nargs) : ev (d + 1) 185 args = Ev.finish i185.res (evC (ev d) i185.body (Ev.start args)) := ev_fn (by kernel_rfl) d args hl
theorem s190 (d : Nat) (args : List LV) (hl : args.length = i190.nargs) : ev (d + 1) 190 args = Ev.finish i190.res (evC (ev d) i190.body (Ev.start args)) := ev_fn (by kernel_rfl) d args hl
theorem s191 (d : Nat) (args : List LV) (hl : args.length = i191.nargs) : ev (d + 1) 191 args = Ev.finish i191.res (evC (ev d) i191.body (Ev.start args)) := ev_fn (by kernel_rfl) d args hl
theorem s192 (d : Nat) (args : List LV) (hl : args.length = i192.nargs) : ev (d + 1) 192 args = Ev.finish i192.res (evC (ev d) i192.body (Ev.start args)) := ev_fn (by kernel_rfl) d args hl
theorem s193 (d : Nat) (args : List LV) (hl : args.length = i193.nargs) : ev (d + 1) 193 args = Ev.finish i193.res (evC (ev d) i193.body (Ev.start args)) := ev_fn (by kernel_rfl) d args hl
theorem s197 (d : Nat) (args : List LV) (hl : args.length = i197.nargs) : ev (d + 1) 197 args = Ev.finish i197.res (evC (ev d) i197.body (Ev.start args)) := ev_fn (by kernel_rfl) d args hl
theorem s219 (d : Nat) (args : List LV) (hl : args.length = i219.nargs) : ev (d + 1) 219 args = Ev.finish i219.res (evC (ev d) i219.body (Ev.start args)) := ev_fn (by kernel_rfl) d args hl
theorem s220 (d : Nat) (args : List LV) (hl : args.length = i220.nargs) : ev (d + 1) 220 args = Ev.finish i220.res (evC (ev d) i220.body (Ev.start args)) := ev_fn (by kernel_rfl) d args hl
theorem s221 (d : Nat) (args : List LV) (hl : args.length = i221.nargs) : ev (d + 1) 221 args = Ev.finish i221.res (evC (ev d) i221.body (Ev.start args)) := ev_fn (by kernel_rfl) d args hl
theorem s222 (d : Nat) (args : List LV) (hl : args.length = i222.nargs) : ev (d + 1) 222 args = Ev.finish i222.res (evC (ev d) i222.body (Ev.start args)) := ev_fn (by kernel_rfl) d args hl
theorem s223 (d : Nat) (args : List LV) (hl : args.length = i223.nargs) : ev (d + 1) 223 args = Ev.finish i223.res (evC (ev d) i223.body (Ev.start args)) := ev_fn (by kernel_rfl) d args hl
theorem s224 (d : Nat) (args : List LV) (hl : args.length = i224.nargs) : ev (d + 1) 224 args = Ev.finish i224.res (evC (ev d) i224.body (Ev.start args)) := ev_fn (by kernel_rfl) d args hl
theorem s225 (d : Nat) (args : List LV) (hl : args.length = i225.nargs) : ev (d + 1) 225 args = Ev.finish i225.res (evC (ev d) i225.body (Ev.start args)) := ev_fn (by kernel_rfl) d args hl
theorem s226 (d : Nat) (args : List LV) (hl : args.length = i226.nargs) : ev (d + 1) 226 args = Ev.finish i226.res (evC (ev d) i226.body (Ev.start args)) := ev_fn (by kernel_rfl) d args hl
theorem s227 (d : Nat) (args : List LV) (hl : args.length = i227.nargs) : ev (d + 1) 227 args = Ev.finish i227.res (evC (ev d) i227.body (Ev.start args)) := ev_fn (by kernel_rfl) d args hl
theorem s228 (d : Nat) (args : List LV) (hl : args.length = i228.nargs) : ev (d + 1) 228 args = Ev.finish i228.res (evC (ev d) i228.body (Ev.start args)) := ev_fn (by kernel_rfl) d args hl
theorem s235 (d : Nat) (args : List LV) (hl : args.length = i235.nargs) : ev (d + 1) 235 args = Ev.finish i235.res (evC (ev d) i235.body (Ev.start args)) := ev_fn (by kernel_rfl) d args hl
theorem s236 (d : Nat) (args : List LV) (hl : args.length = i236.nargs) : ev (d + 1) 236 args = Ev.finish i236.res (evC (ev d) i236.body (Ev.start args)) := ev_fn (by kernel_rfl) d args hl
theorem s237 (d : Nat) (args : List LV) (hl : args.length = i237.nargs) : ev (d + 1) 237 args = Ev.finish i237.res (evC (ev d) i237.body (Ev.start args)) := ev_fn (by kernel_rfl) d args hl
theorem s238 (d : Nat) (args : List LV) (hl : args.length = i238.nargs) : ev (d + 1) 238 args = Ev.finish i238.res (evC (ev d) i238.body (Ev.start args)) := ev_fn (by kernel_rfl) d args hl
theorem s239 (d : Nat) (args : List LV) (hl : args.length = i239.nargs) : ev (d + 1) 239 args = Ev.finish i239.res (evC (ev d) i239.body (Ev.start args)) := ev_fn (by kernel_rfl) d args hl
theorem s248 (d : Nat) (args : List LV) (hl : args.length = i248.nargs) : ev (d + 1) 248 args = Ev.finish i248.res (evC (ev d) i248.body (Ev.start args)) := ev_fn (by kernel_rfl) d args hl
theorem s249 (d : Nat) (args : List LV) (hl : args.length = i249.nargs) : ev (d + 1) 249 args = Ev.finish i249.res (evC (ev d) i249.body (Ev.start args)) := ev_fn (by kernel_rfl) d args hl
theorem s251 (d : Nat) (args : List LV) (hl : args.length = i251.nargs) : ev (d + 1) 251 args = Ev.finish i251.res (evC (ev d) i251.body (Ev.start args)) := ev_fn (by kernel_rfl) d args hl
theorem s252 (d : Nat) (args : List LV) (hl : args.length = i252.nargs) : ev (d + 1) 252 args = Ev.finish i252.res (evC (ev d) i252.body (Ev.start args)) := ev_fn (by kernel_rfl) d args hl
theorem v30 (d : Nat) {args bs : List LV} {st : St} (hs : startW args = some (bs, st)) (hl : bs.length = i30.nargs) : ev (d + 1) (wrN + 30) args = finishW bs i30.res (evC (ev d) i30.body st) := evF_fnW (by kernel_rfl) tabn d hs hl
theorem v42 (d : Nat) {args bs : List LV} {st : St} (hs : startW args = some (bs, st)) (hl : bs.length = i42.nargs) : ev (d + 1) (wrN + 42) args = finishW bs i42.res (evC (ev d) i42.body st) := evF_fnW (by kernel_rfl) tabn d hs hl
theorem v111 (d : Nat) {args bs : List LV} {st : St} (hs : startW args = some (bs, st)) (hl : bs.length = i111.nargs) : ev (d + 1) (wrN + 111) args = finishW bs i111.res (evC (ev d) i111.body st) := evF_fnW (by kernel_rfl) tabn d hs hl
theorem v112 (d : Nat) {args bs : List LV} {st : St} (hs : startW args = some (bs, st)) (hl : bs.length = i112.nargs) : ev (d + 1) (wrN + 112) args = finishW bs i112.res (evC (ev d) i112.body st) := evF_fnW (by kernel_rfl) tabn d hs hl
end Go.Proofs.Ytojjkjbffihppaa.walkS
