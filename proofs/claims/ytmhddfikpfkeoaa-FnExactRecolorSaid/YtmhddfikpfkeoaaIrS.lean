/- The functions that some rows reach, turned; no conditions. -/
import Derived.Test.YtmhddfikpfkeoaaIrS1
import Derived.KernelRfl
import Derived.Test.YtmhddfikpfkeoaaProg
namespace Go.Proofs.Ytmhddfikpfkeoaa.walkS
open Go Go.Proofs.Ytmhddfikpfkeoaa.Ev
def w140_1 : IC :=
(.seq
 (.reg false [⟨18, .ar .lss false (.t 17) (.t 16), none, false⟩])
 (.seq
 (.ite (.t 18)
 .skip
 (.exit 0))
 (.seq
 (.block 1
 (.seq
 (.reg false [⟨19, .ia 2 (.t 15) (.t 17), none, false⟩,
 ⟨20, .ld 2 true (.t 19), none, false⟩,
 ⟨5, .al [(.sc (.string ⟨#[]⟩)), .nl], none, false⟩,
 ⟨1, .so 2 (.t 5) (.t 20), none, true⟩])
 (.rgc [.nx 28 3, .nx 28 21] [⟨21, .fa 3 (.t 3), none, false⟩,
 ⟨22, .ld 1 false (.t 21), none, false⟩,
 ⟨23, .fa 0 (.t 5), none, false⟩,
 ⟨24, .ld 1 false (.t 23), none, false⟩,
 ⟨25, .fa 1 (.t 5), none, false⟩,
 ⟨26, .ld 1 false (.t 25), none, false⟩,
 ⟨27, .ca (.k (.cl 61 [])) [(.t 26)], none, false⟩,
 ⟨28, .bd [(.sc (.string ⟨#[]⟩)), .nl] [(0, 1, (.t 24)), (1, 1, (.t 27))], none, false⟩,
 ⟨29, .bw 162 2 [(.sc (.string ⟨#[]⟩)), .nl] 1 [(0, (.t 28))], none, false⟩,
 ⟨30, .ap 162 2 false (.t 22) (.t 29), none, false⟩,
 ⟨31, .fa 3 (.t 3), none, false⟩,
 ⟨0, .so 1 (.t 31) (.t 30), none, true⟩])))
 (.reg false [⟨32, .ar .add false (.t 17) (.k (.sc (.int .i64 1))), none, false⟩,
 ⟨17, .mv (.t 32), none, false⟩]))))
def b140_1 : IC := w140_1
theorem u140_1 (call : CallF) (st : St) : evC call b140_1 st = evC call w140_1 st := rfl
attribute [simp] u140_1 w140_1
def i140 : Ev.Fn := ⟨1, 34, [.cell 2 4 true],
 (.seq
 (.reg false [⟨1, .bx (.t 0), none, false⟩,
 ⟨2, .al [(.sc (.int .i64 0)), (.sc (.int .i64 0)), .nl, .nl], none, false⟩])
 (.seq
 (.reg true [⟨6, .fa 0 (.t 1), none, false⟩,
 ⟨7, .ld 1 false (.t 6), none, false⟩,
 ⟨8, .fa 1 (.t 1), none, false⟩,
 ⟨9, .ld 1 false (.t 8), none, false⟩,
 ⟨10, .fa 2 (.t 1), none, false⟩,
 ⟨11, .ld 1 false (.t 10), none, false⟩,
 ⟨12, .ca (.k (.cl 197 [])) [(.t 11)], none, false⟩,
 ⟨13, .bd [(.sc (.int .i64 0)), (.sc (.int .i64 0)), .nl, .nl] [(0, 1, (.t 7)), (1, 1, (.t 9)), (2, 1, (.t 12))], none, false⟩,
 ⟨3, .al [(.sc (.int .i64 0)), (.sc (.int .i64 0)), .nl, .nl], none, false⟩,
 ⟨1, .so 4 (.t 3) (.t 13), none, true⟩])
 (.seq
 (.seq
 (.reg false [⟨14, .fa 3 (.t 1), none, false⟩,
 ⟨15, .ld 1 false (.t 14), none, false⟩,
 ⟨16, .ln false (.t 15), none, false⟩,
 ⟨17, .mv (.k (.sc (.int .i64 0))), none, false⟩])
 (.cln [2, 3] [2]
 (.block 0
 (.loop [2, 3, 15, 16, 17] b140_1))))
 (.seq
 (.reg false [⟨33, .ld 4 true (.t 3), none, false⟩,
 ⟨1, .so 4 (.t 2) (.t 33), none, true⟩])
 .ret))))⟩
attribute [simp] i140
set_option maxRecDepth 1000000 in
theorem c140 : cFn Try.prog 140 [[], [2, 3, 15, 16, 17], [2, 3], [2]] = some i140 := by kernel_rfl
theorem e140 : enterOk Try.prog 140 = true := by kernel_rfl
def i141 : Ev.Fn := ⟨1, 8, [.tmp 2],
 (.seq
 (.reg false [⟨2, .mv (.k .nl), none, false⟩])
 (.seq
 (.seq
 (.reg false [⟨3, .mv (.t 0), none, false⟩,
 ⟨4, .isn false (.t 3), none, false⟩])
 (.ite (.t 4)
 (.seq
 (.reg false [⟨2, .mv (.k .nl), none, false⟩])
 .ret)
 .skip))
 (.seq
 (.reg false [⟨5, .bs 64 3 [(.sc (.string ⟨#[]⟩)), (.sc (.int .i64 0)), (.sc (.int .i64 0))] 0 [], none, false⟩,
 ⟨6, .mv (.t 0), none, false⟩,
 ⟨7, .ap 64 3 false (.t 5) (.t 6), none, false⟩,
 ⟨2, .mv (.t 7), none, false⟩])
 .ret)))⟩
attribute [simp] i141
set_option maxRecDepth 1000000 in
theorem c141 : cFn Try.prog 141 [[]] = some i141 := by kernel_rfl
theorem e141 : enterOk Try.prog 141 = true := by kernel_rfl
def w142_1 : IC :=
(.seq
 (.seq
 (.reg false [⟨17, .mv (.t 3), none, false⟩,
 ⟨18, .mv (.t 0), none, false⟩,
 ⟨19, .ln true (.t 18), none, false⟩,
 ⟨20, .ar .lss false (.t 17) (.t 19), none, false⟩])
 (.ite (.t 20)
 .skip
 (.exit 0)))
 (.seq
 (.block 1
 (.seq
 (.reg false [⟨23, .mv (.t 0), none, false⟩,
 ⟨24, .mv (.t 3), none, false⟩,
 ⟨25, .ix (.t 23) (.t 24), none, false⟩,
 ⟨26, .ca (.k (.cl 198 [])) [(.t 25)], none, false⟩,
 ⟨27, .nt (.t 26), none, false⟩,
 ⟨28, .mv (.t 27), none, false⟩,
 ⟨29, .mv (.t 0), (some (28, true)), false⟩,
 ⟨30, .mv (.t 3), (some (28, true)), false⟩,
 ⟨31, .ix (.t 29) (.t 30), (some (28, true)), false⟩,
 ⟨32, .ca (.k (.cl 199 [])) [(.t 31)], (some (28, true)), false⟩,
 ⟨33, .nt (.t 32), (some (28, true)), false⟩,
 ⟨34, .pk (.t 28) (.t 33) (.k (.sc (.bool false))), none, false⟩])
 (.ite (.t 34)
 (.seq
 (.reg false [⟨2, .mv (.k (.sc (.bool false))), none, false⟩])
 .ret)
 .skip)))
 (.reg false [⟨21, .mv (.t 3), none, false⟩,
 ⟨22, .ar .add false (.t 21) (.k (.sc (.int .i64 1))), none, false⟩,
 ⟨3, .mv (.t 22), none, false⟩])))
def b142_1 : IC := w142_1
theorem u142_1 (call : CallF) (st : St) : evC call b142_1 st = evC call w142_1 st := rfl
attribute [simp] u142_1 w142_1
def i142 : Ev.Fn := ⟨1, 35, [.tmp 2],
 (.seq
 (.reg false [⟨2, .mv (.k (.sc (.bool false))), none, false⟩])
 (.seq
 (.seq
 (.reg false [⟨4, .mv (.t 0), none, false⟩,
 ⟨5, .ar .eql false (.t 4) (.k (.sc (.string ⟨#[]⟩))), none, false⟩,
 ⟨6, .mv (.t 5), none, false⟩,
 ⟨7, .mv (.t 0), (some (6, false)), false⟩,
 ⟨8, .ln true (.t 7), (some (6, false)), false⟩,
 ⟨9, .ar .gtr false (.t 8) (.k (.sc (.int .i64 10))), (some (6, false)), false⟩,
 ⟨10, .pk (.t 6) (.k (.sc (.bool true))) (.t 9), none, false⟩,
 ⟨11, .mv (.t 10), none, false⟩,
 ⟨12, .mv (.t 0), (some (11, false)), false⟩,
 ⟨13, .ix (.t 12) (.k (.sc (.int .i64 0))), (some (11, false)), false⟩,
 ⟨14, .ca (.k (.cl 198 [])) [(.t 13)], (some (11, false)), false⟩,
 ⟨15, .nt (.t 14), (some (11, false)), false⟩,
 ⟨16, .pk (.t 11) (.k (.sc (.bool true))) (.t 15), none, false⟩])
 (.ite (.t 16)
 (.seq
 (.reg false [⟨2, .mv (.k (.sc (.bool false))), none, false⟩])
 .ret)
 .skip))
 (.seq
 (.seq
 (.reg false [⟨3, .mv (.k (.sc (.int .i64 0))), none, false⟩])
 (.cln [] [2]
 (.block 0
 (.loop [0, 3] b142_1))))
 (.seq
 (.reg false [⟨2, .mv (.k (.sc (.bool true))), none, false⟩])
 .ret))))⟩
attribute [simp] i142
set_option maxRecDepth 1000000 in
theorem c142 : cFn Try.prog 142 [[], [0, 3], [], [2]] = some i142 := by kernel_rfl
theorem e142 : enterOk Try.prog 142 = true := by kernel_rfl
def w148_1 : IC :=
(.seq
 (.seq
 (.reg false [⟨22, .mv (.t 3), none, false⟩,
 ⟨23, .mv (.t 0), none, false⟩,
 ⟨24, .ln true (.t 23), none, false⟩,
 ⟨25, .ar .lss false (.t 22) (.t 24), none, false⟩])
 (.ite (.t 25)
 .skip
 (.exit 0)))
 (.seq
 (.block 1
 (.seq
 (.reg false [⟨28, .mv (.t 0), none, false⟩,
 ⟨29, .mv (.t 3), none, false⟩,
 ⟨30, .ix (.t 28) (.t 29), none, false⟩,
 ⟨31, .ar .lss false (.t 30) (.k (.sc (.int .u8 97))), none, false⟩,
 ⟨32, .mv (.t 31), none, false⟩,
 ⟨33, .mv (.t 0), (some (32, false)), false⟩,
 ⟨34, .mv (.t 3), (some (32, false)), false⟩,
 ⟨35, .ix (.t 33) (.t 34), (some (32, false)), false⟩,
 ⟨36, .ar .gtr false (.t 35) (.k (.sc (.int .u8 122))), (some (32, false)), false⟩,
 ⟨37, .pk (.t 32) (.k (.sc (.bool true))) (.t 36), none, false⟩,
 ⟨38, .mv (.t 37), none, false⟩,
 ⟨39, .mv (.t 0), (some (38, true)), false⟩,
 ⟨40, .mv (.t 3), (some (38, true)), false⟩,
 ⟨41, .ix (.t 39) (.t 40), (some (38, true)), false⟩,
 ⟨42, .ar .lss false (.t 41) (.k (.sc (.int .u8 48))), (some (38, true)), false⟩,
 ⟨43, .mv (.t 42), (some (38, true)), false⟩,
 ⟨44, .mv (.t 0), (some (43, false)), false⟩,
 ⟨45, .mv (.t 3), (some (43, false)), false⟩,
 ⟨46, .ix (.t 44) (.t 45), (some (43, false)), false⟩,
 ⟨47, .ar .gtr false (.t 46) (.k (.sc (.int .u8 57))), (some (43, false)), false⟩,
 ⟨48, .pk (.t 43) (.k (.sc (.bool true))) (.t 47), (some (38, true)), false⟩,
 ⟨49, .pk (.t 38) (.t 48) (.k (.sc (.bool false))), none, false⟩])
 (.ite (.t 49)
 (.seq
 (.reg false [⟨2, .mv (.k (.sc (.bool false))), none, false⟩])
 .ret)
 .skip)))
 (.reg false [⟨26, .mv (.t 3), none, false⟩,
 ⟨27, .ar .add false (.t 26) (.k (.sc (.int .i64 1))), none, false⟩,
 ⟨3, .mv (.t 27), none, false⟩])))
def b148_1 : IC := w148_1
theorem u148_1 (call : CallF) (st : St) : evC call b148_1 st = evC call w148_1 st := rfl
attribute [simp] u148_1 w148_1
def i148 : Ev.Fn := ⟨1, 50, [.tmp 2],
 (.seq
 (.reg false [⟨2, .mv (.k (.sc (.bool false))), none, false⟩])
 (.seq
 (.seq
 (.reg false [⟨4, .mv (.t 0), none, false⟩,
 ⟨5, .ln true (.t 4), none, false⟩,
 ⟨6, .ar .lss false (.t 5) (.k (.sc (.int .i64 1))), none, false⟩,
 ⟨7, .mv (.t 6), none, false⟩,
 ⟨8, .mv (.t 0), (some (7, false)), false⟩,
 ⟨9, .ln true (.t 8), (some (7, false)), false⟩,
 ⟨10, .ar .gtr false (.t 9) (.k (.sc (.int .i64 10))), (some (7, false)), false⟩,
 ⟨11, .pk (.t 7) (.k (.sc (.bool true))) (.t 10), none, false⟩,
 ⟨12, .mv (.t 11), none, false⟩,
 ⟨13, .mv (.t 0), (some (12, false)), false⟩,
 ⟨14, .ix (.t 13) (.k (.sc (.int .i64 0))), (some (12, false)), false⟩,
 ⟨15, .ar .lss false (.t 14) (.k (.sc (.int .u8 97))), (some (12, false)), false⟩,
 ⟨16, .pk (.t 12) (.k (.sc (.bool true))) (.t 15), none, false⟩,
 ⟨17, .mv (.t 16), none, false⟩,
 ⟨18, .mv (.t 0), (some (17, false)), false⟩,
 ⟨19, .ix (.t 18) (.k (.sc (.int .i64 0))), (some (17, false)), false⟩,
 ⟨20, .ar .gtr false (.t 19) (.k (.sc (.int .u8 122))), (some (17, false)), false⟩,
 ⟨21, .pk (.t 17) (.k (.sc (.bool true))) (.t 20), none, false⟩])
 (.ite (.t 21)
 (.seq
 (.reg false [⟨2, .mv (.k (.sc (.bool false))), none, false⟩])
 .ret)
 .skip))
 (.seq
 (.seq
 (.reg false [⟨3, .mv (.k (.sc (.int .i64 0))), none, false⟩])
 (.cln [] [2]
 (.block 0
 (.loop [0, 3] b148_1))))
 (.seq
 (.reg false [⟨2, .mv (.k (.sc (.bool true))), none, false⟩])
 .ret))))⟩
attribute [simp] i148
set_option maxRecDepth 1000000 in
theorem c148 : cFn Try.prog 148 [[], [0, 3], [], [2]] = some i148 := by kernel_rfl
theorem e148 : enterOk Try.prog 148 = true := by kernel_rfl
def i153 : Ev.Fn := ⟨2, 10, [.tmp 4],
 (.seq
 (.reg false [⟨4, .mv (.k (.sc (.int .i64 0))), none, false⟩])
 (.seq
 (.seq
 (.reg false [⟨5, .mv (.t 0), none, false⟩,
 ⟨6, .mv (.t 1), none, false⟩,
 ⟨7, .ar .gtr false (.t 5) (.t 6), none, false⟩])
 (.ite (.t 7)
 (.seq
 (.reg false [⟨8, .mv (.t 0), none, false⟩,
 ⟨4, .mv (.t 8), none, false⟩])
 .ret)
 .skip))
 (.seq
 (.reg false [⟨9, .mv (.t 1), none, false⟩,
 ⟨4, .mv (.t 9), none, false⟩])
 .ret)))⟩
attribute [simp] i153
set_option maxRecDepth 1000000 in
theorem c153 : cFn Try.prog 153 [[]] = some i153 := by kernel_rfl
theorem e153 : enterOk Try.prog 153 = true := by kernel_rfl
def i155 : Ev.Fn := ⟨2, 10, [.tmp 4],
 (.seq
 (.reg false [⟨4, .mv (.k (.sc (.int .i64 0))), none, false⟩])
 (.seq
 (.seq
 (.reg false [⟨5, .mv (.t 0), none, false⟩,
 ⟨6, .mv (.t 1), none, false⟩,
 ⟨7, .ar .lss false (.t 5) (.t 6), none, false⟩])
 (.ite (.t 7)
 (.seq
 (.reg false [⟨8, .mv (.t 0), none, false⟩,
 ⟨4, .mv (.t 8), none, false⟩])
 .ret)
 .skip))
 (.seq
 (.reg false [⟨9, .mv (.t 1), none, false⟩,
 ⟨4, .mv (.t 9), none, false⟩])
 .ret)))⟩
attribute [simp] i155
set_option maxRecDepth 1000000 in
theorem c155 : cFn Try.prog 155 [[]] = some i155 := by kernel_rfl
theorem e155 : enterOk Try.prog 155 = true := by kernel_rfl
def i161 : Ev.Fn := ⟨1, 11, [.tmp 2],
 (.seq
 (.reg false [⟨1, .bx (.t 0), none, false⟩,
 ⟨2, .mv (.k (.sc (.bool false))), none, false⟩])
 (.seq
 (.reg false [⟨3, .fa 0 (.t 1), none, false⟩,
 ⟨4, .ld 1 false (.t 3), none, false⟩,
 ⟨5, .ca (.k (.cl 135 [])) [(.t 4), (.k (.sc (.int .i64 0))), (.k (.sc (.int .i64 20000)))], none, false⟩,
 ⟨6, .mv (.t 5), none, false⟩,
 ⟨7, .fa 1 (.t 1), (some (6, true)), false⟩,
 ⟨8, .ld 1 false (.t 7), (some (6, true)), false⟩,
 ⟨9, .ca (.k (.cl 135 [])) [(.t 8), (.k (.sc (.int .i64 0))), (.k (.sc (.int .i64 20000)))], (some (6, true)), false⟩,
 ⟨10, .pk (.t 6) (.t 9) (.k (.sc (.bool false))), none, false⟩,
 ⟨2, .mv (.t 10), none, false⟩])
 .ret))⟩
attribute [simp] i161
set_option maxRecDepth 1000000 in
theorem c161 : cFn Try.prog 161 [[]] = some i161 := by kernel_rfl
theorem e161 : enterOk Try.prog 161 = true := by kernel_rfl
def i162 : Ev.Fn := ⟨3, 42, [.tmp 6],
 (.seq
 (.reg false [⟨3, .bx (.t 0), none, false⟩,
 ⟨4, .bx (.t 1), none, false⟩,
 ⟨5, .bx (.t 2), none, false⟩,
 ⟨6, .mv (.k (.sc (.bool false))), none, false⟩])
 (.seq
 (.reg true [⟨7, .ld 2 true (.t 3), none, false⟩,
 ⟨8, .ld 2 true (.t 4), none, false⟩,
 ⟨9, .ld 2 true (.t 5), none, false⟩,
 ⟨10, .ca (.k (.cl 213 [])) [(.t 7), (.t 8), (.t 9)], none, false⟩,
 ⟨11, .ar .eql false (.t 10) (.k (.sc (.int .i64 0))), none, false⟩,
 ⟨12, .mv (.t 11), none, false⟩,
 ⟨13, .fa 0 (.t 5), (some (12, true)), false⟩,
 ⟨14, .ld 1 false (.t 13), (some (12, true)), false⟩,
 ⟨15, .fa 0 (.t 3), (some (12, true)), false⟩,
 ⟨16, .ld 1 false (.t 15), (some (12, true)), false⟩,
 ⟨17, .fa 0 (.t 4), (some (12, true)), false⟩,
 ⟨18, .ld 1 false (.t 17), (some (12, true)), false⟩,
 ⟨19, .ca (.k (.cl 155 [])) [(.t 16), (.t 18)], (some (12, true)), false⟩,
 ⟨20, .fa 0 (.t 3), (some (12, true)), false⟩,
 ⟨21, .ld 1 false (.t 20), (some (12, true)), false⟩,
 ⟨22, .fa 0 (.t 4), (some (12, true)), false⟩,
 ⟨23, .ld 1 false (.t 22), (some (12, true)), false⟩,
 ⟨24, .ca (.k (.cl 153 [])) [(.t 21), (.t 23)], (some (12, true)), false⟩,
 ⟨25, .ca (.k (.cl 135 [])) [(.t 14), (.t 19), (.t 24)], (some (12, true)), false⟩,
 ⟨26, .pk (.t 12) (.t 25) (.k (.sc (.bool false))), none, false⟩,
 ⟨27, .mv (.t 26), none, false⟩,
 ⟨28, .fa 1 (.t 5), (some (27, true)), false⟩,
 ⟨29, .ld 1 false (.t 28), (some (27, true)), false⟩,
 ⟨30, .fa 1 (.t 3), (some (27, true)), false⟩,
 ⟨31, .ld 1 false (.t 30), (some (27, true)), false⟩,
 ⟨32, .fa 1 (.t 4), (some (27, true)), false⟩,
 ⟨33, .ld 1 false (.t 32), (some (27, true)), false⟩,
 ⟨34, .ca (.k (.cl 155 [])) [(.t 31), (.t 33)], (some (27, true)), false⟩,
 ⟨35, .fa 1 (.t 3), (some (27, true)), false⟩,
 ⟨36, .ld 1 false (.t 35), (some (27, true)), false⟩,
 ⟨37, .fa 1 (.t 4), (some (27, true)), false⟩,
 ⟨38, .ld 1 false (.t 37), (some (27, true)), false⟩,
 ⟨39, .ca (.k (.cl 153 [])) [(.t 36), (.t 38)], (some (27, true)), false⟩,
 ⟨40, .ca (.k (.cl 135 [])) [(.t 29), (.t 34), (.t 39)], (some (27, true)), false⟩,
 ⟨41, .pk (.t 27) (.t 40) (.k (.sc (.bool false))), none, false⟩,
 ⟨6, .mv (.t 41), none, false⟩])
 .ret))⟩
attribute [simp] i162
set_option maxRecDepth 1000000 in
theorem c162 : cFn Try.prog 162 [[]] = some i162 := by kernel_rfl
theorem e162 : enterOk Try.prog 162 = true := by kernel_rfl
def i163 : Ev.Fn := ⟨4, 38, [.tmp 8],
 (.seq
 (.reg false [⟨4, .bx (.t 0), none, false⟩,
 ⟨5, .bx (.t 1), none, false⟩,
 ⟨6, .bx (.t 2), none, false⟩,
 ⟨7, .bx (.t 3), none, false⟩,
 ⟨8, .mv (.k (.sc (.bool false))), none, false⟩])
 (.seq
 (.reg false [⟨9, .ld 2 true (.t 4), none, false⟩,
 ⟨10, .ld 2 true (.t 5), none, false⟩,
 ⟨11, .ld 2 true (.t 6), none, false⟩,
 ⟨12, .ld 2 true (.t 7), none, false⟩,
 ⟨13, .ca (.k (.cl 214 [])) [(.t 9), (.t 10), (.t 11), (.t 12)], none, false⟩,
 ⟨14, .mv (.t 13), none, false⟩,
 ⟨15, .ld 2 true (.t 4), (some (14, false)), false⟩,
 ⟨16, .ld 2 true (.t 5), (some (14, false)), false⟩,
 ⟨17, .ld 2 true (.t 6), (some (14, false)), false⟩,
 ⟨18, .ca (.k (.cl 162 [])) [(.t 15), (.t 16), (.t 17)], (some (14, false)), false⟩,
 ⟨19, .pk (.t 14) (.k (.sc (.bool true))) (.t 18), none, false⟩,
 ⟨20, .mv (.t 19), none, false⟩,
 ⟨21, .ld 2 true (.t 4), (some (20, false)), false⟩,
 ⟨22, .ld 2 true (.t 5), (some (20, false)), false⟩,
 ⟨23, .ld 2 true (.t 7), (some (20, false)), false⟩,
 ⟨24, .ca (.k (.cl 162 [])) [(.t 21), (.t 22), (.t 23)], (some (20, false)), false⟩,
 ⟨25, .pk (.t 20) (.k (.sc (.bool true))) (.t 24), none, false⟩,
 ⟨26, .mv (.t 25), none, false⟩,
 ⟨27, .ld 2 true (.t 6), (some (26, false)), false⟩,
 ⟨28, .ld 2 true (.t 7), (some (26, false)), false⟩,
 ⟨29, .ld 2 true (.t 4), (some (26, false)), false⟩,
 ⟨30, .ca (.k (.cl 162 [])) [(.t 27), (.t 28), (.t 29)], (some (26, false)), false⟩,
 ⟨31, .pk (.t 26) (.k (.sc (.bool true))) (.t 30), none, false⟩,
 ⟨32, .mv (.t 31), none, false⟩,
 ⟨33, .ld 2 true (.t 6), (some (32, false)), false⟩,
 ⟨34, .ld 2 true (.t 7), (some (32, false)), false⟩,
 ⟨35, .ld 2 true (.t 5), (some (32, false)), false⟩,
 ⟨36, .ca (.k (.cl 162 [])) [(.t 33), (.t 34), (.t 35)], (some (32, false)), false⟩,
 ⟨37, .pk (.t 32) (.k (.sc (.bool true))) (.t 36), none, false⟩,
 ⟨8, .mv (.t 37), none, false⟩])
 .ret))⟩
attribute [simp] i163
set_option maxRecDepth 1000000 in
theorem c163 : cFn Try.prog 163 [[]] = some i163 := by kernel_rfl
theorem e163 : enterOk Try.prog 163 = true := by kernel_rfl
def w164_1 : IC :=
(.seq
 (.seq
 (.reg false [⟨6, .mv (.t 4), none, false⟩,
 ⟨7, .mv (.t 0), none, false⟩,
 ⟨8, .ln false (.t 7), none, false⟩,
 ⟨9, .ar .lss false (.t 6) (.t 8), none, false⟩])
 (.ite (.t 9)
 .skip
 (.exit 0)))
 (.seq
 (.block 1
 (.seq
 (.reg false [⟨12, .mv (.t 0), none, false⟩,
 ⟨13, .mv (.t 4), none, false⟩,
 ⟨14, .ar .add false (.t 13) (.k (.sc (.int .i64 1))), none, false⟩,
 ⟨15, .mv (.t 0), none, false⟩,
 ⟨16, .ln false (.t 15), none, false⟩,
 ⟨17, .ar .rem false (.t 14) (.t 16), none, false⟩,
 ⟨18, .ia 2 (.t 12) (.t 17), none, false⟩,
 ⟨19, .ld 2 true (.t 18), none, false⟩,
 ⟨5, .al [(.sc (.int .i64 0)), (.sc (.int .i64 0))], none, false⟩,
 ⟨1, .so 2 (.t 5) (.t 19), none, true⟩])
 (.reg true [⟨20, .mv (.t 3), none, false⟩,
 ⟨21, .mv (.t 0), none, false⟩,
 ⟨22, .mv (.t 4), none, false⟩,
 ⟨23, .ia 2 (.t 21) (.t 22), none, false⟩,
 ⟨24, .fa 0 (.t 23), none, false⟩,
 ⟨25, .ld 1 false (.t 24), none, false⟩,
 ⟨26, .fa 1 (.t 5), none, false⟩,
 ⟨27, .ld 1 false (.t 26), none, false⟩,
 ⟨28, .ar .mul false (.t 25) (.t 27), none, false⟩,
 ⟨29, .mv (.t 0), none, false⟩,
 ⟨30, .mv (.t 4), none, false⟩,
 ⟨31, .ia 2 (.t 29) (.t 30), none, false⟩,
 ⟨32, .fa 1 (.t 31), none, false⟩,
 ⟨33, .ld 1 false (.t 32), none, false⟩,
 ⟨34, .fa 0 (.t 5), none, false⟩,
 ⟨35, .ld 1 false (.t 34), none, false⟩,
 ⟨36, .ar .mul false (.t 33) (.t 35), none, false⟩,
 ⟨37, .ar .sub false (.t 28) (.t 36), none, false⟩,
 ⟨38, .ar .add false (.t 20) (.t 37), none, false⟩,
 ⟨3, .mv (.t 38), none, false⟩])))
 (.reg false [⟨10, .mv (.t 4), none, false⟩,
 ⟨11, .ar .add false (.t 10) (.k (.sc (.int .i64 1))), none, false⟩,
 ⟨4, .mv (.t 11), none, false⟩])))
def b164_1 : IC := w164_1
theorem u164_1 (call : CallF) (st : St) : evC call b164_1 st = evC call w164_1 st := rfl
attribute [simp] u164_1 w164_1
def i164 : Ev.Fn := ⟨1, 40, [.tmp 2],
 (.seq
 (.reg false [⟨2, .mv (.k (.sc (.int .i64 0))), none, false⟩])
 (.seq
 (.reg false [⟨3, .mv (.k (.sc (.int .i64 0))), none, false⟩])
 (.seq
 (.seq
 (.reg false [⟨4, .mv (.k (.sc (.int .i64 0))), none, false⟩])
 (.cln [3] [2]
 (.block 0
 (.loop [0, 3, 4] b164_1))))
 (.seq
 (.reg false [⟨39, .mv (.t 3), none, false⟩,
 ⟨2, .mv (.t 39), none, false⟩])
 .ret))))⟩
attribute [simp] i164
set_option maxRecDepth 1000000 in
theorem c164 : cFn Try.prog 164 [[], [0, 3, 4], [3], [2]] = some i164 := by kernel_rfl
theorem e164 : enterOk Try.prog 164 = true := by kernel_rfl
def w168_1 : IC :=
(.seq
 (.reg false [⟨8, .ar .lss false (.t 7) (.t 6), none, false⟩])
 (.seq
 (.ite (.t 8)
 .skip
 (.exit 0))
 (.seq
 (.block 1
 (.seq
 (.reg false [⟨9, .ia 2 (.t 5) (.t 7), none, false⟩,
 ⟨10, .ld 2 true (.t 9), none, false⟩,
 ⟨4, .al [(.sc (.int .i64 0)), (.sc (.int .i64 0))], none, false⟩,
 ⟨1, .so 2 (.t 4) (.t 10), none, true⟩])
 (.seq
 (.reg false [⟨11, .ld 2 true (.t 4), none, false⟩,
 ⟨12, .ca (.k (.cl 217 [])) [(.t 11)], none, false⟩,
 ⟨13, .nt (.t 12), none, false⟩])
 (.ite (.t 13)
 (.seq
 (.reg false [⟨2, .mv (.k (.sc (.bool false))), none, false⟩])
 .ret)
 .skip))))
 (.reg false [⟨14, .ar .add false (.t 7) (.k (.sc (.int .i64 1))), none, false⟩,
 ⟨7, .mv (.t 14), none, false⟩]))))
def b168_1 : IC := w168_1
theorem u168_1 (call : CallF) (st : St) : evC call b168_1 st = evC call w168_1 st := rfl
attribute [simp] u168_1 w168_1
def i168 : Ev.Fn := ⟨1, 15, [.tmp 2],
 (.seq
 (.reg false [⟨2, .mv (.k (.sc (.bool false))), none, false⟩])
 (.seq
 (.seq
 (.reg false [⟨5, .mv (.t 0), none, false⟩,
 ⟨6, .ln false (.t 5), none, false⟩,
 ⟨7, .mv (.k (.sc (.int .i64 0))), none, false⟩])
 (.cln [] [2]
 (.block 0
 (.loop [5, 6, 7] b168_1))))
 (.seq
 (.reg false [⟨2, .mv (.k (.sc (.bool true))), none, false⟩])
 .ret)))⟩
attribute [simp] i168
set_option maxRecDepth 1000000 in
theorem c168 : cFn Try.prog 168 [[], [5, 6, 7], [], [2]] = some i168 := by kernel_rfl
theorem e168 : enterOk Try.prog 168 = true := by kernel_rfl
def i169 : Ev.Fn := ⟨3, 42, [.tmp 6],
 (.seq
 (.reg false [⟨3, .bx (.t 0), none, false⟩,
 ⟨4, .bx (.t 1), none, false⟩,
 ⟨5, .bx (.t 2), none, false⟩,
 ⟨6, .mv (.k (.sc (.bool false))), none, false⟩])
 (.seq
 (.reg false [⟨7, .ld 2 true (.t 3), none, false⟩,
 ⟨8, .ld 2 true (.t 4), none, false⟩,
 ⟨9, .ld 2 true (.t 5), none, false⟩,
 ⟨10, .ca (.k (.cl 218 [])) [(.t 7), (.t 8), (.t 9)], none, false⟩,
 ⟨11, .ar .eql false (.t 10) (.k (.sc (.int .i64 0))), none, false⟩,
 ⟨12, .mv (.t 11), none, false⟩,
 ⟨13, .fa 0 (.t 5), (some (12, true)), false⟩,
 ⟨14, .ld 1 false (.t 13), (some (12, true)), false⟩,
 ⟨15, .fa 0 (.t 3), (some (12, true)), false⟩,
 ⟨16, .ld 1 false (.t 15), (some (12, true)), false⟩,
 ⟨17, .fa 0 (.t 4), (some (12, true)), false⟩,
 ⟨18, .ld 1 false (.t 17), (some (12, true)), false⟩,
 ⟨19, .mn (.t 16) (.t 18), (some (12, true)), false⟩,
 ⟨20, .fa 0 (.t 3), (some (12, true)), false⟩,
 ⟨21, .ld 1 false (.t 20), (some (12, true)), false⟩,
 ⟨22, .fa 0 (.t 4), (some (12, true)), false⟩,
 ⟨23, .ld 1 false (.t 22), (some (12, true)), false⟩,
 ⟨24, .mx (.t 21) (.t 23), (some (12, true)), false⟩,
 ⟨25, .ca (.k (.cl 75 [])) [(.t 14), (.t 19), (.t 24)], (some (12, true)), false⟩,
 ⟨26, .pk (.t 12) (.t 25) (.k (.sc (.bool false))), none, false⟩,
 ⟨27, .mv (.t 26), none, false⟩,
 ⟨28, .fa 1 (.t 5), (some (27, true)), false⟩,
 ⟨29, .ld 1 false (.t 28), (some (27, true)), false⟩,
 ⟨30, .fa 1 (.t 3), (some (27, true)), false⟩,
 ⟨31, .ld 1 false (.t 30), (some (27, true)), false⟩,
 ⟨32, .fa 1 (.t 4), (some (27, true)), false⟩,
 ⟨33, .ld 1 false (.t 32), (some (27, true)), false⟩,
 ⟨34, .mn (.t 31) (.t 33), (some (27, true)), false⟩,
 ⟨35, .fa 1 (.t 3), (some (27, true)), false⟩,
 ⟨36, .ld 1 false (.t 35), (some (27, true)), false⟩,
 ⟨37, .fa 1 (.t 4), (some (27, true)), false⟩,
 ⟨38, .ld 1 false (.t 37), (some (27, true)), false⟩,
 ⟨39, .mx (.t 36) (.t 38), (some (27, true)), false⟩,
 ⟨40, .ca (.k (.cl 75 [])) [(.t 29), (.t 34), (.t 39)], (some (27, true)), false⟩,
 ⟨41, .pk (.t 27) (.t 40) (.k (.sc (.bool false))), none, false⟩,
 ⟨6, .mv (.t 41), none, false⟩])
 .ret))⟩
attribute [simp] i169
set_option maxRecDepth 1000000 in
theorem c169 : cFn Try.prog 169 [[]] = some i169 := by kernel_rfl
theorem e169 : enterOk Try.prog 169 = true := by kernel_rfl
def i170 : Ev.Fn := ⟨4, 38, [.tmp 8],
 (.seq
 (.reg false [⟨4, .bx (.t 0), none, false⟩,
 ⟨5, .bx (.t 1), none, false⟩,
 ⟨6, .bx (.t 2), none, false⟩,
 ⟨7, .bx (.t 3), none, false⟩,
 ⟨8, .mv (.k (.sc (.bool false))), none, false⟩])
 (.seq
 (.reg false [⟨9, .ld 2 true (.t 4), none, false⟩,
 ⟨10, .ld 2 true (.t 5), none, false⟩,
 ⟨11, .ld 2 true (.t 6), none, false⟩,
 ⟨12, .ld 2 true (.t 7), none, false⟩,
 ⟨13, .ca (.k (.cl 219 [])) [(.t 9), (.t 10), (.t 11), (.t 12)], none, false⟩,
 ⟨14, .mv (.t 13), none, false⟩,
 ⟨15, .ld 2 true (.t 4), (some (14, false)), false⟩,
 ⟨16, .ld 2 true (.t 5), (some (14, false)), false⟩,
 ⟨17, .ld 2 true (.t 6), (some (14, false)), false⟩,
 ⟨18, .ca (.k (.cl 169 [])) [(.t 15), (.t 16), (.t 17)], (some (14, false)), false⟩,
 ⟨19, .pk (.t 14) (.k (.sc (.bool true))) (.t 18), none, false⟩,
 ⟨20, .mv (.t 19), none, false⟩,
 ⟨21, .ld 2 true (.t 4), (some (20, false)), false⟩,
 ⟨22, .ld 2 true (.t 5), (some (20, false)), false⟩,
 ⟨23, .ld 2 true (.t 7), (some (20, false)), false⟩,
 ⟨24, .ca (.k (.cl 169 [])) [(.t 21), (.t 22), (.t 23)], (some (20, false)), false⟩,
 ⟨25, .pk (.t 20) (.k (.sc (.bool true))) (.t 24), none, false⟩,
 ⟨26, .mv (.t 25), none, false⟩,
 ⟨27, .ld 2 true (.t 6), (some (26, false)), false⟩,
 ⟨28, .ld 2 true (.t 7), (some (26, false)), false⟩,
 ⟨29, .ld 2 true (.t 4), (some (26, false)), false⟩,
 ⟨30, .ca (.k (.cl 169 [])) [(.t 27), (.t 28), (.t 29)], (some (26, false)), false⟩,
 ⟨31, .pk (.t 26) (.k (.sc (.bool true))) (.t 30), none, false⟩,
 ⟨32, .mv (.t 31), none, false⟩,
 ⟨33, .ld 2 true (.t 6), (some (32, false)), false⟩,
 ⟨34, .ld 2 true (.t 7), (some (32, false)), false⟩,
 ⟨35, .ld 2 true (.t 5), (some (32, false)), false⟩,
 ⟨36, .ca (.k (.cl 169 [])) [(.t 33), (.t 34), (.t 35)], (some (32, false)), false⟩,
 ⟨37, .pk (.t 32) (.k (.sc (.bool true))) (.t 36), none, false⟩,
 ⟨8, .mv (.t 37), none, false⟩])
 .ret))⟩
attribute [simp] i170
set_option maxRecDepth 1000000 in
theorem c170 : cFn Try.prog 170 [[]] = some i170 := by kernel_rfl
theorem e170 : enterOk Try.prog 170 = true := by kernel_rfl
def w171_1 : IC :=
(.seq
 (.reg false [⟨10, .ar .lss false (.t 9) (.t 8), none, false⟩])
 (.seq
 (.ite (.t 10)
 .skip
 (.exit 0))
 (.seq
 (.block 1
 (.seq
 (.reg false [⟨11, .mv (.t 9), none, false⟩,
 ⟨12, .ia 2 (.t 7) (.t 9), none, false⟩,
 ⟨13, .ld 2 true (.t 12), none, false⟩,
 ⟨5, .al [(.sc (.int .i64 0)), (.sc (.int .i64 0))], none, false⟩,
 ⟨4, .mv (.t 11), none, false⟩,
 ⟨1, .so 2 (.t 5) (.t 13), none, true⟩])
 (.seq
 (.reg false [⟨14, .mv (.t 0), none, false⟩,
 ⟨15, .mv (.t 4), none, false⟩,
 ⟨16, .ar .add false (.t 15) (.k (.sc (.int .i64 1))), none, false⟩,
 ⟨17, .mv (.t 0), none, false⟩,
 ⟨18, .ln false (.t 17), none, false⟩,
 ⟨19, .ar .rem false (.t 16) (.t 18), none, false⟩,
 ⟨20, .ia 2 (.t 14) (.t 19), none, false⟩,
 ⟨21, .ld 2 true (.t 20), none, false⟩,
 ⟨6, .al [(.sc (.int .i64 0)), (.sc (.int .i64 0))], none, false⟩,
 ⟨1, .so 2 (.t 6) (.t 21), none, true⟩])
 (.reg false [⟨22, .mv (.t 3), none, false⟩,
 ⟨23, .fa 0 (.t 5), none, false⟩,
 ⟨24, .ld 1 false (.t 23), none, false⟩,
 ⟨25, .fa 1 (.t 6), none, false⟩,
 ⟨26, .ld 1 false (.t 25), none, false⟩,
 ⟨27, .ar .mul false (.t 24) (.t 26), none, false⟩,
 ⟨28, .fa 1 (.t 5), none, false⟩,
 ⟨29, .ld 1 false (.t 28), none, false⟩,
 ⟨30, .fa 0 (.t 6), none, false⟩,
 ⟨31, .ld 1 false (.t 30), none, false⟩,
 ⟨32, .ar .mul false (.t 29) (.t 31), none, false⟩,
 ⟨33, .ar .sub false (.t 27) (.t 32), none, false⟩,
 ⟨34, .ar .add false (.t 22) (.t 33), none, false⟩,
 ⟨3, .mv (.t 34), none, false⟩]))))
 (.reg false [⟨35, .ar .add false (.t 9) (.k (.sc (.int .i64 1))), none, false⟩,
 ⟨9, .mv (.t 35), none, false⟩]))))
def b171_1 : IC := w171_1
theorem u171_1 (call : CallF) (st : St) : evC call b171_1 st = evC call w171_1 st := rfl
attribute [simp] u171_1 w171_1
def i171 : Ev.Fn := ⟨1, 37, [.tmp 2],
 (.seq
 (.reg false [⟨2, .mv (.k (.sc (.int .i64 0))), none, false⟩])
 (.seq
 (.reg false [⟨3, .mv (.k (.sc (.int .i64 0))), none, false⟩])
 (.seq
 (.seq
 (.reg false [⟨7, .mv (.t 0), none, false⟩,
 ⟨8, .ln false (.t 7), none, false⟩,
 ⟨9, .mv (.k (.sc (.int .i64 0))), none, false⟩])
 (.cln [3] [2]
 (.block 0
 (.loop [0, 3, 7, 8, 9] b171_1))))
 (.seq
 (.reg false [⟨36, .mv (.t 3), none, false⟩,
 ⟨2, .mv (.t 36), none, false⟩])
 .ret))))⟩
attribute [simp] i171
set_option maxRecDepth 1000000 in
theorem c171 : cFn Try.prog 171 [[], [0, 3, 7, 8, 9], [3], [2]] = some i171 := by kernel_rfl
theorem e171 : enterOk Try.prog 171 = true := by kernel_rfl
def i175 : Ev.Fn := ⟨2, 19, [.tmp 4],
 (.seq
 (.reg false [⟨2, .bx (.t 0), none, false⟩,
 ⟨4, .mv (.k (.sc (.int .i64 0))), none, false⟩])
 (.seq
 (.reg false [⟨5, .mv (.t 1), none, false⟩,
 ⟨6, .fa 0 (.t 2), none, false⟩,
 ⟨7, .ld 1 false (.t 6), none, false⟩,
 ⟨8, .ln true (.t 7), none, false⟩,
 ⟨9, .ar .sub false (.t 5) (.t 8), none, false⟩,
 ⟨1, .mv (.t 9), none, false⟩])
 (.seq
 (.seq
 (.reg false [⟨10, .mv (.t 1), none, false⟩,
 ⟨11, .ar .lss false (.t 10) (.k (.sc (.int .i64 0))), none, false⟩])
 (.ite (.t 11)
 (.seq
 (.reg false [⟨4, .mv (.k (.sc (.int .i64 (-1)))), none, false⟩])
 .ret)
 .skip))
 (.seq
 (.reg false [⟨12, .fa 1 (.t 2), none, false⟩,
 ⟨13, .ld 1 false (.t 12), none, false⟩,
 ⟨14, .mv (.t 1), none, false⟩,
 ⟨15, .ca (.k (.cl 222 [])) [(.t 13), (.t 14)], none, false⟩,
 ⟨1, .mv (.t 15), none, false⟩])
 (.seq
 (.seq
 (.reg false [⟨16, .mv (.t 1), none, false⟩,
 ⟨17, .ar .lss false (.t 16) (.k (.sc (.int .i64 0))), none, false⟩])
 (.ite (.t 17)
 (.seq
 (.reg false [⟨4, .mv (.k (.sc (.int .i64 (-1)))), none, false⟩])
 .ret)
 .skip))
 (.seq
 (.reg false [⟨18, .mv (.t 1), none, false⟩,
 ⟨4, .mv (.t 18), none, false⟩])
 .ret))))))⟩
attribute [simp] i175
set_option maxRecDepth 1000000 in
theorem c175 : cFn Try.prog 175 [[]] = some i175 := by kernel_rfl
theorem e175 : enterOk Try.prog 175 = true := by kernel_rfl
def i179 : Ev.Fn := ⟨1, 12, [.cell 2 2 true],
 (.seq
 (.reg false [⟨1, .bx (.t 0), none, false⟩,
 ⟨2, .al [(.sc (.string ⟨#[]⟩)), .nl], none, false⟩])
 (.seq
 (.reg false [⟨3, .al [(.sc (.string ⟨#[]⟩)), .nl], none, false⟩])
 (.seq
 (.reg false [⟨4, .fa 0 (.t 1), none, false⟩,
 ⟨5, .ld 1 false (.t 4), none, false⟩,
 ⟨6, .fa 0 (.t 3), none, false⟩,
 ⟨1, .so 1 (.t 6) (.t 5), none, true⟩])
 (.seq
 (.reg false [⟨7, .fa 1 (.t 1), none, false⟩,
 ⟨8, .ld 1 false (.t 7), none, false⟩,
 ⟨9, .ca (.k (.cl 223 [])) [(.t 8)], none, false⟩,
 ⟨10, .fa 1 (.t 3), none, false⟩,
 ⟨1, .so 1 (.t 10) (.t 9), none, true⟩])
 (.seq
 (.reg false [⟨11, .ld 2 true (.t 3), none, false⟩,
 ⟨1, .so 2 (.t 2) (.t 11), none, true⟩])
 .ret)))))⟩
attribute [simp] i179
set_option maxRecDepth 1000000 in
theorem c179 : cFn Try.prog 179 [[]] = some i179 := by kernel_rfl
theorem e179 : enterOk Try.prog 179 = true := by kernel_rfl
def i182 : Ev.Fn := ⟨2, 16, [.tmp 4],
 (.seq
 (.reg false [⟨2, .bx (.t 0), none, false⟩,
 ⟨3, .bx (.t 1), none, false⟩,
 ⟨4, .mv (.k (.sc (.bool false))), none, false⟩])
 (.seq
 (.seq
 (.reg false [⟨5, .fa 0 (.t 2), none, false⟩,
 ⟨6, .ld 1 false (.t 5), none, false⟩,
 ⟨7, .fa 0 (.t 3), none, false⟩,
 ⟨8, .ld 1 false (.t 7), none, false⟩,
 ⟨9, .ar .neq false (.t 6) (.t 8), none, false⟩])
 (.ite (.t 9)
 (.seq
 (.reg false [⟨4, .mv (.k (.sc (.bool false))), none, false⟩])
 .ret)
 .skip))
 (.seq
 (.seq
 (.reg false [⟨10, .fa 1 (.t 2), none, false⟩,
 ⟨11, .ld 1 false (.t 10), none, false⟩,
 ⟨12, .fa 1 (.t 3), none, false⟩,
 ⟨13, .ld 1 false (.t 12), none, false⟩,
 ⟨14, .ca (.k (.cl 15 [])) [(.t 11), (.t 13)], none, false⟩,
 ⟨15, .nt (.t 14), none, false⟩])
 (.ite (.t 15)
 (.seq
 (.reg false [⟨4, .mv (.k (.sc (.bool false))), none, false⟩])
 .ret)
 .skip))
 (.seq
 (.reg false [⟨4, .mv (.k (.sc (.bool true))), none, false⟩])
 .ret))))⟩
attribute [simp] i182
set_option maxRecDepth 1000000 in
theorem c182 : cFn Try.prog 182 [[]] = some i182 := by kernel_rfl
theorem e182 : enterOk Try.prog 182 = true := by kernel_rfl
def w184_2 : IC :=
(.seq
 (.seq
 (.reg false [⟨50, .mv (.t 4), none, false⟩,
 ⟨51, .mv (.t 3), none, false⟩,
 ⟨52, .ar .lss false (.t 50) (.t 51), none, false⟩])
 (.ite (.t 52)
 .skip
 (.exit 2)))
 (.seq
 (.block 3
 (.seq
 (.reg true [⟨55, .mv (.t 0), none, false⟩,
 ⟨56, .nc (.t 55), none, false⟩,
 ⟨57, .fa 2 (.t 56), none, false⟩,
 ⟨58, .ld 1 false (.t 57), none, false⟩,
 ⟨59, .mv (.t 3), none, false⟩,
 ⟨60, .ia 2 (.t 58) (.t 59), none, false⟩,
 ⟨61, .ld 2 true (.t 60), none, false⟩,
 ⟨62, .mv (.t 0), none, false⟩,
 ⟨63, .nc (.t 62), none, false⟩,
 ⟨64, .fa 2 (.t 63), none, false⟩,
 ⟨65, .ld 1 false (.t 64), none, false⟩,
 ⟨66, .mv (.t 4), none, false⟩,
 ⟨67, .ia 2 (.t 65) (.t 66), none, false⟩,
 ⟨68, .ld 2 true (.t 67), none, false⟩,
 ⟨69, .eq false [1, 1] (.t 61) (.t 68), none, false⟩])
 (.ite (.t 69)
 (.seq
 (.reg false [⟨2, .mv (.k (.sc (.bool false))), none, false⟩])
 .ret)
 .skip)))
 (.reg false [⟨53, .mv (.t 4), none, false⟩,
 ⟨54, .ar .add false (.t 53) (.k (.sc (.int .i64 1))), none, false⟩,
 ⟨4, .mv (.t 54), none, false⟩])))
def b184_2 : IC := w184_2
theorem u184_2 (call : CallF) (st : St) : evC call b184_2 st = evC call w184_2 st := rfl
attribute [simp] u184_2 w184_2
def w184_1 : IC :=
(.seq
 (.seq
 (.reg false [⟨11, .mv (.t 3), none, false⟩,
 ⟨12, .mv (.t 0), none, false⟩,
 ⟨13, .nc (.t 12), none, false⟩,
 ⟨14, .fa 2 (.t 13), none, false⟩,
 ⟨15, .ld 1 false (.t 14), none, false⟩,
 ⟨16, .ln false (.t 15), none, false⟩,
 ⟨17, .ar .lss false (.t 11) (.t 16), none, false⟩])
 (.ite (.t 17)
 .skip
 (.exit 0)))
 (.seq
 (.block 1
 (.seq
 (.seq
 (.reg true [⟨20, .mv (.t 0), none, false⟩,
 ⟨21, .nc (.t 20), none, false⟩,
 ⟨22, .fa 2 (.t 21), none, false⟩,
 ⟨23, .ld 1 false (.t 22), none, false⟩,
 ⟨24, .mv (.t 3), none, false⟩,
 ⟨25, .ia 2 (.t 23) (.t 24), none, false⟩,
 ⟨26, .fa 0 (.t 25), none, false⟩,
 ⟨27, .ld 1 false (.t 26), none, false⟩,
 ⟨28, .mv (.t 0), none, false⟩,
 ⟨29, .nc (.t 28), none, false⟩,
 ⟨30, .fa 0 (.t 29), none, false⟩,
 ⟨31, .ld 1 false (.t 30), none, false⟩,
 ⟨32, .ca (.k (.cl 135 [])) [(.t 27), (.k (.sc (.int .i64 0))), (.t 31)], none, false⟩,
 ⟨33, .nt (.t 32), none, false⟩,
 ⟨34, .mv (.t 33), none, false⟩,
 ⟨35, .mv (.t 0), (some (34, false)), false⟩,
 ⟨36, .nc (.t 35), (some (34, false)), false⟩,
 ⟨37, .fa 2 (.t 36), (some (34, false)), false⟩,
 ⟨38, .ld 1 false (.t 37), (some (34, false)), false⟩,
 ⟨39, .mv (.t 3), (some (34, false)), false⟩,
 ⟨40, .ia 2 (.t 38) (.t 39), (some (34, false)), false⟩,
 ⟨41, .fa 1 (.t 40), (some (34, false)), false⟩,
 ⟨42, .ld 1 false (.t 41), (some (34, false)), false⟩,
 ⟨43, .mv (.t 0), (some (34, false)), false⟩,
 ⟨44, .nc (.t 43), (some (34, false)), false⟩,
 ⟨45, .fa 1 (.t 44), (some (34, false)), false⟩,
 ⟨46, .ld 1 false (.t 45), (some (34, false)), false⟩,
 ⟨47, .ca (.k (.cl 135 [])) [(.t 42), (.k (.sc (.int .i64 0))), (.t 46)], (some (34, false)), false⟩,
 ⟨48, .nt (.t 47), (some (34, false)), false⟩,
 ⟨49, .pk (.t 34) (.k (.sc (.bool true))) (.t 48), none, false⟩])
 (.ite (.t 49)
 (.seq
 (.reg false [⟨2, .mv (.k (.sc (.bool false))), none, false⟩])
 .ret)
 .skip))
 (.seq
 (.reg false [⟨4, .mv (.k (.sc (.int .i64 0))), none, false⟩])
 (.cln [0, 3] [2]
 (.block 2
 (.loop [0, 3, 4] b184_2))))))
 (.reg false [⟨18, .mv (.t 3), none, false⟩,
 ⟨19, .ar .add false (.t 18) (.k (.sc (.int .i64 1))), none, false⟩,
 ⟨3, .mv (.t 19), none, false⟩])))
def b184_1 : IC := w184_1
theorem u184_1 (call : CallF) (st : St) : evC call b184_1 st = evC call w184_1 st := rfl
attribute [simp] u184_1 w184_1
def i184 : Ev.Fn := ⟨1, 70, [.tmp 2],
 (.seq
 (.reg false [⟨2, .mv (.k (.sc (.bool false))), none, false⟩])
 (.seq
 (.seq
 (.reg false [⟨5, .mv (.t 0), none, false⟩,
 ⟨6, .nc (.t 5), none, false⟩,
 ⟨7, .fa 2 (.t 6), none, false⟩,
 ⟨8, .ld 1 false (.t 7), none, false⟩,
 ⟨9, .ln false (.t 8), none, false⟩,
 ⟨10, .ar .gtr false (.t 9) (.k (.sc (.int .i64 48))), none, false⟩])
 (.ite (.t 10)
 (.seq
 (.reg false [⟨2, .mv (.k (.sc (.bool false))), none, false⟩])
 .ret)
 .skip))
 (.seq
 (.seq
 (.reg false [⟨3, .mv (.k (.sc (.int .i64 0))), none, false⟩])
 (.cln [] [2]
 (.block 0
 (.loop [0, 3] b184_1))))
 (.seq
 (.reg false [⟨2, .mv (.k (.sc (.bool true))), none, false⟩])
 .ret))))⟩
attribute [simp] i184
set_option maxRecDepth 1000000 in
theorem c184 : cFn Try.prog 184 [[], [0, 3], [0, 3, 4], [0, 3], [2], [], [2]] = some i184 := by kernel_rfl
theorem e184 : enterOk Try.prog 184 = true := by kernel_rfl
def w185_1 : IC :=
(.seq
 (.seq
 (.reg false [⟨9, .mv (.t 7), none, false⟩,
 ⟨10, .mv (.t 1), none, false⟩,
 ⟨11, .ln false (.t 10), none, false⟩,
 ⟨12, .ar .lss false (.t 9) (.t 11), none, false⟩])
 (.ite (.t 12)
 .skip
 (.exit 0)))
 (.seq
 (.block 1
 (.seq
 (.seq
 (.reg true [⟨15, .mv (.t 1), none, false⟩,
 ⟨16, .mv (.t 7), none, false⟩,
 ⟨17, .ia 1 (.t 15) (.t 16), none, false⟩,
 ⟨18, .ld 1 false (.t 17), none, false⟩,
 ⟨19, .mv (.t 0), none, false⟩,
 ⟨20, .nc (.t 19), none, false⟩,
 ⟨21, .fa 2 (.t 20), none, false⟩,
 ⟨22, .ld 1 false (.t 21), none, false⟩,
 ⟨23, .ln false (.t 22), none, false⟩,
 ⟨24, .ar .sub false (.t 23) (.k (.sc (.int .i64 1))), none, false⟩,
 ⟨25, .ca (.k (.cl 135 [])) [(.t 18), (.k (.sc (.int .i64 0))), (.t 24)], none, false⟩,
 ⟨26, .nt (.t 25), none, false⟩])
 (.ite (.t 26)
 (.seq
 (.reg false [⟨4, .mv (.k .nl), none, false⟩,
 ⟨5, .mv (.k (.sc (.bool false))), none, false⟩])
 .ret)
 .skip))
 (.reg true [⟨27, .mv (.t 6), none, false⟩,
 ⟨28, .mv (.t 0), none, false⟩,
 ⟨29, .nc (.t 28), none, false⟩,
 ⟨30, .fa 2 (.t 29), none, false⟩,
 ⟨31, .ld 1 false (.t 30), none, false⟩,
 ⟨32, .mv (.t 1), none, false⟩,
 ⟨33, .mv (.t 7), none, false⟩,
 ⟨34, .ia 1 (.t 32) (.t 33), none, false⟩,
 ⟨35, .ld 1 false (.t 34), none, false⟩,
 ⟨36, .ia 2 (.t 31) (.t 35), none, false⟩,
 ⟨37, .ld 2 true (.t 36), none, false⟩,
 ⟨38, .bs 146 2 [(.sc (.int .i64 0)), (.sc (.int .i64 0))] 1 [(0, (.t 37))], none, false⟩,
 ⟨39, .ap 146 2 false (.t 27) (.t 38), none, false⟩,
 ⟨6, .mv (.t 39), none, false⟩])))
 (.reg false [⟨13, .mv (.t 7), none, false⟩,
 ⟨14, .ar .add false (.t 13) (.k (.sc (.int .i64 1))), none, false⟩,
 ⟨7, .mv (.t 14), none, false⟩])))
def b185_1 : IC := w185_1
theorem u185_1 (call : CallF) (st : St) : evC call b185_1 st = evC call w185_1 st := rfl
attribute [simp] u185_1 w185_1
def i185 : Ev.Fn := ⟨2, 41, [.tmp 4, .tmp 5],
 (.seq
 (.reg false [⟨4, .mv (.k .nl), none, false⟩,
 ⟨5, .mv (.k (.sc (.bool false))), none, false⟩])
 (.seq
 (.reg false [⟨8, .bs 146 2 [(.sc (.int .i64 0)), (.sc (.int .i64 0))] 0 [], none, false⟩,
 ⟨6, .mv (.t 8), none, false⟩])
 (.seq
 (.seq
 (.reg false [⟨7, .mv (.k (.sc (.int .i64 0))), none, false⟩])
 (.cln [6] [4, 5]
 (.block 0
 (.loop [0, 1, 6, 7] b185_1))))
 (.seq
 (.reg false [⟨40, .mv (.t 6), none, false⟩,
 ⟨4, .mv (.t 40), none, false⟩,
 ⟨5, .mv (.k (.sc (.bool true))), none, false⟩])
 .ret))))⟩
attribute [simp] i185
set_option maxRecDepth 1000000 in
theorem c185 : cFn Try.prog 185 [[], [0, 1, 6, 7], [6], [4, 5]] = some i185 := by kernel_rfl
theorem e185 : enterOk Try.prog 185 = true := by kernel_rfl
def i187 : Ev.Fn := ⟨2, 9, [.tmp 4],
 (.seq
 (.reg false [⟨3, .bx (.t 1), none, false⟩,
 ⟨4, .mv (.k (.sc (.bool false))), none, false⟩])
 (.seq
 (.reg false [⟨5, .mv (.t 0), none, false⟩,
 ⟨6, .ld 2 true (.t 3), none, false⟩,
 ⟨7, .ca (.k (.cl 227 [])) [(.t 5), (.t 6)], none, false⟩,
 ⟨8, .ar .geq false (.t 7) (.k (.sc (.int .i64 0))), none, false⟩,
 ⟨4, .mv (.t 8), none, false⟩])
 .ret))⟩
attribute [simp] i187
set_option maxRecDepth 1000000 in
theorem c187 : cFn Try.prog 187 [[]] = some i187 := by kernel_rfl
theorem e187 : enterOk Try.prog 187 = true := by kernel_rfl
def w188_1 : IC :=
(.seq
 (.reg false [⟨13, .ar .lss false (.t 12) (.t 11), none, false⟩])
 (.seq
 (.ite (.t 13)
 .skip
 (.exit 0))
 (.seq
 (.block 1
 (.seq
 (.reg false [⟨14, .ia 1 (.t 10) (.t 12), none, false⟩,
 ⟨15, .ld 1 false (.t 14), none, false⟩,
 ⟨8, .mv (.t 15), none, false⟩])
 (.seq
 (.seq
 (.reg false [⟨16, .mv (.t 8), none, false⟩,
 ⟨17, .mv (.t 0), none, false⟩,
 ⟨18, .ln false (.t 17), none, false⟩,
 ⟨19, .ar .sub false (.t 18) (.k (.sc (.int .i64 1))), none, false⟩,
 ⟨20, .ca (.k (.cl 75 [])) [(.t 16), (.k (.sc (.int .i64 0))), (.t 19)], none, false⟩,
 ⟨21, .nt (.t 20), none, false⟩])
 (.ite (.t 21)
 (.seq
 (.reg false [⟨4, .mv (.k .nl), none, false⟩,
 ⟨5, .mv (.k (.sc (.bool false))), none, false⟩])
 .ret)
 .skip))
 (.reg false [⟨22, .mv (.t 6), none, false⟩,
 ⟨23, .mv (.t 0), none, false⟩,
 ⟨24, .mv (.t 8), none, false⟩,
 ⟨25, .ia 2 (.t 23) (.t 24), none, false⟩,
 ⟨26, .ld 2 true (.t 25), none, false⟩,
 ⟨27, .bs 146 2 [(.sc (.int .i64 0)), (.sc (.int .i64 0))] 1 [(0, (.t 26))], none, false⟩,
 ⟨28, .ap 146 2 false (.t 22) (.t 27), none, false⟩,
 ⟨6, .mv (.t 28), none, false⟩]))))
 (.reg false [⟨29, .ar .add false (.t 12) (.k (.sc (.int .i64 1))), none, false⟩,
 ⟨12, .mv (.t 29), none, false⟩]))))
def b188_1 : IC := w188_1
theorem u188_1 (call : CallF) (st : St) : evC call b188_1 st = evC call w188_1 st := rfl
attribute [simp] u188_1 w188_1
def i188 : Ev.Fn := ⟨2, 31, [.tmp 4, .tmp 5],
 (.seq
 (.reg false [⟨4, .mv (.k .nl), none, false⟩,
 ⟨5, .mv (.k (.sc (.bool false))), none, false⟩])
 (.seq
 (.reg false [⟨9, .bs 146 2 [(.sc (.int .i64 0)), (.sc (.int .i64 0))] 0 [], none, false⟩,
 ⟨6, .mv (.t 9), none, false⟩])
 (.seq
 (.seq
 (.reg false [⟨10, .mv (.t 1), none, false⟩,
 ⟨11, .ln false (.t 10), none, false⟩,
 ⟨12, .mv (.k (.sc (.int .i64 0))), none, false⟩])
 (.cln [6] [4, 5]
 (.block 0
 (.loop [0, 6, 10, 11, 12] b188_1))))
 (.seq
 (.reg false [⟨30, .mv (.t 6), none, false⟩,
 ⟨4, .mv (.t 30), none, false⟩,
 ⟨5, .mv (.k (.sc (.bool true))), none, false⟩])
 .ret))))⟩
attribute [simp] i188
set_option maxRecDepth 1000000 in
theorem c188 : cFn Try.prog 188 [[], [0, 6, 10, 11, 12], [6], [4, 5]] = some i188 := by kernel_rfl
theorem e188 : enterOk Try.prog 188 = true := by kernel_rfl
def i189 : Ev.Fn := ⟨2, 9, [.tmp 4],
 (.seq
 (.reg false [⟨4, .mv (.k (.sc (.bool false))), none, false⟩])
 (.seq
 (.reg false [⟨5, .mv (.t 0), none, false⟩,
 ⟨6, .mv (.t 1), none, false⟩,
 ⟨7, .ca (.k (.cl 228 [])) [(.t 5), (.t 6)], none, false⟩,
 ⟨8, .ar .geq false (.t 7) (.k (.sc (.int .i64 0))), none, false⟩,
 ⟨4, .mv (.t 8), none, false⟩])
 .ret))⟩
attribute [simp] i189
set_option maxRecDepth 1000000 in
theorem c189 : cFn Try.prog 189 [[]] = some i189 := by kernel_rfl
theorem e189 : enterOk Try.prog 189 = true := by kernel_rfl
def i190 : Ev.Fn := ⟨1, 6, [.tmp 2],
 (.seq
 (.reg false [⟨1, .bx (.t 0), none, false⟩,
 ⟨2, .mv (.k (.sc (.bool false))), none, false⟩])
 (.seq
 (.reg false [⟨3, .ld 3 true (.t 1), none, false⟩,
 ⟨4, .ca (.k (.cl 74 [])) [(.t 3)], none, false⟩,
 ⟨5, .nt (.t 4), none, false⟩,
 ⟨2, .mv (.t 5), none, false⟩])
 .ret))⟩
attribute [simp] i190
set_option maxRecDepth 1000000 in
theorem c190 : cFn Try.prog 190 [[]] = some i190 := by kernel_rfl
theorem e190 : enterOk Try.prog 190 = true := by kernel_rfl
def i195 : Ev.Fn := ⟨0, 2, [.tmp 0],
 (.seq
 (.reg false [⟨0, .mv (.k .nl), none, false⟩])
 (.seq
 (.reg false [⟨1, .bs 9 1 [(.sc (.string ⟨#[]⟩))] 10 [(0, (.k (.sc (.string ⟨#[97, 115, 104]⟩)))), (1, (.k (.sc (.string ⟨#[98, 101, 101, 99, 104]⟩)))), (2, (.k (.sc (.string ⟨#[98, 105, 114, 99, 104]⟩)))), (3, (.k (.sc (.string ⟨#[99, 104, 101, 114, 114, 121]⟩)))), (4, (.k (.sc (.string ⟨#[101, 98, 111, 110, 121]⟩)))), (5, (.k (.sc (.string ⟨#[104, 111, 108, 108, 121]⟩)))), (6, (.k (.sc (.string ⟨#[109, 97, 112, 108, 101]⟩)))), (7, (.k (.sc (.string ⟨#[111, 97, 107]⟩)))), (8, (.k (.sc (.string ⟨#[114, 111, 115, 101, 119, 111, 111, 100]⟩)))), (9, (.k (.sc (.string ⟨#[119, 97, 108, 110, 117, 116]⟩))))], none, false⟩,
 ⟨0, .mv (.t 1), none, false⟩])
 .ret))⟩
attribute [simp] i195
set_option maxRecDepth 1000000 in
theorem c195 : cFn Try.prog 195 [[]] = some i195 := by kernel_rfl
theorem e195 : enterOk Try.prog 195 = true := by kernel_rfl
def i196 : Ev.Fn := ⟨1, 27, [.tmp 2, .tmp 3, .tmp 4, .tmp 5],
 (.seq
 (.reg false [⟨2, .mv (.k (.sc (.int .i64 0))), none, false⟩,
 ⟨3, .mv (.k (.sc (.int .i64 0))), none, false⟩,
 ⟨4, .mv (.k (.sc (.int .i64 0))), none, false⟩,
 ⟨5, .mv (.k (.sc (.int .i64 0))), none, false⟩])
 (.seq
 (.seq
 (.reg false [⟨6, .mv (.t 0), none, false⟩])
 (.block 0
 (.seq
 (.reg false [⟨8, .ar .eql false (.t 6) (.k (.sc (.string ⟨#[97, 115, 104]⟩))), none, false⟩,
 ⟨7, .mv (.t 8), none, false⟩])
 (.ite (.t 7)
 (.seq
 (.reg false [⟨2, .mv (.k (.sc (.int .i64 20))), none, false⟩,
 ⟨3, .mv (.k (.sc (.int .i64 40))), none, false⟩,
 ⟨4, .mv (.k (.sc (.int .i64 310))), none, false⟩,
 ⟨5, .mv (.k (.sc (.int .i64 0))), none, false⟩])
 .ret)
 (.seq
 (.reg false [⟨10, .ar .eql false (.t 6) (.k (.sc (.string ⟨#[98, 101, 101, 99, 104]⟩))), none, false⟩,
 ⟨9, .mv (.t 10), none, false⟩])
 (.ite (.t 9)
 (.seq
 (.reg false [⟨2, .mv (.k (.sc (.int .i64 35))), none, false⟩,
 ⟨3, .mv (.k (.sc (.int .i64 45))), none, false⟩,
 ⟨4, .mv (.k (.sc (.int .i64 410))), none, false⟩,
 ⟨5, .mv (.k (.sc (.int .i64 0))), none, false⟩])
 .ret)
 (.seq
 (.reg false [⟨12, .ar .eql false (.t 6) (.k (.sc (.string ⟨#[98, 105, 114, 99, 104]⟩))), none, false⟩,
 ⟨11, .mv (.t 12), none, false⟩])
 (.ite (.t 11)
 (.seq
 (.reg false [⟨2, .mv (.k (.sc (.int .i64 15))), none, false⟩,
 ⟨3, .mv (.k (.sc (.int .i64 33))), none, false⟩,
 ⟨4, .mv (.k (.sc (.int .i64 280))), none, false⟩,
 ⟨5, .mv (.k (.sc (.int .i64 0))), none, false⟩])
 .ret)
 (.seq
 (.reg false [⟨14, .ar .eql false (.t 6) (.k (.sc (.string ⟨#[99, 104, 101, 114, 114, 121]⟩))), none, false⟩,
 ⟨13, .mv (.t 14), none, false⟩])
 (.ite (.t 13)
 (.seq
 (.reg false [⟨2, .mv (.k (.sc (.int .i64 50))), none, false⟩,
 ⟨3, .mv (.k (.sc (.int .i64 36))), none, false⟩,
 ⟨4, .mv (.k (.sc (.int .i64 240))), none, false⟩,
 ⟨5, .mv (.k (.sc (.int .i64 0))), none, false⟩])
 .ret)
 (.seq
 (.reg false [⟨16, .ar .eql false (.t 6) (.k (.sc (.string ⟨#[101, 98, 111, 110, 121]⟩))), none, false⟩,
 ⟨15, .mv (.t 16), none, false⟩])
 (.ite (.t 15)
 (.seq
 (.reg false [⟨2, .mv (.k (.sc (.int .i64 95))), none, false⟩,
 ⟨3, .mv (.k (.sc (.int .i64 85))), none, false⟩,
 ⟨4, .mv (.k (.sc (.int .i64 270))), none, false⟩,
 ⟨5, .mv (.k (.sc (.int .i64 0))), none, false⟩])
 .ret)
 (.seq
 (.reg false [⟨18, .ar .eql false (.t 6) (.k (.sc (.string ⟨#[104, 111, 108, 108, 121]⟩))), none, false⟩,
 ⟨17, .mv (.t 18), none, false⟩])
 (.ite (.t 17)
 (.seq
 (.reg false [⟨2, .mv (.k (.sc (.int .i64 5))), none, false⟩,
 ⟨3, .mv (.k (.sc (.int .i64 35))), none, false⟩,
 ⟨4, .mv (.k (.sc (.int .i64 370))), none, false⟩,
 ⟨5, .mv (.k (.sc (.int .i64 0))), none, false⟩])
 .ret)
 (.seq
 (.reg false [⟨20, .ar .eql false (.t 6) (.k (.sc (.string ⟨#[109, 97, 112, 108, 101]⟩))), none, false⟩,
 ⟨19, .mv (.t 20), none, false⟩])
 (.ite (.t 19)
 (.seq
 (.reg false [⟨2, .mv (.k (.sc (.int .i64 10))), none, false⟩,
 ⟨3, .mv (.k (.sc (.int .i64 42))), none, false⟩,
 ⟨4, .mv (.k (.sc (.int .i64 290))), none, false⟩,
 ⟨5, .mv (.k (.sc (.int .i64 0))), none, false⟩])
 .ret)
 (.seq
 (.reg false [⟨22, .ar .eql false (.t 6) (.k (.sc (.string ⟨#[111, 97, 107]⟩))), none, false⟩,
 ⟨21, .mv (.t 22), none, false⟩])
 (.ite (.t 21)
 (.seq
 (.reg false [⟨2, .mv (.k (.sc (.int .i64 40))), none, false⟩,
 ⟨3, .mv (.k (.sc (.int .i64 40))), none, false⟩,
 ⟨4, .mv (.k (.sc (.int .i64 330))), none, false⟩,
 ⟨5, .mv (.k (.sc (.int .i64 0))), none, false⟩])
 .ret)
 (.seq
 (.reg false [⟨24, .ar .eql false (.t 6) (.k (.sc (.string ⟨#[114, 111, 115, 101, 119, 111, 111, 100]⟩))), none, false⟩,
 ⟨23, .mv (.t 24), none, false⟩])
 (.ite (.t 23)
 (.seq
 (.reg false [⟨2, .mv (.k (.sc (.int .i64 80))), none, false⟩,
 ⟨3, .mv (.k (.sc (.int .i64 60))), none, false⟩,
 ⟨4, .mv (.k (.sc (.int .i64 220))), none, false⟩,
 ⟨5, .mv (.k (.sc (.int .i64 0))), none, false⟩])
 .ret)
 (.seq
 (.reg false [⟨26, .ar .eql false (.t 6) (.k (.sc (.string ⟨#[119, 97, 108, 110, 117, 116]⟩))), none, false⟩,
 ⟨25, .mv (.t 26), none, false⟩])
 (.ite (.t 25)
 (.seq
 (.reg false [⟨2, .mv (.k (.sc (.int .i64 70))), none, false⟩,
 ⟨3, .mv (.k (.sc (.int .i64 38))), none, false⟩,
 ⟨4, .mv (.k (.sc (.int .i64 260))), none, false⟩,
 ⟨5, .mv (.k (.sc (.int .i64 0))), none, false⟩])
 .ret)
 .skip))))))))))))))))))))))
 (.seq
 (.reg false [⟨2, .mv (.k (.sc (.int .i64 0))), none, false⟩,
 ⟨3, .mv (.k (.sc (.int .i64 0))), none, false⟩,
 ⟨4, .mv (.k (.sc (.int .i64 0))), none, false⟩,
 ⟨5, .mv (.k (.sc (.int .i64 3))), none, false⟩])
 .ret)))⟩
attribute [simp] i196
set_option maxRecDepth 1000000 in
theorem c196 : cFn Try.prog 196 [[]] = some i196 := by kernel_rfl
theorem e196 : enterOk Try.prog 196 = true := by kernel_rfl
def i197 : Ev.Fn := ⟨1, 8, [.tmp 2],
 (.seq
 (.reg false [⟨2, .mv (.k .nl), none, false⟩])
 (.seq
 (.seq
 (.reg false [⟨3, .mv (.t 0), none, false⟩,
 ⟨4, .isn false (.t 3), none, false⟩])
 (.ite (.t 4)
 (.seq
 (.reg false [⟨2, .mv (.k .nl), none, false⟩])
 .ret)
 .skip))
 (.seq
 (.reg false [⟨5, .bs 146 2 [(.sc (.int .i64 0)), (.sc (.int .i64 0))] 0 [], none, false⟩,
 ⟨6, .mv (.t 0), none, false⟩,
 ⟨7, .ap 146 2 false (.t 5) (.t 6), none, false⟩,
 ⟨2, .mv (.t 7), none, false⟩])
 .ret)))⟩
attribute [simp] i197
set_option maxRecDepth 1000000 in
theorem c197 : cFn Try.prog 197 [[]] = some i197 := by kernel_rfl
theorem e197 : enterOk Try.prog 197 = true := by kernel_rfl
def i198 : Ev.Fn := ⟨1, 9, [.tmp 2],
 (.seq
 (.reg false [⟨2, .mv (.k (.sc (.bool false))), none, false⟩])
 (.seq
 (.reg false [⟨3, .mv (.t 0), none, false⟩,
 ⟨4, .ar .geq false (.t 3) (.k (.sc (.int .u8 97))), none, false⟩,
 ⟨5, .mv (.t 4), none, false⟩,
 ⟨6, .mv (.t 0), (some (5, true)), false⟩,
 ⟨7, .ar .leq false (.t 6) (.k (.sc (.int .u8 122))), (some (5, true)), false⟩,
 ⟨8, .pk (.t 5) (.t 7) (.k (.sc (.bool false))), none, false⟩,
 ⟨2, .mv (.t 8), none, false⟩])
 .ret))⟩
attribute [simp] i198
set_option maxRecDepth 1000000 in
theorem c198 : cFn Try.prog 198 [[]] = some i198 := by kernel_rfl
theorem e198 : enterOk Try.prog 198 = true := by kernel_rfl
def i199 : Ev.Fn := ⟨1, 9, [.tmp 2],
 (.seq
 (.reg false [⟨2, .mv (.k (.sc (.bool false))), none, false⟩])
 (.seq
 (.reg false [⟨3, .mv (.t 0), none, false⟩,
 ⟨4, .ar .geq false (.t 3) (.k (.sc (.int .u8 48))), none, false⟩,
 ⟨5, .mv (.t 4), none, false⟩,
 ⟨6, .mv (.t 0), (some (5, true)), false⟩,
 ⟨7, .ar .leq false (.t 6) (.k (.sc (.int .u8 57))), (some (5, true)), false⟩,
 ⟨8, .pk (.t 5) (.t 7) (.k (.sc (.bool false))), none, false⟩,
 ⟨2, .mv (.t 8), none, false⟩])
 .ret))⟩
attribute [simp] i199
set_option maxRecDepth 1000000 in
theorem c199 : cFn Try.prog 199 [[]] = some i199 := by kernel_rfl
theorem e199 : enterOk Try.prog 199 = true := by kernel_rfl
def i213 : Ev.Fn := ⟨3, 16, [.tmp 6],
 (.seq
 (.reg false [⟨3, .bx (.t 0), none, false⟩,
 ⟨4, .bx (.t 1), none, false⟩,
 ⟨5, .bx (.t 2), none, false⟩,
 ⟨6, .mv (.k (.sc (.int .i64 0))), none, false⟩])
 (.seq
 (.reg false [⟨8, .ld 2 true (.t 3), none, false⟩,
 ⟨9, .ld 2 true (.t 4), none, false⟩,
 ⟨10, .ld 2 true (.t 5), none, false⟩,
 ⟨11, .ca (.k (.cl 236 [])) [(.t 8), (.t 9), (.t 10)], none, false⟩,
 ⟨7, .mv (.t 11), none, false⟩])
 (.seq
 (.seq
 (.reg false [⟨12, .mv (.t 7), none, false⟩,
 ⟨13, .ar .gtr false (.t 12) (.k (.sc (.int .i64 0))), none, false⟩])
 (.ite (.t 13)
 (.seq
 (.reg false [⟨6, .mv (.k (.sc (.int .i64 1))), none, false⟩])
 .ret)
 .skip))
 (.seq
 (.seq
 (.reg false [⟨14, .mv (.t 7), none, false⟩,
 ⟨15, .ar .lss false (.t 14) (.k (.sc (.int .i64 0))), none, false⟩])
 (.ite (.t 15)
 (.seq
 (.reg false [⟨6, .mv (.k (.sc (.int .i64 (-1)))), none, false⟩])
 .ret)
 .skip))
 (.seq
 (.reg false [⟨6, .mv (.k (.sc (.int .i64 0))), none, false⟩])
 .ret)))))⟩
attribute [simp] i213
set_option maxRecDepth 1000000 in
theorem c213 : cFn Try.prog 213 [[]] = some i213 := by kernel_rfl
theorem e213 : enterOk Try.prog 213 = true := by kernel_rfl
def i214 : Ev.Fn := ⟨4, 31, [.tmp 8],
 (.seq
 (.reg false [⟨4, .bx (.t 0), none, false⟩,
 ⟨5, .bx (.t 1), none, false⟩,
 ⟨6, .bx (.t 2), none, false⟩,
 ⟨7, .bx (.t 3), none, false⟩,
 ⟨8, .mv (.k (.sc (.bool false))), none, false⟩])
 (.seq
 (.reg true [⟨9, .ld 2 true (.t 4), none, false⟩,
 ⟨10, .ld 2 true (.t 5), none, false⟩,
 ⟨11, .ld 2 true (.t 6), none, false⟩,
 ⟨12, .ca (.k (.cl 213 [])) [(.t 9), (.t 10), (.t 11)], none, false⟩,
 ⟨13, .ld 2 true (.t 4), none, false⟩,
 ⟨14, .ld 2 true (.t 5), none, false⟩,
 ⟨15, .ld 2 true (.t 7), none, false⟩,
 ⟨16, .ca (.k (.cl 213 [])) [(.t 13), (.t 14), (.t 15)], none, false⟩,
 ⟨17, .ar .mul false (.t 12) (.t 16), none, false⟩,
 ⟨18, .ar .lss false (.t 17) (.k (.sc (.int .i64 0))), none, false⟩,
 ⟨19, .mv (.t 18), none, false⟩,
 ⟨20, .ld 2 true (.t 6), (some (19, true)), false⟩,
 ⟨21, .ld 2 true (.t 7), (some (19, true)), false⟩,
 ⟨22, .ld 2 true (.t 4), (some (19, true)), false⟩,
 ⟨23, .ca (.k (.cl 213 [])) [(.t 20), (.t 21), (.t 22)], (some (19, true)), false⟩,
 ⟨24, .ld 2 true (.t 6), (some (19, true)), false⟩,
 ⟨25, .ld 2 true (.t 7), (some (19, true)), false⟩,
 ⟨26, .ld 2 true (.t 5), (some (19, true)), false⟩,
 ⟨27, .ca (.k (.cl 213 [])) [(.t 24), (.t 25), (.t 26)], (some (19, true)), false⟩,
 ⟨28, .ar .mul false (.t 23) (.t 27), (some (19, true)), false⟩,
 ⟨29, .ar .lss false (.t 28) (.k (.sc (.int .i64 0))), (some (19, true)), false⟩,
 ⟨30, .pk (.t 19) (.t 29) (.k (.sc (.bool false))), none, false⟩,
 ⟨8, .mv (.t 30), none, false⟩])
 .ret))⟩
attribute [simp] i214
set_option maxRecDepth 1000000 in
theorem c214 : cFn Try.prog 214 [[]] = some i214 := by kernel_rfl
theorem e214 : enterOk Try.prog 214 = true := by kernel_rfl
def i217 : Ev.Fn := ⟨1, 11, [.tmp 2],
 (.seq
 (.reg false [⟨1, .bx (.t 0), none, false⟩,
 ⟨2, .mv (.k (.sc (.bool false))), none, false⟩])
 (.seq
 (.reg false [⟨3, .fa 0 (.t 1), none, false⟩,
 ⟨4, .ld 1 false (.t 3), none, false⟩,
 ⟨5, .ca (.k (.cl 75 [])) [(.t 4), (.k (.sc (.int .i64 0))), (.k (.sc (.int .i64 20000)))], none, false⟩,
 ⟨6, .mv (.t 5), none, false⟩,
 ⟨7, .fa 1 (.t 1), (some (6, true)), false⟩,
 ⟨8, .ld 1 false (.t 7), (some (6, true)), false⟩,
 ⟨9, .ca (.k (.cl 75 [])) [(.t 8), (.k (.sc (.int .i64 0))), (.k (.sc (.int .i64 20000)))], (some (6, true)), false⟩,
 ⟨10, .pk (.t 6) (.t 9) (.k (.sc (.bool false))), none, false⟩,
 ⟨2, .mv (.t 10), none, false⟩])
 .ret))⟩
attribute [simp] i217
set_option maxRecDepth 1000000 in
theorem c217 : cFn Try.prog 217 [[]] = some i217 := by kernel_rfl
theorem e217 : enterOk Try.prog 217 = true := by kernel_rfl
def i218 : Ev.Fn := ⟨3, 37, [.tmp 6],
 (.seq
 (.reg false [⟨3, .bx (.t 0), none, false⟩,
 ⟨4, .bx (.t 1), none, false⟩,
 ⟨5, .bx (.t 2), none, false⟩,
 ⟨6, .mv (.k (.sc (.int .i64 0))), none, false⟩])
 (.seq
 (.reg false [⟨8, .fa 0 (.t 4), none, false⟩,
 ⟨9, .ld 1 false (.t 8), none, false⟩,
 ⟨10, .fa 0 (.t 3), none, false⟩,
 ⟨11, .ld 1 false (.t 10), none, false⟩,
 ⟨12, .ar .sub false (.t 9) (.t 11), none, false⟩,
 ⟨13, .fa 1 (.t 5), none, false⟩,
 ⟨14, .ld 1 false (.t 13), none, false⟩,
 ⟨15, .fa 1 (.t 3), none, false⟩,
 ⟨16, .ld 1 false (.t 15), none, false⟩,
 ⟨17, .ar .sub false (.t 14) (.t 16), none, false⟩,
 ⟨18, .ar .mul false (.t 12) (.t 17), none, false⟩,
 ⟨19, .fa 1 (.t 4), none, false⟩,
 ⟨20, .ld 1 false (.t 19), none, false⟩,
 ⟨21, .fa 1 (.t 3), none, false⟩,
 ⟨22, .ld 1 false (.t 21), none, false⟩,
 ⟨23, .ar .sub false (.t 20) (.t 22), none, false⟩,
 ⟨24, .fa 0 (.t 5), none, false⟩,
 ⟨25, .ld 1 false (.t 24), none, false⟩,
 ⟨26, .fa 0 (.t 3), none, false⟩,
 ⟨27, .ld 1 false (.t 26), none, false⟩,
 ⟨28, .ar .sub false (.t 25) (.t 27), none, false⟩,
 ⟨29, .ar .mul false (.t 23) (.t 28), none, false⟩,
 ⟨30, .ar .sub false (.t 18) (.t 29), none, false⟩,
 ⟨7, .mv (.t 30), none, false⟩])
 (.seq
 (.block 0
 (.seq
 (.reg false [⟨32, .mv (.t 7), none, false⟩,
 ⟨33, .ar .gtr false (.t 32) (.k (.sc (.int .i64 0))), none, false⟩,
 ⟨31, .mv (.t 33), none, false⟩])
 (.ite (.t 31)
 (.seq
 (.reg false [⟨6, .mv (.k (.sc (.int .i64 1))), none, false⟩])
 .ret)
 (.seq
 (.reg false [⟨35, .mv (.t 7), none, false⟩,
 ⟨36, .ar .lss false (.t 35) (.k (.sc (.int .i64 0))), none, false⟩,
 ⟨34, .mv (.t 36), none, false⟩])
 (.ite (.t 34)
 (.seq
 (.reg false [⟨6, .mv (.k (.sc (.int .i64 (-1)))), none, false⟩])
 .ret)
 .skip)))))
 (.seq
 (.reg false [⟨6, .mv (.k (.sc (.int .i64 0))), none, false⟩])
 .ret))))⟩
attribute [simp] i218
set_option maxRecDepth 1000000 in
theorem c218 : cFn Try.prog 218 [[]] = some i218 := by kernel_rfl
theorem e218 : enterOk Try.prog 218 = true := by kernel_rfl
def i219 : Ev.Fn := ⟨4, 31, [.tmp 8],
 (.seq
 (.reg false [⟨4, .bx (.t 0), none, false⟩,
 ⟨5, .bx (.t 1), none, false⟩,
 ⟨6, .bx (.t 2), none, false⟩,
 ⟨7, .bx (.t 3), none, false⟩,
 ⟨8, .mv (.k (.sc (.bool false))), none, false⟩])
 (.seq
 (.reg true [⟨9, .ld 2 true (.t 4), none, false⟩,
 ⟨10, .ld 2 true (.t 5), none, false⟩,
 ⟨11, .ld 2 true (.t 6), none, false⟩,
 ⟨12, .ca (.k (.cl 218 [])) [(.t 9), (.t 10), (.t 11)], none, false⟩,
 ⟨13, .ld 2 true (.t 4), none, false⟩,
 ⟨14, .ld 2 true (.t 5), none, false⟩,
 ⟨15, .ld 2 true (.t 7), none, false⟩,
 ⟨16, .ca (.k (.cl 218 [])) [(.t 13), (.t 14), (.t 15)], none, false⟩,
 ⟨17, .ar .mul false (.t 12) (.t 16), none, false⟩,
 ⟨18, .ar .lss false (.t 17) (.k (.sc (.int .i64 0))), none, false⟩,
 ⟨19, .mv (.t 18), none, false⟩,
 ⟨20, .ld 2 true (.t 6), (some (19, true)), false⟩,
 ⟨21, .ld 2 true (.t 7), (some (19, true)), false⟩,
 ⟨22, .ld 2 true (.t 4), (some (19, true)), false⟩,
 ⟨23, .ca (.k (.cl 218 [])) [(.t 20), (.t 21), (.t 22)], (some (19, true)), false⟩,
 ⟨24, .ld 2 true (.t 6), (some (19, true)), false⟩,
 ⟨25, .ld 2 true (.t 7), (some (19, true)), false⟩,
 ⟨26, .ld 2 true (.t 5), (some (19, true)), false⟩,
 ⟨27, .ca (.k (.cl 218 [])) [(.t 24), (.t 25), (.t 26)], (some (19, true)), false⟩,
 ⟨28, .ar .mul false (.t 23) (.t 27), (some (19, true)), false⟩,
 ⟨29, .ar .lss false (.t 28) (.k (.sc (.int .i64 0))), (some (19, true)), false⟩,
 ⟨30, .pk (.t 19) (.t 29) (.k (.sc (.bool false))), none, false⟩,
 ⟨8, .mv (.t 30), none, false⟩])
 .ret))⟩
attribute [simp] i219
set_option maxRecDepth 1000000 in
theorem c219 : cFn Try.prog 219 [[]] = some i219 := by kernel_rfl
theorem e219 : enterOk Try.prog 219 = true := by kernel_rfl
def i222 : Ev.Fn := ⟨2, 12, [.tmp 4],
 (.seq
 (.reg false [⟨4, .mv (.k (.sc (.int .i64 0))), none, false⟩])
 (.seq
 (.reg false [⟨5, .mv (.t 1), none, false⟩,
 ⟨6, .mv (.t 0), none, false⟩,
 ⟨7, .ln false (.t 6), none, false⟩,
 ⟨8, .ar .sub false (.t 5) (.t 7), none, false⟩,
 ⟨1, .mv (.t 8), none, false⟩])
 (.seq
 (.seq
 (.reg false [⟨9, .mv (.t 1), none, false⟩,
 ⟨10, .ar .lss false (.t 9) (.k (.sc (.int .i64 0))), none, false⟩])
 (.ite (.t 10)
 (.seq
 (.reg false [⟨4, .mv (.k (.sc (.int .i64 (-1)))), none, false⟩])
 .ret)
 .skip))
 (.seq
 (.reg false [⟨11, .mv (.t 1), none, false⟩,
 ⟨4, .mv (.t 11), none, false⟩])
 .ret))))⟩
attribute [simp] i222
set_option maxRecDepth 1000000 in
theorem c222 : cFn Try.prog 222 [[]] = some i222 := by kernel_rfl
theorem e222 : enterOk Try.prog 222 = true := by kernel_rfl
def w223_1 : IC :=
(.seq
 (.seq
 (.reg false [⟨8, .mv (.t 4), none, false⟩,
 ⟨9, .mv (.t 0), none, false⟩,
 ⟨10, .ln false (.t 9), none, false⟩,
 ⟨11, .ar .lss false (.t 8) (.t 10), none, false⟩])
 (.ite (.t 11)
 .skip
 (.exit 0)))
 (.seq
 (.block 1
 (.reg false [⟨14, .mv (.t 3), none, false⟩,
 ⟨15, .mv (.t 4), none, false⟩,
 ⟨16, .mv (.t 0), none, false⟩,
 ⟨17, .mv (.t 4), none, false⟩,
 ⟨18, .ia 1 (.t 16) (.t 17), none, false⟩,
 ⟨19, .ld 1 false (.t 18), none, false⟩,
 ⟨20, .ia 1 (.t 14) (.t 15), none, false⟩,
 ⟨1, .so 1 (.t 20) (.t 19), none, true⟩]))
 (.reg false [⟨12, .mv (.t 4), none, false⟩,
 ⟨13, .ar .add false (.t 12) (.k (.sc (.int .i64 1))), none, false⟩,
 ⟨4, .mv (.t 13), none, false⟩])))
def b223_1 : IC := w223_1
theorem u223_1 (call : CallF) (st : St) : evC call b223_1 st = evC call w223_1 st := rfl
attribute [simp] u223_1 w223_1
def i223 : Ev.Fn := ⟨1, 22, [.tmp 2],
 (.seq
 (.reg false [⟨2, .mv (.k .nl), none, false⟩])
 (.seq
 (.reg false [⟨5, .mv (.t 0), none, false⟩,
 ⟨6, .ln false (.t 5), none, false⟩,
 ⟨7, .ms 2 1 [(.sc (.int .i64 0))] (.t 6), none, false⟩,
 ⟨3, .mv (.t 7), none, false⟩])
 (.seq
 (.seq
 (.reg false [⟨4, .mv (.k (.sc (.int .i64 0))), none, false⟩])
 (.cln [3] [2]
 (.block 0
 (.loop [0, 3, 4] b223_1))))
 (.seq
 (.reg false [⟨21, .mv (.t 3), none, false⟩,
 ⟨2, .mv (.t 21), none, false⟩])
 .ret))))⟩
attribute [simp] i223
set_option maxRecDepth 1000000 in
theorem c223 : cFn Try.prog 223 [[], [0, 3, 4], [3], [2]] = some i223 := by kernel_rfl
theorem e223 : enterOk Try.prog 223 = true := by kernel_rfl
def w227_1 : IC :=
(.seq
 (.reg false [⟨9, .ar .lss false (.t 8) (.t 7), none, false⟩])
 (.seq
 (.ite (.t 9)
 .skip
 (.exit 0))
 (.seq
 (.block 1
 (.seq
 (.reg false [⟨10, .mv (.t 8), none, false⟩,
 ⟨5, .mv (.t 10), none, false⟩])
 (.seq
 (.reg true [⟨11, .ld 2 true (.t 3), none, false⟩,
 ⟨12, .mv (.t 0), none, false⟩,
 ⟨13, .mv (.t 5), none, false⟩,
 ⟨14, .ia 2 (.t 12) (.t 13), none, false⟩,
 ⟨15, .ld 2 true (.t 14), none, false⟩,
 ⟨16, .eq false [1, 1] (.t 11) (.t 15), none, false⟩])
 (.ite (.t 16)
 (.seq
 (.reg false [⟨17, .mv (.t 5), none, false⟩,
 ⟨4, .mv (.t 17), none, false⟩])
 .ret)
 .skip))))
 (.reg false [⟨18, .ar .add false (.t 8) (.k (.sc (.int .i64 1))), none, false⟩,
 ⟨8, .mv (.t 18), none, false⟩]))))
def b227_1 : IC := w227_1
theorem u227_1 (call : CallF) (st : St) : evC call b227_1 st = evC call w227_1 st := rfl
attribute [simp] u227_1 w227_1
def i227 : Ev.Fn := ⟨2, 19, [.tmp 4],
 (.seq
 (.reg false [⟨3, .bx (.t 1), none, false⟩,
 ⟨4, .mv (.k (.sc (.int .i64 0))), none, false⟩])
 (.seq
 (.seq
 (.reg false [⟨6, .mv (.t 0), none, false⟩,
 ⟨7, .ln false (.t 6), none, false⟩,
 ⟨8, .mv (.k (.sc (.int .i64 0))), none, false⟩])
 (.cln [] [4]
 (.block 0
 (.loop [0, 3, 7, 8] b227_1))))
 (.seq
 (.reg false [⟨4, .mv (.k (.sc (.int .i64 (-1)))), none, false⟩])
 .ret)))⟩
attribute [simp] i227
set_option maxRecDepth 1000000 in
theorem c227 : cFn Try.prog 227 [[], [0, 3, 7, 8], [], [4]] = some i227 := by kernel_rfl
theorem e227 : enterOk Try.prog 227 = true := by kernel_rfl
def w228_1 : IC :=
(.seq
 (.reg false [⟨9, .ar .lss false (.t 8) (.t 7), none, false⟩])
 (.seq
 (.ite (.t 9)
 .skip
 (.exit 0))
 (.seq
 (.block 1
 (.seq
 (.reg false [⟨10, .mv (.t 8), none, false⟩,
 ⟨5, .mv (.t 10), none, false⟩])
 (.seq
 (.reg false [⟨11, .mv (.t 1), none, false⟩,
 ⟨12, .mv (.t 0), none, false⟩,
 ⟨13, .mv (.t 5), none, false⟩,
 ⟨14, .ia 3 (.t 12) (.t 13), none, false⟩,
 ⟨15, .ld 3 true (.t 14), none, false⟩,
 ⟨16, .ca (.t 11) [(.t 15)], none, false⟩])
 (.ite (.t 16)
 (.seq
 (.reg false [⟨17, .mv (.t 5), none, false⟩,
 ⟨4, .mv (.t 17), none, false⟩])
 .ret)
 .skip))))
 (.reg false [⟨18, .ar .add false (.t 8) (.k (.sc (.int .i64 1))), none, false⟩,
 ⟨8, .mv (.t 18), none, false⟩]))))
def b228_1 : IC := w228_1
theorem u228_1 (call : CallF) (st : St) : evC call b228_1 st = evC call w228_1 st := rfl
attribute [simp] u228_1 w228_1
def i228 : Ev.Fn := ⟨2, 19, [.tmp 4],
 (.seq
 (.reg false [⟨4, .mv (.k (.sc (.int .i64 0))), none, false⟩])
 (.seq
 (.seq
 (.reg false [⟨6, .mv (.t 0), none, false⟩,
 ⟨7, .ln false (.t 6), none, false⟩,
 ⟨8, .mv (.k (.sc (.int .i64 0))), none, false⟩])
 (.cln [] [4]
 (.block 0
 (.loop [0, 1, 7, 8] b228_1))))
 (.seq
 (.reg false [⟨4, .mv (.k (.sc (.int .i64 (-1)))), none, false⟩])
 .ret)))⟩
attribute [simp] i228
set_option maxRecDepth 1000000 in
theorem c228 : cFn Try.prog 228 [[], [0, 1, 7, 8], [], [4]] = some i228 := by kernel_rfl
theorem e228 : enterOk Try.prog 228 = true := by kernel_rfl
def i236 : Ev.Fn := ⟨3, 30, [.tmp 6],
 (.seq
 (.reg false [⟨3, .bx (.t 0), none, false⟩,
 ⟨4, .bx (.t 1), none, false⟩,
 ⟨5, .bx (.t 2), none, false⟩,
 ⟨6, .mv (.k (.sc (.int .i64 0))), none, false⟩])
 (.seq
 (.reg false [⟨7, .fa 0 (.t 4), none, false⟩,
 ⟨8, .ld 1 false (.t 7), none, false⟩,
 ⟨9, .fa 0 (.t 3), none, false⟩,
 ⟨10, .ld 1 false (.t 9), none, false⟩,
 ⟨11, .ar .sub false (.t 8) (.t 10), none, false⟩,
 ⟨12, .fa 1 (.t 5), none, false⟩,
 ⟨13, .ld 1 false (.t 12), none, false⟩,
 ⟨14, .fa 1 (.t 3), none, false⟩,
 ⟨15, .ld 1 false (.t 14), none, false⟩,
 ⟨16, .ar .sub false (.t 13) (.t 15), none, false⟩,
 ⟨17, .ar .mul false (.t 11) (.t 16), none, false⟩,
 ⟨18, .fa 1 (.t 4), none, false⟩,
 ⟨19, .ld 1 false (.t 18), none, false⟩,
 ⟨20, .fa 1 (.t 3), none, false⟩,
 ⟨21, .ld 1 false (.t 20), none, false⟩,
 ⟨22, .ar .sub false (.t 19) (.t 21), none, false⟩,
 ⟨23, .fa 0 (.t 5), none, false⟩,
 ⟨24, .ld 1 false (.t 23), none, false⟩,
 ⟨25, .fa 0 (.t 3), none, false⟩,
 ⟨26, .ld 1 false (.t 25), none, false⟩,
 ⟨27, .ar .sub false (.t 24) (.t 26), none, false⟩,
 ⟨28, .ar .mul false (.t 22) (.t 27), none, false⟩,
 ⟨29, .ar .sub false (.t 17) (.t 28), none, false⟩,
 ⟨6, .mv (.t 29), none, false⟩])
 .ret))⟩
attribute [simp] i236
set_option maxRecDepth 1000000 in
theorem c236 : cFn Try.prog 236 [[]] = some i236 := by kernel_rfl
theorem e236 : enterOk Try.prog 236 = true := by kernel_rfl
theorem mixed : Try.prog.follows .mixedOrders = true := by kernel_rfl
def Ft : List (Nat × Ev.Fn) := [(6, i6), (15, i15), (18, i18), (19, i19), (25, i25), (27, i27), (29, i29), (30, i30), (31, i31), (32, i32), (33, i33), (34, i34), (35, i35), (44, i44), (46, i46), (49, i49), (50, i50), (52, i52), (54, i54), (55, i55), (56, i56), (59, i59), (61, i61), (62, i62), (64, i64), (65, i65), (67, i67), (68, i68), (70, i70), (71, i71), (72, i72), (73, i73), (74, i74), (75, i75), (76, i76), (77, i77), (78, i78), (88, i88), (98, i98), (101, i101), (102, i102), (105, i105), (106, i106), (111, i111), (117, i117), (118, i118), (119, i119), (120, i120), (121, i121), (126, i126), (127, i127), (130, i130), (131, i131), (134, i134), (135, i135), (136, i136), (137, i137), (138, i138), (139, i139), (140, i140), (141, i141), (142, i142), (148, i148), (153, i153), (155, i155), (161, i161), (162, i162), (163, i163), (164, i164), (168, i168), (169, i169), (170, i170), (171, i171), (175, i175), (179, i179), (182, i182), (184, i184), (185, i185), (187, i187), (188, i188), (189, i189), (190, i190), (195, i195), (196, i196), (197, i197), (198, i198), (199, i199), (213, i213), (214, i214), (217, i217), (218, i218), (219, i219), (222, i222), (223, i223), (227, i227), (228, i228), (236, i236)]
def F : Nat → Option Ev.Fn := getF Ft
noncomputable def ev (d : Nat) : CallF := evF F (fun _ _ => none) d
theorem ev_fn {f : Nat} {fn : Ev.Fn} (h : F f = some fn) (d : Nat) (args : List LV) (hl : args.length = fn.nargs) : ev (d + 1) f args = Ev.finish fn.res (evC (ev d) fn.body (Ev.start args)) := evF_fn h d args hl
set_option maxRecDepth 1000000 in
theorem tab : ∀ f fn, F f = some fn → enterOk Try.prog f = true ∧ ∃ ks, cFn Try.prog f ks = some fn :=
  tabF (L := Ft) ⟨⟨e6, _, c6⟩, ⟨e15, _, c15⟩, ⟨e18, _, c18⟩, ⟨e19, _, c19⟩, ⟨e25, _, c25⟩, ⟨e27, _, c27⟩, ⟨e29, _, c29⟩, ⟨e30, _, c30⟩, ⟨e31, _, c31⟩, ⟨e32, _, c32⟩, ⟨e33, _, c33⟩, ⟨e34, _, c34⟩, ⟨e35, _, c35⟩, ⟨e44, _, c44⟩, ⟨e46, _, c46⟩, ⟨e49, _, c49⟩, ⟨e50, _, c50⟩, ⟨e52, _, c52⟩, ⟨e54, _, c54⟩, ⟨e55, _, c55⟩, ⟨e56, _, c56⟩, ⟨e59, _, c59⟩, ⟨e61, _, c61⟩, ⟨e62, _, c62⟩, ⟨e64, _, c64⟩, ⟨e65, _, c65⟩, ⟨e67, _, c67⟩, ⟨e68, _, c68⟩, ⟨e70, _, c70⟩, ⟨e71, _, c71⟩, ⟨e72, _, c72⟩, ⟨e73, _, c73⟩, ⟨e74, _, c74⟩, ⟨e75, _, c75⟩, ⟨e76, _, c76⟩, ⟨e77, _, c77⟩, ⟨e78, _, c78⟩, ⟨e88, _, c88⟩, ⟨e98, _, c98⟩, ⟨e101, _, c101⟩, ⟨e102, _, c102⟩, ⟨e105, _, c105⟩, ⟨e106, _, c106⟩, ⟨e111, _, c111⟩, ⟨e117, _, c117⟩, ⟨e118, _, c118⟩, ⟨e119, _, c119⟩, ⟨e120, _, c120⟩, ⟨e121, _, c121⟩, ⟨e126, _, c126⟩, ⟨e127, _, c127⟩, ⟨e130, _, c130⟩, ⟨e131, _, c131⟩, ⟨e134, _, c134⟩, ⟨e135, _, c135⟩, ⟨e136, _, c136⟩, ⟨e137, _, c137⟩, ⟨e138, _, c138⟩, ⟨e139, _, c139⟩, ⟨e140, _, c140⟩, ⟨e141, _, c141⟩, ⟨e142, _, c142⟩, ⟨e148, _, c148⟩, ⟨e153, _, c153⟩, ⟨e155, _, c155⟩, ⟨e161, _, c161⟩, ⟨e162, _, c162⟩, ⟨e163, _, c163⟩, ⟨e164, _, c164⟩, ⟨e168, _, c168⟩, ⟨e169, _, c169⟩, ⟨e170, _, c170⟩, ⟨e171, _, c171⟩, ⟨e175, _, c175⟩, ⟨e179, _, c179⟩, ⟨e182, _, c182⟩, ⟨e184, _, c184⟩, ⟨e185, _, c185⟩, ⟨e187, _, c187⟩, ⟨e188, _, c188⟩, ⟨e189, _, c189⟩, ⟨e190, _, c190⟩, ⟨e195, _, c195⟩, ⟨e196, _, c196⟩, ⟨e197, _, c197⟩, ⟨e198, _, c198⟩, ⟨e199, _, c199⟩, ⟨e213, _, c213⟩, ⟨e214, _, c214⟩, ⟨e217, _, c217⟩, ⟨e218, _, c218⟩, ⟨e219, _, c219⟩, ⟨e222, _, c222⟩, ⟨e223, _, c223⟩, ⟨e227, _, c227⟩, ⟨e228, _, c228⟩, ⟨e236, _, c236⟩, trivial⟩
theorem tabn : ∀ f fn, F f = some fn → f < wrN := tabN (L := Ft) (by kernel_rfl)
theorem callOk (d : Nat) : CallOk Try.prog (ev d) := (evF_ok2 mixed tab tabn (noPrim_ok _) (noPrim_okW _) d).1
abbrev I (n : Int) : LV := .sc (.int .i64 n)
abbrev B (b : Bool) : LV := .sc (.bool b)
abbrev T (s : ByteArray) : LV := .sc (.string s)
theorem s6 (d : Nat) (args : List LV) (hl : args.length = i6.nargs) : ev (d + 1) 6 args = Ev.finish i6.res (evC (ev d) i6.body (Ev.start args)) := ev_fn (by kernel_rfl) d args hl
theorem s15 (d : Nat) (args : List LV) (hl : args.length = i15.nargs) : ev (d + 1) 15 args = Ev.finish i15.res (evC (ev d) i15.body (Ev.start args)) := ev_fn (by kernel_rfl) d args hl
theorem s18 (d : Nat) (args : List LV) (hl : args.length = i18.nargs) : ev (d + 1) 18 args = Ev.finish i18.res (evC (ev d) i18.body (Ev.start args)) := ev_fn (by kernel_rfl) d args hl
theorem s19 (d : Nat) (args : List LV) (hl : args.length = i19.nargs) : ev (d + 1) 19 args = Ev.finish i19.res (evC (ev d) i19.body (Ev.start args)) := ev_fn (by kernel_rfl) d args hl
theorem s25 (d : Nat) (args : List LV) (hl : args.length = i25.nargs) : ev (d + 1) 25 args = Ev.finish i25.res (evC (ev d) i25.body (Ev.start args)) := ev_fn (by kernel_rfl) d args hl
theorem s27 (d : Nat) (args : List LV) (hl : args.length = i27.nargs) : ev (d + 1) 27 args = Ev.finish i27.res (evC (ev d) i27.body (Ev.start args)) := ev_fn (by kernel_rfl) d args hl
theorem s29 (d : Nat) (args : List LV) (hl : args.length = i29.nargs) : ev (d + 1) 29 args = Ev.finish i29.res (evC (ev d) i29.body (Ev.start args)) := ev_fn (by kernel_rfl) d args hl
theorem s30 (d : Nat) (args : List LV) (hl : args.length = i30.nargs) : ev (d + 1) 30 args = Ev.finish i30.res (evC (ev d) i30.body (Ev.start args)) := ev_fn (by kernel_rfl) d args hl
theorem s31 (d : Nat) (args : List LV) (hl : args.length = i31.nargs) : ev (d + 1) 31 args = Ev.finish i31.res (evC (ev d) i31.body (Ev.start args)) := ev_fn (by kernel_rfl) d args hl
theorem s32 (d : Nat) (args : List LV) (hl : args.length = i32.nargs) : ev (d + 1) 32 args = Ev.finish i32.res (evC (ev d) i32.body (Ev.start args)) := ev_fn (by kernel_rfl) d args hl
theorem s33 (d : Nat) (args : List LV) (hl : args.length = i33.nargs) : ev (d + 1) 33 args = Ev.finish i33.res (evC (ev d) i33.body (Ev.start args)) := ev_fn (by kernel_rfl) d args hl
theorem s34 (d : Nat) (args : List LV) (hl : args.length = i34.nargs) : ev (d + 1) 34 args = Ev.finish i34.res (evC (ev d) i34.body (Ev.start args)) := ev_fn (by kernel_rfl) d args hl
theorem s35 (d : Nat) (args : List LV) (hl : args.length = i35.nargs) : ev (d + 1) 35 args = Ev.finish i35.res (evC (ev d) i35.body (Ev.start args)) := ev_fn (by kernel_rfl) d args hl
theorem s44 (d : Nat) (args : List LV) (hl : args.length = i44.nargs) : ev (d + 1) 44 args = Ev.finish i44.res (evC (ev d) i44.body (Ev.start args)) := ev_fn (by kernel_rfl) d args hl
theorem s46 (d : Nat) (args : List LV) (hl : args.length = i46.nargs) : ev (d + 1) 46 args = Ev.finish i46.res (evC (ev d) i46.body (Ev.start args)) := ev_fn (by kernel_rfl) d args hl
theorem s49 (d : Nat) (args : List LV) (hl : args.length = i49.nargs) : ev (d + 1) 49 args = Ev.finish i49.res (evC (ev d) i49.body (Ev.start args)) := ev_fn (by kernel_rfl) d args hl
theorem s50 (d : Nat) (args : List LV) (hl : args.length = i50.nargs) : ev (d + 1) 50 args = Ev.finish i50.res (evC (ev d) i50.body (Ev.start args)) := ev_fn (by kernel_rfl) d args hl
theorem s52 (d : Nat) (args : List LV) (hl : args.length = i52.nargs) : ev (d + 1) 52 args = Ev.finish i52.res (evC (ev d) i52.body (Ev.start args)) := ev_fn (by kernel_rfl) d args hl
theorem s54 (d : Nat) (args : List LV) (hl : args.length = i54.nargs) : ev (d + 1) 54 args = Ev.finish i54.res (evC (ev d) i54.body (Ev.start args)) := ev_fn (by kernel_rfl) d args hl
theorem s55 (d : Nat) (args : List LV) (hl : args.length = i55.nargs) : ev (d + 1) 55 args = Ev.finish i55.res (evC (ev d) i55.body (Ev.start args)) := ev_fn (by kernel_rfl) d args hl
theorem s56 (d : Nat) (args : List LV) (hl : args.length = i56.nargs) : ev (d + 1) 56 args = Ev.finish i56.res (evC (ev d) i56.body (Ev.start args)) := ev_fn (by kernel_rfl) d args hl
theorem s59 (d : Nat) (args : List LV) (hl : args.length = i59.nargs) : ev (d + 1) 59 args = Ev.finish i59.res (evC (ev d) i59.body (Ev.start args)) := ev_fn (by kernel_rfl) d args hl
theorem s61 (d : Nat) (args : List LV) (hl : args.length = i61.nargs) : ev (d + 1) 61 args = Ev.finish i61.res (evC (ev d) i61.body (Ev.start args)) := ev_fn (by kernel_rfl) d args hl
theorem s62 (d : Nat) (args : List LV) (hl : args.length = i62.nargs) : ev (d + 1) 62 args = Ev.finish i62.res (evC (ev d) i62.body (Ev.start args)) := ev_fn (by kernel_rfl) d args hl
theorem s64 (d : Nat) (args : List LV) (hl : args.length = i64.nargs) : ev (d + 1) 64 args = Ev.finish i64.res (evC (ev d) i64.body (Ev.start args)) := ev_fn (by kernel_rfl) d args hl
theorem s65 (d : Nat) (args : List LV) (hl : args.length = i65.nargs) : ev (d + 1) 65 args = Ev.finish i65.res (evC (ev d) i65.body (Ev.start args)) := ev_fn (by kernel_rfl) d args hl
theorem s67 (d : Nat) (args : List LV) (hl : args.length = i67.nargs) : ev (d + 1) 67 args = Ev.finish i67.res (evC (ev d) i67.body (Ev.start args)) := ev_fn (by kernel_rfl) d args hl
theorem s68 (d : Nat) (args : List LV) (hl : args.length = i68.nargs) : ev (d + 1) 68 args = Ev.finish i68.res (evC (ev d) i68.body (Ev.start args)) := ev_fn (by kernel_rfl) d args hl
theorem s70 (d : Nat) (args : List LV) (hl : args.length = i70.nargs) : ev (d + 1) 70 args = Ev.finish i70.res (evC (ev d) i70.body (Ev.start args)) := ev_fn (by kernel_rfl) d args hl
theorem s71 (d : Nat) (args : List LV) (hl : args.length = i71.nargs) : ev (d + 1) 71 args = Ev.finish i71.res (evC (ev d) i71.body (Ev.start args)) := ev_fn (by kernel_rfl) d args hl
theorem s72 (d : Nat) (args : List LV) (hl : args.length = i72.nargs) : ev (d + 1) 72 args = Ev.finish i72.res (evC (ev d) i72.body (Ev.start args)) := ev_fn (by kernel_rfl) d args hl
theorem s73 (d : Nat) (args : List LV) (hl : args.length = i73.nargs) : ev (d + 1) 73 args = Ev.finish i73.res (evC (ev d) i73.body (Ev.start args)) := ev_fn (by kernel_rfl) d args hl
theorem s74 (d : Nat) (args : List LV) (hl : args.length = i74.nargs) : ev (d + 1) 74 args = Ev.finish i74.res (evC (ev d) i74.body (Ev.start args)) := ev_fn (by kernel_rfl) d args hl
theorem s75 (d : Nat) (args : List LV) (hl : args.length = i75.nargs) : ev (d + 1) 75 args = Ev.finish i75.res (evC (ev d) i75.body (Ev.start args)) := ev_fn (by kernel_rfl) d args hl
theorem s76 (d : Nat) (args : List LV) (hl : args.length = i76.nargs) : ev (d + 1) 76 args = Ev.finish i76.res (evC (ev d) i76.body (Ev.start args)) := ev_fn (by kernel_rfl) d args hl
theorem s77 (d : Nat) (args : List LV) (hl : args.length = i77.nargs) : ev (d + 1) 77 args = Ev.finish i77.res (evC (ev d) i77.body (Ev.start args)) := ev_fn (by kernel_rfl) d args hl
theorem s78 (d : Nat) (args : List LV) (hl : args.length = i78.nargs) : ev (d + 1) 78 args = Ev.finish i78.res (evC (ev d) i78.body (Ev.start args)) := ev_fn (by kernel_rfl) d args hl
theorem s88 (d : Nat) (args : List LV) (hl : args.length = i88.nargs) : ev (d + 1) 88 args = Ev.finish i88.res (evC (ev d) i88.body (Ev.start args)) := ev_fn (by kernel_rfl) d args hl
theorem s98 (d : Nat) (args : List LV) (hl : args.length = i98.nargs) : ev (d + 1) 98 args = Ev.finish i98.res (evC (ev d) i98.body (Ev.start args)) := ev_fn (by kernel_rfl) d args hl
theorem s101 (d : Nat) (args : List LV) (hl : args.length = i101.nargs) : ev (d + 1) 101 args = Ev.finish i101.res (evC (ev d) i101.body (Ev.start args)) := ev_fn (by kernel_rfl) d args hl
theorem s102 (d : Nat) (args : List LV) (hl : args.length = i102.nargs) : ev (d + 1) 102 args = Ev.finish i102.res (evC (ev d) i102.body (Ev.start args)) := ev_fn (by kernel_rfl) d args hl
theorem s105 (d : Nat) (args : List LV) (hl : args.length = i105.nargs) : ev (d + 1) 105 args = Ev.finish i105.res (evC (ev d) i105.body (Ev.start args)) := ev_fn (by kernel_rfl) d args hl
theorem s106 (d : Nat) (args : List LV) (hl : args.length = i106.nargs) : ev (d + 1) 106 args = Ev.finish i106.res (evC (ev d) i106.body (Ev.start args)) := ev_fn (by kernel_rfl) d args hl
theorem s111 (d : Nat) (args : List LV) (hl : args.length = i111.nargs) : ev (d + 1) 111 args = Ev.finish i111.res (evC (ev d) i111.body (Ev.start args)) := ev_fn (by kernel_rfl) d args hl
theorem s117 (d : Nat) (args : List LV) (hl : args.length = i117.nargs) : ev (d + 1) 117 args = Ev.finish i117.res (evC (ev d) i117.body (Ev.start args)) := ev_fn (by kernel_rfl) d args hl
theorem s118 (d : Nat) (args : List LV) (hl : args.length = i118.nargs) : ev (d + 1) 118 args = Ev.finish i118.res (evC (ev d) i118.body (Ev.start args)) := ev_fn (by kernel_rfl) d args hl
theorem s119 (d : Nat) (args : List LV) (hl : args.length = i119.nargs) : ev (d + 1) 119 args = Ev.finish i119.res (evC (ev d) i119.body (Ev.start args)) := ev_fn (by kernel_rfl) d args hl
theorem s120 (d : Nat) (args : List LV) (hl : args.length = i120.nargs) : ev (d + 1) 120 args = Ev.finish i120.res (evC (ev d) i120.body (Ev.start args)) := ev_fn (by kernel_rfl) d args hl
theorem s121 (d : Nat) (args : List LV) (hl : args.length = i121.nargs) : ev (d + 1) 121 args = Ev.finish i121.res (evC (ev d) i121.body (Ev.start args)) := ev_fn (by kernel_rfl) d args hl
theorem s126 (d : Nat) (args : List LV) (hl : args.length = i126.nargs) : ev (d + 1) 126 args = Ev.finish i126.res (evC (ev d) i126.body (Ev.start args)) := ev_fn (by kernel_rfl) d args hl
theorem s127 (d : Nat) (args : List LV) (hl : args.length = i127.nargs) : ev (d + 1) 127 args = Ev.finish i127.res (evC (ev d) i127.body (Ev.start args)) := ev_fn (by kernel_rfl) d args hl
theorem s130 (d : Nat) (args : List LV) (hl : args.length = i130.nargs) : ev (d + 1) 130 args = Ev.finish i130.res (evC (ev d) i130.body (Ev.start args)) := ev_fn (by kernel_rfl) d args hl
theorem s131 (d : Nat) (args : List LV) (hl : args.length = i131.nargs) : ev (d + 1) 131 args = Ev.finish i131.res (evC (ev d) i131.body (Ev.start args)) := ev_fn (by kernel_rfl) d args hl
theorem s134 (d : Nat) (args : List LV) (hl : args.length = i134.nargs) : ev (d + 1) 134 args = Ev.finish i134.res (evC (ev d) i134.body (Ev.start args)) := ev_fn (by kernel_rfl) d args hl
theorem s135 (d : Nat) (args : List LV) (hl : args.length = i135.nargs) : ev (d + 1) 135 args = Ev.finish i135.res (evC (ev d) i135.body (Ev.start args)) := ev_fn (by kernel_rfl) d args hl
theorem s136 (d : Nat) (args : List LV) (hl : args.length = i136.nargs) : ev (d + 1) 136 args = Ev.finish i136.res (evC (ev d) i136.body (Ev.start args)) := ev_fn (by kernel_rfl) d args hl
theorem s137 (d : Nat) (args : List LV) (hl : args.length = i137.nargs) : ev (d + 1) 137 args = Ev.finish i137.res (evC (ev d) i137.body (Ev.start args)) := ev_fn (by kernel_rfl) d args hl
theorem s138 (d : Nat) (args : List LV) (hl : args.length = i138.nargs) : ev (d + 1) 138 args = Ev.finish i138.res (evC (ev d) i138.body (Ev.start args)) := ev_fn (by kernel_rfl) d args hl
theorem s139 (d : Nat) (args : List LV) (hl : args.length = i139.nargs) : ev (d + 1) 139 args = Ev.finish i139.res (evC (ev d) i139.body (Ev.start args)) := ev_fn (by kernel_rfl) d args hl
theorem s140 (d : Nat) (args : List LV) (hl : args.length = i140.nargs) : ev (d + 1) 140 args = Ev.finish i140.res (evC (ev d) i140.body (Ev.start args)) := ev_fn (by kernel_rfl) d args hl
theorem s141 (d : Nat) (args : List LV) (hl : args.length = i141.nargs) : ev (d + 1) 141 args = Ev.finish i141.res (evC (ev d) i141.body (Ev.start args)) := ev_fn (by kernel_rfl) d args hl
theorem s142 (d : Nat) (args : List LV) (hl : args.length = i142.nargs) : ev (d + 1) 142 args = Ev.finish i142.res (evC (ev d) i142.body (Ev.start args)) := ev_fn (by kernel_rfl) d args hl
theorem s148 (d : Nat) (args : List LV) (hl : args.length = i148.nargs) : ev (d + 1) 148 args = Ev.finish i148.res (evC (ev d) i148.body (Ev.start args)) := ev_fn (by kernel_rfl) d args hl
theorem s153 (d : Nat) (args : List LV) (hl : args.length = i153.nargs) : ev (d + 1) 153 args = Ev.finish i153.res (evC (ev d) i153.body (Ev.start args)) := ev_fn (by kernel_rfl) d args hl
theorem s155 (d : Nat) (args : List LV) (hl : args.length = i155.nargs) : ev (d + 1) 155 args = Ev.finish i155.res (evC (ev d) i155.body (Ev.start args)) := ev_fn (by kernel_rfl) d args hl
theorem s161 (d : Nat) (args : List LV) (hl : args.length = i161.nargs) : ev (d + 1) 161 args = Ev.finish i161.res (evC (ev d) i161.body (Ev.start args)) := ev_fn (by kernel_rfl) d args hl
theorem s162 (d : Nat) (args : List LV) (hl : args.length = i162.nargs) : ev (d + 1) 162 args = Ev.finish i162.res (evC (ev d) i162.body (Ev.start args)) := ev_fn (by kernel_rfl) d args hl
theorem s163 (d : Nat) (args : List LV) (hl : args.length = i163.nargs) : ev (d + 1) 163 args = Ev.finish i163.res (evC (ev d) i163.body (Ev.start args)) := ev_fn (by kernel_rfl) d args hl
theorem s164 (d : Nat) (args : List LV) (hl : args.length = i164.nargs) : ev (d + 1) 164 args = Ev.finish i164.res (evC (ev d) i164.body (Ev.start args)) := ev_fn (by kernel_rfl) d args hl
theorem s168 (d : Nat) (args : List LV) (hl : args.length = i168.nargs) : ev (d + 1) 168 args = Ev.finish i168.res (evC (ev d) i168.body (Ev.start args)) := ev_fn (by kernel_rfl) d args hl
theorem s169 (d : Nat) (args : List LV) (hl : args.length = i169.nargs) : ev (d + 1) 169 args = Ev.finish i169.res (evC (ev d) i169.body (Ev.start args)) := ev_fn (by kernel_rfl) d args hl
theorem s170 (d : Nat) (args : List LV) (hl : args.length = i170.nargs) : ev (d + 1) 170 args = Ev.finish i170.res (evC (ev d) i170.body (Ev.start args)) := ev_fn (by kernel_rfl) d args hl
theorem s171 (d : Nat) (args : List LV) (hl : args.length = i171.nargs) : ev (d + 1) 171 args = Ev.finish i171.res (evC (ev d) i171.body (Ev.start args)) := ev_fn (by kernel_rfl) d args hl
theorem s175 (d : Nat) (args : List LV) (hl : args.length = i175.nargs) : ev (d + 1) 175 args = Ev.finish i175.res (evC (ev d) i175.body (Ev.start args)) := ev_fn (by kernel_rfl) d args hl
theorem s179 (d : Nat) (args : List LV) (hl : args.length = i179.nargs) : ev (d + 1) 179 args = Ev.finish i179.res (evC (ev d) i179.body (Ev.start args)) := ev_fn (by kernel_rfl) d args hl
theorem s182 (d : Nat) (args : List LV) (hl : args.length = i182.nargs) : ev (d + 1) 182 args = Ev.finish i182.res (evC (ev d) i182.body (Ev.start args)) := ev_fn (by kernel_rfl) d args hl
theorem s184 (d : Nat) (args : List LV) (hl : args.length = i184.nargs) : ev (d + 1) 184 args = Ev.finish i184.res (evC (ev d) i184.body (Ev.start args)) := ev_fn (by kernel_rfl) d args hl
theorem s185 (d : Nat) (args : List LV) (hl : args.length = i185.nargs) : ev (d + 1) 185 args = Ev.finish i185.res (evC (ev d) i185.body (Ev.start args)) := ev_fn (by kernel_rfl) d args hl
theorem s187 (d : Nat) (args : List LV) (hl : args.length = i187.nargs) : ev (d + 1) 187 args = Ev.finish i187.res (evC (ev d) i187.body (Ev.start args)) := ev_fn (by kernel_rfl) d args hl
theorem s188 (d : Nat) (args : List LV) (hl : args.length = i188.nargs) : ev (d + 1) 188 args = Ev.finish i188.res (evC (ev d) i188.body (Ev.start args)) := ev_fn (by kernel_rfl) d args hl
theorem s189 (d : Nat) (args : List LV) (hl : args.length = i189.nargs) : ev (d + 1) 189 args = Ev.finish i189.res (evC (ev d) i189.body (Ev.start args)) := ev_fn (by kernel_rfl) d args hl
theorem s190 (d : Nat) (args : List LV) (hl : args.length = i190.nargs) : ev (d + 1) 190 args = Ev.finish i190.res (evC (ev d) i190.body (Ev.start args)) := ev_fn (by kernel_rfl) d args hl
theorem s195 (d : Nat) (args : List LV) (hl : args.length = i195.nargs) : ev (d + 1) 195 args = Ev.finish i195.res (evC (ev d) i195.body (Ev.start args)) := ev_fn (by kernel_rfl) d args hl
theorem s196 (d : Nat) (args : List LV) (hl : args.length = i196.nargs) : ev (d + 1) 196 args = Ev.finish i196.res (evC (ev d) i196.body (Ev.start args)) := ev_fn (by kernel_rfl) d args hl
theorem s197 (d : Nat) (args : List LV) (hl : args.length = i197.nargs) : ev (d + 1) 197 args = Ev.finish i197.res (evC (ev d) i197.body (Ev.start args)) := ev_fn (by kernel_rfl) d args hl
theorem s198 (d : Nat) (args : List LV) (hl : args.length = i198.nargs) : ev (d + 1) 198 args = Ev.finish i198.res (evC (ev d) i198.body (Ev.start args)) := ev_fn (by kernel_rfl) d args hl
theorem s199 (d : Nat) (args : List LV) (hl : args.length = i199.nargs) : ev (d + 1) 199 args = Ev.finish i199.res (evC (ev d) i199.body (Ev.start args)) := ev_fn (by kernel_rfl) d args hl
theorem s213 (d : Nat) (args : List LV) (hl : args.length = i213.nargs) : ev (d + 1) 213 args = Ev.finish i213.res (evC (ev d) i213.body (Ev.start args)) := ev_fn (by kernel_rfl) d args hl
theorem s214 (d : Nat) (args : List LV) (hl : args.length = i214.nargs) : ev (d + 1) 214 args = Ev.finish i214.res (evC (ev d) i214.body (Ev.start args)) := ev_fn (by kernel_rfl) d args hl
theorem s217 (d : Nat) (args : List LV) (hl : args.length = i217.nargs) : ev (d + 1) 217 args = Ev.finish i217.res (evC (ev d) i217.body (Ev.start args)) := ev_fn (by kernel_rfl) d args hl
theorem s218 (d : Nat) (args : List LV) (hl : args.length = i218.nargs) : ev (d + 1) 218 args = Ev.finish i218.res (evC (ev d) i218.body (Ev.start args)) := ev_fn (by kernel_rfl) d args hl
theorem s219 (d : Nat) (args : List LV) (hl : args.length = i219.nargs) : ev (d + 1) 219 args = Ev.finish i219.res (evC (ev d) i219.body (Ev.start args)) := ev_fn (by kernel_rfl) d args hl
theorem s222 (d : Nat) (args : List LV) (hl : args.length = i222.nargs) : ev (d + 1) 222 args = Ev.finish i222.res (evC (ev d) i222.body (Ev.start args)) := ev_fn (by kernel_rfl) d args hl
theorem s223 (d : Nat) (args : List LV) (hl : args.length = i223.nargs) : ev (d + 1) 223 args = Ev.finish i223.res (evC (ev d) i223.body (Ev.start args)) := ev_fn (by kernel_rfl) d args hl
theorem s227 (d : Nat) (args : List LV) (hl : args.length = i227.nargs) : ev (d + 1) 227 args = Ev.finish i227.res (evC (ev d) i227.body (Ev.start args)) := ev_fn (by kernel_rfl) d args hl
theorem s228 (d : Nat) (args : List LV) (hl : args.length = i228.nargs) : ev (d + 1) 228 args = Ev.finish i228.res (evC (ev d) i228.body (Ev.start args)) := ev_fn (by kernel_rfl) d args hl
theorem s236 (d : Nat) (args : List LV) (hl : args.length = i236.nargs) : ev (d + 1) 236 args = Ev.finish i236.res (evC (ev d) i236.body (Ev.start args)) := ev_fn (by kernel_rfl) d args hl
theorem v18 (d : Nat) {args bs : List LV} {st : St} (hs : startW args = some (bs, st)) (hl : bs.length = i18.nargs) : ev (d + 1) (wrN + 18) args = finishW bs i18.res (evC (ev d) i18.body st) := evF_fnW (by kernel_rfl) tabn d hs hl
theorem v34 (d : Nat) {args bs : List LV} {st : St} (hs : startW args = some (bs, st)) (hl : bs.length = i34.nargs) : ev (d + 1) (wrN + 34) args = finishW bs i34.res (evC (ev d) i34.body st) := evF_fnW (by kernel_rfl) tabn d hs hl
theorem v55 (d : Nat) {args bs : List LV} {st : St} (hs : startW args = some (bs, st)) (hl : bs.length = i55.nargs) : ev (d + 1) (wrN + 55) args = finishW bs i55.res (evC (ev d) i55.body st) := evF_fnW (by kernel_rfl) tabn d hs hl
theorem v77 (d : Nat) {args bs : List LV} {st : St} (hs : startW args = some (bs, st)) (hl : bs.length = i77.nargs) : ev (d + 1) (wrN + 77) args = finishW bs i77.res (evC (ev d) i77.body st) := evF_fnW (by kernel_rfl) tabn d hs hl
theorem v118 (d : Nat) {args bs : List LV} {st : St} (hs : startW args = some (bs, st)) (hl : bs.length = i118.nargs) : ev (d + 1) (wrN + 118) args = finishW bs i118.res (evC (ev d) i118.body st) := evF_fnW (by kernel_rfl) tabn d hs hl
theorem v119 (d : Nat) {args bs : List LV} {st : St} (hs : startW args = some (bs, st)) (hl : bs.length = i119.nargs) : ev (d + 1) (wrN + 119) args = finishW bs i119.res (evC (ev d) i119.body st) := evF_fnW (by kernel_rfl) tabn d hs hl
end Go.Proofs.Ytmhddfikpfkeoaa.walkS
