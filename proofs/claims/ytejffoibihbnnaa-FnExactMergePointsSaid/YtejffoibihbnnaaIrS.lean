/- The functions that some rows reach, turned; no conditions. -/
import Derived.Test.YtejffoibihbnnaaIrS1
import Derived.KernelRfl
import Derived.Test.YtejffoibihbnnaaProg
namespace Go.Proofs.Ytejffoibihbnnaa.walkS
open Go Go.Proofs.Ytejffoibihbnnaa.Ev
def w183_1 : IC :=
(.seq
 (.seq
 (.reg false [⟨9, .mv (.t 7), none, false⟩,
 ⟨10, .mv (.t 1), none, false⟩,
 ⟨11, .ln false (.t 10), none, false⟩,
 ⟨12, .ar .lss false (.t 9) (.t 11), none, false⟩])
 (.ite (.t 12)
 .skip
 (.exit 0)))
 (.seq
 (.block 1
 (.seq
 (.seq
 (.reg true [⟨15, .mv (.t 1), none, false⟩,
 ⟨16, .mv (.t 7), none, false⟩,
 ⟨17, .ia 1 (.t 15) (.t 16), none, false⟩,
 ⟨18, .ld 1 false (.t 17), none, false⟩,
 ⟨19, .mv (.t 0), none, false⟩,
 ⟨20, .nc (.t 19), none, false⟩,
 ⟨21, .fa 2 (.t 20), none, false⟩,
 ⟨22, .ld 1 false (.t 21), none, false⟩,
 ⟨23, .ln false (.t 22), none, false⟩,
 ⟨24, .ar .sub false (.t 23) (.k (.sc (.int .i64 1))), none, false⟩,
 ⟨25, .ca (.k (.cl 162 [])) [(.t 18), (.k (.sc (.int .i64 0))), (.t 24)], none, false⟩,
 ⟨26, .nt (.t 25), none, false⟩])
 (.ite (.t 26)
 (.seq
 (.reg false [⟨4, .mv (.k .nl), none, false⟩,
 ⟨5, .mv (.k (.sc (.bool false))), none, false⟩])
 .ret)
 .skip))
 (.reg true [⟨27, .mv (.t 6), none, false⟩,
 ⟨28, .mv (.t 0), none, false⟩,
 ⟨29, .nc (.t 28), none, false⟩,
 ⟨30, .fa 2 (.t 29), none, false⟩,
 ⟨31, .ld 1 false (.t 30), none, false⟩,
 ⟨32, .mv (.t 1), none, false⟩,
 ⟨33, .mv (.t 7), none, false⟩,
 ⟨34, .ia 1 (.t 32) (.t 33), none, false⟩,
 ⟨35, .ld 1 false (.t 34), none, false⟩,
 ⟨36, .ia 2 (.t 31) (.t 35), none, false⟩,
 ⟨37, .ld 2 true (.t 36), none, false⟩,
 ⟨38, .bs 159 2 [(.sc (.int .i64 0)), (.sc (.int .i64 0))] 1 [(0, (.t 37))], none, false⟩,
 ⟨39, .ap 159 2 false (.t 27) (.t 38), none, false⟩,
 ⟨6, .mv (.t 39), none, false⟩])))
 (.reg false [⟨13, .mv (.t 7), none, false⟩,
 ⟨14, .ar .add false (.t 13) (.k (.sc (.int .i64 1))), none, false⟩,
 ⟨7, .mv (.t 14), none, false⟩])))
def b183_1 : IC := w183_1
theorem u183_1 (call : CallF) (st : St) : evC call b183_1 st = evC call w183_1 st := rfl
attribute [simp] u183_1 w183_1
def i183 : Ev.Fn := ⟨2, 41, [.tmp 4, .tmp 5],
 (.seq
 (.reg false [⟨4, .mv (.k .nl), none, false⟩,
 ⟨5, .mv (.k (.sc (.bool false))), none, false⟩])
 (.seq
 (.reg false [⟨8, .bs 159 2 [(.sc (.int .i64 0)), (.sc (.int .i64 0))] 0 [], none, false⟩,
 ⟨6, .mv (.t 8), none, false⟩])
 (.seq
 (.seq
 (.reg false [⟨7, .mv (.k (.sc (.int .i64 0))), none, false⟩])
 (.cln [6] [4, 5]
 (.block 0
 (.loop [0, 1, 6, 7] b183_1))))
 (.seq
 (.reg false [⟨40, .mv (.t 6), none, false⟩,
 ⟨4, .mv (.t 40), none, false⟩,
 ⟨5, .mv (.k (.sc (.bool true))), none, false⟩])
 .ret))))⟩
attribute [simp] i183
set_option maxRecDepth 1000000 in
theorem c183 : cFn Try.prog 183 [[], [0, 1, 6, 7], [6], [4, 5]] = some i183 := by kernel_rfl
theorem e183 : enterOk Try.prog 183 = true := by kernel_rfl
def i184 : Ev.Fn := ⟨3, 16, [.tmp 6],
 (.seq
 (.reg false [⟨3, .bx (.t 0), none, false⟩,
 ⟨4, .bx (.t 1), none, false⟩,
 ⟨5, .bx (.t 2), none, false⟩,
 ⟨6, .mv (.k (.sc (.int .i64 0))), none, false⟩])
 (.seq
 (.reg false [⟨8, .ld 2 true (.t 3), none, false⟩,
 ⟨9, .ld 2 true (.t 4), none, false⟩,
 ⟨10, .ld 2 true (.t 5), none, false⟩,
 ⟨11, .ca (.k (.cl 254 [])) [(.t 8), (.t 9), (.t 10)], none, false⟩,
 ⟨7, .mv (.t 11), none, false⟩])
 (.seq
 (.seq
 (.reg false [⟨12, .mv (.t 7), none, false⟩,
 ⟨13, .ar .gtr false (.t 12) (.k (.sc (.int .i64 0))), none, false⟩])
 (.ite (.t 13)
 (.seq
 (.reg false [⟨6, .mv (.k (.sc (.int .i64 1))), none, false⟩])
 .ret)
 .skip))
 (.seq
 (.seq
 (.reg false [⟨14, .mv (.t 7), none, false⟩,
 ⟨15, .ar .lss false (.t 14) (.k (.sc (.int .i64 0))), none, false⟩])
 (.ite (.t 15)
 (.seq
 (.reg false [⟨6, .mv (.k (.sc (.int .i64 (-1)))), none, false⟩])
 .ret)
 .skip))
 (.seq
 (.reg false [⟨6, .mv (.k (.sc (.int .i64 0))), none, false⟩])
 .ret)))))⟩
attribute [simp] i184
set_option maxRecDepth 1000000 in
theorem c184 : cFn Try.prog 184 [[]] = some i184 := by kernel_rfl
theorem e184 : enterOk Try.prog 184 = true := by kernel_rfl
def i185 : Ev.Fn := ⟨1, 12, [.cell 2 2 true],
 (.seq
 (.reg false [⟨1, .bx (.t 0), none, false⟩,
 ⟨2, .al [(.sc (.string ⟨#[]⟩)), .nl], none, false⟩])
 (.seq
 (.reg false [⟨3, .al [(.sc (.string ⟨#[]⟩)), .nl], none, false⟩])
 (.seq
 (.reg false [⟨4, .fa 0 (.t 1), none, false⟩,
 ⟨5, .ld 1 false (.t 4), none, false⟩,
 ⟨6, .fa 0 (.t 3), none, false⟩,
 ⟨1, .so 1 (.t 6) (.t 5), none, true⟩])
 (.seq
 (.reg false [⟨7, .fa 1 (.t 1), none, false⟩,
 ⟨8, .ld 1 false (.t 7), none, false⟩,
 ⟨9, .ca (.k (.cl 69 [])) [(.t 8)], none, false⟩,
 ⟨10, .fa 1 (.t 3), none, false⟩,
 ⟨1, .so 1 (.t 10) (.t 9), none, true⟩])
 (.seq
 (.reg false [⟨11, .ld 2 true (.t 3), none, false⟩,
 ⟨1, .so 2 (.t 2) (.t 11), none, true⟩])
 .ret)))))⟩
attribute [simp] i185
set_option maxRecDepth 1000000 in
theorem c185 : cFn Try.prog 185 [[]] = some i185 := by kernel_rfl
theorem e185 : enterOk Try.prog 185 = true := by kernel_rfl
def i186 : Ev.Fn := ⟨2, 9, [.tmp 4],
 (.seq
 (.reg false [⟨3, .bx (.t 1), none, false⟩,
 ⟨4, .mv (.k (.sc (.bool false))), none, false⟩])
 (.seq
 (.reg false [⟨5, .mv (.t 0), none, false⟩,
 ⟨6, .ld 2 true (.t 3), none, false⟩,
 ⟨7, .ca (.k (.cl 141 [])) [(.t 5), (.t 6)], none, false⟩,
 ⟨8, .ar .geq false (.t 7) (.k (.sc (.int .i64 0))), none, false⟩,
 ⟨4, .mv (.t 8), none, false⟩])
 .ret))⟩
attribute [simp] i186
set_option maxRecDepth 1000000 in
theorem c186 : cFn Try.prog 186 [[]] = some i186 := by kernel_rfl
theorem e186 : enterOk Try.prog 186 = true := by kernel_rfl
def w187_1 : IC :=
(.seq
 (.reg false [⟨13, .ar .lss false (.t 12) (.t 11), none, false⟩])
 (.seq
 (.ite (.t 13)
 .skip
 (.exit 0))
 (.seq
 (.block 1
 (.seq
 (.reg false [⟨14, .ia 1 (.t 10) (.t 12), none, false⟩,
 ⟨15, .ld 1 false (.t 14), none, false⟩,
 ⟨8, .mv (.t 15), none, false⟩])
 (.seq
 (.seq
 (.reg false [⟨16, .mv (.t 8), none, false⟩,
 ⟨17, .mv (.t 0), none, false⟩,
 ⟨18, .ln false (.t 17), none, false⟩,
 ⟨19, .ar .sub false (.t 18) (.k (.sc (.int .i64 1))), none, false⟩,
 ⟨20, .ca (.k (.cl 165 [])) [(.t 16), (.k (.sc (.int .i64 0))), (.t 19)], none, false⟩,
 ⟨21, .nt (.t 20), none, false⟩])
 (.ite (.t 21)
 (.seq
 (.reg false [⟨4, .mv (.k .nl), none, false⟩,
 ⟨5, .mv (.k (.sc (.bool false))), none, false⟩])
 .ret)
 .skip))
 (.reg false [⟨22, .mv (.t 6), none, false⟩,
 ⟨23, .mv (.t 0), none, false⟩,
 ⟨24, .mv (.t 8), none, false⟩,
 ⟨25, .ia 2 (.t 23) (.t 24), none, false⟩,
 ⟨26, .ld 2 true (.t 25), none, false⟩,
 ⟨27, .bs 159 2 [(.sc (.int .i64 0)), (.sc (.int .i64 0))] 1 [(0, (.t 26))], none, false⟩,
 ⟨28, .ap 159 2 false (.t 22) (.t 27), none, false⟩,
 ⟨6, .mv (.t 28), none, false⟩]))))
 (.reg false [⟨29, .ar .add false (.t 12) (.k (.sc (.int .i64 1))), none, false⟩,
 ⟨12, .mv (.t 29), none, false⟩]))))
def b187_1 : IC := w187_1
theorem u187_1 (call : CallF) (st : St) : evC call b187_1 st = evC call w187_1 st := rfl
attribute [simp] u187_1 w187_1
def i187 : Ev.Fn := ⟨2, 31, [.tmp 4, .tmp 5],
 (.seq
 (.reg false [⟨4, .mv (.k .nl), none, false⟩,
 ⟨5, .mv (.k (.sc (.bool false))), none, false⟩])
 (.seq
 (.reg false [⟨9, .bs 159 2 [(.sc (.int .i64 0)), (.sc (.int .i64 0))] 0 [], none, false⟩,
 ⟨6, .mv (.t 9), none, false⟩])
 (.seq
 (.seq
 (.reg false [⟨10, .mv (.t 1), none, false⟩,
 ⟨11, .ln false (.t 10), none, false⟩,
 ⟨12, .mv (.k (.sc (.int .i64 0))), none, false⟩])
 (.cln [6] [4, 5]
 (.block 0
 (.loop [0, 6, 10, 11, 12] b187_1))))
 (.seq
 (.reg false [⟨30, .mv (.t 6), none, false⟩,
 ⟨4, .mv (.t 30), none, false⟩,
 ⟨5, .mv (.k (.sc (.bool true))), none, false⟩])
 .ret))))⟩
attribute [simp] i187
set_option maxRecDepth 1000000 in
theorem c187 : cFn Try.prog 187 [[], [0, 6, 10, 11, 12], [6], [4, 5]] = some i187 := by kernel_rfl
theorem e187 : enterOk Try.prog 187 = true := by kernel_rfl
def i190 : Ev.Fn := ⟨3, 37, [.tmp 6],
 (.seq
 (.reg false [⟨3, .bx (.t 0), none, false⟩,
 ⟨4, .bx (.t 1), none, false⟩,
 ⟨5, .bx (.t 2), none, false⟩,
 ⟨6, .mv (.k (.sc (.int .i64 0))), none, false⟩])
 (.seq
 (.reg false [⟨8, .fa 0 (.t 4), none, false⟩,
 ⟨9, .ld 1 false (.t 8), none, false⟩,
 ⟨10, .fa 0 (.t 3), none, false⟩,
 ⟨11, .ld 1 false (.t 10), none, false⟩,
 ⟨12, .ar .sub false (.t 9) (.t 11), none, false⟩,
 ⟨13, .fa 1 (.t 5), none, false⟩,
 ⟨14, .ld 1 false (.t 13), none, false⟩,
 ⟨15, .fa 1 (.t 3), none, false⟩,
 ⟨16, .ld 1 false (.t 15), none, false⟩,
 ⟨17, .ar .sub false (.t 14) (.t 16), none, false⟩,
 ⟨18, .ar .mul false (.t 12) (.t 17), none, false⟩,
 ⟨19, .fa 1 (.t 4), none, false⟩,
 ⟨20, .ld 1 false (.t 19), none, false⟩,
 ⟨21, .fa 1 (.t 3), none, false⟩,
 ⟨22, .ld 1 false (.t 21), none, false⟩,
 ⟨23, .ar .sub false (.t 20) (.t 22), none, false⟩,
 ⟨24, .fa 0 (.t 5), none, false⟩,
 ⟨25, .ld 1 false (.t 24), none, false⟩,
 ⟨26, .fa 0 (.t 3), none, false⟩,
 ⟨27, .ld 1 false (.t 26), none, false⟩,
 ⟨28, .ar .sub false (.t 25) (.t 27), none, false⟩,
 ⟨29, .ar .mul false (.t 23) (.t 28), none, false⟩,
 ⟨30, .ar .sub false (.t 18) (.t 29), none, false⟩,
 ⟨7, .mv (.t 30), none, false⟩])
 (.seq
 (.block 0
 (.seq
 (.reg false [⟨32, .mv (.t 7), none, false⟩,
 ⟨33, .ar .gtr false (.t 32) (.k (.sc (.int .i64 0))), none, false⟩,
 ⟨31, .mv (.t 33), none, false⟩])
 (.ite (.t 31)
 (.seq
 (.reg false [⟨6, .mv (.k (.sc (.int .i64 1))), none, false⟩])
 .ret)
 (.seq
 (.reg false [⟨35, .mv (.t 7), none, false⟩,
 ⟨36, .ar .lss false (.t 35) (.k (.sc (.int .i64 0))), none, false⟩,
 ⟨34, .mv (.t 36), none, false⟩])
 (.ite (.t 34)
 (.seq
 (.reg false [⟨6, .mv (.k (.sc (.int .i64 (-1)))), none, false⟩])
 .ret)
 .skip)))))
 (.seq
 (.reg false [⟨6, .mv (.k (.sc (.int .i64 0))), none, false⟩])
 .ret))))⟩
attribute [simp] i190
set_option maxRecDepth 1000000 in
theorem c190 : cFn Try.prog 190 [[]] = some i190 := by kernel_rfl
theorem e190 : enterOk Try.prog 190 = true := by kernel_rfl
def i191 : Ev.Fn := ⟨2, 16, [.tmp 4],
 (.seq
 (.reg false [⟨2, .bx (.t 0), none, false⟩,
 ⟨3, .bx (.t 1), none, false⟩,
 ⟨4, .mv (.k (.sc (.bool false))), none, false⟩])
 (.seq
 (.seq
 (.reg false [⟨5, .fa 0 (.t 2), none, false⟩,
 ⟨6, .ld 1 false (.t 5), none, false⟩,
 ⟨7, .fa 0 (.t 3), none, false⟩,
 ⟨8, .ld 1 false (.t 7), none, false⟩,
 ⟨9, .ar .neq false (.t 6) (.t 8), none, false⟩])
 (.ite (.t 9)
 (.seq
 (.reg false [⟨4, .mv (.k (.sc (.bool false))), none, false⟩])
 .ret)
 .skip))
 (.seq
 (.seq
 (.reg false [⟨10, .fa 1 (.t 2), none, false⟩,
 ⟨11, .ld 1 false (.t 10), none, false⟩,
 ⟨12, .fa 1 (.t 3), none, false⟩,
 ⟨13, .ld 1 false (.t 12), none, false⟩,
 ⟨14, .ca (.k (.cl 42 [])) [(.t 11), (.t 13)], none, false⟩,
 ⟨15, .nt (.t 14), none, false⟩])
 (.ite (.t 15)
 (.seq
 (.reg false [⟨4, .mv (.k (.sc (.bool false))), none, false⟩])
 .ret)
 .skip))
 (.seq
 (.reg false [⟨4, .mv (.k (.sc (.bool true))), none, false⟩])
 .ret))))⟩
attribute [simp] i191
set_option maxRecDepth 1000000 in
theorem c191 : cFn Try.prog 191 [[]] = some i191 := by kernel_rfl
theorem e191 : enterOk Try.prog 191 = true := by kernel_rfl
def i203 : Ev.Fn := ⟨3, 42, [.tmp 6],
 (.seq
 (.reg false [⟨3, .bx (.t 0), none, false⟩,
 ⟨4, .bx (.t 1), none, false⟩,
 ⟨5, .bx (.t 2), none, false⟩,
 ⟨6, .mv (.k (.sc (.bool false))), none, false⟩])
 (.seq
 (.reg true [⟨7, .ld 2 true (.t 3), none, false⟩,
 ⟨8, .ld 2 true (.t 4), none, false⟩,
 ⟨9, .ld 2 true (.t 5), none, false⟩,
 ⟨10, .ca (.k (.cl 184 [])) [(.t 7), (.t 8), (.t 9)], none, false⟩,
 ⟨11, .ar .eql false (.t 10) (.k (.sc (.int .i64 0))), none, false⟩,
 ⟨12, .mv (.t 11), none, false⟩,
 ⟨13, .fa 0 (.t 5), (some (12, true)), false⟩,
 ⟨14, .ld 1 false (.t 13), (some (12, true)), false⟩,
 ⟨15, .fa 0 (.t 3), (some (12, true)), false⟩,
 ⟨16, .ld 1 false (.t 15), (some (12, true)), false⟩,
 ⟨17, .fa 0 (.t 4), (some (12, true)), false⟩,
 ⟨18, .ld 1 false (.t 17), (some (12, true)), false⟩,
 ⟨19, .ca (.k (.cl 224 [])) [(.t 16), (.t 18)], (some (12, true)), false⟩,
 ⟨20, .fa 0 (.t 3), (some (12, true)), false⟩,
 ⟨21, .ld 1 false (.t 20), (some (12, true)), false⟩,
 ⟨22, .fa 0 (.t 4), (some (12, true)), false⟩,
 ⟨23, .ld 1 false (.t 22), (some (12, true)), false⟩,
 ⟨24, .ca (.k (.cl 222 [])) [(.t 21), (.t 23)], (some (12, true)), false⟩,
 ⟨25, .ca (.k (.cl 162 [])) [(.t 14), (.t 19), (.t 24)], (some (12, true)), false⟩,
 ⟨26, .pk (.t 12) (.t 25) (.k (.sc (.bool false))), none, false⟩,
 ⟨27, .mv (.t 26), none, false⟩,
 ⟨28, .fa 1 (.t 5), (some (27, true)), false⟩,
 ⟨29, .ld 1 false (.t 28), (some (27, true)), false⟩,
 ⟨30, .fa 1 (.t 3), (some (27, true)), false⟩,
 ⟨31, .ld 1 false (.t 30), (some (27, true)), false⟩,
 ⟨32, .fa 1 (.t 4), (some (27, true)), false⟩,
 ⟨33, .ld 1 false (.t 32), (some (27, true)), false⟩,
 ⟨34, .ca (.k (.cl 224 [])) [(.t 31), (.t 33)], (some (27, true)), false⟩,
 ⟨35, .fa 1 (.t 3), (some (27, true)), false⟩,
 ⟨36, .ld 1 false (.t 35), (some (27, true)), false⟩,
 ⟨37, .fa 1 (.t 4), (some (27, true)), false⟩,
 ⟨38, .ld 1 false (.t 37), (some (27, true)), false⟩,
 ⟨39, .ca (.k (.cl 222 [])) [(.t 36), (.t 38)], (some (27, true)), false⟩,
 ⟨40, .ca (.k (.cl 162 [])) [(.t 29), (.t 34), (.t 39)], (some (27, true)), false⟩,
 ⟨41, .pk (.t 27) (.t 40) (.k (.sc (.bool false))), none, false⟩,
 ⟨6, .mv (.t 41), none, false⟩])
 .ret))⟩
attribute [simp] i203
set_option maxRecDepth 1000000 in
theorem c203 : cFn Try.prog 203 [[]] = some i203 := by kernel_rfl
theorem e203 : enterOk Try.prog 203 = true := by kernel_rfl
def i208 : Ev.Fn := ⟨3, 42, [.tmp 6],
 (.seq
 (.reg false [⟨3, .bx (.t 0), none, false⟩,
 ⟨4, .bx (.t 1), none, false⟩,
 ⟨5, .bx (.t 2), none, false⟩,
 ⟨6, .mv (.k (.sc (.bool false))), none, false⟩])
 (.seq
 (.reg false [⟨7, .ld 2 true (.t 3), none, false⟩,
 ⟨8, .ld 2 true (.t 4), none, false⟩,
 ⟨9, .ld 2 true (.t 5), none, false⟩,
 ⟨10, .ca (.k (.cl 190 [])) [(.t 7), (.t 8), (.t 9)], none, false⟩,
 ⟨11, .ar .eql false (.t 10) (.k (.sc (.int .i64 0))), none, false⟩,
 ⟨12, .mv (.t 11), none, false⟩,
 ⟨13, .fa 0 (.t 5), (some (12, true)), false⟩,
 ⟨14, .ld 1 false (.t 13), (some (12, true)), false⟩,
 ⟨15, .fa 0 (.t 3), (some (12, true)), false⟩,
 ⟨16, .ld 1 false (.t 15), (some (12, true)), false⟩,
 ⟨17, .fa 0 (.t 4), (some (12, true)), false⟩,
 ⟨18, .ld 1 false (.t 17), (some (12, true)), false⟩,
 ⟨19, .mn (.t 16) (.t 18), (some (12, true)), false⟩,
 ⟨20, .fa 0 (.t 3), (some (12, true)), false⟩,
 ⟨21, .ld 1 false (.t 20), (some (12, true)), false⟩,
 ⟨22, .fa 0 (.t 4), (some (12, true)), false⟩,
 ⟨23, .ld 1 false (.t 22), (some (12, true)), false⟩,
 ⟨24, .mx (.t 21) (.t 23), (some (12, true)), false⟩,
 ⟨25, .ca (.k (.cl 165 [])) [(.t 14), (.t 19), (.t 24)], (some (12, true)), false⟩,
 ⟨26, .pk (.t 12) (.t 25) (.k (.sc (.bool false))), none, false⟩,
 ⟨27, .mv (.t 26), none, false⟩,
 ⟨28, .fa 1 (.t 5), (some (27, true)), false⟩,
 ⟨29, .ld 1 false (.t 28), (some (27, true)), false⟩,
 ⟨30, .fa 1 (.t 3), (some (27, true)), false⟩,
 ⟨31, .ld 1 false (.t 30), (some (27, true)), false⟩,
 ⟨32, .fa 1 (.t 4), (some (27, true)), false⟩,
 ⟨33, .ld 1 false (.t 32), (some (27, true)), false⟩,
 ⟨34, .mn (.t 31) (.t 33), (some (27, true)), false⟩,
 ⟨35, .fa 1 (.t 3), (some (27, true)), false⟩,
 ⟨36, .ld 1 false (.t 35), (some (27, true)), false⟩,
 ⟨37, .fa 1 (.t 4), (some (27, true)), false⟩,
 ⟨38, .ld 1 false (.t 37), (some (27, true)), false⟩,
 ⟨39, .mx (.t 36) (.t 38), (some (27, true)), false⟩,
 ⟨40, .ca (.k (.cl 165 [])) [(.t 29), (.t 34), (.t 39)], (some (27, true)), false⟩,
 ⟨41, .pk (.t 27) (.t 40) (.k (.sc (.bool false))), none, false⟩,
 ⟨6, .mv (.t 41), none, false⟩])
 .ret))⟩
attribute [simp] i208
set_option maxRecDepth 1000000 in
theorem c208 : cFn Try.prog 208 [[]] = some i208 := by kernel_rfl
theorem e208 : enterOk Try.prog 208 = true := by kernel_rfl
def w211_1 : IC :=
(.seq
 (.seq
 (.reg false [⟨6, .mv (.t 3), none, false⟩,
 ⟨7, .mv (.t 4), none, false⟩,
 ⟨8, .ar .lss false (.t 6) (.t 7), none, false⟩])
 (.ite (.t 8)
 .skip
 (.exit 0)))
 (.block 1
 (.seq
 (.reg false [⟨9, .mv (.t 3), none, false⟩,
 ⟨10, .mv (.t 4), none, false⟩,
 ⟨11, .ar .add false (.t 9) (.t 10), none, false⟩,
 ⟨12, .ar .add false (.t 11) (.k (.sc (.int .i64 1))), none, false⟩,
 ⟨13, .ar .quo false (.t 12) (.k (.sc (.int .i64 2))), none, false⟩,
 ⟨5, .mv (.t 13), none, false⟩])
 (.seq
 (.reg false [⟨14, .mv (.t 5), none, false⟩,
 ⟨15, .mv (.t 5), none, false⟩,
 ⟨16, .ar .mul false (.t 14) (.t 15), none, false⟩,
 ⟨17, .mv (.t 0), none, false⟩,
 ⟨18, .ar .leq false (.t 16) (.t 17), none, false⟩])
 (.ite (.t 18)
 (.reg false [⟨19, .mv (.t 5), none, false⟩,
 ⟨3, .mv (.t 19), none, false⟩])
 (.reg false [⟨20, .mv (.t 5), none, false⟩,
 ⟨21, .ar .sub false (.t 20) (.k (.sc (.int .i64 1))), none, false⟩,
 ⟨4, .mv (.t 21), none, false⟩]))))))
def b211_1 : IC := w211_1
theorem u211_1 (call : CallF) (st : St) : evC call b211_1 st = evC call w211_1 st := rfl
attribute [simp] u211_1 w211_1
def i211 : Ev.Fn := ⟨1, 23, [.tmp 2],
 (.seq
 (.reg false [⟨2, .mv (.k (.sc (.int .i64 0))), none, false⟩])
 (.seq
 (.reg false [⟨3, .mv (.k (.sc (.int .i64 0))), none, false⟩])
 (.seq
 (.reg false [⟨4, .mv (.k (.sc (.int .i64 3037000499))), none, false⟩])
 (.seq
 (.cln [3] [2]
 (.block 0
 (.loop [0, 3, 4] b211_1)))
 (.seq
 (.reg false [⟨22, .mv (.t 3), none, false⟩,
 ⟨2, .mv (.t 22), none, false⟩])
 .ret)))))⟩
attribute [simp] i211
set_option maxRecDepth 1000000 in
theorem c211 : cFn Try.prog 211 [[], [0, 3, 4], [3], [2]] = some i211 := by kernel_rfl
theorem e211 : enterOk Try.prog 211 = true := by kernel_rfl
def w212_1 : IC :=
(.seq
 (.seq
 (.reg false [⟨6, .mv (.t 4), none, false⟩,
 ⟨7, .mv (.t 0), none, false⟩,
 ⟨8, .ln false (.t 7), none, false⟩,
 ⟨9, .ar .lss false (.t 6) (.t 8), none, false⟩])
 (.ite (.t 9)
 .skip
 (.exit 0)))
 (.seq
 (.block 1
 (.seq
 (.reg true [⟨12, .mv (.t 3), none, false⟩,
 ⟨13, .ln false (.t 12), none, false⟩,
 ⟨14, .ar .eql false (.t 13) (.k (.sc (.int .i64 0))), none, false⟩,
 ⟨15, .mv (.t 14), none, false⟩,
 ⟨16, .mv (.t 3), (some (15, false)), false⟩,
 ⟨17, .mv (.t 3), (some (15, false)), false⟩,
 ⟨18, .ln false (.t 17), (some (15, false)), false⟩,
 ⟨19, .ar .sub false (.t 18) (.k (.sc (.int .i64 1))), (some (15, false)), false⟩,
 ⟨20, .ia 1 (.t 16) (.t 19), (some (15, false)), false⟩,
 ⟨21, .ld 1 false (.t 20), (some (15, false)), false⟩,
 ⟨22, .mv (.t 0), (some (15, false)), false⟩,
 ⟨23, .mv (.t 4), (some (15, false)), false⟩,
 ⟨24, .ia 1 (.t 22) (.t 23), (some (15, false)), false⟩,
 ⟨25, .ld 1 false (.t 24), (some (15, false)), false⟩,
 ⟨26, .ar .neq false (.t 21) (.t 25), (some (15, false)), false⟩,
 ⟨27, .pk (.t 15) (.k (.sc (.bool true))) (.t 26), none, false⟩])
 (.ite (.t 27)
 (.reg false [⟨28, .mv (.t 3), none, false⟩,
 ⟨29, .mv (.t 0), none, false⟩,
 ⟨30, .mv (.t 4), none, false⟩,
 ⟨31, .ia 1 (.t 29) (.t 30), none, false⟩,
 ⟨32, .ld 1 false (.t 31), none, false⟩,
 ⟨33, .bs 2 1 [(.sc (.int .i64 0))] 1 [(0, (.t 32))], none, false⟩,
 ⟨34, .ap 2 1 false (.t 28) (.t 33), none, false⟩,
 ⟨3, .mv (.t 34), none, false⟩])
 .skip)))
 (.reg false [⟨10, .mv (.t 4), none, false⟩,
 ⟨11, .ar .add false (.t 10) (.k (.sc (.int .i64 1))), none, false⟩,
 ⟨4, .mv (.t 11), none, false⟩])))
def b212_1 : IC := w212_1
theorem u212_1 (call : CallF) (st : St) : evC call b212_1 st = evC call w212_1 st := rfl
attribute [simp] u212_1 w212_1
def w212_2 : IC :=
(.seq
 (.seq
 (.reg true [⟨35, .mv (.t 3), none, false⟩,
 ⟨36, .ln false (.t 35), none, false⟩,
 ⟨37, .ar .gtr false (.t 36) (.k (.sc (.int .i64 1))), none, false⟩,
 ⟨38, .mv (.t 37), none, false⟩,
 ⟨39, .mv (.t 3), (some (38, true)), false⟩,
 ⟨40, .ia 1 (.t 39) (.k (.sc (.int .i64 0))), (some (38, true)), false⟩,
 ⟨41, .ld 1 false (.t 40), (some (38, true)), false⟩,
 ⟨42, .mv (.t 3), (some (38, true)), false⟩,
 ⟨43, .mv (.t 3), (some (38, true)), false⟩,
 ⟨44, .ln false (.t 43), (some (38, true)), false⟩,
 ⟨45, .ar .sub false (.t 44) (.k (.sc (.int .i64 1))), (some (38, true)), false⟩,
 ⟨46, .ia 1 (.t 42) (.t 45), (some (38, true)), false⟩,
 ⟨47, .ld 1 false (.t 46), (some (38, true)), false⟩,
 ⟨48, .ar .eql false (.t 41) (.t 47), (some (38, true)), false⟩,
 ⟨49, .pk (.t 38) (.t 48) (.k (.sc (.bool false))), none, false⟩])
 (.ite (.t 49)
 .skip
 (.exit 2)))
 (.block 3
 (.seq
 (.reg false [⟨50, .mv (.t 3), none, false⟩,
 ⟨51, .mv (.t 3), none, false⟩,
 ⟨52, .ln false (.t 51), none, false⟩,
 ⟨53, .ar .sub false (.t 52) (.k (.sc (.int .i64 1))), none, false⟩,
 ⟨54, .sl 1 (.t 50) none (some (.t 53)), none, false⟩,
 ⟨3, .mv (.t 54), none, false⟩])
 (.trm 3))))
def b212_2 : IC := w212_2
theorem u212_2 (call : CallF) (st : St) : evC call b212_2 st = evC call w212_2 st := rfl
attribute [simp] u212_2 w212_2
def i212 : Ev.Fn := ⟨1, 56, [.tmp 2],
 (.seq
 (.reg false [⟨2, .mv (.k .nl), none, false⟩])
 (.seq
 (.reg false [⟨5, .bs 2 1 [(.sc (.int .i64 0))] 0 [], none, false⟩,
 ⟨3, .mv (.t 5), none, false⟩])
 (.seq
 (.seq
 (.reg false [⟨4, .mv (.k (.sc (.int .i64 0))), none, false⟩])
 (.cln [3] [2]
 (.block 0
 (.loop [0, 3, 4] b212_1))))
 (.seq
 (.cln [3] [2]
 (.block 2
 (.loop [3] b212_2)))
 (.seq
 (.reg false [⟨55, .mv (.t 3), none, false⟩,
 ⟨2, .mv (.t 55), none, false⟩])
 .ret)))))⟩
attribute [simp] i212
set_option maxRecDepth 1000000 in
theorem c212 : cFn Try.prog 212 [[], [0, 3, 4], [3], [2], [3], [3], [2]] = some i212 := by kernel_rfl
theorem e212 : enterOk Try.prog 212 = true := by kernel_rfl
def w213_1 : IC :=
(.seq
 (.reg false [⟨8, .ar .lss false (.t 7) (.t 6), none, false⟩])
 (.seq
 (.ite (.t 8)
 .skip
 (.exit 0))
 (.seq
 (.block 1
 (.seq
 (.reg false [⟨9, .ia 2 (.t 5) (.t 7), none, false⟩,
 ⟨10, .ld 2 true (.t 9), none, false⟩,
 ⟨4, .al [(.sc (.int .i64 0)), (.sc (.int .i64 0))], none, false⟩,
 ⟨1, .so 2 (.t 4) (.t 10), none, true⟩])
 (.seq
 (.reg false [⟨11, .ld 2 true (.t 4), none, false⟩,
 ⟨12, .ca (.k (.cl 270 [])) [(.t 11)], none, false⟩,
 ⟨13, .nt (.t 12), none, false⟩])
 (.ite (.t 13)
 (.seq
 (.reg false [⟨2, .mv (.k (.sc (.bool false))), none, false⟩])
 .ret)
 .skip))))
 (.reg false [⟨14, .ar .add false (.t 7) (.k (.sc (.int .i64 1))), none, false⟩,
 ⟨7, .mv (.t 14), none, false⟩]))))
def b213_1 : IC := w213_1
theorem u213_1 (call : CallF) (st : St) : evC call b213_1 st = evC call w213_1 st := rfl
attribute [simp] u213_1 w213_1
def i213 : Ev.Fn := ⟨1, 15, [.tmp 2],
 (.seq
 (.reg false [⟨2, .mv (.k (.sc (.bool false))), none, false⟩])
 (.seq
 (.seq
 (.reg false [⟨5, .mv (.t 0), none, false⟩,
 ⟨6, .ln false (.t 5), none, false⟩,
 ⟨7, .mv (.k (.sc (.int .i64 0))), none, false⟩])
 (.cln [] [2]
 (.block 0
 (.loop [5, 6, 7] b213_1))))
 (.seq
 (.reg false [⟨2, .mv (.k (.sc (.bool true))), none, false⟩])
 .ret)))⟩
attribute [simp] i213
set_option maxRecDepth 1000000 in
theorem c213 : cFn Try.prog 213 [[], [5, 6, 7], [], [2]] = some i213 := by kernel_rfl
theorem e213 : enterOk Try.prog 213 = true := by kernel_rfl
def w214_1 : IC :=
(.seq
 (.seq
 (.reg false [⟨8, .mv (.t 3), none, false⟩,
 ⟨9, .mv (.t 4), none, false⟩,
 ⟨10, .ar .lss false (.t 8) (.t 9), none, false⟩])
 (.ite (.t 10)
 .skip
 (.exit 0)))
 (.block 1
 (.seq
 (.reg false [⟨11, .mv (.t 3), none, false⟩,
 ⟨12, .mv (.t 4), none, false⟩,
 ⟨13, .ar .add false (.t 11) (.t 12), none, false⟩,
 ⟨14, .ar .add false (.t 13) (.k (.sc (.int .i64 1))), none, false⟩,
 ⟨15, .ar .quo false (.t 14) (.k (.sc (.int .i64 2))), none, false⟩,
 ⟨5, .mv (.t 15), none, false⟩])
 (.seq
 (.reg false [⟨16, .mv (.t 5), none, false⟩,
 ⟨17, .mv (.t 0), none, false⟩,
 ⟨18, .mv (.t 5), none, false⟩,
 ⟨19, .ar .quo false (.t 17) (.t 18), none, false⟩,
 ⟨20, .ar .leq false (.t 16) (.t 19), none, false⟩])
 (.ite (.t 20)
 (.reg false [⟨21, .mv (.t 5), none, false⟩,
 ⟨3, .mv (.t 21), none, false⟩])
 (.reg false [⟨22, .mv (.t 5), none, false⟩,
 ⟨23, .ar .sub false (.t 22) (.k (.sc (.int .i64 1))), none, false⟩,
 ⟨4, .mv (.t 23), none, false⟩]))))))
def b214_1 : IC := w214_1
theorem u214_1 (call : CallF) (st : St) : evC call b214_1 st = evC call w214_1 st := rfl
attribute [simp] u214_1 w214_1
def i214 : Ev.Fn := ⟨1, 25, [.tmp 2],
 (.seq
 (.reg false [⟨2, .mv (.k (.sc (.int .i64 0))), none, false⟩])
 (.seq
 (.seq
 (.reg false [⟨6, .mv (.t 0), none, false⟩,
 ⟨7, .ar .lss false (.t 6) (.k (.sc (.int .i64 1))), none, false⟩])
 (.ite (.t 7)
 (.seq
 (.reg false [⟨2, .mv (.k (.sc (.int .i64 0))), none, false⟩])
 .ret)
 .skip))
 (.seq
 (.reg false [⟨3, .mv (.k (.sc (.int .i64 1))), none, false⟩,
 ⟨4, .mv (.k (.sc (.int .i64 3037000499))), none, false⟩])
 (.seq
 (.cln [3] [2]
 (.block 0
 (.loop [0, 3, 4] b214_1)))
 (.seq
 (.reg false [⟨24, .mv (.t 3), none, false⟩,
 ⟨2, .mv (.t 24), none, false⟩])
 .ret)))))⟩
attribute [simp] i214
set_option maxRecDepth 1000000 in
theorem c214 : cFn Try.prog 214 [[], [0, 3, 4], [3], [2]] = some i214 := by kernel_rfl
theorem e214 : enterOk Try.prog 214 = true := by kernel_rfl
def i215 : Ev.Fn := ⟨2, 28, [.tmp 4],
 (.seq
 (.reg false [⟨2, .bx (.t 0), none, false⟩,
 ⟨3, .bx (.t 1), none, false⟩,
 ⟨4, .mv (.k (.sc (.int .i64 0))), none, false⟩])
 (.seq
 (.reg false [⟨5, .fa 0 (.t 2), none, false⟩,
 ⟨6, .ld 1 false (.t 5), none, false⟩,
 ⟨7, .fa 0 (.t 3), none, false⟩,
 ⟨8, .ld 1 false (.t 7), none, false⟩,
 ⟨9, .ar .sub false (.t 6) (.t 8), none, false⟩,
 ⟨10, .fa 0 (.t 2), none, false⟩,
 ⟨11, .ld 1 false (.t 10), none, false⟩,
 ⟨12, .fa 0 (.t 3), none, false⟩,
 ⟨13, .ld 1 false (.t 12), none, false⟩,
 ⟨14, .ar .sub false (.t 11) (.t 13), none, false⟩,
 ⟨15, .ar .mul false (.t 9) (.t 14), none, false⟩,
 ⟨16, .fa 1 (.t 2), none, false⟩,
 ⟨17, .ld 1 false (.t 16), none, false⟩,
 ⟨18, .fa 1 (.t 3), none, false⟩,
 ⟨19, .ld 1 false (.t 18), none, false⟩,
 ⟨20, .ar .sub false (.t 17) (.t 19), none, false⟩,
 ⟨21, .fa 1 (.t 2), none, false⟩,
 ⟨22, .ld 1 false (.t 21), none, false⟩,
 ⟨23, .fa 1 (.t 3), none, false⟩,
 ⟨24, .ld 1 false (.t 23), none, false⟩,
 ⟨25, .ar .sub false (.t 22) (.t 24), none, false⟩,
 ⟨26, .ar .mul false (.t 20) (.t 25), none, false⟩,
 ⟨27, .ar .add false (.t 15) (.t 26), none, false⟩,
 ⟨4, .mv (.t 27), none, false⟩])
 .ret))⟩
attribute [simp] i215
set_option maxRecDepth 1000000 in
theorem c215 : cFn Try.prog 215 [[]] = some i215 := by kernel_rfl
theorem e215 : enterOk Try.prog 215 = true := by kernel_rfl
def i222 : Ev.Fn := ⟨2, 10, [.tmp 4],
 (.seq
 (.reg false [⟨4, .mv (.k (.sc (.int .i64 0))), none, false⟩])
 (.seq
 (.seq
 (.reg false [⟨5, .mv (.t 0), none, false⟩,
 ⟨6, .mv (.t 1), none, false⟩,
 ⟨7, .ar .gtr false (.t 5) (.t 6), none, false⟩])
 (.ite (.t 7)
 (.seq
 (.reg false [⟨8, .mv (.t 0), none, false⟩,
 ⟨4, .mv (.t 8), none, false⟩])
 .ret)
 .skip))
 (.seq
 (.reg false [⟨9, .mv (.t 1), none, false⟩,
 ⟨4, .mv (.t 9), none, false⟩])
 .ret)))⟩
attribute [simp] i222
set_option maxRecDepth 1000000 in
theorem c222 : cFn Try.prog 222 [[]] = some i222 := by kernel_rfl
theorem e222 : enterOk Try.prog 222 = true := by kernel_rfl
def i224 : Ev.Fn := ⟨2, 10, [.tmp 4],
 (.seq
 (.reg false [⟨4, .mv (.k (.sc (.int .i64 0))), none, false⟩])
 (.seq
 (.seq
 (.reg false [⟨5, .mv (.t 0), none, false⟩,
 ⟨6, .mv (.t 1), none, false⟩,
 ⟨7, .ar .lss false (.t 5) (.t 6), none, false⟩])
 (.ite (.t 7)
 (.seq
 (.reg false [⟨8, .mv (.t 0), none, false⟩,
 ⟨4, .mv (.t 8), none, false⟩])
 .ret)
 .skip))
 (.seq
 (.reg false [⟨9, .mv (.t 1), none, false⟩,
 ⟨4, .mv (.t 9), none, false⟩])
 .ret)))⟩
attribute [simp] i224
set_option maxRecDepth 1000000 in
theorem c224 : cFn Try.prog 224 [[]] = some i224 := by kernel_rfl
theorem e224 : enterOk Try.prog 224 = true := by kernel_rfl
def i229 : Ev.Fn := ⟨1, 11, [.tmp 2],
 (.seq
 (.reg false [⟨1, .bx (.t 0), none, false⟩,
 ⟨2, .mv (.k (.sc (.bool false))), none, false⟩])
 (.seq
 (.reg false [⟨3, .fa 0 (.t 1), none, false⟩,
 ⟨4, .ld 1 false (.t 3), none, false⟩,
 ⟨5, .ca (.k (.cl 162 [])) [(.t 4), (.k (.sc (.int .i64 0))), (.k (.sc (.int .i64 20000)))], none, false⟩,
 ⟨6, .mv (.t 5), none, false⟩,
 ⟨7, .fa 1 (.t 1), (some (6, true)), false⟩,
 ⟨8, .ld 1 false (.t 7), (some (6, true)), false⟩,
 ⟨9, .ca (.k (.cl 162 [])) [(.t 8), (.k (.sc (.int .i64 0))), (.k (.sc (.int .i64 20000)))], (some (6, true)), false⟩,
 ⟨10, .pk (.t 6) (.t 9) (.k (.sc (.bool false))), none, false⟩,
 ⟨2, .mv (.t 10), none, false⟩])
 .ret))⟩
attribute [simp] i229
set_option maxRecDepth 1000000 in
theorem c229 : cFn Try.prog 229 [[]] = some i229 := by kernel_rfl
theorem e229 : enterOk Try.prog 229 = true := by kernel_rfl
def i230 : Ev.Fn := ⟨4, 38, [.tmp 8],
 (.seq
 (.reg false [⟨4, .bx (.t 0), none, false⟩,
 ⟨5, .bx (.t 1), none, false⟩,
 ⟨6, .bx (.t 2), none, false⟩,
 ⟨7, .bx (.t 3), none, false⟩,
 ⟨8, .mv (.k (.sc (.bool false))), none, false⟩])
 (.seq
 (.reg false [⟨9, .ld 2 true (.t 4), none, false⟩,
 ⟨10, .ld 2 true (.t 5), none, false⟩,
 ⟨11, .ld 2 true (.t 6), none, false⟩,
 ⟨12, .ld 2 true (.t 7), none, false⟩,
 ⟨13, .ca (.k (.cl 285 [])) [(.t 9), (.t 10), (.t 11), (.t 12)], none, false⟩,
 ⟨14, .mv (.t 13), none, false⟩,
 ⟨15, .ld 2 true (.t 4), (some (14, false)), false⟩,
 ⟨16, .ld 2 true (.t 5), (some (14, false)), false⟩,
 ⟨17, .ld 2 true (.t 6), (some (14, false)), false⟩,
 ⟨18, .ca (.k (.cl 203 [])) [(.t 15), (.t 16), (.t 17)], (some (14, false)), false⟩,
 ⟨19, .pk (.t 14) (.k (.sc (.bool true))) (.t 18), none, false⟩,
 ⟨20, .mv (.t 19), none, false⟩,
 ⟨21, .ld 2 true (.t 4), (some (20, false)), false⟩,
 ⟨22, .ld 2 true (.t 5), (some (20, false)), false⟩,
 ⟨23, .ld 2 true (.t 7), (some (20, false)), false⟩,
 ⟨24, .ca (.k (.cl 203 [])) [(.t 21), (.t 22), (.t 23)], (some (20, false)), false⟩,
 ⟨25, .pk (.t 20) (.k (.sc (.bool true))) (.t 24), none, false⟩,
 ⟨26, .mv (.t 25), none, false⟩,
 ⟨27, .ld 2 true (.t 6), (some (26, false)), false⟩,
 ⟨28, .ld 2 true (.t 7), (some (26, false)), false⟩,
 ⟨29, .ld 2 true (.t 4), (some (26, false)), false⟩,
 ⟨30, .ca (.k (.cl 203 [])) [(.t 27), (.t 28), (.t 29)], (some (26, false)), false⟩,
 ⟨31, .pk (.t 26) (.k (.sc (.bool true))) (.t 30), none, false⟩,
 ⟨32, .mv (.t 31), none, false⟩,
 ⟨33, .ld 2 true (.t 6), (some (32, false)), false⟩,
 ⟨34, .ld 2 true (.t 7), (some (32, false)), false⟩,
 ⟨35, .ld 2 true (.t 5), (some (32, false)), false⟩,
 ⟨36, .ca (.k (.cl 203 [])) [(.t 33), (.t 34), (.t 35)], (some (32, false)), false⟩,
 ⟨37, .pk (.t 32) (.k (.sc (.bool true))) (.t 36), none, false⟩,
 ⟨8, .mv (.t 37), none, false⟩])
 .ret))⟩
attribute [simp] i230
set_option maxRecDepth 1000000 in
theorem c230 : cFn Try.prog 230 [[]] = some i230 := by kernel_rfl
theorem e230 : enterOk Try.prog 230 = true := by kernel_rfl
def w231_1 : IC :=
(.seq
 (.seq
 (.reg false [⟨6, .mv (.t 4), none, false⟩,
 ⟨7, .mv (.t 0), none, false⟩,
 ⟨8, .ln false (.t 7), none, false⟩,
 ⟨9, .ar .lss false (.t 6) (.t 8), none, false⟩])
 (.ite (.t 9)
 .skip
 (.exit 0)))
 (.seq
 (.block 1
 (.seq
 (.reg false [⟨12, .mv (.t 0), none, false⟩,
 ⟨13, .mv (.t 4), none, false⟩,
 ⟨14, .ar .add false (.t 13) (.k (.sc (.int .i64 1))), none, false⟩,
 ⟨15, .mv (.t 0), none, false⟩,
 ⟨16, .ln false (.t 15), none, false⟩,
 ⟨17, .ar .rem false (.t 14) (.t 16), none, false⟩,
 ⟨18, .ia 2 (.t 12) (.t 17), none, false⟩,
 ⟨19, .ld 2 true (.t 18), none, false⟩,
 ⟨5, .al [(.sc (.int .i64 0)), (.sc (.int .i64 0))], none, false⟩,
 ⟨1, .so 2 (.t 5) (.t 19), none, true⟩])
 (.reg true [⟨20, .mv (.t 3), none, false⟩,
 ⟨21, .mv (.t 0), none, false⟩,
 ⟨22, .mv (.t 4), none, false⟩,
 ⟨23, .ia 2 (.t 21) (.t 22), none, false⟩,
 ⟨24, .fa 0 (.t 23), none, false⟩,
 ⟨25, .ld 1 false (.t 24), none, false⟩,
 ⟨26, .fa 1 (.t 5), none, false⟩,
 ⟨27, .ld 1 false (.t 26), none, false⟩,
 ⟨28, .ar .mul false (.t 25) (.t 27), none, false⟩,
 ⟨29, .mv (.t 0), none, false⟩,
 ⟨30, .mv (.t 4), none, false⟩,
 ⟨31, .ia 2 (.t 29) (.t 30), none, false⟩,
 ⟨32, .fa 1 (.t 31), none, false⟩,
 ⟨33, .ld 1 false (.t 32), none, false⟩,
 ⟨34, .fa 0 (.t 5), none, false⟩,
 ⟨35, .ld 1 false (.t 34), none, false⟩,
 ⟨36, .ar .mul false (.t 33) (.t 35), none, false⟩,
 ⟨37, .ar .sub false (.t 28) (.t 36), none, false⟩,
 ⟨38, .ar .add false (.t 20) (.t 37), none, false⟩,
 ⟨3, .mv (.t 38), none, false⟩])))
 (.reg false [⟨10, .mv (.t 4), none, false⟩,
 ⟨11, .ar .add false (.t 10) (.k (.sc (.int .i64 1))), none, false⟩,
 ⟨4, .mv (.t 11), none, false⟩])))
def b231_1 : IC := w231_1
theorem u231_1 (call : CallF) (st : St) : evC call b231_1 st = evC call w231_1 st := rfl
attribute [simp] u231_1 w231_1
def i231 : Ev.Fn := ⟨1, 40, [.tmp 2],
 (.seq
 (.reg false [⟨2, .mv (.k (.sc (.int .i64 0))), none, false⟩])
 (.seq
 (.reg false [⟨3, .mv (.k (.sc (.int .i64 0))), none, false⟩])
 (.seq
 (.seq
 (.reg false [⟨4, .mv (.k (.sc (.int .i64 0))), none, false⟩])
 (.cln [3] [2]
 (.block 0
 (.loop [0, 3, 4] b231_1))))
 (.seq
 (.reg false [⟨39, .mv (.t 3), none, false⟩,
 ⟨2, .mv (.t 39), none, false⟩])
 .ret))))⟩
attribute [simp] i231
set_option maxRecDepth 1000000 in
theorem c231 : cFn Try.prog 231 [[], [0, 3, 4], [3], [2]] = some i231 := by kernel_rfl
theorem e231 : enterOk Try.prog 231 = true := by kernel_rfl
def i234 : Ev.Fn := ⟨4, 38, [.tmp 8],
 (.seq
 (.reg false [⟨4, .bx (.t 0), none, false⟩,
 ⟨5, .bx (.t 1), none, false⟩,
 ⟨6, .bx (.t 2), none, false⟩,
 ⟨7, .bx (.t 3), none, false⟩,
 ⟨8, .mv (.k (.sc (.bool false))), none, false⟩])
 (.seq
 (.reg false [⟨9, .ld 2 true (.t 4), none, false⟩,
 ⟨10, .ld 2 true (.t 5), none, false⟩,
 ⟨11, .ld 2 true (.t 6), none, false⟩,
 ⟨12, .ld 2 true (.t 7), none, false⟩,
 ⟨13, .ca (.k (.cl 286 [])) [(.t 9), (.t 10), (.t 11), (.t 12)], none, false⟩,
 ⟨14, .mv (.t 13), none, false⟩,
 ⟨15, .ld 2 true (.t 4), (some (14, false)), false⟩,
 ⟨16, .ld 2 true (.t 5), (some (14, false)), false⟩,
 ⟨17, .ld 2 true (.t 6), (some (14, false)), false⟩,
 ⟨18, .ca (.k (.cl 208 [])) [(.t 15), (.t 16), (.t 17)], (some (14, false)), false⟩,
 ⟨19, .pk (.t 14) (.k (.sc (.bool true))) (.t 18), none, false⟩,
 ⟨20, .mv (.t 19), none, false⟩,
 ⟨21, .ld 2 true (.t 4), (some (20, false)), false⟩,
 ⟨22, .ld 2 true (.t 5), (some (20, false)), false⟩,
 ⟨23, .ld 2 true (.t 7), (some (20, false)), false⟩,
 ⟨24, .ca (.k (.cl 208 [])) [(.t 21), (.t 22), (.t 23)], (some (20, false)), false⟩,
 ⟨25, .pk (.t 20) (.k (.sc (.bool true))) (.t 24), none, false⟩,
 ⟨26, .mv (.t 25), none, false⟩,
 ⟨27, .ld 2 true (.t 6), (some (26, false)), false⟩,
 ⟨28, .ld 2 true (.t 7), (some (26, false)), false⟩,
 ⟨29, .ld 2 true (.t 4), (some (26, false)), false⟩,
 ⟨30, .ca (.k (.cl 208 [])) [(.t 27), (.t 28), (.t 29)], (some (26, false)), false⟩,
 ⟨31, .pk (.t 26) (.k (.sc (.bool true))) (.t 30), none, false⟩,
 ⟨32, .mv (.t 31), none, false⟩,
 ⟨33, .ld 2 true (.t 6), (some (32, false)), false⟩,
 ⟨34, .ld 2 true (.t 7), (some (32, false)), false⟩,
 ⟨35, .ld 2 true (.t 5), (some (32, false)), false⟩,
 ⟨36, .ca (.k (.cl 208 [])) [(.t 33), (.t 34), (.t 35)], (some (32, false)), false⟩,
 ⟨37, .pk (.t 32) (.k (.sc (.bool true))) (.t 36), none, false⟩,
 ⟨8, .mv (.t 37), none, false⟩])
 .ret))⟩
attribute [simp] i234
set_option maxRecDepth 1000000 in
theorem c234 : cFn Try.prog 234 [[]] = some i234 := by kernel_rfl
theorem e234 : enterOk Try.prog 234 = true := by kernel_rfl
def w235_1 : IC :=
(.seq
 (.reg false [⟨10, .ar .lss false (.t 9) (.t 8), none, false⟩])
 (.seq
 (.ite (.t 10)
 .skip
 (.exit 0))
 (.seq
 (.block 1
 (.seq
 (.reg false [⟨11, .mv (.t 9), none, false⟩,
 ⟨12, .ia 2 (.t 7) (.t 9), none, false⟩,
 ⟨13, .ld 2 true (.t 12), none, false⟩,
 ⟨5, .al [(.sc (.int .i64 0)), (.sc (.int .i64 0))], none, false⟩,
 ⟨4, .mv (.t 11), none, false⟩,
 ⟨1, .so 2 (.t 5) (.t 13), none, true⟩])
 (.seq
 (.reg false [⟨14, .mv (.t 0), none, false⟩,
 ⟨15, .mv (.t 4), none, false⟩,
 ⟨16, .ar .add false (.t 15) (.k (.sc (.int .i64 1))), none, false⟩,
 ⟨17, .mv (.t 0), none, false⟩,
 ⟨18, .ln false (.t 17), none, false⟩,
 ⟨19, .ar .rem false (.t 16) (.t 18), none, false⟩,
 ⟨20, .ia 2 (.t 14) (.t 19), none, false⟩,
 ⟨21, .ld 2 true (.t 20), none, false⟩,
 ⟨6, .al [(.sc (.int .i64 0)), (.sc (.int .i64 0))], none, false⟩,
 ⟨1, .so 2 (.t 6) (.t 21), none, true⟩])
 (.reg false [⟨22, .mv (.t 3), none, false⟩,
 ⟨23, .fa 0 (.t 5), none, false⟩,
 ⟨24, .ld 1 false (.t 23), none, false⟩,
 ⟨25, .fa 1 (.t 6), none, false⟩,
 ⟨26, .ld 1 false (.t 25), none, false⟩,
 ⟨27, .ar .mul false (.t 24) (.t 26), none, false⟩,
 ⟨28, .fa 1 (.t 5), none, false⟩,
 ⟨29, .ld 1 false (.t 28), none, false⟩,
 ⟨30, .fa 0 (.t 6), none, false⟩,
 ⟨31, .ld 1 false (.t 30), none, false⟩,
 ⟨32, .ar .mul false (.t 29) (.t 31), none, false⟩,
 ⟨33, .ar .sub false (.t 27) (.t 32), none, false⟩,
 ⟨34, .ar .add false (.t 22) (.t 33), none, false⟩,
 ⟨3, .mv (.t 34), none, false⟩]))))
 (.reg false [⟨35, .ar .add false (.t 9) (.k (.sc (.int .i64 1))), none, false⟩,
 ⟨9, .mv (.t 35), none, false⟩]))))
def b235_1 : IC := w235_1
theorem u235_1 (call : CallF) (st : St) : evC call b235_1 st = evC call w235_1 st := rfl
attribute [simp] u235_1 w235_1
def i235 : Ev.Fn := ⟨1, 37, [.tmp 2],
 (.seq
 (.reg false [⟨2, .mv (.k (.sc (.int .i64 0))), none, false⟩])
 (.seq
 (.reg false [⟨3, .mv (.k (.sc (.int .i64 0))), none, false⟩])
 (.seq
 (.seq
 (.reg false [⟨7, .mv (.t 0), none, false⟩,
 ⟨8, .ln false (.t 7), none, false⟩,
 ⟨9, .mv (.k (.sc (.int .i64 0))), none, false⟩])
 (.cln [3] [2]
 (.block 0
 (.loop [0, 3, 7, 8, 9] b235_1))))
 (.seq
 (.reg false [⟨36, .mv (.t 3), none, false⟩,
 ⟨2, .mv (.t 36), none, false⟩])
 .ret))))⟩
attribute [simp] i235
set_option maxRecDepth 1000000 in
theorem c235 : cFn Try.prog 235 [[], [0, 3, 7, 8, 9], [3], [2]] = some i235 := by kernel_rfl
theorem e235 : enterOk Try.prog 235 = true := by kernel_rfl
def i246 : Ev.Fn := ⟨1, 9, [.tmp 2],
 (.seq
 (.reg false [⟨2, .mv (.k (.sc (.bool false))), none, false⟩])
 (.seq
 (.reg false [⟨3, .mv (.t 0), none, false⟩,
 ⟨4, .ar .geq false (.t 3) (.k (.sc (.int .u8 97))), none, false⟩,
 ⟨5, .mv (.t 4), none, false⟩,
 ⟨6, .mv (.t 0), (some (5, true)), false⟩,
 ⟨7, .ar .leq false (.t 6) (.k (.sc (.int .u8 122))), (some (5, true)), false⟩,
 ⟨8, .pk (.t 5) (.t 7) (.k (.sc (.bool false))), none, false⟩,
 ⟨2, .mv (.t 8), none, false⟩])
 .ret))⟩
attribute [simp] i246
set_option maxRecDepth 1000000 in
theorem c246 : cFn Try.prog 246 [[]] = some i246 := by kernel_rfl
theorem e246 : enterOk Try.prog 246 = true := by kernel_rfl
def i247 : Ev.Fn := ⟨1, 9, [.tmp 2],
 (.seq
 (.reg false [⟨2, .mv (.k (.sc (.bool false))), none, false⟩])
 (.seq
 (.reg false [⟨3, .mv (.t 0), none, false⟩,
 ⟨4, .ar .geq false (.t 3) (.k (.sc (.int .u8 48))), none, false⟩,
 ⟨5, .mv (.t 4), none, false⟩,
 ⟨6, .mv (.t 0), (some (5, true)), false⟩,
 ⟨7, .ar .leq false (.t 6) (.k (.sc (.int .u8 57))), (some (5, true)), false⟩,
 ⟨8, .pk (.t 5) (.t 7) (.k (.sc (.bool false))), none, false⟩,
 ⟨2, .mv (.t 8), none, false⟩])
 .ret))⟩
attribute [simp] i247
set_option maxRecDepth 1000000 in
theorem c247 : cFn Try.prog 247 [[]] = some i247 := by kernel_rfl
theorem e247 : enterOk Try.prog 247 = true := by kernel_rfl
def i253 : Ev.Fn := ⟨2, 12, [.tmp 4],
 (.seq
 (.reg false [⟨4, .mv (.k (.sc (.int .i64 0))), none, false⟩])
 (.seq
 (.reg false [⟨5, .mv (.t 1), none, false⟩,
 ⟨6, .mv (.t 0), none, false⟩,
 ⟨7, .ln false (.t 6), none, false⟩,
 ⟨8, .ar .sub false (.t 5) (.t 7), none, false⟩,
 ⟨1, .mv (.t 8), none, false⟩])
 (.seq
 (.seq
 (.reg false [⟨9, .mv (.t 1), none, false⟩,
 ⟨10, .ar .lss false (.t 9) (.k (.sc (.int .i64 0))), none, false⟩])
 (.ite (.t 10)
 (.seq
 (.reg false [⟨4, .mv (.k (.sc (.int .i64 (-1)))), none, false⟩])
 .ret)
 .skip))
 (.seq
 (.reg false [⟨11, .mv (.t 1), none, false⟩,
 ⟨4, .mv (.t 11), none, false⟩])
 .ret))))⟩
attribute [simp] i253
set_option maxRecDepth 1000000 in
theorem c253 : cFn Try.prog 253 [[]] = some i253 := by kernel_rfl
theorem e253 : enterOk Try.prog 253 = true := by kernel_rfl
def i254 : Ev.Fn := ⟨3, 30, [.tmp 6],
 (.seq
 (.reg false [⟨3, .bx (.t 0), none, false⟩,
 ⟨4, .bx (.t 1), none, false⟩,
 ⟨5, .bx (.t 2), none, false⟩,
 ⟨6, .mv (.k (.sc (.int .i64 0))), none, false⟩])
 (.seq
 (.reg false [⟨7, .fa 0 (.t 4), none, false⟩,
 ⟨8, .ld 1 false (.t 7), none, false⟩,
 ⟨9, .fa 0 (.t 3), none, false⟩,
 ⟨10, .ld 1 false (.t 9), none, false⟩,
 ⟨11, .ar .sub false (.t 8) (.t 10), none, false⟩,
 ⟨12, .fa 1 (.t 5), none, false⟩,
 ⟨13, .ld 1 false (.t 12), none, false⟩,
 ⟨14, .fa 1 (.t 3), none, false⟩,
 ⟨15, .ld 1 false (.t 14), none, false⟩,
 ⟨16, .ar .sub false (.t 13) (.t 15), none, false⟩,
 ⟨17, .ar .mul false (.t 11) (.t 16), none, false⟩,
 ⟨18, .fa 1 (.t 4), none, false⟩,
 ⟨19, .ld 1 false (.t 18), none, false⟩,
 ⟨20, .fa 1 (.t 3), none, false⟩,
 ⟨21, .ld 1 false (.t 20), none, false⟩,
 ⟨22, .ar .sub false (.t 19) (.t 21), none, false⟩,
 ⟨23, .fa 0 (.t 5), none, false⟩,
 ⟨24, .ld 1 false (.t 23), none, false⟩,
 ⟨25, .fa 0 (.t 3), none, false⟩,
 ⟨26, .ld 1 false (.t 25), none, false⟩,
 ⟨27, .ar .sub false (.t 24) (.t 26), none, false⟩,
 ⟨28, .ar .mul false (.t 22) (.t 27), none, false⟩,
 ⟨29, .ar .sub false (.t 17) (.t 28), none, false⟩,
 ⟨6, .mv (.t 29), none, false⟩])
 .ret))⟩
attribute [simp] i254
set_option maxRecDepth 1000000 in
theorem c254 : cFn Try.prog 254 [[]] = some i254 := by kernel_rfl
theorem e254 : enterOk Try.prog 254 = true := by kernel_rfl
def i270 : Ev.Fn := ⟨1, 11, [.tmp 2],
 (.seq
 (.reg false [⟨1, .bx (.t 0), none, false⟩,
 ⟨2, .mv (.k (.sc (.bool false))), none, false⟩])
 (.seq
 (.reg false [⟨3, .fa 0 (.t 1), none, false⟩,
 ⟨4, .ld 1 false (.t 3), none, false⟩,
 ⟨5, .ca (.k (.cl 165 [])) [(.t 4), (.k (.sc (.int .i64 0))), (.k (.sc (.int .i64 20000)))], none, false⟩,
 ⟨6, .mv (.t 5), none, false⟩,
 ⟨7, .fa 1 (.t 1), (some (6, true)), false⟩,
 ⟨8, .ld 1 false (.t 7), (some (6, true)), false⟩,
 ⟨9, .ca (.k (.cl 165 [])) [(.t 8), (.k (.sc (.int .i64 0))), (.k (.sc (.int .i64 20000)))], (some (6, true)), false⟩,
 ⟨10, .pk (.t 6) (.t 9) (.k (.sc (.bool false))), none, false⟩,
 ⟨2, .mv (.t 10), none, false⟩])
 .ret))⟩
attribute [simp] i270
set_option maxRecDepth 1000000 in
theorem c270 : cFn Try.prog 270 [[]] = some i270 := by kernel_rfl
theorem e270 : enterOk Try.prog 270 = true := by kernel_rfl
def i285 : Ev.Fn := ⟨4, 31, [.tmp 8],
 (.seq
 (.reg false [⟨4, .bx (.t 0), none, false⟩,
 ⟨5, .bx (.t 1), none, false⟩,
 ⟨6, .bx (.t 2), none, false⟩,
 ⟨7, .bx (.t 3), none, false⟩,
 ⟨8, .mv (.k (.sc (.bool false))), none, false⟩])
 (.seq
 (.reg true [⟨9, .ld 2 true (.t 4), none, false⟩,
 ⟨10, .ld 2 true (.t 5), none, false⟩,
 ⟨11, .ld 2 true (.t 6), none, false⟩,
 ⟨12, .ca (.k (.cl 184 [])) [(.t 9), (.t 10), (.t 11)], none, false⟩,
 ⟨13, .ld 2 true (.t 4), none, false⟩,
 ⟨14, .ld 2 true (.t 5), none, false⟩,
 ⟨15, .ld 2 true (.t 7), none, false⟩,
 ⟨16, .ca (.k (.cl 184 [])) [(.t 13), (.t 14), (.t 15)], none, false⟩,
 ⟨17, .ar .mul false (.t 12) (.t 16), none, false⟩,
 ⟨18, .ar .lss false (.t 17) (.k (.sc (.int .i64 0))), none, false⟩,
 ⟨19, .mv (.t 18), none, false⟩,
 ⟨20, .ld 2 true (.t 6), (some (19, true)), false⟩,
 ⟨21, .ld 2 true (.t 7), (some (19, true)), false⟩,
 ⟨22, .ld 2 true (.t 4), (some (19, true)), false⟩,
 ⟨23, .ca (.k (.cl 184 [])) [(.t 20), (.t 21), (.t 22)], (some (19, true)), false⟩,
 ⟨24, .ld 2 true (.t 6), (some (19, true)), false⟩,
 ⟨25, .ld 2 true (.t 7), (some (19, true)), false⟩,
 ⟨26, .ld 2 true (.t 5), (some (19, true)), false⟩,
 ⟨27, .ca (.k (.cl 184 [])) [(.t 24), (.t 25), (.t 26)], (some (19, true)), false⟩,
 ⟨28, .ar .mul false (.t 23) (.t 27), (some (19, true)), false⟩,
 ⟨29, .ar .lss false (.t 28) (.k (.sc (.int .i64 0))), (some (19, true)), false⟩,
 ⟨30, .pk (.t 19) (.t 29) (.k (.sc (.bool false))), none, false⟩,
 ⟨8, .mv (.t 30), none, false⟩])
 .ret))⟩
attribute [simp] i285
set_option maxRecDepth 1000000 in
theorem c285 : cFn Try.prog 285 [[]] = some i285 := by kernel_rfl
theorem e285 : enterOk Try.prog 285 = true := by kernel_rfl
def i286 : Ev.Fn := ⟨4, 31, [.tmp 8],
 (.seq
 (.reg false [⟨4, .bx (.t 0), none, false⟩,
 ⟨5, .bx (.t 1), none, false⟩,
 ⟨6, .bx (.t 2), none, false⟩,
 ⟨7, .bx (.t 3), none, false⟩,
 ⟨8, .mv (.k (.sc (.bool false))), none, false⟩])
 (.seq
 (.reg true [⟨9, .ld 2 true (.t 4), none, false⟩,
 ⟨10, .ld 2 true (.t 5), none, false⟩,
 ⟨11, .ld 2 true (.t 6), none, false⟩,
 ⟨12, .ca (.k (.cl 190 [])) [(.t 9), (.t 10), (.t 11)], none, false⟩,
 ⟨13, .ld 2 true (.t 4), none, false⟩,
 ⟨14, .ld 2 true (.t 5), none, false⟩,
 ⟨15, .ld 2 true (.t 7), none, false⟩,
 ⟨16, .ca (.k (.cl 190 [])) [(.t 13), (.t 14), (.t 15)], none, false⟩,
 ⟨17, .ar .mul false (.t 12) (.t 16), none, false⟩,
 ⟨18, .ar .lss false (.t 17) (.k (.sc (.int .i64 0))), none, false⟩,
 ⟨19, .mv (.t 18), none, false⟩,
 ⟨20, .ld 2 true (.t 6), (some (19, true)), false⟩,
 ⟨21, .ld 2 true (.t 7), (some (19, true)), false⟩,
 ⟨22, .ld 2 true (.t 4), (some (19, true)), false⟩,
 ⟨23, .ca (.k (.cl 190 [])) [(.t 20), (.t 21), (.t 22)], (some (19, true)), false⟩,
 ⟨24, .ld 2 true (.t 6), (some (19, true)), false⟩,
 ⟨25, .ld 2 true (.t 7), (some (19, true)), false⟩,
 ⟨26, .ld 2 true (.t 5), (some (19, true)), false⟩,
 ⟨27, .ca (.k (.cl 190 [])) [(.t 24), (.t 25), (.t 26)], (some (19, true)), false⟩,
 ⟨28, .ar .mul false (.t 23) (.t 27), (some (19, true)), false⟩,
 ⟨29, .ar .lss false (.t 28) (.k (.sc (.int .i64 0))), (some (19, true)), false⟩,
 ⟨30, .pk (.t 19) (.t 29) (.k (.sc (.bool false))), none, false⟩,
 ⟨8, .mv (.t 30), none, false⟩])
 .ret))⟩
attribute [simp] i286
set_option maxRecDepth 1000000 in
theorem c286 : cFn Try.prog 286 [[]] = some i286 := by kernel_rfl
theorem e286 : enterOk Try.prog 286 = true := by kernel_rfl
theorem mixed : Try.prog.follows .mixedOrders = true := by kernel_rfl
def Ft : List (Nat × Ev.Fn) := [(9, i9), (21, i21), (23, i23), (25, i25), (26, i26), (27, i27), (42, i42), (45, i45), (46, i46), (49, i49), (50, i50), (58, i58), (60, i60), (63, i63), (69, i69), (85, i85), (86, i86), (89, i89), (90, i90), (93, i93), (96, i96), (97, i97), (98, i98), (99, i99), (100, i100), (108, i108), (122, i122), (124, i124), (128, i128), (129, i129), (130, i130), (131, i131), (132, i132), (133, i133), (134, i134), (141, i141), (151, i151), (154, i154), (155, i155), (158, i158), (162, i162), (165, i165), (168, i168), (175, i175), (181, i181), (182, i182), (183, i183), (184, i184), (185, i185), (186, i186), (187, i187), (190, i190), (191, i191), (203, i203), (208, i208), (211, i211), (212, i212), (213, i213), (214, i214), (215, i215), (222, i222), (224, i224), (229, i229), (230, i230), (231, i231), (234, i234), (235, i235), (246, i246), (247, i247), (253, i253), (254, i254), (270, i270), (285, i285), (286, i286)]
def F : Nat → Option Ev.Fn := getF Ft
noncomputable def ev (d : Nat) : CallF := evF F (fun _ _ => none) d
theorem ev_fn {f : Nat} {fn : Ev.Fn} (h : F f = some fn) (d : Nat) (args : List LV) (hl : args.length = fn.nargs) : ev (d + 1) f args = Ev.finish fn.res (evC (ev d) fn.body (Ev.start args)) := evF_fn h d args hl
set_option maxRecDepth 1000000 in
theorem tab : ∀ f fn, F f = some fn → enterOk Try.prog f = true ∧ ∃ ks, cFn Try.prog f ks = some fn :=
  tabF (L := Ft) ⟨⟨e9, _, c9⟩, ⟨e21, _, c21⟩, ⟨e23, _, c23⟩, ⟨e25, _, c25⟩, ⟨e26, _, c26⟩, ⟨e27, _, c27⟩, ⟨e42, _, c42⟩, ⟨e45, _, c45⟩, ⟨e46, _, c46⟩, ⟨e49, _, c49⟩, ⟨e50, _, c50⟩, ⟨e58, _, c58⟩, ⟨e60, _, c60⟩, ⟨e63, _, c63⟩, ⟨e69, _, c69⟩, ⟨e85, _, c85⟩, ⟨e86, _, c86⟩, ⟨e89, _, c89⟩, ⟨e90, _, c90⟩, ⟨e93, _, c93⟩, ⟨e96, _, c96⟩, ⟨e97, _, c97⟩, ⟨e98, _, c98⟩, ⟨e99, _, c99⟩, ⟨e100, _, c100⟩, ⟨e108, _, c108⟩, ⟨e122, _, c122⟩, ⟨e124, _, c124⟩, ⟨e128, _, c128⟩, ⟨e129, _, c129⟩, ⟨e130, _, c130⟩, ⟨e131, _, c131⟩, ⟨e132, _, c132⟩, ⟨e133, _, c133⟩, ⟨e134, _, c134⟩, ⟨e141, _, c141⟩, ⟨e151, _, c151⟩, ⟨e154, _, c154⟩, ⟨e155, _, c155⟩, ⟨e158, _, c158⟩, ⟨e162, _, c162⟩, ⟨e165, _, c165⟩, ⟨e168, _, c168⟩, ⟨e175, _, c175⟩, ⟨e181, _, c181⟩, ⟨e182, _, c182⟩, ⟨e183, _, c183⟩, ⟨e184, _, c184⟩, ⟨e185, _, c185⟩, ⟨e186, _, c186⟩, ⟨e187, _, c187⟩, ⟨e190, _, c190⟩, ⟨e191, _, c191⟩, ⟨e203, _, c203⟩, ⟨e208, _, c208⟩, ⟨e211, _, c211⟩, ⟨e212, _, c212⟩, ⟨e213, _, c213⟩, ⟨e214, _, c214⟩, ⟨e215, _, c215⟩, ⟨e222, _, c222⟩, ⟨e224, _, c224⟩, ⟨e229, _, c229⟩, ⟨e230, _, c230⟩, ⟨e231, _, c231⟩, ⟨e234, _, c234⟩, ⟨e235, _, c235⟩, ⟨e246, _, c246⟩, ⟨e247, _, c247⟩, ⟨e253, _, c253⟩, ⟨e254, _, c254⟩, ⟨e270, _, c270⟩, ⟨e285, _, c285⟩, ⟨e286, _, c286⟩, trivial⟩
theorem tabn : ∀ f fn, F f = some fn → f < wrN := tabN (L := Ft) (by kernel_rfl)
theorem callOk (d : Nat) : CallOk [] Try.prog (ev d) := (evF_ok2 mixed tab tabn (noPrim_ok _ _) (noPrim_okW _ _) d).1
abbrev I (n : Int) : LV := .sc (.int .i64 n)
abbrev B (b : Bool) : LV := .sc (.bool b)
abbrev T (s : ByteArray) : LV := .sc (.string s)
theorem s9 (d : Nat) (args : List LV) (hl : args.length = i9.nargs) : ev (d + 1) 9 args = Ev.finish i9.res (evC (ev d) i9.body (Ev.start args)) := ev_fn (by kernel_rfl) d args hl
theorem s21 (d : Nat) (args : List LV) (hl : args.length = i21.nargs) : ev (d + 1) 21 args = Ev.finish i21.res (evC (ev d) i21.body (Ev.start args)) := ev_fn (by kernel_rfl) d args hl
theorem s23 (d : Nat) (args : List LV) (hl : args.length = i23.nargs) : ev (d + 1) 23 args = Ev.finish i23.res (evC (ev d) i23.body (Ev.start args)) := ev_fn (by kernel_rfl) d args hl
theorem s25 (d : Nat) (args : List LV) (hl : args.length = i25.nargs) : ev (d + 1) 25 args = Ev.finish i25.res (evC (ev d) i25.body (Ev.start args)) := ev_fn (by kernel_rfl) d args hl
theorem s26 (d : Nat) (args : List LV) (hl : args.length = i26.nargs) : ev (d + 1) 26 args = Ev.finish i26.res (evC (ev d) i26.body (Ev.start args)) := ev_fn (by kernel_rfl) d args hl
theorem s27 (d : Nat) (args : List LV) (hl : args.length = i27.nargs) : ev (d + 1) 27 args = Ev.finish i27.res (evC (ev d) i27.body (Ev.start args)) := ev_fn (by kernel_rfl) d args hl
theorem s42 (d : Nat) (args : List LV) (hl : args.length = i42.nargs) : ev (d + 1) 42 args = Ev.finish i42.res (evC (ev d) i42.body (Ev.start args)) := ev_fn (by kernel_rfl) d args hl
theorem s45 (d : Nat) (args : List LV) (hl : args.length = i45.nargs) : ev (d + 1) 45 args = Ev.finish i45.res (evC (ev d) i45.body (Ev.start args)) := ev_fn (by kernel_rfl) d args hl
theorem s46 (d : Nat) (args : List LV) (hl : args.length = i46.nargs) : ev (d + 1) 46 args = Ev.finish i46.res (evC (ev d) i46.body (Ev.start args)) := ev_fn (by kernel_rfl) d args hl
theorem s49 (d : Nat) (args : List LV) (hl : args.length = i49.nargs) : ev (d + 1) 49 args = Ev.finish i49.res (evC (ev d) i49.body (Ev.start args)) := ev_fn (by kernel_rfl) d args hl
theorem s50 (d : Nat) (args : List LV) (hl : args.length = i50.nargs) : ev (d + 1) 50 args = Ev.finish i50.res (evC (ev d) i50.body (Ev.start args)) := ev_fn (by kernel_rfl) d args hl
theorem s58 (d : Nat) (args : List LV) (hl : args.length = i58.nargs) : ev (d + 1) 58 args = Ev.finish i58.res (evC (ev d) i58.body (Ev.start args)) := ev_fn (by kernel_rfl) d args hl
theorem s60 (d : Nat) (args : List LV) (hl : args.length = i60.nargs) : ev (d + 1) 60 args = Ev.finish i60.res (evC (ev d) i60.body (Ev.start args)) := ev_fn (by kernel_rfl) d args hl
theorem s63 (d : Nat) (args : List LV) (hl : args.length = i63.nargs) : ev (d + 1) 63 args = Ev.finish i63.res (evC (ev d) i63.body (Ev.start args)) := ev_fn (by kernel_rfl) d args hl
theorem s69 (d : Nat) (args : List LV) (hl : args.length = i69.nargs) : ev (d + 1) 69 args = Ev.finish i69.res (evC (ev d) i69.body (Ev.start args)) := ev_fn (by kernel_rfl) d args hl
theorem s85 (d : Nat) (args : List LV) (hl : args.length = i85.nargs) : ev (d + 1) 85 args = Ev.finish i85.res (evC (ev d) i85.body (Ev.start args)) := ev_fn (by kernel_rfl) d args hl
theorem s86 (d : Nat) (args : List LV) (hl : args.length = i86.nargs) : ev (d + 1) 86 args = Ev.finish i86.res (evC (ev d) i86.body (Ev.start args)) := ev_fn (by kernel_rfl) d args hl
theorem s89 (d : Nat) (args : List LV) (hl : args.length = i89.nargs) : ev (d + 1) 89 args = Ev.finish i89.res (evC (ev d) i89.body (Ev.start args)) := ev_fn (by kernel_rfl) d args hl
theorem s90 (d : Nat) (args : List LV) (hl : args.length = i90.nargs) : ev (d + 1) 90 args = Ev.finish i90.res (evC (ev d) i90.body (Ev.start args)) := ev_fn (by kernel_rfl) d args hl
theorem s93 (d : Nat) (args : List LV) (hl : args.length = i93.nargs) : ev (d + 1) 93 args = Ev.finish i93.res (evC (ev d) i93.body (Ev.start args)) := ev_fn (by kernel_rfl) d args hl
theorem s96 (d : Nat) (args : List LV) (hl : args.length = i96.nargs) : ev (d + 1) 96 args = Ev.finish i96.res (evC (ev d) i96.body (Ev.start args)) := ev_fn (by kernel_rfl) d args hl
theorem s97 (d : Nat) (args : List LV) (hl : args.length = i97.nargs) : ev (d + 1) 97 args = Ev.finish i97.res (evC (ev d) i97.body (Ev.start args)) := ev_fn (by kernel_rfl) d args hl
theorem s98 (d : Nat) (args : List LV) (hl : args.length = i98.nargs) : ev (d + 1) 98 args = Ev.finish i98.res (evC (ev d) i98.body (Ev.start args)) := ev_fn (by kernel_rfl) d args hl
theorem s99 (d : Nat) (args : List LV) (hl : args.length = i99.nargs) : ev (d + 1) 99 args = Ev.finish i99.res (evC (ev d) i99.body (Ev.start args)) := ev_fn (by kernel_rfl) d args hl
theorem s100 (d : Nat) (args : List LV) (hl : args.length = i100.nargs) : ev (d + 1) 100 args = Ev.finish i100.res (evC (ev d) i100.body (Ev.start args)) := ev_fn (by kernel_rfl) d args hl
theorem s108 (d : Nat) (args : List LV) (hl : args.length = i108.nargs) : ev (d + 1) 108 args = Ev.finish i108.res (evC (ev d) i108.body (Ev.start args)) := ev_fn (by kernel_rfl) d args hl
theorem s122 (d : Nat) (args : List LV) (hl : args.length = i122.nargs) : ev (d + 1) 122 args = Ev.finish i122.res (evC (ev d) i122.body (Ev.start args)) := ev_fn (by kernel_rfl) d args hl
theorem s124 (d : Nat) (args : List LV) (hl : args.length = i124.nargs) : ev (d + 1) 124 args = Ev.finish i124.res (evC (ev d) i124.body (Ev.start args)) := ev_fn (by kernel_rfl) d args hl
theorem s128 (d : Nat) (args : List LV) (hl : args.length = i128.nargs) : ev (d + 1) 128 args = Ev.finish i128.res (evC (ev d) i128.body (Ev.start args)) := ev_fn (by kernel_rfl) d args hl
theorem s129 (d : Nat) (args : List LV) (hl : args.length = i129.nargs) : ev (d + 1) 129 args = Ev.finish i129.res (evC (ev d) i129.body (Ev.start args)) := ev_fn (by kernel_rfl) d args hl
theorem s130 (d : Nat) (args : List LV) (hl : args.length = i130.nargs) : ev (d + 1) 130 args = Ev.finish i130.res (evC (ev d) i130.body (Ev.start args)) := ev_fn (by kernel_rfl) d args hl
theorem s131 (d : Nat) (args : List LV) (hl : args.length = i131.nargs) : ev (d + 1) 131 args = Ev.finish i131.res (evC (ev d) i131.body (Ev.start args)) := ev_fn (by kernel_rfl) d args hl
theorem s132 (d : Nat) (args : List LV) (hl : args.length = i132.nargs) : ev (d + 1) 132 args = Ev.finish i132.res (evC (ev d) i132.body (Ev.start args)) := ev_fn (by kernel_rfl) d args hl
theorem s133 (d : Nat) (args : List LV) (hl : args.length = i133.nargs) : ev (d + 1) 133 args = Ev.finish i133.res (evC (ev d) i133.body (Ev.start args)) := ev_fn (by kernel_rfl) d args hl
theorem s134 (d : Nat) (args : List LV) (hl : args.length = i134.nargs) : ev (d + 1) 134 args = Ev.finish i134.res (evC (ev d) i134.body (Ev.start args)) := ev_fn (by kernel_rfl) d args hl
theorem s141 (d : Nat) (args : List LV) (hl : args.length = i141.nargs) : ev (d + 1) 141 args = Ev.finish i141.res (evC (ev d) i141.body (Ev.start args)) := ev_fn (by kernel_rfl) d args hl
theorem s151 (d : Nat) (args : List LV) (hl : args.length = i151.nargs) : ev (d + 1) 151 args = Ev.finish i151.res (evC (ev d) i151.body (Ev.start args)) := ev_fn (by kernel_rfl) d args hl
theorem s154 (d : Nat) (args : List LV) (hl : args.length = i154.nargs) : ev (d + 1) 154 args = Ev.finish i154.res (evC (ev d) i154.body (Ev.start args)) := ev_fn (by kernel_rfl) d args hl
theorem s155 (d : Nat) (args : List LV) (hl : args.length = i155.nargs) : ev (d + 1) 155 args = Ev.finish i155.res (evC (ev d) i155.body (Ev.start args)) := ev_fn (by kernel_rfl) d args hl
theorem s158 (d : Nat) (args : List LV) (hl : args.length = i158.nargs) : ev (d + 1) 158 args = Ev.finish i158.res (evC (ev d) i158.body (Ev.start args)) := ev_fn (by kernel_rfl) d args hl
theorem s162 (d : Nat) (args : List LV) (hl : args.length = i162.nargs) : ev (d + 1) 162 args = Ev.finish i162.res (evC (ev d) i162.body (Ev.start args)) := ev_fn (by kernel_rfl) d args hl
theorem s165 (d : Nat) (args : List LV) (hl : args.length = i165.nargs) : ev (d + 1) 165 args = Ev.finish i165.res (evC (ev d) i165.body (Ev.start args)) := ev_fn (by kernel_rfl) d args hl
theorem s168 (d : Nat) (args : List LV) (hl : args.length = i168.nargs) : ev (d + 1) 168 args = Ev.finish i168.res (evC (ev d) i168.body (Ev.start args)) := ev_fn (by kernel_rfl) d args hl
theorem s175 (d : Nat) (args : List LV) (hl : args.length = i175.nargs) : ev (d + 1) 175 args = Ev.finish i175.res (evC (ev d) i175.body (Ev.start args)) := ev_fn (by kernel_rfl) d args hl
theorem s181 (d : Nat) (args : List LV) (hl : args.length = i181.nargs) : ev (d + 1) 181 args = Ev.finish i181.res (evC (ev d) i181.body (Ev.start args)) := ev_fn (by kernel_rfl) d args hl
theorem s182 (d : Nat) (args : List LV) (hl : args.length = i182.nargs) : ev (d + 1) 182 args = Ev.finish i182.res (evC (ev d) i182.body (Ev.start args)) := ev_fn (by kernel_rfl) d args hl
theorem s183 (d : Nat) (args : List LV) (hl : args.length = i183.nargs) : ev (d + 1) 183 args = Ev.finish i183.res (evC (ev d) i183.body (Ev.start args)) := ev_fn (by kernel_rfl) d args hl
theorem s184 (d : Nat) (args : List LV) (hl : args.length = i184.nargs) : ev (d + 1) 184 args = Ev.finish i184.res (evC (ev d) i184.body (Ev.start args)) := ev_fn (by kernel_rfl) d args hl
theorem s185 (d : Nat) (args : List LV) (hl : args.length = i185.nargs) : ev (d + 1) 185 args = Ev.finish i185.res (evC (ev d) i185.body (Ev.start args)) := ev_fn (by kernel_rfl) d args hl
theorem s186 (d : Nat) (args : List LV) (hl : args.length = i186.nargs) : ev (d + 1) 186 args = Ev.finish i186.res (evC (ev d) i186.body (Ev.start args)) := ev_fn (by kernel_rfl) d args hl
theorem s187 (d : Nat) (args : List LV) (hl : args.length = i187.nargs) : ev (d + 1) 187 args = Ev.finish i187.res (evC (ev d) i187.body (Ev.start args)) := ev_fn (by kernel_rfl) d args hl
theorem s190 (d : Nat) (args : List LV) (hl : args.length = i190.nargs) : ev (d + 1) 190 args = Ev.finish i190.res (evC (ev d) i190.body (Ev.start args)) := ev_fn (by kernel_rfl) d args hl
theorem s191 (d : Nat) (args : List LV) (hl : args.length = i191.nargs) : ev (d + 1) 191 args = Ev.finish i191.res (evC (ev d) i191.body (Ev.start args)) := ev_fn (by kernel_rfl) d args hl
theorem s203 (d : Nat) (args : List LV) (hl : args.length = i203.nargs) : ev (d + 1) 203 args = Ev.finish i203.res (evC (ev d) i203.body (Ev.start args)) := ev_fn (by kernel_rfl) d args hl
theorem s208 (d : Nat) (args : List LV) (hl : args.length = i208.nargs) : ev (d + 1) 208 args = Ev.finish i208.res (evC (ev d) i208.body (Ev.start args)) := ev_fn (by kernel_rfl) d args hl
theorem s211 (d : Nat) (args : List LV) (hl : args.length = i211.nargs) : ev (d + 1) 211 args = Ev.finish i211.res (evC (ev d) i211.body (Ev.start args)) := ev_fn (by kernel_rfl) d args hl
theorem s212 (d : Nat) (args : List LV) (hl : args.length = i212.nargs) : ev (d + 1) 212 args = Ev.finish i212.res (evC (ev d) i212.body (Ev.start args)) := ev_fn (by kernel_rfl) d args hl
theorem s213 (d : Nat) (args : List LV) (hl : args.length = i213.nargs) : ev (d + 1) 213 args = Ev.finish i213.res (evC (ev d) i213.body (Ev.start args)) := ev_fn (by kernel_rfl) d args hl
theorem s214 (d : Nat) (args : List LV) (hl : args.length = i214.nargs) : ev (d + 1) 214 args = Ev.finish i214.res (evC (ev d) i214.body (Ev.start args)) := ev_fn (by kernel_rfl) d args hl
theorem s215 (d : Nat) (args : List LV) (hl : args.length = i215.nargs) : ev (d + 1) 215 args = Ev.finish i215.res (evC (ev d) i215.body (Ev.start args)) := ev_fn (by kernel_rfl) d args hl
theorem s222 (d : Nat) (args : List LV) (hl : args.length = i222.nargs) : ev (d + 1) 222 args = Ev.finish i222.res (evC (ev d) i222.body (Ev.start args)) := ev_fn (by kernel_rfl) d args hl
theorem s224 (d : Nat) (args : List LV) (hl : args.length = i224.nargs) : ev (d + 1) 224 args = Ev.finish i224.res (evC (ev d) i224.body (Ev.start args)) := ev_fn (by kernel_rfl) d args hl
theorem s229 (d : Nat) (args : List LV) (hl : args.length = i229.nargs) : ev (d + 1) 229 args = Ev.finish i229.res (evC (ev d) i229.body (Ev.start args)) := ev_fn (by kernel_rfl) d args hl
theorem s230 (d : Nat) (args : List LV) (hl : args.length = i230.nargs) : ev (d + 1) 230 args = Ev.finish i230.res (evC (ev d) i230.body (Ev.start args)) := ev_fn (by kernel_rfl) d args hl
theorem s231 (d : Nat) (args : List LV) (hl : args.length = i231.nargs) : ev (d + 1) 231 args = Ev.finish i231.res (evC (ev d) i231.body (Ev.start args)) := ev_fn (by kernel_rfl) d args hl
theorem s234 (d : Nat) (args : List LV) (hl : args.length = i234.nargs) : ev (d + 1) 234 args = Ev.finish i234.res (evC (ev d) i234.body (Ev.start args)) := ev_fn (by kernel_rfl) d args hl
theorem s235 (d : Nat) (args : List LV) (hl : args.length = i235.nargs) : ev (d + 1) 235 args = Ev.finish i235.res (evC (ev d) i235.body (Ev.start args)) := ev_fn (by kernel_rfl) d args hl
theorem s246 (d : Nat) (args : List LV) (hl : args.length = i246.nargs) : ev (d + 1) 246 args = Ev.finish i246.res (evC (ev d) i246.body (Ev.start args)) := ev_fn (by kernel_rfl) d args hl
theorem s247 (d : Nat) (args : List LV) (hl : args.length = i247.nargs) : ev (d + 1) 247 args = Ev.finish i247.res (evC (ev d) i247.body (Ev.start args)) := ev_fn (by kernel_rfl) d args hl
theorem s253 (d : Nat) (args : List LV) (hl : args.length = i253.nargs) : ev (d + 1) 253 args = Ev.finish i253.res (evC (ev d) i253.body (Ev.start args)) := ev_fn (by kernel_rfl) d args hl
theorem s254 (d : Nat) (args : List LV) (hl : args.length = i254.nargs) : ev (d + 1) 254 args = Ev.finish i254.res (evC (ev d) i254.body (Ev.start args)) := ev_fn (by kernel_rfl) d args hl
theorem s270 (d : Nat) (args : List LV) (hl : args.length = i270.nargs) : ev (d + 1) 270 args = Ev.finish i270.res (evC (ev d) i270.body (Ev.start args)) := ev_fn (by kernel_rfl) d args hl
theorem s285 (d : Nat) (args : List LV) (hl : args.length = i285.nargs) : ev (d + 1) 285 args = Ev.finish i285.res (evC (ev d) i285.body (Ev.start args)) := ev_fn (by kernel_rfl) d args hl
theorem s286 (d : Nat) (args : List LV) (hl : args.length = i286.nargs) : ev (d + 1) 286 args = Ev.finish i286.res (evC (ev d) i286.body (Ev.start args)) := ev_fn (by kernel_rfl) d args hl
theorem m93 (d : Nat) {args bs : List LV} {st : St} (hs : startW args = some (bs, st)) (hl : bs.length = i93.nargs) : ev (d + 1) (mvN + 93) args = finishM i93.res (evC (ev d) i93.body st) := evF_fnM (by kernel_rfl) tabn d hs hl
theorem m124 (d : Nat) {args bs : List LV} {st : St} (hs : startW args = some (bs, st)) (hl : bs.length = i124.nargs) : ev (d + 1) (mvN + 124) args = finishM i124.res (evC (ev d) i124.body st) := evF_fnM (by kernel_rfl) tabn d hs hl
theorem v26 (d : Nat) {args bs : List LV} {st : St} (hs : startW args = some (bs, st)) (hl : bs.length = i26.nargs) : ev (d + 1) (wrN + 26) args = finishW bs i26.res (evC (ev d) i26.body st) := evF_fnW (by kernel_rfl) tabn d hs hl
theorem v45 (d : Nat) {args bs : List LV} {st : St} (hs : startW args = some (bs, st)) (hl : bs.length = i45.nargs) : ev (d + 1) (wrN + 45) args = finishW bs i45.res (evC (ev d) i45.body st) := evF_fnW (by kernel_rfl) tabn d hs hl
theorem v97 (d : Nat) {args bs : List LV} {st : St} (hs : startW args = some (bs, st)) (hl : bs.length = i97.nargs) : ev (d + 1) (wrN + 97) args = finishW bs i97.res (evC (ev d) i97.body st) := evF_fnW (by kernel_rfl) tabn d hs hl
theorem v98 (d : Nat) {args bs : List LV} {st : St} (hs : startW args = some (bs, st)) (hl : bs.length = i98.nargs) : ev (d + 1) (wrN + 98) args = finishW bs i98.res (evC (ev d) i98.body st) := evF_fnW (by kernel_rfl) tabn d hs hl
end Go.Proofs.Ytejffoibihbnnaa.walkS
