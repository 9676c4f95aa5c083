/- The functions that some rows reach, turned; no conditions. -/
import Derived.Test.YthnkioafikmmaaaDoorPr
import Derived.KernelRfl
import Derived.Test.YthnkioafikmmaaaDoorProg
namespace Go.Proofs.YthnkioafikmmaaaDoor.walkS
open Go Go.Proofs.YthnkioafikmmaaaDoor.Ev
def i4 : Ev.Fn := ⟨1, 14, [.tmp 2],
 (.seq
 (.reg false [⟨1, .bx (.t 0), none, false⟩,
 ⟨2, .mv (.k (.sc (.bool false))), none, false⟩])
 (.seq
 (.reg false [⟨5, .ld 5 true (.t 1), none, false⟩,
 ⟨6, .ca (.k (.cl 14 [])) [(.t 5)], none, false⟩,
 ⟨7, .ca (.k (.cl 13 [])) [(.t 6)], none, false⟩,
 ⟨3, .mv (.t 7), none, false⟩])
 (.seq
 (.reg false [⟨8, .ld 5 true (.t 1), none, false⟩,
 ⟨9, .ca (.k (.cl 14 [])) [(.t 8)], none, false⟩,
 ⟨10, .ca (.k (.cl 15 [])) [(.t 9)], none, false⟩,
 ⟨4, .mv (.t 10), none, false⟩])
 (.seq
 (.seq
 (.reg false [⟨11, .mv (.t 4), none, false⟩,
 ⟨12, .mv (.t 3), none, false⟩,
 ⟨13, .ar .neq false (.t 11) (.t 12), none, false⟩])
 (.ite (.t 13)
 (.seq
 (.reg false [⟨2, .mv (.k (.sc (.bool false))), none, false⟩])
 .ret)
 .skip))
 (.seq
 (.reg false [⟨2, .mv (.k (.sc (.bool true))), none, false⟩])
 .ret)))))⟩
attribute [simp] i4
set_option maxRecDepth 1000000 in
theorem c4 : cFn Tryd.prog 4 [[]] = some i4 := by kernel_rfl
theorem e4 : enterOk Tryd.prog 4 = true := by kernel_rfl
def i13 : Ev.Fn := ⟨1, 6, [.tmp 2],
 (.seq
 (.reg false [⟨1, .bx (.t 0), none, false⟩,
 ⟨2, .mv (.k (.sc (.string ⟨#[]⟩))), none, false⟩])
 (.seq
 (.seq
 (.reg false [⟨3, .ca (.k (.cl 35 [])) [(.t 1)], none, false⟩,
 ⟨4, .nt (.t 3), none, false⟩])
 (.ite (.t 4)
 (.seq
 (.reg false [⟨2, .mv (.k (.sc (.string ⟨#[]⟩))), none, false⟩])
 .ret)
 .skip))
 (.seq
 (.reg false [⟨5, .ca (.k (.cl 36 [])) [(.t 1)], none, false⟩,
 ⟨2, .mv (.t 5), none, false⟩])
 .ret)))⟩
attribute [simp] i13
set_option maxRecDepth 1000000 in
theorem c13 : cFn Tryd.prog 13 [[]] = some i13 := by kernel_rfl
theorem e13 : enterOk Tryd.prog 13 = true := by kernel_rfl
def i14 : Ev.Fn := ⟨1, 20, [.cell 2 5 true],
 (.seq
 (.reg false [⟨1, .bx (.t 0), none, false⟩,
 ⟨2, .al [(.sc (.int .i64 0)), (.sc (.int .i64 0)), (.sc (.int .i64 0)), (.sc (.int .i64 0)), (.sc (.int .i64 0))], none, false⟩])
 (.seq
 (.reg false [⟨3, .al [(.sc (.int .i64 0)), (.sc (.int .i64 0)), (.sc (.int .i64 0)), (.sc (.int .i64 0)), (.sc (.int .i64 0))], none, false⟩])
 (.seq
 (.reg false [⟨4, .fa 0 (.t 1), none, false⟩,
 ⟨5, .ld 1 false (.t 4), none, false⟩,
 ⟨6, .fa 0 (.t 3), none, false⟩,
 ⟨1, .so 1 (.t 6) (.t 5), none, true⟩])
 (.seq
 (.reg false [⟨7, .fa 1 (.t 1), none, false⟩,
 ⟨8, .ld 1 false (.t 7), none, false⟩,
 ⟨9, .fa 1 (.t 3), none, false⟩,
 ⟨1, .so 1 (.t 9) (.t 8), none, true⟩])
 (.seq
 (.reg false [⟨10, .fa 2 (.t 1), none, false⟩,
 ⟨11, .ld 1 false (.t 10), none, false⟩,
 ⟨12, .fa 2 (.t 3), none, false⟩,
 ⟨1, .so 1 (.t 12) (.t 11), none, true⟩])
 (.seq
 (.reg false [⟨13, .fa 3 (.t 1), none, false⟩,
 ⟨14, .ld 1 false (.t 13), none, false⟩,
 ⟨15, .fa 3 (.t 3), none, false⟩,
 ⟨1, .so 1 (.t 15) (.t 14), none, true⟩])
 (.seq
 (.reg false [⟨16, .fa 4 (.t 1), none, false⟩,
 ⟨17, .ld 1 false (.t 16), none, false⟩,
 ⟨18, .fa 4 (.t 3), none, false⟩,
 ⟨1, .so 1 (.t 18) (.t 17), none, true⟩])
 (.seq
 (.reg false [⟨19, .ld 5 true (.t 3), none, false⟩,
 ⟨1, .so 5 (.t 2) (.t 19), none, true⟩])
 .ret))))))))⟩
attribute [simp] i14
set_option maxRecDepth 1000000 in
theorem c14 : cFn Tryd.prog 14 [[]] = some i14 := by kernel_rfl
theorem e14 : enterOk Tryd.prog 14 = true := by kernel_rfl
def i15 : Ev.Fn := ⟨1, 18, [.tmp 2],
 (.seq
 (.reg false [⟨1, .bx (.t 0), none, false⟩,
 ⟨2, .mv (.k (.sc (.string ⟨#[]⟩))), none, false⟩])
 (.seq
 (.seq
 (.reg false [⟨3, .ld 5 true (.t 1), none, false⟩,
 ⟨4, .ca (.k (.cl 37 [])) [(.t 3)], none, false⟩,
 ⟨5, .nt (.t 4), none, false⟩])
 (.ite (.t 5)
 (.seq
 (.reg false [⟨2, .mv (.k (.sc (.string ⟨#[]⟩))), none, false⟩])
 .ret)
 .skip))
 (.seq
 (.reg false [⟨6, .fa 0 (.t 1), none, false⟩,
 ⟨7, .ld 1 false (.t 6), none, false⟩,
 ⟨8, .fa 1 (.t 1), none, false⟩,
 ⟨9, .ld 1 false (.t 8), none, false⟩,
 ⟨10, .fa 2 (.t 1), none, false⟩,
 ⟨11, .ld 1 false (.t 10), none, false⟩,
 ⟨12, .fa 3 (.t 1), none, false⟩,
 ⟨13, .ld 1 false (.t 12), none, false⟩,
 ⟨14, .fa 4 (.t 1), none, false⟩,
 ⟨15, .ld 1 false (.t 14), none, false⟩,
 ⟨16, .bs 2 1 [(.sc (.int .i64 0))] 5 [(0, (.t 7)), (1, (.t 9)), (2, (.t 11)), (3, (.t 13)), (4, (.t 15))], none, false⟩,
 ⟨17, .ca (.k (.cl 38 [])) [(.t 16)], none, false⟩,
 ⟨2, .mv (.t 17), none, false⟩])
 .ret)))⟩
attribute [simp] i15
set_option maxRecDepth 1000000 in
theorem c15 : cFn Tryd.prog 15 [[]] = some i15 := by kernel_rfl
theorem e15 : enterOk Tryd.prog 15 = true := by kernel_rfl
def i34 : Ev.Fn := ⟨1, 5, [.tmp 2],
 (.seq
 (.reg false [⟨2, .mv (.k (.sc (.string ⟨#[]⟩))), none, false⟩])
 (.seq
 (.reg false [⟨3, .mv (.t 0), none, false⟩,
 ⟨4, .ca (.k (.cl 64 [])) [(.t 3), (.k (.sc (.int .i64 10)))], none, false⟩,
 ⟨2, .mv (.t 4), none, false⟩])
 .ret))⟩
attribute [simp] i34
set_option maxRecDepth 1000000 in
theorem c34 : cFn Tryd.prog 34 [[]] = some i34 := by kernel_rfl
theorem e34 : enterOk Tryd.prog 34 = true := by kernel_rfl
def i35 : Ev.Fn := ⟨1, 36, [.tmp 2],
 (.seq
 (.reg false [⟨2, .mv (.k (.sc (.bool false))), none, false⟩])
 (.seq
 (.reg false [⟨3, .mv (.t 0), none, false⟩,
 ⟨4, .nc (.t 3), none, false⟩,
 ⟨5, .fa 0 (.t 4), none, false⟩,
 ⟨6, .ld 1 false (.t 5), none, false⟩,
 ⟨7, .ca (.k (.cl 58 [])) [(.t 6), (.k (.sc (.int .i64 0))), (.k (.sc (.int .i64 23)))], none, false⟩,
 ⟨8, .mv (.t 7), none, false⟩,
 ⟨9, .mv (.t 0), (some (8, true)), false⟩,
 ⟨10, .nc (.t 9), (some (8, true)), false⟩,
 ⟨11, .fa 1 (.t 10), (some (8, true)), false⟩,
 ⟨12, .ld 1 false (.t 11), (some (8, true)), false⟩,
 ⟨13, .ca (.k (.cl 58 [])) [(.t 12), (.k (.sc (.int .i64 0))), (.k (.sc (.int .i64 15)))], (some (8, true)), false⟩,
 ⟨14, .pk (.t 8) (.t 13) (.k (.sc (.bool false))), none, false⟩,
 ⟨15, .mv (.t 14), none, false⟩,
 ⟨16, .mv (.t 0), (some (15, true)), false⟩,
 ⟨17, .nc (.t 16), (some (15, true)), false⟩,
 ⟨18, .fa 2 (.t 17), (some (15, true)), false⟩,
 ⟨19, .ld 1 false (.t 18), (some (15, true)), false⟩,
 ⟨20, .ca (.k (.cl 58 [])) [(.t 19), (.k (.sc (.int .i64 0))), (.k (.sc (.int .i64 20000)))], (some (15, true)), false⟩,
 ⟨21, .pk (.t 15) (.t 20) (.k (.sc (.bool false))), none, false⟩,
 ⟨22, .mv (.t 21), none, false⟩,
 ⟨23, .mv (.t 0), (some (22, true)), false⟩,
 ⟨24, .nc (.t 23), (some (22, true)), false⟩,
 ⟨25, .fa 3 (.t 24), (some (22, true)), false⟩,
 ⟨26, .ld 1 false (.t 25), (some (22, true)), false⟩,
 ⟨27, .ca (.k (.cl 58 [])) [(.t 26), (.k (.sc (.int .i64 0))), (.k (.sc (.int .i64 20000)))], (some (22, true)), false⟩,
 ⟨28, .pk (.t 22) (.t 27) (.k (.sc (.bool false))), none, false⟩,
 ⟨29, .mv (.t 28), none, false⟩,
 ⟨30, .mv (.t 0), (some (29, true)), false⟩,
 ⟨31, .nc (.t 30), (some (29, true)), false⟩,
 ⟨32, .fa 4 (.t 31), (some (29, true)), false⟩,
 ⟨33, .ld 1 false (.t 32), (some (29, true)), false⟩,
 ⟨34, .ca (.k (.cl 65 [])) [(.t 33)], (some (29, true)), false⟩,
 ⟨35, .pk (.t 29) (.t 34) (.k (.sc (.bool false))), none, false⟩,
 ⟨2, .mv (.t 35), none, false⟩])
 .ret))⟩
attribute [simp] i35
set_option maxRecDepth 1000000 in
theorem c35 : cFn Tryd.prog 35 [[]] = some i35 := by kernel_rfl
theorem e35 : enterOk Tryd.prog 35 = true := by kernel_rfl
def i36 : Ev.Fn := ⟨1, 25, [.tmp 2],
 (.seq
 (.reg false [⟨2, .mv (.k (.sc (.string ⟨#[]⟩))), none, false⟩])
 (.seq
 (.reg true [⟨3, .mv (.t 0), none, false⟩,
 ⟨4, .nc (.t 3), none, false⟩,
 ⟨5, .fa 0 (.t 4), none, false⟩,
 ⟨6, .ld 1 false (.t 5), none, false⟩,
 ⟨7, .mv (.t 0), none, false⟩,
 ⟨8, .nc (.t 7), none, false⟩,
 ⟨9, .fa 1 (.t 8), none, false⟩,
 ⟨10, .ld 1 false (.t 9), none, false⟩,
 ⟨11, .mv (.t 0), none, false⟩,
 ⟨12, .nc (.t 11), none, false⟩,
 ⟨13, .fa 2 (.t 12), none, false⟩,
 ⟨14, .ld 1 false (.t 13), none, false⟩,
 ⟨15, .mv (.t 0), none, false⟩,
 ⟨16, .nc (.t 15), none, false⟩,
 ⟨17, .fa 3 (.t 16), none, false⟩,
 ⟨18, .ld 1 false (.t 17), none, false⟩,
 ⟨19, .mv (.t 0), none, false⟩,
 ⟨20, .nc (.t 19), none, false⟩,
 ⟨21, .fa 4 (.t 20), none, false⟩,
 ⟨22, .ld 1 false (.t 21), none, false⟩,
 ⟨23, .bs 2 1 [(.sc (.int .i64 0))] 5 [(0, (.t 6)), (1, (.t 10)), (2, (.t 14)), (3, (.t 18)), (4, (.t 22))], none, false⟩,
 ⟨24, .ca (.k (.cl 66 [])) [(.t 23)], none, false⟩,
 ⟨2, .mv (.t 24), none, false⟩])
 .ret))⟩
attribute [simp] i36
set_option maxRecDepth 1000000 in
theorem c36 : cFn Tryd.prog 36 [[]] = some i36 := by kernel_rfl
theorem e36 : enterOk Tryd.prog 36 = true := by kernel_rfl
def i37 : Ev.Fn := ⟨1, 26, [.tmp 2],
 (.seq
 (.reg false [⟨1, .bx (.t 0), none, false⟩,
 ⟨2, .mv (.k (.sc (.bool false))), none, false⟩])
 (.seq
 (.reg false [⟨3, .fa 0 (.t 1), none, false⟩,
 ⟨4, .ld 1 false (.t 3), none, false⟩,
 ⟨5, .ca (.k (.cl 63 [])) [(.t 4), (.k (.sc (.int .i64 0))), (.k (.sc (.int .i64 23)))], none, false⟩,
 ⟨6, .mv (.t 5), none, false⟩,
 ⟨7, .fa 1 (.t 1), (some (6, true)), false⟩,
 ⟨8, .ld 1 false (.t 7), (some (6, true)), false⟩,
 ⟨9, .ca (.k (.cl 63 [])) [(.t 8), (.k (.sc (.int .i64 0))), (.k (.sc (.int .i64 15)))], (some (6, true)), false⟩,
 ⟨10, .pk (.t 6) (.t 9) (.k (.sc (.bool false))), none, false⟩,
 ⟨11, .mv (.t 10), none, false⟩,
 ⟨12, .fa 2 (.t 1), (some (11, true)), false⟩,
 ⟨13, .ld 1 false (.t 12), (some (11, true)), false⟩,
 ⟨14, .ca (.k (.cl 63 [])) [(.t 13), (.k (.sc (.int .i64 0))), (.k (.sc (.int .i64 20000)))], (some (11, true)), false⟩,
 ⟨15, .pk (.t 11) (.t 14) (.k (.sc (.bool false))), none, false⟩,
 ⟨16, .mv (.t 15), none, false⟩,
 ⟨17, .fa 3 (.t 1), (some (16, true)), false⟩,
 ⟨18, .ld 1 false (.t 17), (some (16, true)), false⟩,
 ⟨19, .ca (.k (.cl 63 [])) [(.t 18), (.k (.sc (.int .i64 0))), (.k (.sc (.int .i64 20000)))], (some (16, true)), false⟩,
 ⟨20, .pk (.t 16) (.t 19) (.k (.sc (.bool false))), none, false⟩,
 ⟨21, .mv (.t 20), none, false⟩,
 ⟨22, .fa 4 (.t 1), (some (21, true)), false⟩,
 ⟨23, .ld 1 false (.t 22), (some (21, true)), false⟩,
 ⟨24, .ca (.k (.cl 63 [])) [(.t 23), (.k (.sc (.int .i64 0))), (.k (.sc (.int .i64 7)))], (some (21, true)), false⟩,
 ⟨25, .pk (.t 21) (.t 24) (.k (.sc (.bool false))), none, false⟩,
 ⟨2, .mv (.t 25), none, false⟩])
 .ret))⟩
attribute [simp] i37
set_option maxRecDepth 1000000 in
theorem c37 : cFn Tryd.prog 37 [[]] = some i37 := by kernel_rfl
theorem e37 : enterOk Tryd.prog 37 = true := by kernel_rfl
def w38_1 : IC :=
(.seq
 (.reg false [⟨14, .ar .lss false (.t 13) (.t 12), none, false⟩])
 (.seq
 (.ite (.t 14)
 .skip
 (.exit 0))
 (.seq
 (.block 1
 (.seq
 (.reg false [⟨15, .ia 1 (.t 11) (.t 13), none, false⟩,
 ⟨16, .ld 1 false (.t 15), none, false⟩,
 ⟨4, .mv (.t 16), none, false⟩])
 (.seq
 (.reg false [⟨17, .mv (.t 4), none, false⟩,
 ⟨18, .ca (.k (.cl 63 [])) [(.t 17), (.k (.sc (.int .i64 (-1000000000000)))), (.k (.sc (.int .i64 1000000000000)))], none, false⟩,
 ⟨19, .nt (.t 18), none, false⟩])
 (.ite (.t 19)
 (.seq
 (.reg false [⟨2, .mv (.k (.sc (.string ⟨#[]⟩))), none, false⟩])
 .ret)
 .skip))))
 (.reg false [⟨20, .ar .add false (.t 13) (.k (.sc (.int .i64 1))), none, false⟩,
 ⟨13, .mv (.t 20), none, false⟩]))))
def b38_1 : IC := w38_1
theorem u38_1 (call : CallF) (st : St) : evC call b38_1 st = evC call w38_1 st := rfl
attribute [simp] u38_1 w38_1
def w38_2 : IC :=
(.seq
 (.reg false [⟨28, .ar .lss false (.t 27) (.t 26), none, false⟩])
 (.seq
 (.ite (.t 28)
 .skip
 (.exit 2))
 (.seq
 (.block 3
 (.seq
 (.reg false [⟨29, .ia 1 (.t 25) (.t 27), none, false⟩,
 ⟨30, .ld 1 false (.t 29), none, false⟩,
 ⟨7, .mv (.t 30), none, false⟩])
 (.reg false [⟨31, .mv (.t 5), none, false⟩,
 ⟨32, .mv (.t 7), none, false⟩,
 ⟨33, .ca (.k (.cl 34 [])) [(.t 32)], none, false⟩,
 ⟨34, .bs 9 1 [(.sc (.string ⟨#[]⟩))] 1 [(0, (.t 33))], none, false⟩,
 ⟨35, .ap 9 1 false (.t 31) (.t 34), none, false⟩,
 ⟨5, .mv (.t 35), none, false⟩])))
 (.reg false [⟨36, .ar .add false (.t 27) (.k (.sc (.int .i64 1))), none, false⟩,
 ⟨27, .mv (.t 36), none, false⟩]))))
def b38_2 : IC := w38_2
theorem u38_2 (call : CallF) (st : St) : evC call b38_2 st = evC call w38_2 st := rfl
attribute [simp] u38_2 w38_2
def i38 : Ev.Fn := ⟨1, 39, [.tmp 2],
 (.seq
 (.reg false [⟨2, .mv (.k (.sc (.string ⟨#[]⟩))), none, false⟩])
 (.seq
 (.seq
 (.reg false [⟨8, .mv (.t 0), none, false⟩,
 ⟨9, .ln false (.t 8), none, false⟩,
 ⟨10, .ar .gtr false (.t 9) (.k (.sc (.int .i64 64))), none, false⟩])
 (.ite (.t 10)
 (.seq
 (.reg false [⟨2, .mv (.k (.sc (.string ⟨#[]⟩))), none, false⟩])
 .ret)
 .skip))
 (.seq
 (.seq
 (.reg false [⟨11, .mv (.t 0), none, false⟩,
 ⟨12, .ln false (.t 11), none, false⟩,
 ⟨13, .mv (.k (.sc (.int .i64 0))), none, false⟩])
 (.cln [0] [2]
 (.block 0
 (.loop [0, 11, 12, 13] b38_1))))
 (.seq
 (.seq
 (.reg false [⟨21, .mv (.t 0), none, false⟩,
 ⟨22, .ln false (.t 21), none, false⟩,
 ⟨23, .ar .eql false (.t 22) (.k (.sc (.int .i64 0))), none, false⟩])
 (.ite (.t 23)
 (.seq
 (.reg false [⟨2, .mv (.k (.sc (.string ⟨#[45]⟩))), none, false⟩])
 .ret)
 .skip))
 (.seq
 (.reg false [⟨24, .bs 9 1 [(.sc (.string ⟨#[]⟩))] 0 [], none, false⟩,
 ⟨5, .mv (.t 24), none, false⟩])
 (.seq
 (.seq
 (.reg false [⟨25, .mv (.t 0), none, false⟩,
 ⟨26, .ln false (.t 25), none, false⟩,
 ⟨27, .mv (.k (.sc (.int .i64 0))), none, false⟩])
 (.cln [5] [2]
 (.block 2
 (.loop [5, 25, 26, 27] b38_2))))
 (.seq
 (.reg false [⟨37, .mv (.t 5), none, false⟩,
 ⟨38, .ca (.k (.cl 45 [])) [(.t 37), (.k (.sc (.string ⟨#[44]⟩)))], none, false⟩,
 ⟨2, .mv (.t 38), none, false⟩])
 .ret)))))))⟩
attribute [simp] i38
set_option maxRecDepth 1000000 in
theorem c38 : cFn Tryd.prog 38 [[], [0, 11, 12, 13], [0], [2], [5, 25, 26, 27], [5], [2]] = some i38 := by kernel_rfl
theorem e38 : enterOk Tryd.prog 38 = true := by kernel_rfl
def i58 : Ev.Fn := ⟨3, 15, [.tmp 6],
 (.seq
 (.reg false [⟨6, .mv (.k (.sc (.bool false))), none, false⟩])
 (.seq
 (.reg false [⟨7, .mv (.t 0), none, false⟩,
 ⟨8, .mv (.t 1), none, false⟩,
 ⟨9, .ar .geq false (.t 7) (.t 8), none, false⟩,
 ⟨10, .mv (.t 9), none, false⟩,
 ⟨11, .mv (.t 0), (some (10, true)), false⟩,
 ⟨12, .mv (.t 2), (some (10, true)), false⟩,
 ⟨13, .ar .leq false (.t 11) (.t 12), (some (10, true)), false⟩,
 ⟨14, .pk (.t 10) (.t 13) (.k (.sc (.bool false))), none, false⟩,
 ⟨6, .mv (.t 14), none, false⟩])
 .ret))⟩
attribute [simp] i58
set_option maxRecDepth 1000000 in
theorem c58 : cFn Tryd.prog 58 [[]] = some i58 := by kernel_rfl
theorem e58 : enterOk Tryd.prog 58 = true := by kernel_rfl
def w61_1 : IC :=
(.seq
 (.seq
 (.reg false [⟨12, .mv (.t 4), none, false⟩,
 ⟨13, .ar .neq false (.t 12) (.k (.sc (.int .i64 0))), none, false⟩])
 (.ite (.t 13)
 .skip
 (.exit 0)))
 (.seq
 (.block 1
 (.seq
 (.reg false [⟨16, .mv (.t 4), none, false⟩,
 ⟨17, .ar .rem false (.t 16) (.k (.sc (.int .i64 10))), none, false⟩,
 ⟨5, .mv (.t 17), none, false⟩])
 (.seq
 (.seq
 (.reg false [⟨18, .mv (.t 5), none, false⟩,
 ⟨19, .ar .lss false (.t 18) (.k (.sc (.int .i64 0))), none, false⟩])
 (.ite (.t 19)
 (.reg false [⟨20, .mv (.t 5), none, false⟩,
 ⟨21, .ng (.t 20), none, false⟩,
 ⟨5, .mv (.t 21), none, false⟩])
 .skip))
 (.reg false [⟨22, .mv (.t 3), none, false⟩,
 ⟨23, .mv (.t 5), none, false⟩,
 ⟨24, .ar .add false (.k (.sc (.int .i64 48))) (.t 23), none, false⟩,
 ⟨25, .cv .u8 (.t 24), none, false⟩,
 ⟨26, .bs 5 1 [(.sc (.int .u8 0))] 1 [(0, (.t 25))], none, false⟩,
 ⟨27, .ap 5 1 false (.t 22) (.t 26), none, false⟩,
 ⟨3, .mv (.t 27), none, false⟩]))))
 (.reg false [⟨14, .mv (.t 4), none, false⟩,
 ⟨15, .ar .quo false (.t 14) (.k (.sc (.int .i64 10))), none, false⟩,
 ⟨4, .mv (.t 15), none, false⟩])))
def b61_1 : IC := w61_1
theorem u61_1 (call : CallF) (st : St) : evC call b61_1 st = evC call w61_1 st := rfl
attribute [simp] u61_1 w61_1
def w61_2 : IC :=
(.seq
 (.seq
 (.reg false [⟨37, .mv (.t 7), none, false⟩,
 ⟨38, .ar .geq false (.t 37) (.k (.sc (.int .i64 0))), none, false⟩])
 (.ite (.t 38)
 .skip
 (.exit 2)))
 (.seq
 (.block 3
 (.reg false [⟨41, .mv (.t 6), none, false⟩,
 ⟨42, .mv (.t 3), none, false⟩,
 ⟨43, .mv (.t 7), none, false⟩,
 ⟨44, .ia 1 (.t 42) (.t 43), none, false⟩,
 ⟨45, .ld 1 false (.t 44), none, false⟩,
 ⟨46, .bs 5 1 [(.sc (.int .u8 0))] 1 [(0, (.t 45))], none, false⟩,
 ⟨47, .ap 5 1 false (.t 41) (.t 46), none, false⟩,
 ⟨6, .mv (.t 47), none, false⟩]))
 (.reg false [⟨39, .mv (.t 7), none, false⟩,
 ⟨40, .ar .sub false (.t 39) (.k (.sc (.int .i64 1))), none, false⟩,
 ⟨7, .mv (.t 40), none, false⟩])))
def b61_2 : IC := w61_2
theorem u61_2 (call : CallF) (st : St) : evC call b61_2 st = evC call w61_2 st := rfl
attribute [simp] u61_2 w61_2
def i61 : Ev.Fn := ⟨1, 50, [.tmp 2],
 (.seq
 (.reg false [⟨2, .mv (.k (.sc (.string ⟨#[]⟩))), none, false⟩])
 (.seq
 (.seq
 (.reg false [⟨8, .mv (.t 0), none, false⟩,
 ⟨9, .ar .eql false (.t 8) (.k (.sc (.int .i64 0))), none, false⟩])
 (.ite (.t 9)
 (.seq
 (.reg false [⟨2, .mv (.k (.sc (.string ⟨#[48]⟩))), none, false⟩])
 .ret)
 .skip))
 (.seq
 (.reg false [⟨10, .bs 5 1 [(.sc (.int .u8 0))] 0 [], none, false⟩,
 ⟨3, .mv (.t 10), none, false⟩])
 (.seq
 (.seq
 (.reg false [⟨11, .mv (.t 0), none, false⟩,
 ⟨4, .mv (.t 11), none, false⟩])
 (.cln [0, 3] [2]
 (.block 0
 (.loop [0, 3, 4] b61_1))))
 (.seq
 (.seq
 (.reg false [⟨28, .mv (.t 0), none, false⟩,
 ⟨29, .ar .lss false (.t 28) (.k (.sc (.int .i64 0))), none, false⟩])
 (.ite (.t 29)
 (.reg false [⟨30, .mv (.t 3), none, false⟩,
 ⟨31, .bs 5 1 [(.sc (.int .u8 0))] 1 [(0, (.k (.sc (.int .u8 45))))], none, false⟩,
 ⟨32, .ap 5 1 false (.t 30) (.t 31), none, false⟩,
 ⟨3, .mv (.t 32), none, false⟩])
 .skip))
 (.seq
 (.reg false [⟨33, .bs 5 1 [(.sc (.int .u8 0))] 0 [], none, false⟩,
 ⟨6, .mv (.t 33), none, false⟩])
 (.seq
 (.seq
 (.reg false [⟨34, .mv (.t 3), none, false⟩,
 ⟨35, .ln false (.t 34), none, false⟩,
 ⟨36, .ar .sub false (.t 35) (.k (.sc (.int .i64 1))), none, false⟩,
 ⟨7, .mv (.t 36), none, false⟩])
 (.cln [6] [2]
 (.block 2
 (.loop [3, 6, 7] b61_2))))
 (.seq
 (.reg false [⟨48, .mv (.t 6), none, false⟩,
 ⟨49, .by (.t 48), none, false⟩,
 ⟨2, .mv (.t 49), none, false⟩])
 .ret))))))))⟩
attribute [simp] i61
set_option maxRecDepth 1000000 in
theorem c61 : cFn Tryd.prog 61 [[], [0, 3, 4], [0, 3], [2], [3, 6, 7], [6], [2]] = some i61 := by kernel_rfl
theorem e61 : enterOk Tryd.prog 61 = true := by kernel_rfl
def i63 : Ev.Fn := ⟨3, 15, [.tmp 6],
 (.seq
 (.reg false [⟨6, .mv (.k (.sc (.bool false))), none, false⟩])
 (.seq
 (.reg false [⟨7, .mv (.t 0), none, false⟩,
 ⟨8, .mv (.t 1), none, false⟩,
 ⟨9, .ar .geq false (.t 7) (.t 8), none, false⟩,
 ⟨10, .mv (.t 9), none, false⟩,
 ⟨11, .mv (.t 0), (some (10, true)), false⟩,
 ⟨12, .mv (.t 2), (some (10, true)), false⟩,
 ⟨13, .ar .leq false (.t 11) (.t 12), (some (10, true)), false⟩,
 ⟨14, .pk (.t 10) (.t 13) (.k (.sc (.bool false))), none, false⟩,
 ⟨6, .mv (.t 14), none, false⟩])
 .ret))⟩
attribute [simp] i63
set_option maxRecDepth 1000000 in
theorem c63 : cFn Tryd.prog 63 [[]] = some i63 := by kernel_rfl
theorem e63 : enterOk Tryd.prog 63 = true := by kernel_rfl
def i65 : Ev.Fn := ⟨1, 5, [.tmp 2],
 (.seq
 (.reg false [⟨2, .mv (.k (.sc (.bool false))), none, false⟩])
 (.seq
 (.reg false [⟨3, .mv (.t 0), none, false⟩,
 ⟨4, .ca (.k (.cl 58 [])) [(.t 3), (.k (.sc (.int .i64 0))), (.k (.sc (.int .i64 7)))], none, false⟩,
 ⟨2, .mv (.t 4), none, false⟩])
 .ret))⟩
attribute [simp] i65
set_option maxRecDepth 1000000 in
theorem c65 : cFn Tryd.prog 65 [[]] = some i65 := by kernel_rfl
theorem e65 : enterOk Tryd.prog 65 = true := by kernel_rfl
def w66_1 : IC :=
(.seq
 (.seq
 (.reg false [⟨8, .mv (.t 4), none, false⟩,
 ⟨9, .mv (.t 0), none, false⟩,
 ⟨10, .ln false (.t 9), none, false⟩,
 ⟨11, .ar .lss false (.t 8) (.t 10), none, false⟩])
 (.ite (.t 11)
 .skip
 (.exit 0)))
 (.seq
 (.block 1
 (.seq
 (.seq
 (.reg false [⟨14, .mv (.t 4), none, false⟩,
 ⟨15, .ar .gtr false (.t 14) (.k (.sc (.int .i64 0))), none, false⟩])
 (.ite (.t 15)
 (.reg false [⟨16, .mv (.t 3), none, false⟩,
 ⟨17, .ar .add false (.t 16) (.k (.sc (.string ⟨#[44]⟩))), none, false⟩,
 ⟨3, .mv (.t 17), none, false⟩])
 .skip))
 (.reg false [⟨18, .mv (.t 3), none, false⟩,
 ⟨19, .mv (.t 0), none, false⟩,
 ⟨20, .mv (.t 4), none, false⟩,
 ⟨21, .ia 1 (.t 19) (.t 20), none, false⟩,
 ⟨22, .ld 1 false (.t 21), none, false⟩,
 ⟨23, .ca (.k (.cl 61 [])) [(.t 22)], none, false⟩,
 ⟨24, .ar .add false (.t 18) (.t 23), none, false⟩,
 ⟨3, .mv (.t 24), none, false⟩])))
 (.reg false [⟨12, .mv (.t 4), none, false⟩,
 ⟨13, .ar .add false (.t 12) (.k (.sc (.int .i64 1))), none, false⟩,
 ⟨4, .mv (.t 13), none, false⟩])))
def b66_1 : IC := w66_1
theorem u66_1 (call : CallF) (st : St) : evC call b66_1 st = evC call w66_1 st := rfl
attribute [simp] u66_1 w66_1
def i66 : Ev.Fn := ⟨1, 26, [.tmp 2],
 (.seq
 (.reg false [⟨2, .mv (.k (.sc (.string ⟨#[]⟩))), none, false⟩])
 (.seq
 (.seq
 (.reg false [⟨5, .mv (.t 0), none, false⟩,
 ⟨6, .ln false (.t 5), none, false⟩,
 ⟨7, .ar .eql false (.t 6) (.k (.sc (.int .i64 0))), none, false⟩])
 (.ite (.t 7)
 (.seq
 (.reg false [⟨2, .mv (.k (.sc (.string ⟨#[45]⟩))), none, false⟩])
 .ret)
 .skip))
 (.seq
 (.reg false [⟨3, .mv (.k (.sc (.string ⟨#[]⟩))), none, false⟩])
 (.seq
 (.seq
 (.reg false [⟨4, .mv (.k (.sc (.int .i64 0))), none, false⟩])
 (.cln [3] [2]
 (.block 0
 (.loop [0, 3, 4] b66_1))))
 (.seq
 (.reg false [⟨25, .mv (.t 3), none, false⟩,
 ⟨2, .mv (.t 25), none, false⟩])
 .ret)))))⟩
attribute [simp] i66
set_option maxRecDepth 1000000 in
theorem c66 : cFn Tryd.prog 66 [[], [0, 3, 4], [3], [2]] = some i66 := by kernel_rfl
theorem e66 : enterOk Tryd.prog 66 = true := by kernel_rfl
theorem mixed : Tryd.prog.follows .mixedOrders = true := by kernel_rfl
def Ft : List (Nat × Ev.Fn) := [(4, i4), (13, i13), (14, i14), (15, i15), (34, i34), (35, i35), (36, i36), (37, i37), (38, i38), (58, i58), (61, i61), (63, i63), (65, i65), (66, i66)]
def F : Nat → Option Ev.Fn := getF Ft
noncomputable def ev (d : Nat) : CallF := evF F prim d
theorem ev_fn {f : Nat} {fn : Ev.Fn} (h : F f = some fn) (d : Nat) (args : List LV) (hl : args.length = fn.nargs) : ev (d + 1) f args = Ev.finish fn.res (evC (ev d) fn.body (Ev.start args)) := evF_fn h d args hl
set_option maxRecDepth 1000000 in
theorem tab : ∀ f fn, F f = some fn → enterOk Tryd.prog f = true ∧ ∃ ks, cFn Tryd.prog f ks = some fn :=
  tabF (L := Ft) ⟨⟨e4, _, c4⟩, ⟨e13, _, c13⟩, ⟨e14, _, c14⟩, ⟨e15, _, c15⟩, ⟨e34, _, c34⟩, ⟨e35, _, c35⟩, ⟨e36, _, c36⟩, ⟨e37, _, c37⟩, ⟨e38, _, c38⟩, ⟨e58, _, c58⟩, ⟨e61, _, c61⟩, ⟨e63, _, c63⟩, ⟨e65, _, c65⟩, ⟨e66, _, c66⟩, trivial⟩
theorem tabn : ∀ f fn, F f = some fn → f < wrN := tabN (L := Ft) (by kernel_rfl)
theorem callOk (m : Int) (d : Nat) : CallOk (TT m) Tryd.prog (ev d) := (evF_ok2 mixed tab tabn (prim_ok m) (prim_okW m) d).1
abbrev I (n : Int) : LV := .sc (.int .i64 n)
abbrev B (b : Bool) : LV := .sc (.bool b)
abbrev T (s : ByteArray) : LV := .sc (.string s)
theorem s4 (d : Nat) (args : List LV) (hl : args.length = i4.nargs) : ev (d + 1) 4 args = Ev.finish i4.res (evC (ev d) i4.body (Ev.start args)) := ev_fn (by kernel_rfl) d args hl
theorem s13 (d : Nat) (args : List LV) (hl : args.length = i13.nargs) : ev (d + 1) 13 args = Ev.finish i13.res (evC (ev d) i13.body (Ev.start args)) := ev_fn (by kernel_rfl) d args hl
theorem s14 (d : Nat) (args : List LV) (hl : args.length = i14.nargs) : ev (d + 1) 14 args = Ev.finish i14.res (evC (ev d) i14.body (Ev.start args)) := ev_fn (by kernel_rfl) d args hl
theorem s15 (d : Nat) (args : List LV) (hl : args.length = i15.nargs) : ev (d + 1) 15 args = Ev.finish i15.res (evC (ev d) i15.body (Ev.start args)) := ev_fn (by kernel_rfl) d args hl
theorem s34 (d : Nat) (args : List LV) (hl : args.length = i34.nargs) : ev (d + 1) 34 args = Ev.finish i34.res (evC (ev d) i34.body (Ev.start args)) := ev_fn (by kernel_rfl) d args hl
theorem s35 (d : Nat) (args : List LV) (hl : args.length = i35.nargs) : ev (d + 1) 35 args = Ev.finish i35.res (evC (ev d) i35.body (Ev.start args)) := ev_fn (by kernel_rfl) d args hl
theorem s36 (d : Nat) (args : List LV) (hl : args.length = i36.nargs) : ev (d + 1) 36 args = Ev.finish i36.res (evC (ev d) i36.body (Ev.start args)) := ev_fn (by kernel_rfl) d args hl
theorem s37 (d : Nat) (args : List LV) (hl : args.length = i37.nargs) : ev (d + 1) 37 args = Ev.finish i37.res (evC (ev d) i37.body (Ev.start args)) := ev_fn (by kernel_rfl) d args hl
theorem s38 (d : Nat) (args : List LV) (hl : args.length = i38.nargs) : ev (d + 1) 38 args = Ev.finish i38.res (evC (ev d) i38.body (Ev.start args)) := ev_fn (by kernel_rfl) d args hl
theorem s58 (d : Nat) (args : List LV) (hl : args.length = i58.nargs) : ev (d + 1) 58 args = Ev.finish i58.res (evC (ev d) i58.body (Ev.start args)) := ev_fn (by kernel_rfl) d args hl
theorem s61 (d : Nat) (args : List LV) (hl : args.length = i61.nargs) : ev (d + 1) 61 args = Ev.finish i61.res (evC (ev d) i61.body (Ev.start args)) := ev_fn (by kernel_rfl) d args hl
theorem s63 (d : Nat) (args : List LV) (hl : args.length = i63.nargs) : ev (d + 1) 63 args = Ev.finish i63.res (evC (ev d) i63.body (Ev.start args)) := ev_fn (by kernel_rfl) d args hl
theorem s65 (d : Nat) (args : List LV) (hl : args.length = i65.nargs) : ev (d + 1) 65 args = Ev.finish i65.res (evC (ev d) i65.body (Ev.start args)) := ev_fn (by kernel_rfl) d args hl
theorem s66 (d : Nat) (args : List LV) (hl : args.length = i66.nargs) : ev (d + 1) 66 args = Ev.finish i66.res (evC (ev d) i66.body (Ev.start args)) := ev_fn (by kernel_rfl) d args hl
theorem q64R (d : Nat) (args : List LV) : ev d 64 args = prim 64 args := evF_prim (by kernel_rfl) (by decide) d args
theorem q64W (d : Nat) (args : List LV) : ev d (wrN + 64) args = prim (wrN + 64) args := evF_primW (by kernel_rfl) tabn (by decide) d args
theorem q64M (d : Nat) (args : List LV) : ev d (mvN + 64) args = prim (mvN + 64) args := evF_primM (by kernel_rfl) tabn (by decide) d args
theorem q45R (d : Nat) (args : List LV) : ev d 45 args = prim 45 args := evF_prim (by kernel_rfl) (by decide) d args
theorem q45W (d : Nat) (args : List LV) : ev d (wrN + 45) args = prim (wrN + 45) args := evF_primW (by kernel_rfl) tabn (by decide) d args
theorem q45M (d : Nat) (args : List LV) : ev d (mvN + 45) args = prim (mvN + 45) args := evF_primM (by kernel_rfl) tabn (by decide) d args
end Go.Proofs.YthnkioafikmmaaaDoor.walkS
