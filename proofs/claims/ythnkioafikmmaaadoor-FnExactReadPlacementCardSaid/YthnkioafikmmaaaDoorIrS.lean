/- The functions that some rows reach, turned; no conditions. -/
import Derived.Test.YthnkioafikmmaaaDoorPr
import Derived.KernelRfl
import Derived.Test.YthnkioafikmmaaaDoorProg
namespace Go.Proofs.YthnkioafikmmaaaDoor.walkS
open Go Go.Proofs.YthnkioafikmmaaaDoor.Ev
def i7 : Ev.Fn := ⟨1, 29, [.tmp 2],
 (.seq
 (.reg false [⟨2, .mv (.k (.sc (.bool false))), none, false⟩])
 (.seq
 (.seq
 (.reg false [⟨7, .mv (.t 0), none, false⟩,
 ⟨8, .ln true (.t 7), none, false⟩,
 ⟨9, .ar .gtr false (.t 8) (.k (.sc (.int .i64 1048576))), none, false⟩])
 (.ite (.t 9)
 (.seq
 (.reg false [⟨2, .mv (.k (.sc (.bool true))), none, false⟩])
 .ret)
 .skip))
 (.seq
 (.reg false [⟨11, .mv (.t 0), none, false⟩,
 ⟨12, .ca (.k (.cl 24 [])) [(.t 11)], none, false⟩,
 ⟨10, .mv (.t 12), none, false⟩,
 ⟨13, .xt (.t 10) 0, none, false⟩,
 ⟨14, .xt (.t 10) 1, none, false⟩,
 ⟨3, .al [(.sc (.int .i64 0)), (.sc (.int .i64 0)), (.sc (.int .i64 0)), (.sc (.int .i64 0)), (.sc (.int .i64 0))], none, false⟩,
 ⟨1, .so 5 (.t 3) (.t 13), none, true⟩,
 ⟨4, .mv (.t 14), none, false⟩])
 (.seq
 (.reg false [⟨16, .mv (.t 0), none, false⟩,
 ⟨17, .ca (.k (.cl 25 [])) [(.t 16)], none, false⟩,
 ⟨15, .mv (.t 17), none, false⟩,
 ⟨18, .xt (.t 15) 0, none, false⟩,
 ⟨19, .xt (.t 15) 1, none, false⟩,
 ⟨5, .al [(.sc (.int .i64 0)), (.sc (.int .i64 0)), (.sc (.int .i64 0)), (.sc (.int .i64 0)), (.sc (.int .i64 0))], none, false⟩,
 ⟨1, .so 5 (.t 5) (.t 18), none, true⟩,
 ⟨6, .mv (.t 19), none, false⟩])
 (.seq
 (.seq
 (.reg false [⟨20, .ld 5 true (.t 5), none, false⟩,
 ⟨21, .ld 5 true (.t 3), none, false⟩,
 ⟨22, .ca (.k (.cl 26 [])) [(.t 20), (.t 21)], none, false⟩,
 ⟨23, .nt (.t 22), none, false⟩,
 ⟨24, .mv (.t 23), none, false⟩,
 ⟨25, .mv (.t 6), (some (24, false)), false⟩,
 ⟨26, .mv (.t 4), (some (24, false)), false⟩,
 ⟨27, .ar .neq true (.t 25) (.t 26), (some (24, false)), false⟩,
 ⟨28, .pk (.t 24) (.k (.sc (.bool true))) (.t 27), none, false⟩])
 (.ite (.t 28)
 (.seq
 (.reg false [⟨2, .mv (.k (.sc (.bool false))), none, false⟩])
 .ret)
 .skip))
 (.seq
 (.reg false [⟨2, .mv (.k (.sc (.bool true))), none, false⟩])
 .ret))))))⟩
attribute [simp] i7
set_option maxRecDepth 1000000 in
theorem c7 : cFn Tryd.prog 7 [[]] = some i7 := by kernel_rfl
theorem e7 : enterOk Tryd.prog 7 = true := by kernel_rfl
def i24 : Ev.Fn := ⟨1, 40, [.cell 2 5 true, .tmp 3],
 (.seq
 (.reg false [⟨2, .al [(.sc (.int .i64 0)), (.sc (.int .i64 0)), (.sc (.int .i64 0)), (.sc (.int .i64 0)), (.sc (.int .i64 0))], none, false⟩,
 ⟨3, .mv (.k (.sc (.bool false))), none, false⟩])
 (.seq
 (.reg false [⟨8, .mv (.t 0), none, false⟩,
 ⟨9, .ca (.k (.cl 50 [])) [(.t 8)], none, false⟩,
 ⟨7, .mv (.t 9), none, false⟩,
 ⟨10, .xt (.t 7) 0, none, false⟩,
 ⟨11, .xt (.t 7) 1, none, false⟩,
 ⟨4, .mv (.t 10), none, false⟩,
 ⟨5, .mv (.t 11), none, false⟩])
 (.seq
 (.seq
 (.reg false [⟨12, .mv (.t 5), none, false⟩,
 ⟨13, .nt (.t 12), none, false⟩,
 ⟨14, .mv (.t 13), none, false⟩,
 ⟨15, .mv (.t 4), (some (14, false)), false⟩,
 ⟨16, .ln false (.t 15), (some (14, false)), false⟩,
 ⟨17, .ar .neq false (.t 16) (.k (.sc (.int .i64 5))), (some (14, false)), false⟩,
 ⟨18, .pk (.t 14) (.k (.sc (.bool true))) (.t 17), none, false⟩])
 (.ite (.t 18)
 (.seq
 (.reg false [⟨19, .bd [(.sc (.int .i64 0)), (.sc (.int .i64 0)), (.sc (.int .i64 0)), (.sc (.int .i64 0)), (.sc (.int .i64 0))] [], none, false⟩,
 ⟨1, .so 5 (.t 2) (.t 19), none, true⟩,
 ⟨3, .mv (.k (.sc (.bool false))), none, false⟩])
 .ret)
 .skip))
 (.seq
 (.reg true [⟨20, .mv (.t 4), none, false⟩,
 ⟨21, .ia 1 (.t 20) (.k (.sc (.int .i64 0))), none, false⟩,
 ⟨22, .ld 1 false (.t 21), none, false⟩,
 ⟨23, .mv (.t 4), none, false⟩,
 ⟨24, .ia 1 (.t 23) (.k (.sc (.int .i64 1))), none, false⟩,
 ⟨25, .ld 1 false (.t 24), none, false⟩,
 ⟨26, .mv (.t 4), none, false⟩,
 ⟨27, .ia 1 (.t 26) (.k (.sc (.int .i64 2))), none, false⟩,
 ⟨28, .ld 1 false (.t 27), none, false⟩,
 ⟨29, .mv (.t 4), none, false⟩,
 ⟨30, .ia 1 (.t 29) (.k (.sc (.int .i64 3))), none, false⟩,
 ⟨31, .ld 1 false (.t 30), none, false⟩,
 ⟨32, .mv (.t 4), none, false⟩,
 ⟨33, .ia 1 (.t 32) (.k (.sc (.int .i64 4))), none, false⟩,
 ⟨34, .ld 1 false (.t 33), none, false⟩,
 ⟨35, .bd [(.sc (.int .i64 0)), (.sc (.int .i64 0)), (.sc (.int .i64 0)), (.sc (.int .i64 0)), (.sc (.int .i64 0))] [(0, 1, (.t 22)), (1, 1, (.t 25)), (2, 1, (.t 28)), (3, 1, (.t 31)), (4, 1, (.t 34))], none, false⟩,
 ⟨6, .al [(.sc (.int .i64 0)), (.sc (.int .i64 0)), (.sc (.int .i64 0)), (.sc (.int .i64 0)), (.sc (.int .i64 0))], none, false⟩,
 ⟨1, .so 5 (.t 6) (.t 35), none, true⟩])
 (.seq
 (.seq
 (.reg false [⟨36, .ca (.k (.cl 35 [])) [(.t 6)], none, false⟩,
 ⟨37, .nt (.t 36), none, false⟩])
 (.ite (.t 37)
 (.seq
 (.reg false [⟨38, .bd [(.sc (.int .i64 0)), (.sc (.int .i64 0)), (.sc (.int .i64 0)), (.sc (.int .i64 0)), (.sc (.int .i64 0))] [], none, false⟩,
 ⟨1, .so 5 (.t 2) (.t 38), none, true⟩,
 ⟨3, .mv (.k (.sc (.bool false))), none, false⟩])
 .ret)
 .skip))
 (.seq
 (.reg false [⟨39, .ld 5 true (.t 6), none, false⟩,
 ⟨1, .so 5 (.t 2) (.t 39), none, true⟩,
 ⟨3, .mv (.k (.sc (.bool true))), none, false⟩])
 .ret))))))⟩
attribute [simp] i24
set_option maxRecDepth 1000000 in
theorem c24 : cFn Tryd.prog 24 [[]] = some i24 := by kernel_rfl
theorem e24 : enterOk Tryd.prog 24 = true := by kernel_rfl
def i25 : Ev.Fn := ⟨1, 41, [.cell 2 5 true, .tmp 3],
 (.seq
 (.reg false [⟨2, .al [(.sc (.int .i64 0)), (.sc (.int .i64 0)), (.sc (.int .i64 0)), (.sc (.int .i64 0)), (.sc (.int .i64 0))], none, false⟩,
 ⟨3, .mv (.k (.sc (.bool false))), none, false⟩])
 (.seq
 (.reg false [⟨8, .mv (.t 0), none, false⟩,
 ⟨9, .ca (.k (.cl 51 [])) [(.t 8)], none, false⟩,
 ⟨7, .mv (.t 9), none, false⟩,
 ⟨10, .xt (.t 7) 0, none, false⟩,
 ⟨11, .xt (.t 7) 1, none, false⟩,
 ⟨4, .mv (.t 10), none, false⟩,
 ⟨5, .mv (.t 11), none, false⟩])
 (.seq
 (.seq
 (.reg false [⟨12, .mv (.t 5), none, false⟩,
 ⟨13, .nt (.t 12), none, false⟩,
 ⟨14, .mv (.t 13), none, false⟩,
 ⟨15, .mv (.t 4), (some (14, false)), false⟩,
 ⟨16, .ln false (.t 15), (some (14, false)), false⟩,
 ⟨17, .ar .neq false (.t 16) (.k (.sc (.int .i64 5))), (some (14, false)), false⟩,
 ⟨18, .pk (.t 14) (.k (.sc (.bool true))) (.t 17), none, false⟩])
 (.ite (.t 18)
 (.seq
 (.reg false [⟨19, .bd [(.sc (.int .i64 0)), (.sc (.int .i64 0)), (.sc (.int .i64 0)), (.sc (.int .i64 0)), (.sc (.int .i64 0))] [], none, false⟩,
 ⟨1, .so 5 (.t 2) (.t 19), none, true⟩,
 ⟨3, .mv (.k (.sc (.bool false))), none, false⟩])
 .ret)
 .skip))
 (.seq
 (.reg true [⟨20, .mv (.t 4), none, false⟩,
 ⟨21, .ia 1 (.t 20) (.k (.sc (.int .i64 0))), none, false⟩,
 ⟨22, .ld 1 false (.t 21), none, false⟩,
 ⟨23, .mv (.t 4), none, false⟩,
 ⟨24, .ia 1 (.t 23) (.k (.sc (.int .i64 1))), none, false⟩,
 ⟨25, .ld 1 false (.t 24), none, false⟩,
 ⟨26, .mv (.t 4), none, false⟩,
 ⟨27, .ia 1 (.t 26) (.k (.sc (.int .i64 2))), none, false⟩,
 ⟨28, .ld 1 false (.t 27), none, false⟩,
 ⟨29, .mv (.t 4), none, false⟩,
 ⟨30, .ia 1 (.t 29) (.k (.sc (.int .i64 3))), none, false⟩,
 ⟨31, .ld 1 false (.t 30), none, false⟩,
 ⟨32, .mv (.t 4), none, false⟩,
 ⟨33, .ia 1 (.t 32) (.k (.sc (.int .i64 4))), none, false⟩,
 ⟨34, .ld 1 false (.t 33), none, false⟩,
 ⟨35, .bd [(.sc (.int .i64 0)), (.sc (.int .i64 0)), (.sc (.int .i64 0)), (.sc (.int .i64 0)), (.sc (.int .i64 0))] [(0, 1, (.t 22)), (1, 1, (.t 25)), (2, 1, (.t 28)), (3, 1, (.t 31)), (4, 1, (.t 34))], none, false⟩,
 ⟨6, .al [(.sc (.int .i64 0)), (.sc (.int .i64 0)), (.sc (.int .i64 0)), (.sc (.int .i64 0)), (.sc (.int .i64 0))], none, false⟩,
 ⟨1, .so 5 (.t 6) (.t 35), none, true⟩])
 (.seq
 (.seq
 (.reg false [⟨36, .ld 5 true (.t 6), none, false⟩,
 ⟨37, .ca (.k (.cl 37 [])) [(.t 36)], none, false⟩,
 ⟨38, .nt (.t 37), none, false⟩])
 (.ite (.t 38)
 (.seq
 (.reg false [⟨39, .bd [(.sc (.int .i64 0)), (.sc (.int .i64 0)), (.sc (.int .i64 0)), (.sc (.int .i64 0)), (.sc (.int .i64 0))] [], none, false⟩,
 ⟨1, .so 5 (.t 2) (.t 39), none, true⟩,
 ⟨3, .mv (.k (.sc (.bool false))), none, false⟩])
 .ret)
 .skip))
 (.seq
 (.reg false [⟨40, .ld 5 true (.t 6), none, false⟩,
 ⟨1, .so 5 (.t 2) (.t 40), none, true⟩,
 ⟨3, .mv (.k (.sc (.bool true))), none, false⟩])
 .ret))))))⟩
attribute [simp] i25
set_option maxRecDepth 1000000 in
theorem c25 : cFn Tryd.prog 25 [[]] = some i25 := by kernel_rfl
theorem e25 : enterOk Tryd.prog 25 = true := by kernel_rfl
def i26 : Ev.Fn := ⟨2, 30, [.tmp 4],
 (.seq
 (.reg false [⟨2, .bx (.t 0), none, false⟩,
 ⟨3, .bx (.t 1), none, false⟩,
 ⟨4, .mv (.k (.sc (.bool false))), none, false⟩])
 (.seq
 (.seq
 (.reg false [⟨5, .fa 0 (.t 2), none, false⟩,
 ⟨6, .ld 1 false (.t 5), none, false⟩,
 ⟨7, .fa 0 (.t 3), none, false⟩,
 ⟨8, .ld 1 false (.t 7), none, false⟩,
 ⟨9, .ar .neq false (.t 6) (.t 8), none, false⟩])
 (.ite (.t 9)
 (.seq
 (.reg false [⟨4, .mv (.k (.sc (.bool false))), none, false⟩])
 .ret)
 .skip))
 (.seq
 (.seq
 (.reg false [⟨10, .fa 1 (.t 2), none, false⟩,
 ⟨11, .ld 1 false (.t 10), none, false⟩,
 ⟨12, .fa 1 (.t 3), none, false⟩,
 ⟨13, .ld 1 false (.t 12), none, false⟩,
 ⟨14, .ar .neq false (.t 11) (.t 13), none, false⟩])
 (.ite (.t 14)
 (.seq
 (.reg false [⟨4, .mv (.k (.sc (.bool false))), none, false⟩])
 .ret)
 .skip))
 (.seq
 (.seq
 (.reg false [⟨15, .fa 2 (.t 2), none, false⟩,
 ⟨16, .ld 1 false (.t 15), none, false⟩,
 ⟨17, .fa 2 (.t 3), none, false⟩,
 ⟨18, .ld 1 false (.t 17), none, false⟩,
 ⟨19, .ar .neq false (.t 16) (.t 18), none, false⟩])
 (.ite (.t 19)
 (.seq
 (.reg false [⟨4, .mv (.k (.sc (.bool false))), none, false⟩])
 .ret)
 .skip))
 (.seq
 (.seq
 (.reg false [⟨20, .fa 3 (.t 2), none, false⟩,
 ⟨21, .ld 1 false (.t 20), none, false⟩,
 ⟨22, .fa 3 (.t 3), none, false⟩,
 ⟨23, .ld 1 false (.t 22), none, false⟩,
 ⟨24, .ar .neq false (.t 21) (.t 23), none, false⟩])
 (.ite (.t 24)
 (.seq
 (.reg false [⟨4, .mv (.k (.sc (.bool false))), none, false⟩])
 .ret)
 .skip))
 (.seq
 (.seq
 (.reg false [⟨25, .fa 4 (.t 2), none, false⟩,
 ⟨26, .ld 1 false (.t 25), none, false⟩,
 ⟨27, .fa 4 (.t 3), none, false⟩,
 ⟨28, .ld 1 false (.t 27), none, false⟩,
 ⟨29, .ar .neq false (.t 26) (.t 28), none, false⟩])
 (.ite (.t 29)
 (.seq
 (.reg false [⟨4, .mv (.k (.sc (.bool false))), none, false⟩])
 .ret)
 .skip))
 (.seq
 (.reg false [⟨4, .mv (.k (.sc (.bool true))), none, false⟩])
 .ret)))))))⟩
attribute [simp] i26
set_option maxRecDepth 1000000 in
theorem c26 : cFn Tryd.prog 26 [[]] = some i26 := by kernel_rfl
theorem e26 : enterOk Tryd.prog 26 = true := by kernel_rfl
def i34 : Ev.Fn := ⟨1, 5, [.tmp 2],
 (.seq
 (.reg false [⟨2, .mv (.k (.sc (.string ⟨#[]⟩))), none, false⟩])
 (.seq
 (.reg false [⟨3, .mv (.t 0), none, false⟩,
 ⟨4, .ca (.k (.cl 64 [])) [(.t 3), (.k (.sc (.int .i64 10)))], none, false⟩,
 ⟨2, .mv (.t 4), none, false⟩])
 .ret))⟩
attribute [simp] i34
set_option maxRecDepth 1000000 in
theorem c34 : cFn Tryd.prog 34 [[]] = some i34 := by kernel_rfl
theorem e34 : enterOk Tryd.prog 34 = true := by kernel_rfl
def i35 : Ev.Fn := ⟨1, 36, [.tmp 2],
 (.seq
 (.reg false [⟨2, .mv (.k (.sc (.bool false))), none, false⟩])
 (.seq
 (.reg false [⟨3, .mv (.t 0), none, false⟩,
 ⟨4, .nc (.t 3), none, false⟩,
 ⟨5, .fa 0 (.t 4), none, false⟩,
 ⟨6, .ld 1 false (.t 5), none, false⟩,
 ⟨7, .ca (.k (.cl 58 [])) [(.t 6), (.k (.sc (.int .i64 0))), (.k (.sc (.int .i64 23)))], none, false⟩,
 ⟨8, .mv (.t 7), none, false⟩,
 ⟨9, .mv (.t 0), (some (8, true)), false⟩,
 ⟨10, .nc (.t 9), (some (8, true)), false⟩,
 ⟨11, .fa 1 (.t 10), (some (8, true)), false⟩,
 ⟨12, .ld 1 false (.t 11), (some (8, true)), false⟩,
 ⟨13, .ca (.k (.cl 58 [])) [(.t 12), (.k (.sc (.int .i64 0))), (.k (.sc (.int .i64 15)))], (some (8, true)), false⟩,
 ⟨14, .pk (.t 8) (.t 13) (.k (.sc (.bool false))), none, false⟩,
 ⟨15, .mv (.t 14), none, false⟩,
 ⟨16, .mv (.t 0), (some (15, true)), false⟩,
 ⟨17, .nc (.t 16), (some (15, true)), false⟩,
 ⟨18, .fa 2 (.t 17), (some (15, true)), false⟩,
 ⟨19, .ld 1 false (.t 18), (some (15, true)), false⟩,
 ⟨20, .ca (.k (.cl 58 [])) [(.t 19), (.k (.sc (.int .i64 0))), (.k (.sc (.int .i64 20000)))], (some (15, true)), false⟩,
 ⟨21, .pk (.t 15) (.t 20) (.k (.sc (.bool false))), none, false⟩,
 ⟨22, .mv (.t 21), none, false⟩,
 ⟨23, .mv (.t 0), (some (22, true)), false⟩,
 ⟨24, .nc (.t 23), (some (22, true)), false⟩,
 ⟨25, .fa 3 (.t 24), (some (22, true)), false⟩,
 ⟨26, .ld 1 false (.t 25), (some (22, true)), false⟩,
 ⟨27, .ca (.k (.cl 58 [])) [(.t 26), (.k (.sc (.int .i64 0))), (.k (.sc (.int .i64 20000)))], (some (22, true)), false⟩,
 ⟨28, .pk (.t 22) (.t 27) (.k (.sc (.bool false))), none, false⟩,
 ⟨29, .mv (.t 28), none, false⟩,
 ⟨30, .mv (.t 0), (some (29, true)), false⟩,
 ⟨31, .nc (.t 30), (some (29, true)), false⟩,
 ⟨32, .fa 4 (.t 31), (some (29, true)), false⟩,
 ⟨33, .ld 1 false (.t 32), (some (29, true)), false⟩,
 ⟨34, .ca (.k (.cl 65 [])) [(.t 33)], (some (29, true)), false⟩,
 ⟨35, .pk (.t 29) (.t 34) (.k (.sc (.bool false))), none, false⟩,
 ⟨2, .mv (.t 35), none, false⟩])
 .ret))⟩
attribute [simp] i35
set_option maxRecDepth 1000000 in
theorem c35 : cFn Tryd.prog 35 [[]] = some i35 := by kernel_rfl
theorem e35 : enterOk Tryd.prog 35 = true := by kernel_rfl
def i37 : Ev.Fn := ⟨1, 26, [.tmp 2],
 (.seq
 (.reg false [⟨1, .bx (.t 0), none, false⟩,
 ⟨2, .mv (.k (.sc (.bool false))), none, false⟩])
 (.seq
 (.reg false [⟨3, .fa 0 (.t 1), none, false⟩,
 ⟨4, .ld 1 false (.t 3), none, false⟩,
 ⟨5, .ca (.k (.cl 63 [])) [(.t 4), (.k (.sc (.int .i64 0))), (.k (.sc (.int .i64 23)))], none, false⟩,
 ⟨6, .mv (.t 5), none, false⟩,
 ⟨7, .fa 1 (.t 1), (some (6, true)), false⟩,
 ⟨8, .ld 1 false (.t 7), (some (6, true)), false⟩,
 ⟨9, .ca (.k (.cl 63 [])) [(.t 8), (.k (.sc (.int .i64 0))), (.k (.sc (.int .i64 15)))], (some (6, true)), false⟩,
 ⟨10, .pk (.t 6) (.t 9) (.k (.sc (.bool false))), none, false⟩,
 ⟨11, .mv (.t 10), none, false⟩,
 ⟨12, .fa 2 (.t 1), (some (11, true)), false⟩,
 ⟨13, .ld 1 false (.t 12), (some (11, true)), false⟩,
 ⟨14, .ca (.k (.cl 63 [])) [(.t 13), (.k (.sc (.int .i64 0))), (.k (.sc (.int .i64 20000)))], (some (11, true)), false⟩,
 ⟨15, .pk (.t 11) (.t 14) (.k (.sc (.bool false))), none, false⟩,
 ⟨16, .mv (.t 15), none, false⟩,
 ⟨17, .fa 3 (.t 1), (some (16, true)), false⟩,
 ⟨18, .ld 1 false (.t 17), (some (16, true)), false⟩,
 ⟨19, .ca (.k (.cl 63 [])) [(.t 18), (.k (.sc (.int .i64 0))), (.k (.sc (.int .i64 20000)))], (some (16, true)), false⟩,
 ⟨20, .pk (.t 16) (.t 19) (.k (.sc (.bool false))), none, false⟩,
 ⟨21, .mv (.t 20), none, false⟩,
 ⟨22, .fa 4 (.t 1), (some (21, true)), false⟩,
 ⟨23, .ld 1 false (.t 22), (some (21, true)), false⟩,
 ⟨24, .ca (.k (.cl 63 [])) [(.t 23), (.k (.sc (.int .i64 0))), (.k (.sc (.int .i64 7)))], (some (21, true)), false⟩,
 ⟨25, .pk (.t 21) (.t 24) (.k (.sc (.bool false))), none, false⟩,
 ⟨2, .mv (.t 25), none, false⟩])
 .ret))⟩
attribute [simp] i37
set_option maxRecDepth 1000000 in
theorem c37 : cFn Tryd.prog 37 [[]] = some i37 := by kernel_rfl
theorem e37 : enterOk Tryd.prog 37 = true := by kernel_rfl
def w49_1 : IC :=
(.seq
 (.seq
 (.reg false [⟨20, .mv (.t 6), none, false⟩,
 ⟨21, .mv (.t 4), none, false⟩,
 ⟨22, .ln true (.t 21), none, false⟩,
 ⟨23, .ar .lss false (.t 20) (.t 22), none, false⟩])
 (.ite (.t 23)
 .skip
 (.exit 0)))
 (.seq
 (.block 1
 (.seq
 (.seq
 (.reg false [⟨26, .mv (.t 4), none, false⟩,
 ⟨27, .mv (.t 6), none, false⟩,
 ⟨28, .ix (.t 26) (.t 27), none, false⟩,
 ⟨29, .ar .lss false (.t 28) (.k (.sc (.int .u8 48))), none, false⟩,
 ⟨30, .mv (.t 29), none, false⟩,
 ⟨31, .mv (.t 4), (some (30, false)), false⟩,
 ⟨32, .mv (.t 6), (some (30, false)), false⟩,
 ⟨33, .ix (.t 31) (.t 32), (some (30, false)), false⟩,
 ⟨34, .ar .gtr false (.t 33) (.k (.sc (.int .u8 57))), (some (30, false)), false⟩,
 ⟨35, .pk (.t 30) (.k (.sc (.bool true))) (.t 34), none, false⟩])
 (.ite (.t 35)
 (.seq
 (.reg false [⟨2, .mv (.k (.sc (.int .i64 0))), none, false⟩,
 ⟨3, .mv (.k (.sc (.bool false))), none, false⟩])
 .ret)
 .skip))
 (.reg false [⟨36, .mv (.t 5), none, false⟩,
 ⟨37, .ar .mul false (.t 36) (.k (.sc (.int .i64 10))), none, false⟩,
 ⟨38, .mv (.t 4), none, false⟩,
 ⟨39, .mv (.t 6), none, false⟩,
 ⟨40, .ix (.t 38) (.t 39), none, false⟩,
 ⟨41, .ar .sub false (.t 40) (.k (.sc (.int .u8 48))), none, false⟩,
 ⟨42, .cv .i64 (.t 41), none, false⟩,
 ⟨43, .ar .add false (.t 37) (.t 42), none, false⟩,
 ⟨5, .mv (.t 43), none, false⟩])))
 (.reg false [⟨24, .mv (.t 6), none, false⟩,
 ⟨25, .ar .add false (.t 24) (.k (.sc (.int .i64 1))), none, false⟩,
 ⟨6, .mv (.t 25), none, false⟩])))
def b49_1 : IC := w49_1
theorem u49_1 (call : CallF) (st : St) : evC call b49_1 st = evC call w49_1 st := rfl
attribute [simp] u49_1 w49_1
def i49 : Ev.Fn := ⟨1, 56, [.tmp 2, .tmp 3],
 (.seq
 (.reg false [⟨2, .mv (.k (.sc (.int .i64 0))), none, false⟩,
 ⟨3, .mv (.k (.sc (.bool false))), none, false⟩])
 (.seq
 (.reg false [⟨7, .mv (.t 0), none, false⟩,
 ⟨4, .mv (.t 7), none, false⟩])
 (.seq
 (.seq
 (.reg false [⟨8, .mv (.t 0), none, false⟩,
 ⟨9, .ca (.k (.cl 81 [])) [(.t 8), (.k (.sc (.string ⟨#[45]⟩)))], none, false⟩])
 (.ite (.t 9)
 (.reg false [⟨10, .mv (.t 0), none, false⟩,
 ⟨11, .sl 0 (.t 10) (some (.k (.sc (.int .i64 1)))) none, none, false⟩,
 ⟨4, .mv (.t 11), none, false⟩])
 .skip))
 (.seq
 (.seq
 (.reg false [⟨12, .mv (.t 4), none, false⟩,
 ⟨13, .ln true (.t 12), none, false⟩,
 ⟨14, .ar .lss false (.t 13) (.k (.sc (.int .i64 1))), none, false⟩,
 ⟨15, .mv (.t 14), none, false⟩,
 ⟨16, .mv (.t 4), (some (15, false)), false⟩,
 ⟨17, .ln true (.t 16), (some (15, false)), false⟩,
 ⟨18, .ar .gtr false (.t 17) (.k (.sc (.int .i64 18))), (some (15, false)), false⟩,
 ⟨19, .pk (.t 15) (.k (.sc (.bool true))) (.t 18), none, false⟩])
 (.ite (.t 19)
 (.seq
 (.reg false [⟨2, .mv (.k (.sc (.int .i64 0))), none, false⟩,
 ⟨3, .mv (.k (.sc (.bool false))), none, false⟩])
 .ret)
 .skip))
 (.seq
 (.reg false [⟨5, .mv (.k (.sc (.int .i64 0))), none, false⟩])
 (.seq
 (.seq
 (.reg false [⟨6, .mv (.k (.sc (.int .i64 0))), none, false⟩])
 (.cln [0, 4, 5] [2, 3]
 (.block 0
 (.loop [0, 4, 5, 6] b49_1))))
 (.seq
 (.seq
 (.reg false [⟨44, .mv (.t 4), none, false⟩,
 ⟨45, .ln true (.t 44), none, false⟩,
 ⟨46, .mv (.t 0), none, false⟩,
 ⟨47, .ln true (.t 46), none, false⟩,
 ⟨48, .ar .lss false (.t 45) (.t 47), none, false⟩])
 (.ite (.t 48)
 (.reg false [⟨49, .mv (.t 5), none, false⟩,
 ⟨50, .ng (.t 49), none, false⟩,
 ⟨5, .mv (.t 50), none, false⟩])
 .skip))
 (.seq
 (.seq
 (.reg false [⟨51, .mv (.t 5), none, false⟩,
 ⟨52, .ca (.k (.cl 34 [])) [(.t 51)], none, false⟩,
 ⟨53, .mv (.t 0), none, false⟩,
 ⟨54, .ar .neq false (.t 52) (.t 53), none, false⟩])
 (.ite (.t 54)
 (.seq
 (.reg false [⟨2, .mv (.k (.sc (.int .i64 0))), none, false⟩,
 ⟨3, .mv (.k (.sc (.bool false))), none, false⟩])
 .ret)
 .skip))
 (.seq
 (.reg false [⟨55, .mv (.t 5), none, false⟩,
 ⟨2, .mv (.t 55), none, false⟩,
 ⟨3, .mv (.k (.sc (.bool true))), none, false⟩])
 .ret)))))))))⟩
attribute [simp] i49
set_option maxRecDepth 1000000 in
theorem c49 : cFn Tryd.prog 49 [[], [0, 4, 5, 6], [0, 4, 5], [2, 3]] = some i49 := by kernel_rfl
theorem e49 : enterOk Tryd.prog 49 = true := by kernel_rfl
def w50_1 : IC :=
(.seq
 (.seq
 (.reg false [⟨18, .mv (.t 6), none, false⟩,
 ⟨19, .mv (.t 4), none, false⟩,
 ⟨20, .ln false (.t 19), none, false⟩,
 ⟨21, .ar .lss false (.t 18) (.t 20), none, false⟩])
 (.ite (.t 21)
 .skip
 (.exit 0)))
 (.seq
 (.block 1
 (.seq
 (.reg false [⟨25, .mv (.t 4), none, false⟩,
 ⟨26, .mv (.t 6), none, false⟩,
 ⟨27, .ia 1 (.t 25) (.t 26), none, false⟩,
 ⟨28, .ld 1 false (.t 27), none, false⟩,
 ⟨29, .ca (.k (.cl 79 [])) [(.t 28)], none, false⟩,
 ⟨24, .mv (.t 29), none, false⟩,
 ⟨30, .xt (.t 24) 0, none, false⟩,
 ⟨31, .xt (.t 24) 1, none, false⟩,
 ⟨7, .mv (.t 30), none, false⟩,
 ⟨8, .mv (.t 31), none, false⟩])
 (.seq
 (.seq
 (.reg false [⟨32, .mv (.t 8), none, false⟩,
 ⟨33, .nt (.t 32), none, false⟩,
 ⟨34, .mv (.t 33), none, false⟩,
 ⟨35, .mv (.t 7), (some (34, false)), false⟩,
 ⟨36, .ca (.k (.cl 58 [])) [(.t 35), (.k (.sc (.int .i64 (-1000000000000)))), (.k (.sc (.int .i64 1000000000000)))], (some (34, false)), false⟩,
 ⟨37, .nt (.t 36), (some (34, false)), false⟩,
 ⟨38, .pk (.t 34) (.k (.sc (.bool true))) (.t 37), none, false⟩])
 (.ite (.t 38)
 (.seq
 (.reg false [⟨2, .mv (.k .nl), none, false⟩,
 ⟨3, .mv (.k (.sc (.bool false))), none, false⟩])
 .ret)
 .skip))
 (.reg false [⟨39, .mv (.t 5), none, false⟩,
 ⟨40, .mv (.t 7), none, false⟩,
 ⟨41, .bs 2 1 [(.sc (.int .i64 0))] 1 [(0, (.t 40))], none, false⟩,
 ⟨42, .ap 2 1 false (.t 39) (.t 41), none, false⟩,
 ⟨5, .mv (.t 42), none, false⟩]))))
 (.reg false [⟨22, .mv (.t 6), none, false⟩,
 ⟨23, .ar .add false (.t 22) (.k (.sc (.int .i64 1))), none, false⟩,
 ⟨6, .mv (.t 23), none, false⟩])))
def b50_1 : IC := w50_1
theorem u50_1 (call : CallF) (st : St) : evC call b50_1 st = evC call w50_1 st := rfl
attribute [simp] u50_1 w50_1
def i50 : Ev.Fn := ⟨1, 44, [.tmp 2, .tmp 3],
 (.seq
 (.reg false [⟨2, .mv (.k .nl), none, false⟩,
 ⟨3, .mv (.k (.sc (.bool false))), none, false⟩])
 (.seq
 (.seq
 (.reg false [⟨9, .mv (.t 0), none, false⟩,
 ⟨10, .ar .eql false (.t 9) (.k (.sc (.string ⟨#[45]⟩))), none, false⟩])
 (.ite (.t 10)
 (.seq
 (.reg false [⟨11, .bs 2 1 [(.sc (.int .i64 0))] 0 [], none, false⟩,
 ⟨2, .mv (.t 11), none, false⟩,
 ⟨3, .mv (.k (.sc (.bool true))), none, false⟩])
 .ret)
 .skip))
 (.seq
 (.reg false [⟨12, .mv (.t 0), none, false⟩,
 ⟨13, .ca (.k (.cl 78 [])) [(.t 12), (.k (.sc (.int .u8 44)))], none, false⟩,
 ⟨4, .mv (.t 13), none, false⟩])
 (.seq
 (.seq
 (.reg false [⟨14, .mv (.t 4), none, false⟩,
 ⟨15, .ln false (.t 14), none, false⟩,
 ⟨16, .ar .gtr false (.t 15) (.k (.sc (.int .i64 64))), none, false⟩])
 (.ite (.t 16)
 (.seq
 (.reg false [⟨2, .mv (.k .nl), none, false⟩,
 ⟨3, .mv (.k (.sc (.bool false))), none, false⟩])
 .ret)
 .skip))
 (.seq
 (.reg false [⟨17, .bs 2 1 [(.sc (.int .i64 0))] 0 [], none, false⟩,
 ⟨5, .mv (.t 17), none, false⟩])
 (.seq
 (.seq
 (.reg false [⟨6, .mv (.k (.sc (.int .i64 0))), none, false⟩])
 (.cln [5] [2, 3]
 (.block 0
 (.loop [4, 5, 6] b50_1))))
 (.seq
 (.reg false [⟨43, .mv (.t 5), none, false⟩,
 ⟨2, .mv (.t 43), none, false⟩,
 ⟨3, .mv (.k (.sc (.bool true))), none, false⟩])
 .ret)))))))⟩
attribute [simp] i50
set_option maxRecDepth 1000000 in
theorem c50 : cFn Tryd.prog 50 [[], [4, 5, 6], [5], [2, 3]] = some i50 := by kernel_rfl
theorem e50 : enterOk Tryd.prog 50 = true := by kernel_rfl
def w51_1 : IC :=
(.seq
 (.reg false [⟨16, .ar .lss false (.t 15) (.t 14), none, false⟩])
 (.seq
 (.ite (.t 16)
 .skip
 (.exit 0))
 (.seq
 (.block 1
 (.seq
 (.reg false [⟨17, .ia 1 (.t 13) (.t 15), none, false⟩,
 ⟨18, .ld 1 false (.t 17), none, false⟩,
 ⟨6, .mv (.t 18), none, false⟩])
 (.seq
 (.reg false [⟨20, .mv (.t 6), none, false⟩,
 ⟨21, .ca (.k (.cl 49 [])) [(.t 20)], none, false⟩,
 ⟨19, .mv (.t 21), none, false⟩,
 ⟨22, .xt (.t 19) 0, none, false⟩,
 ⟨23, .xt (.t 19) 1, none, false⟩,
 ⟨7, .mv (.t 22), none, false⟩,
 ⟨8, .mv (.t 23), none, false⟩])
 (.seq
 (.seq
 (.reg false [⟨24, .mv (.t 8), none, false⟩,
 ⟨25, .nt (.t 24), none, false⟩,
 ⟨26, .mv (.t 25), none, false⟩,
 ⟨27, .mv (.t 7), (some (26, false)), false⟩,
 ⟨28, .ca (.k (.cl 63 [])) [(.t 27), (.k (.sc (.int .i64 (-1000000000000)))), (.k (.sc (.int .i64 1000000000000)))], (some (26, false)), false⟩,
 ⟨29, .nt (.t 28), (some (26, false)), false⟩,
 ⟨30, .pk (.t 26) (.k (.sc (.bool true))) (.t 29), none, false⟩])
 (.ite (.t 30)
 (.seq
 (.reg false [⟨2, .mv (.k .nl), none, false⟩,
 ⟨3, .mv (.k (.sc (.bool false))), none, false⟩])
 .ret)
 .skip))
 (.reg false [⟨31, .mv (.t 4), none, false⟩,
 ⟨32, .mv (.t 7), none, false⟩,
 ⟨33, .bs 2 1 [(.sc (.int .i64 0))] 1 [(0, (.t 32))], none, false⟩,
 ⟨34, .ap 2 1 false (.t 31) (.t 33), none, false⟩,
 ⟨4, .mv (.t 34), none, false⟩])))))
 (.reg false [⟨35, .ar .add false (.t 15) (.k (.sc (.int .i64 1))), none, false⟩,
 ⟨15, .mv (.t 35), none, false⟩]))))
def b51_1 : IC := w51_1
theorem u51_1 (call : CallF) (st : St) : evC call b51_1 st = evC call w51_1 st := rfl
attribute [simp] u51_1 w51_1
def i51 : Ev.Fn := ⟨1, 40, [.tmp 2, .tmp 3],
 (.seq
 (.reg false [⟨2, .mv (.k .nl), none, false⟩,
 ⟨3, .mv (.k (.sc (.bool false))), none, false⟩])
 (.seq
 (.seq
 (.reg false [⟨9, .mv (.t 0), none, false⟩,
 ⟨10, .ar .eql false (.t 9) (.k (.sc (.string ⟨#[45]⟩))), none, false⟩])
 (.ite (.t 10)
 (.seq
 (.reg false [⟨2, .mv (.k .nl), none, false⟩,
 ⟨3, .mv (.k (.sc (.bool true))), none, false⟩])
 .ret)
 .skip))
 (.seq
 (.reg false [⟨11, .bs 2 1 [(.sc (.int .i64 0))] 0 [], none, false⟩,
 ⟨4, .mv (.t 11), none, false⟩])
 (.seq
 (.seq
 (.reg false [⟨12, .mv (.t 0), none, false⟩,
 ⟨13, .ca (.k (.cl 48 [])) [(.t 12), (.k (.sc (.string ⟨#[44]⟩)))], none, false⟩,
 ⟨14, .ln false (.t 13), none, false⟩,
 ⟨15, .mv (.k (.sc (.int .i64 0))), none, false⟩])
 (.cln [4] [2, 3]
 (.block 0
 (.loop [4, 13, 14, 15] b51_1))))
 (.seq
 (.seq
 (.reg false [⟨36, .mv (.t 4), none, false⟩,
 ⟨37, .ln false (.t 36), none, false⟩,
 ⟨38, .ar .gtr false (.t 37) (.k (.sc (.int .i64 64))), none, false⟩])
 (.ite (.t 38)
 (.seq
 (.reg false [⟨2, .mv (.k .nl), none, false⟩,
 ⟨3, .mv (.k (.sc (.bool false))), none, false⟩])
 .ret)
 .skip))
 (.seq
 (.reg false [⟨39, .mv (.t 4), none, false⟩,
 ⟨2, .mv (.t 39), none, false⟩,
 ⟨3, .mv (.k (.sc (.bool true))), none, false⟩])
 .ret))))))⟩
attribute [simp] i51
set_option maxRecDepth 1000000 in
theorem c51 : cFn Tryd.prog 51 [[], [4, 13, 14, 15], [4], [2, 3]] = some i51 := by kernel_rfl
theorem e51 : enterOk Tryd.prog 51 = true := by kernel_rfl
def i58 : Ev.Fn := ⟨3, 15, [.tmp 6],
 (.seq
 (.reg false [⟨6, .mv (.k (.sc (.bool false))), none, false⟩])
 (.seq
 (.reg false [⟨7, .mv (.t 0), none, false⟩,
 ⟨8, .mv (.t 1), none, false⟩,
 ⟨9, .ar .geq false (.t 7) (.t 8), none, false⟩,
 ⟨10, .mv (.t 9), none, false⟩,
 ⟨11, .mv (.t 0), (some (10, true)), false⟩,
 ⟨12, .mv (.t 2), (some (10, true)), false⟩,
 ⟨13, .ar .leq false (.t 11) (.t 12), (some (10, true)), false⟩,
 ⟨14, .pk (.t 10) (.t 13) (.k (.sc (.bool false))), none, false⟩,
 ⟨6, .mv (.t 14), none, false⟩])
 .ret))⟩
attribute [simp] i58
set_option maxRecDepth 1000000 in
theorem c58 : cFn Tryd.prog 58 [[]] = some i58 := by kernel_rfl
theorem e58 : enterOk Tryd.prog 58 = true := by kernel_rfl
def i63 : Ev.Fn := ⟨3, 15, [.tmp 6],
 (.seq
 (.reg false [⟨6, .mv (.k (.sc (.bool false))), none, false⟩])
 (.seq
 (.reg false [⟨7, .mv (.t 0), none, false⟩,
 ⟨8, .mv (.t 1), none, false⟩,
 ⟨9, .ar .geq false (.t 7) (.t 8), none, false⟩,
 ⟨10, .mv (.t 9), none, false⟩,
 ⟨11, .mv (.t 0), (some (10, true)), false⟩,
 ⟨12, .mv (.t 2), (some (10, true)), false⟩,
 ⟨13, .ar .leq false (.t 11) (.t 12), (some (10, true)), false⟩,
 ⟨14, .pk (.t 10) (.t 13) (.k (.sc (.bool false))), none, false⟩,
 ⟨6, .mv (.t 14), none, false⟩])
 .ret))⟩
attribute [simp] i63
set_option maxRecDepth 1000000 in
theorem c63 : cFn Tryd.prog 63 [[]] = some i63 := by kernel_rfl
theorem e63 : enterOk Tryd.prog 63 = true := by kernel_rfl
def i65 : Ev.Fn := ⟨1, 5, [.tmp 2],
 (.seq
 (.reg false [⟨2, .mv (.k (.sc (.bool false))), none, false⟩])
 (.seq
 (.reg false [⟨3, .mv (.t 0), none, false⟩,
 ⟨4, .ca (.k (.cl 58 [])) [(.t 3), (.k (.sc (.int .i64 0))), (.k (.sc (.int .i64 7)))], none, false⟩,
 ⟨2, .mv (.t 4), none, false⟩])
 .ret))⟩
attribute [simp] i65
set_option maxRecDepth 1000000 in
theorem c65 : cFn Tryd.prog 65 [[]] = some i65 := by kernel_rfl
theorem e65 : enterOk Tryd.prog 65 = true := by kernel_rfl
def w78_1 : IC :=
(.seq
 (.seq
 (.reg false [⟨9, .mv (.t 7), none, false⟩,
 ⟨10, .mv (.t 0), none, false⟩,
 ⟨11, .ln true (.t 10), none, false⟩,
 ⟨12, .ar .lss false (.t 9) (.t 11), none, false⟩])
 (.ite (.t 12)
 .skip
 (.exit 0)))
 (.seq
 (.block 1
 (.seq
 (.reg false [⟨15, .mv (.t 0), none, false⟩,
 ⟨16, .mv (.t 7), none, false⟩,
 ⟨17, .ix (.t 15) (.t 16), none, false⟩,
 ⟨18, .mv (.t 1), none, false⟩,
 ⟨19, .ar .eql false (.t 17) (.t 18), none, false⟩])
 (.ite (.t 19)
 (.seq
 (.reg false [⟨20, .mv (.t 5), none, false⟩,
 ⟨21, .mv (.t 0), none, false⟩,
 ⟨22, .mv (.t 6), none, false⟩,
 ⟨23, .mv (.t 7), none, false⟩,
 ⟨24, .sl 0 (.t 21) (some (.t 22)) (some (.t 23)), none, false⟩,
 ⟨25, .bs 9 1 [(.sc (.string ⟨#[]⟩))] 1 [(0, (.t 24))], none, false⟩,
 ⟨26, .ap 9 1 false (.t 20) (.t 25), none, false⟩,
 ⟨5, .mv (.t 26), none, false⟩])
 (.reg false [⟨27, .mv (.t 7), none, false⟩,
 ⟨28, .ar .add false (.t 27) (.k (.sc (.int .i64 1))), none, false⟩,
 ⟨6, .mv (.t 28), none, false⟩]))
 .skip)))
 (.reg false [⟨13, .mv (.t 7), none, false⟩,
 ⟨14, .ar .add false (.t 13) (.k (.sc (.int .i64 1))), none, false⟩,
 ⟨7, .mv (.t 14), none, false⟩])))
def b78_1 : IC := w78_1
theorem u78_1 (call : CallF) (st : St) : evC call b78_1 st = evC call w78_1 st := rfl
attribute [simp] u78_1 w78_1
def i78 : Ev.Fn := ⟨2, 35, [.tmp 4],
 (.seq
 (.reg false [⟨4, .mv (.k .nl), none, false⟩])
 (.seq
 (.reg false [⟨8, .bs 9 1 [(.sc (.string ⟨#[]⟩))] 0 [], none, false⟩,
 ⟨5, .mv (.t 8), none, false⟩])
 (.seq
 (.reg false [⟨6, .mv (.k (.sc (.int .i64 0))), none, false⟩])
 (.seq
 (.seq
 (.reg false [⟨7, .mv (.k (.sc (.int .i64 0))), none, false⟩])
 (.cln [0, 5, 6] [4]
 (.block 0
 (.loop [0, 1, 5, 6, 7] b78_1))))
 (.seq
 (.reg false [⟨29, .mv (.t 5), none, false⟩,
 ⟨30, .mv (.t 0), none, false⟩,
 ⟨31, .mv (.t 6), none, false⟩,
 ⟨32, .sl 0 (.t 30) (some (.t 31)) none, none, false⟩,
 ⟨33, .bs 9 1 [(.sc (.string ⟨#[]⟩))] 1 [(0, (.t 32))], none, false⟩,
 ⟨34, .ap 9 1 false (.t 29) (.t 33), none, false⟩,
 ⟨4, .mv (.t 34), none, false⟩])
 .ret)))))⟩
attribute [simp] i78
set_option maxRecDepth 1000000 in
theorem c78 : cFn Tryd.prog 78 [[], [0, 1, 5, 6, 7], [0, 5, 6], [4]] = some i78 := by kernel_rfl
theorem e78 : enterOk Tryd.prog 78 = true := by kernel_rfl
def w79_1 : IC :=
(.seq
 (.seq
 (.reg false [⟨38, .mv (.t 6), none, false⟩,
 ⟨39, .mv (.t 0), none, false⟩,
 ⟨40, .ln true (.t 39), none, false⟩,
 ⟨41, .ar .lss false (.t 38) (.t 40), none, false⟩])
 (.ite (.t 41)
 .skip
 (.exit 0)))
 (.seq
 (.block 1
 (.seq
 (.seq
 (.reg false [⟨44, .mv (.t 0), none, false⟩,
 ⟨45, .mv (.t 6), none, false⟩,
 ⟨46, .ix (.t 44) (.t 45), none, false⟩,
 ⟨47, .ca (.k (.cl 88 [])) [(.t 46)], none, false⟩,
 ⟨48, .nt (.t 47), none, false⟩])
 (.ite (.t 48)
 (.seq
 (.reg false [⟨2, .mv (.k (.sc (.int .i64 0))), none, false⟩,
 ⟨3, .mv (.k (.sc (.bool false))), none, false⟩])
 .ret)
 .skip))
 (.reg false [⟨49, .mv (.t 5), none, false⟩,
 ⟨50, .ar .mul false (.k (.sc (.int .i64 10))) (.t 49), none, false⟩,
 ⟨51, .mv (.t 0), none, false⟩,
 ⟨52, .mv (.t 6), none, false⟩,
 ⟨53, .ix (.t 51) (.t 52), none, false⟩,
 ⟨54, .ar .sub false (.t 53) (.k (.sc (.int .u8 48))), none, false⟩,
 ⟨55, .cv .i64 (.t 54), none, false⟩,
 ⟨56, .ar .add false (.t 50) (.t 55), none, false⟩,
 ⟨5, .mv (.t 56), none, false⟩])))
 (.reg false [⟨42, .mv (.t 6), none, false⟩,
 ⟨43, .ar .add false (.t 42) (.k (.sc (.int .i64 1))), none, false⟩,
 ⟨6, .mv (.t 43), none, false⟩])))
def b79_1 : IC := w79_1
theorem u79_1 (call : CallF) (st : St) : evC call b79_1 st = evC call w79_1 st := rfl
attribute [simp] u79_1 w79_1
def i79 : Ev.Fn := ⟨1, 62, [.tmp 2, .tmp 3],
 (.seq
 (.reg false [⟨2, .mv (.k (.sc (.int .i64 0))), none, false⟩,
 ⟨3, .mv (.k (.sc (.bool false))), none, false⟩])
 (.seq
 (.reg false [⟨4, .mv (.k (.sc (.int .i64 0))), none, false⟩])
 (.seq
 (.seq
 (.reg false [⟨7, .mv (.t 0), none, false⟩,
 ⟨8, .ln true (.t 7), none, false⟩,
 ⟨9, .ar .gtr false (.t 8) (.k (.sc (.int .i64 0))), none, false⟩,
 ⟨10, .mv (.t 9), none, false⟩,
 ⟨11, .mv (.t 0), (some (10, true)), false⟩,
 ⟨12, .ix (.t 11) (.k (.sc (.int .i64 0))), (some (10, true)), false⟩,
 ⟨13, .ar .eql false (.t 12) (.k (.sc (.int .u8 45))), (some (10, true)), false⟩,
 ⟨14, .pk (.t 10) (.t 13) (.k (.sc (.bool false))), none, false⟩])
 (.ite (.t 14)
 (.reg false [⟨4, .mv (.k (.sc (.int .i64 1))), none, false⟩])
 .skip))
 (.seq
 (.seq
 (.reg false [⟨15, .mv (.t 0), none, false⟩,
 ⟨16, .ln true (.t 15), none, false⟩,
 ⟨17, .mv (.t 4), none, false⟩,
 ⟨18, .ar .eql false (.t 16) (.t 17), none, false⟩,
 ⟨19, .mv (.t 18), none, false⟩,
 ⟨20, .mv (.t 0), (some (19, false)), false⟩,
 ⟨21, .ln true (.t 20), (some (19, false)), false⟩,
 ⟨22, .mv (.t 4), (some (19, false)), false⟩,
 ⟨23, .ar .sub false (.t 21) (.t 22), (some (19, false)), false⟩,
 ⟨24, .ar .gtr false (.t 23) (.k (.sc (.int .i64 18))), (some (19, false)), false⟩,
 ⟨25, .pk (.t 19) (.k (.sc (.bool true))) (.t 24), none, false⟩,
 ⟨26, .mv (.t 25), none, false⟩,
 ⟨27, .mv (.t 0), (some (26, false)), false⟩,
 ⟨28, .mv (.t 4), (some (26, false)), false⟩,
 ⟨29, .ix (.t 27) (.t 28), (some (26, false)), false⟩,
 ⟨30, .ar .eql false (.t 29) (.k (.sc (.int .u8 48))), (some (26, false)), false⟩,
 ⟨31, .mv (.t 30), (some (26, false)), false⟩,
 ⟨32, .mv (.t 0), (some (31, true)), false⟩,
 ⟨33, .ln true (.t 32), (some (31, true)), false⟩,
 ⟨34, .ar .gtr false (.t 33) (.k (.sc (.int .i64 1))), (some (31, true)), false⟩,
 ⟨35, .pk (.t 31) (.t 34) (.k (.sc (.bool false))), (some (26, false)), false⟩,
 ⟨36, .pk (.t 26) (.k (.sc (.bool true))) (.t 35), none, false⟩])
 (.ite (.t 36)
 (.seq
 (.reg false [⟨2, .mv (.k (.sc (.int .i64 0))), none, false⟩,
 ⟨3, .mv (.k (.sc (.bool false))), none, false⟩])
 .ret)
 .skip))
 (.seq
 (.reg false [⟨5, .mv (.k (.sc (.int .i64 0))), none, false⟩])
 (.seq
 (.seq
 (.reg false [⟨37, .mv (.t 4), none, false⟩,
 ⟨6, .mv (.t 37), none, false⟩])
 (.cln [4, 5] [2, 3]
 (.block 0
 (.loop [0, 4, 5, 6] b79_1))))
 (.seq
 (.seq
 (.reg false [⟨57, .mv (.t 4), none, false⟩,
 ⟨58, .ar .eql false (.t 57) (.k (.sc (.int .i64 1))), none, false⟩])
 (.ite (.t 58)
 (.reg false [⟨59, .mv (.t 5), none, false⟩,
 ⟨60, .ng (.t 59), none, false⟩,
 ⟨5, .mv (.t 60), none, false⟩])
 .skip))
 (.seq
 (.reg false [⟨61, .mv (.t 5), none, false⟩,
 ⟨2, .mv (.t 61), none, false⟩,
 ⟨3, .mv (.k (.sc (.bool true))), none, false⟩])
 .ret))))))))⟩
attribute [simp] i79
set_option maxRecDepth 1000000 in
theorem c79 : cFn Tryd.prog 79 [[], [0, 4, 5, 6], [4, 5], [2, 3]] = some i79 := by kernel_rfl
theorem e79 : enterOk Tryd.prog 79 = true := by kernel_rfl
def i81 : Ev.Fn := ⟨2, 8, [.tmp 4],
 (.seq
 (.reg false [⟨4, .mv (.k (.sc (.bool false))), none, false⟩])
 (.seq
 (.reg false [⟨5, .mv (.t 0), none, false⟩,
 ⟨6, .mv (.t 1), none, false⟩,
 ⟨7, .ca (.k (.cl 95 [])) [(.t 5), (.t 6)], none, false⟩,
 ⟨4, .mv (.t 7), none, false⟩])
 .ret))⟩
attribute [simp] i81
set_option maxRecDepth 1000000 in
theorem c81 : cFn Tryd.prog 81 [[]] = some i81 := by kernel_rfl
theorem e81 : enterOk Tryd.prog 81 = true := by kernel_rfl
def i88 : Ev.Fn := ⟨1, 9, [.tmp 2],
 (.seq
 (.reg false [⟨2, .mv (.k (.sc (.bool false))), none, false⟩])
 (.seq
 (.reg false [⟨3, .mv (.t 0), none, false⟩,
 ⟨4, .ar .geq false (.t 3) (.k (.sc (.int .u8 48))), none, false⟩,
 ⟨5, .mv (.t 4), none, false⟩,
 ⟨6, .mv (.t 0), (some (5, true)), false⟩,
 ⟨7, .ar .leq false (.t 6) (.k (.sc (.int .u8 57))), (some (5, true)), false⟩,
 ⟨8, .pk (.t 5) (.t 7) (.k (.sc (.bool false))), none, false⟩,
 ⟨2, .mv (.t 8), none, false⟩])
 .ret))⟩
attribute [simp] i88
set_option maxRecDepth 1000000 in
theorem c88 : cFn Tryd.prog 88 [[]] = some i88 := by kernel_rfl
theorem e88 : enterOk Tryd.prog 88 = true := by kernel_rfl
def i95 : Ev.Fn := ⟨2, 18, [.tmp 4],
 (.seq
 (.reg false [⟨4, .mv (.k (.sc (.bool false))), none, false⟩])
 (.seq
 (.reg false [⟨5, .mv (.t 0), none, false⟩,
 ⟨6, .ln true (.t 5), none, false⟩,
 ⟨7, .mv (.t 1), none, false⟩,
 ⟨8, .ln true (.t 7), none, false⟩,
 ⟨9, .ar .geq false (.t 6) (.t 8), none, false⟩,
 ⟨10, .mv (.t 9), none, false⟩,
 ⟨11, .mv (.t 0), (some (10, true)), false⟩,
 ⟨12, .mv (.t 1), (some (10, true)), false⟩,
 ⟨13, .ln true (.t 12), (some (10, true)), false⟩,
 ⟨14, .sl 0 (.t 11) none (some (.t 13)), (some (10, true)), false⟩,
 ⟨15, .mv (.t 1), (some (10, true)), false⟩,
 ⟨16, .ar .eql false (.t 14) (.t 15), (some (10, true)), false⟩,
 ⟨17, .pk (.t 10) (.t 16) (.k (.sc (.bool false))), none, false⟩,
 ⟨4, .mv (.t 17), none, false⟩])
 .ret))⟩
attribute [simp] i95
set_option maxRecDepth 1000000 in
theorem c95 : cFn Tryd.prog 95 [[]] = some i95 := by kernel_rfl
theorem e95 : enterOk Tryd.prog 95 = true := by kernel_rfl
theorem mixed : Tryd.prog.follows .mixedOrders = true := by kernel_rfl
def Ft : List (Nat × Ev.Fn) := [(7, i7), (24, i24), (25, i25), (26, i26), (34, i34), (35, i35), (37, i37), (49, i49), (50, i50), (51, i51), (58, i58), (63, i63), (65, i65), (78, i78), (79, i79), (81, i81), (88, i88), (95, i95)]
def F : Nat → Option Ev.Fn := getF Ft
noncomputable def ev (d : Nat) : CallF := evF F prim d
theorem ev_fn {f : Nat} {fn : Ev.Fn} (h : F f = some fn) (d : Nat) (args : List LV) (hl : args.length = fn.nargs) : ev (d + 1) f args = Ev.finish fn.res (evC (ev d) fn.body (Ev.start args)) := evF_fn h d args hl
set_option maxRecDepth 1000000 in
theorem tab : ∀ f fn, F f = some fn → enterOk Tryd.prog f = true ∧ ∃ ks, cFn Tryd.prog f ks = some fn :=
  tabF (L := Ft) ⟨⟨e7, _, c7⟩, ⟨e24, _, c24⟩, ⟨e25, _, c25⟩, ⟨e26, _, c26⟩, ⟨e34, _, c34⟩, ⟨e35, _, c35⟩, ⟨e37, _, c37⟩, ⟨e49, _, c49⟩, ⟨e50, _, c50⟩, ⟨e51, _, c51⟩, ⟨e58, _, c58⟩, ⟨e63, _, c63⟩, ⟨e65, _, c65⟩, ⟨e78, _, c78⟩, ⟨e79, _, c79⟩, ⟨e81, _, c81⟩, ⟨e88, _, c88⟩, ⟨e95, _, c95⟩, trivial⟩
theorem tabn : ∀ f fn, F f = some fn → f < wrN := tabN (L := Ft) (by kernel_rfl)
theorem callOk (m : Int) (d : Nat) : CallOk (TT m) Tryd.prog (ev d) := (evF_ok2 mixed tab tabn (prim_ok m) (prim_okW m) d).1
abbrev I (n : Int) : LV := .sc (.int .i64 n)
abbrev B (b : Bool) : LV := .sc (.bool b)
abbrev T (s : ByteArray) : LV := .sc (.string s)
theorem s7 (d : Nat) (args : List LV) (hl : args.length = i7.nargs) : ev (d + 1) 7 args = Ev.finish i7.res (evC (ev d) i7.body (Ev.start args)) := ev_fn (by kernel_rfl) d args hl
theorem s24 (d : Nat) (args : List LV) (hl : args.length = i24.nargs) : ev (d + 1) 24 args = Ev.finish i24.res (evC (ev d) i24.body (Ev.start args)) := ev_fn (by kernel_rfl) d args hl
theorem s25 (d : Nat) (args : List LV) (hl : args.length = i25.nargs) : ev (d + 1) 25 args = Ev.finish i25.res (evC (ev d) i25.body (Ev.start args)) := ev_fn (by kernel_rfl) d args hl
theorem s26 (d : Nat) (args : List LV) (hl : args.length = i26.nargs) : ev (d + 1) 26 args = Ev.finish i26.res (evC (ev d) i26.body (Ev.start args)) := ev_fn (by kernel_rfl) d args hl
theorem s34 (d : Nat) (args : List LV) (hl : args.length = i34.nargs) : ev (d + 1) 34 args = Ev.finish i34.res (evC (ev d) i34.body (Ev.start args)) := ev_fn (by kernel_rfl) d args hl
theorem s35 (d : Nat) (args : List LV) (hl : args.length = i35.nargs) : ev (d + 1) 35 args = Ev.finish i35.res (evC (ev d) i35.body (Ev.start args)) := ev_fn (by kernel_rfl) d args hl
theorem s37 (d : Nat) (args : List LV) (hl : args.length = i37.nargs) : ev (d + 1) 37 args = Ev.finish i37.res (evC (ev d) i37.body (Ev.start args)) := ev_fn (by kernel_rfl) d args hl
theorem s49 (d : Nat) (args : List LV) (hl : args.length = i49.nargs) : ev (d + 1) 49 args = Ev.finish i49.res (evC (ev d) i49.body (Ev.start args)) := ev_fn (by kernel_rfl) d args hl
theorem s50 (d : Nat) (args : List LV) (hl : args.length = i50.nargs) : ev (d + 1) 50 args = Ev.finish i50.res (evC (ev d) i50.body (Ev.start args)) := ev_fn (by kernel_rfl) d args hl
theorem s51 (d : Nat) (args : List LV) (hl : args.length = i51.nargs) : ev (d + 1) 51 args = Ev.finish i51.res (evC (ev d) i51.body (Ev.start args)) := ev_fn (by kernel_rfl) d args hl
theorem s58 (d : Nat) (args : List LV) (hl : args.length = i58.nargs) : ev (d + 1) 58 args = Ev.finish i58.res (evC (ev d) i58.body (Ev.start args)) := ev_fn (by kernel_rfl) d args hl
theorem s63 (d : Nat) (args : List LV) (hl : args.length = i63.nargs) : ev (d + 1) 63 args = Ev.finish i63.res (evC (ev d) i63.body (Ev.start args)) := ev_fn (by kernel_rfl) d args hl
theorem s65 (d : Nat) (args : List LV) (hl : args.length = i65.nargs) : ev (d + 1) 65 args = Ev.finish i65.res (evC (ev d) i65.body (Ev.start args)) := ev_fn (by kernel_rfl) d args hl
theorem s78 (d : Nat) (args : List LV) (hl : args.length = i78.nargs) : ev (d + 1) 78 args = Ev.finish i78.res (evC (ev d) i78.body (Ev.start args)) := ev_fn (by kernel_rfl) d args hl
theorem s79 (d : Nat) (args : List LV) (hl : args.length = i79.nargs) : ev (d + 1) 79 args = Ev.finish i79.res (evC (ev d) i79.body (Ev.start args)) := ev_fn (by kernel_rfl) d args hl
theorem s81 (d : Nat) (args : List LV) (hl : args.length = i81.nargs) : ev (d + 1) 81 args = Ev.finish i81.res (evC (ev d) i81.body (Ev.start args)) := ev_fn (by kernel_rfl) d args hl
theorem s88 (d : Nat) (args : List LV) (hl : args.length = i88.nargs) : ev (d + 1) 88 args = Ev.finish i88.res (evC (ev d) i88.body (Ev.start args)) := ev_fn (by kernel_rfl) d args hl
theorem s95 (d : Nat) (args : List LV) (hl : args.length = i95.nargs) : ev (d + 1) 95 args = Ev.finish i95.res (evC (ev d) i95.body (Ev.start args)) := ev_fn (by kernel_rfl) d args hl
theorem q64R (d : Nat) (args : List LV) : ev d 64 args = prim 64 args := evF_prim (by kernel_rfl) (by decide) d args
theorem q64W (d : Nat) (args : List LV) : ev d (wrN + 64) args = prim (wrN + 64) args := evF_primW (by kernel_rfl) tabn (by decide) d args
theorem q64M (d : Nat) (args : List LV) : ev d (mvN + 64) args = prim (mvN + 64) args := evF_primM (by kernel_rfl) tabn (by decide) d args
theorem q48R (d : Nat) (args : List LV) : ev d 48 args = prim 48 args := evF_prim (by kernel_rfl) (by decide) d args
theorem q48W (d : Nat) (args : List LV) : ev d (wrN + 48) args = prim (wrN + 48) args := evF_primW (by kernel_rfl) tabn (by decide) d args
theorem q48M (d : Nat) (args : List LV) : ev d (mvN + 48) args = prim (mvN + 48) args := evF_primM (by kernel_rfl) tabn (by decide) d args
end Go.Proofs.YthnkioafikmmaaaDoor.walkS
