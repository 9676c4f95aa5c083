/- The functions that some rows reach, turned; no conditions. -/
import Derived.Test.YthnkioafikmmaaaDoorPr
import Derived.KernelRfl
import Derived.Test.YthnkioafikmmaaaDoorProg
namespace Go.Proofs.YthnkioafikmmaaaDoor.walkS
open Go Go.Proofs.YthnkioafikmmaaaDoor.Ev
def i6 : Ev.Fn := ⟨1, 29, [.tmp 2],
 (.seq
 (.reg false [⟨2, .mv (.k (.sc (.bool false))), none, false⟩])
 (.seq
 (.seq
 (.reg false [⟨7, .mv (.t 0), none, false⟩,
 ⟨8, .ln true (.t 7), none, false⟩,
 ⟨9, .ar .gtr false (.t 8) (.k (.sc (.int .i64 1048576))), none, false⟩])
 (.ite (.t 9)
 (.seq
 (.reg false [⟨2, .mv (.k (.sc (.bool true))), none, false⟩])
 .ret)
 .skip))
 (.seq
 (.reg false [⟨11, .mv (.t 0), none, false⟩,
 ⟨12, .ca (.k (.cl 21 [])) [(.t 11)], none, false⟩,
 ⟨10, .mv (.t 12), none, false⟩,
 ⟨13, .xt (.t 10) 0, none, false⟩,
 ⟨14, .xt (.t 10) 1, none, false⟩,
 ⟨3, .al [(.sc (.string ⟨#[]⟩)), (.sc (.int .i64 0)), (.sc (.int .i64 0))], none, false⟩,
 ⟨1, .so 3 (.t 3) (.t 13), none, true⟩,
 ⟨4, .mv (.t 14), none, false⟩])
 (.seq
 (.reg false [⟨16, .mv (.t 0), none, false⟩,
 ⟨17, .ca (.k (.cl 22 [])) [(.t 16)], none, false⟩,
 ⟨15, .mv (.t 17), none, false⟩,
 ⟨18, .xt (.t 15) 0, none, false⟩,
 ⟨19, .xt (.t 15) 1, none, false⟩,
 ⟨5, .al [(.sc (.string ⟨#[]⟩)), (.sc (.int .i64 0)), (.sc (.int .i64 0))], none, false⟩,
 ⟨1, .so 3 (.t 5) (.t 18), none, true⟩,
 ⟨6, .mv (.t 19), none, false⟩])
 (.seq
 (.seq
 (.reg false [⟨20, .ld 3 true (.t 5), none, false⟩,
 ⟨21, .ld 3 true (.t 3), none, false⟩,
 ⟨22, .ca (.k (.cl 23 [])) [(.t 20), (.t 21)], none, false⟩,
 ⟨23, .nt (.t 22), none, false⟩,
 ⟨24, .mv (.t 23), none, false⟩,
 ⟨25, .mv (.t 6), (some (24, false)), false⟩,
 ⟨26, .mv (.t 4), (some (24, false)), false⟩,
 ⟨27, .ar .neq true (.t 25) (.t 26), (some (24, false)), false⟩,
 ⟨28, .pk (.t 24) (.k (.sc (.bool true))) (.t 27), none, false⟩])
 (.ite (.t 28)
 (.seq
 (.reg false [⟨2, .mv (.k (.sc (.bool false))), none, false⟩])
 .ret)
 .skip))
 (.seq
 (.reg false [⟨2, .mv (.k (.sc (.bool true))), none, false⟩])
 .ret))))))⟩
attribute [simp] i6
set_option maxRecDepth 1000000 in
theorem c6 : cFn Tryd.prog 6 [[]] = some i6 := by kernel_rfl
theorem e6 : enterOk Tryd.prog 6 = true := by kernel_rfl
def i21 : Ev.Fn := ⟨1, 8, [.cell 2 3 true, .tmp 3],
 (.seq
 (.reg false [⟨2, .al [(.sc (.string ⟨#[]⟩)), (.sc (.int .i64 0)), (.sc (.int .i64 0))], none, false⟩,
 ⟨3, .mv (.k (.sc (.bool false))), none, false⟩])
 (.seq
 (.reg false [⟨4, .mv (.t 0), none, false⟩,
 ⟨5, .ca (.k (.cl 47 [])) [(.t 4)], none, false⟩,
 ⟨6, .xt (.t 5) 0, none, false⟩,
 ⟨7, .xt (.t 5) 1, none, false⟩,
 ⟨1, .so 3 (.t 2) (.t 6), none, true⟩,
 ⟨3, .mv (.t 7), none, false⟩])
 .ret))⟩
attribute [simp] i21
set_option maxRecDepth 1000000 in
theorem c21 : cFn Tryd.prog 21 [[]] = some i21 := by kernel_rfl
theorem e21 : enterOk Tryd.prog 21 = true := by kernel_rfl
def i22 : Ev.Fn := ⟨1, 46, [.cell 2 3 true, .tmp 3],
 (.seq
 (.reg false [⟨2, .al [(.sc (.string ⟨#[]⟩)), (.sc (.int .i64 0)), (.sc (.int .i64 0))], none, false⟩,
 ⟨3, .mv (.k (.sc (.bool false))), none, false⟩])
 (.seq
 (.reg false [⟨10, .mv (.t 0), none, false⟩,
 ⟨11, .ca (.k (.cl 48 [])) [(.t 10), (.k (.sc (.string ⟨#[32]⟩)))], none, false⟩,
 ⟨4, .mv (.t 11), none, false⟩])
 (.seq
 (.seq
 (.reg false [⟨12, .mv (.t 4), none, false⟩,
 ⟨13, .ln false (.t 12), none, false⟩,
 ⟨14, .ar .neq false (.t 13) (.k (.sc (.int .i64 3))), none, false⟩])
 (.ite (.t 14)
 (.seq
 (.reg false [⟨15, .bd [(.sc (.string ⟨#[]⟩)), (.sc (.int .i64 0)), (.sc (.int .i64 0))] [], none, false⟩,
 ⟨1, .so 3 (.t 2) (.t 15), none, true⟩,
 ⟨3, .mv (.k (.sc (.bool false))), none, false⟩])
 .ret)
 .skip))
 (.seq
 (.reg false [⟨17, .mv (.t 4), none, false⟩,
 ⟨18, .ia 1 (.t 17) (.k (.sc (.int .i64 1))), none, false⟩,
 ⟨19, .ld 1 false (.t 18), none, false⟩,
 ⟨20, .ca (.k (.cl 49 [])) [(.t 19)], none, false⟩,
 ⟨16, .mv (.t 20), none, false⟩,
 ⟨21, .xt (.t 16) 0, none, false⟩,
 ⟨22, .xt (.t 16) 1, none, false⟩,
 ⟨5, .mv (.t 21), none, false⟩,
 ⟨6, .mv (.t 22), none, false⟩])
 (.seq
 (.reg false [⟨24, .mv (.t 4), none, false⟩,
 ⟨25, .ia 1 (.t 24) (.k (.sc (.int .i64 2))), none, false⟩,
 ⟨26, .ld 1 false (.t 25), none, false⟩,
 ⟨27, .ca (.k (.cl 49 [])) [(.t 26)], none, false⟩,
 ⟨23, .mv (.t 27), none, false⟩,
 ⟨28, .xt (.t 23) 0, none, false⟩,
 ⟨29, .xt (.t 23) 1, none, false⟩,
 ⟨7, .mv (.t 28), none, false⟩,
 ⟨8, .mv (.t 29), none, false⟩])
 (.seq
 (.seq
 (.reg false [⟨30, .mv (.t 4), none, false⟩,
 ⟨31, .ia 1 (.t 30) (.k (.sc (.int .i64 0))), none, false⟩,
 ⟨32, .ld 1 false (.t 31), none, false⟩,
 ⟨33, .mv (.t 5), none, false⟩,
 ⟨34, .mv (.t 7), none, false⟩,
 ⟨35, .bd [(.sc (.string ⟨#[]⟩)), (.sc (.int .i64 0)), (.sc (.int .i64 0))] [(0, 1, (.t 32)), (1, 1, (.t 33)), (2, 1, (.t 34))], none, false⟩,
 ⟨9, .al [(.sc (.string ⟨#[]⟩)), (.sc (.int .i64 0)), (.sc (.int .i64 0))], none, false⟩,
 ⟨1, .so 3 (.t 9) (.t 35), none, true⟩])
 (.seq
 (.reg false [⟨36, .mv (.t 6), none, false⟩,
 ⟨37, .mv (.t 36), none, false⟩,
 ⟨38, .mv (.t 8), (some (37, true)), false⟩,
 ⟨39, .pk (.t 37) (.t 38) (.k (.sc (.bool false))), none, false⟩,
 ⟨40, .mv (.t 39), none, false⟩,
 ⟨41, .ld 3 true (.t 9), (some (40, true)), false⟩,
 ⟨42, .ca (.k (.cl 33 [])) [(.t 41)], (some (40, true)), false⟩,
 ⟨43, .pk (.t 40) (.t 42) (.k (.sc (.bool false))), none, false⟩])
 (.ite (.t 43)
 (.seq
 (.reg false [⟨44, .ld 3 true (.t 9), none, false⟩,
 ⟨1, .so 3 (.t 2) (.t 44), none, true⟩,
 ⟨3, .mv (.k (.sc (.bool true))), none, false⟩])
 .ret)
 .skip)))
 (.seq
 (.reg false [⟨45, .bd [(.sc (.string ⟨#[]⟩)), (.sc (.int .i64 0)), (.sc (.int .i64 0))] [], none, false⟩,
 ⟨1, .so 3 (.t 2) (.t 45), none, true⟩,
 ⟨3, .mv (.k (.sc (.bool false))), none, false⟩])
 .ret)))))))⟩
attribute [simp] i22
set_option maxRecDepth 1000000 in
theorem c22 : cFn Tryd.prog 22 [[]] = some i22 := by kernel_rfl
theorem e22 : enterOk Tryd.prog 22 = true := by kernel_rfl
def i23 : Ev.Fn := ⟨2, 20, [.tmp 4],
 (.seq
 (.reg false [⟨2, .bx (.t 0), none, false⟩,
 ⟨3, .bx (.t 1), none, false⟩,
 ⟨4, .mv (.k (.sc (.bool false))), none, false⟩])
 (.seq
 (.seq
 (.reg false [⟨5, .fa 0 (.t 2), none, false⟩,
 ⟨6, .ld 1 false (.t 5), none, false⟩,
 ⟨7, .fa 0 (.t 3), none, false⟩,
 ⟨8, .ld 1 false (.t 7), none, false⟩,
 ⟨9, .ar .neq false (.t 6) (.t 8), none, false⟩])
 (.ite (.t 9)
 (.seq
 (.reg false [⟨4, .mv (.k (.sc (.bool false))), none, false⟩])
 .ret)
 .skip))
 (.seq
 (.seq
 (.reg false [⟨10, .fa 1 (.t 2), none, false⟩,
 ⟨11, .ld 1 false (.t 10), none, false⟩,
 ⟨12, .fa 1 (.t 3), none, false⟩,
 ⟨13, .ld 1 false (.t 12), none, false⟩,
 ⟨14, .ar .neq false (.t 11) (.t 13), none, false⟩])
 (.ite (.t 14)
 (.seq
 (.reg false [⟨4, .mv (.k (.sc (.bool false))), none, false⟩])
 .ret)
 .skip))
 (.seq
 (.seq
 (.reg false [⟨15, .fa 2 (.t 2), none, false⟩,
 ⟨16, .ld 1 false (.t 15), none, false⟩,
 ⟨17, .fa 2 (.t 3), none, false⟩,
 ⟨18, .ld 1 false (.t 17), none, false⟩,
 ⟨19, .ar .neq false (.t 16) (.t 18), none, false⟩])
 (.ite (.t 19)
 (.seq
 (.reg false [⟨4, .mv (.k (.sc (.bool false))), none, false⟩])
 .ret)
 .skip))
 (.seq
 (.reg false [⟨4, .mv (.k (.sc (.bool true))), none, false⟩])
 .ret)))))⟩
attribute [simp] i23
set_option maxRecDepth 1000000 in
theorem c23 : cFn Tryd.prog 23 [[]] = some i23 := by kernel_rfl
theorem e23 : enterOk Tryd.prog 23 = true := by kernel_rfl
def i31 : Ev.Fn := ⟨1, 42, [.tmp 2],
 (.seq
 (.reg false [⟨2, .mv (.k (.sc (.bool false))), none, false⟩])
 (.seq
 (.reg false [⟨5, .mv (.t 0), none, false⟩,
 ⟨6, .nc (.t 5), none, false⟩,
 ⟨7, .fa 0 (.t 6), none, false⟩,
 ⟨8, .ld 1 false (.t 7), none, false⟩,
 ⟨9, .ca (.k (.cl 57 [])) [(.t 8)], none, false⟩,
 ⟨3, .mv (.t 9), none, false⟩])
 (.seq
 (.seq
 (.reg false [⟨10, .mv (.t 3), none, false⟩,
 ⟨11, .ar .lss false (.t 10) (.k (.sc (.int .i64 0))), none, false⟩,
 ⟨12, .mv (.t 11), none, false⟩,
 ⟨13, .mv (.t 0), (some (12, false)), false⟩,
 ⟨14, .nc (.t 13), (some (12, false)), false⟩,
 ⟨15, .fa 1 (.t 14), (some (12, false)), false⟩,
 ⟨16, .ld 1 false (.t 15), (some (12, false)), false⟩,
 ⟨17, .ca (.k (.cl 58 [])) [(.t 16), (.k (.sc (.int .i64 0))), (.k (.sc (.int .i64 100)))], (some (12, false)), false⟩,
 ⟨18, .nt (.t 17), (some (12, false)), false⟩,
 ⟨19, .pk (.t 12) (.k (.sc (.bool true))) (.t 18), none, false⟩])
 (.ite (.t 19)
 (.seq
 (.reg false [⟨2, .mv (.k (.sc (.bool false))), none, false⟩])
 .ret)
 .skip))
 (.seq
 (.reg false [⟨20, .ca (.k (.cl 59 [])) [], none, false⟩,
 ⟨21, .mv (.t 3), none, false⟩,
 ⟨22, .ia 1 (.t 20) (.t 21), none, false⟩,
 ⟨23, .ld 1 false (.t 22), none, false⟩,
 ⟨24, .ia 1 (.t 23) (.k (.sc (.int .i64 0))), none, false⟩,
 ⟨25, .ld 1 false (.t 24), none, false⟩,
 ⟨4, .mv (.t 25), none, false⟩])
 (.seq
 (.reg false [⟨26, .mv (.t 0), none, false⟩,
 ⟨27, .nc (.t 26), none, false⟩,
 ⟨28, .fa 1 (.t 27), none, false⟩,
 ⟨29, .ld 1 false (.t 28), none, false⟩,
 ⟨30, .mv (.t 4), none, false⟩,
 ⟨31, .ar .sub false (.t 30) (.k (.sc (.int .i64 15))), none, false⟩,
 ⟨32, .mv (.t 4), none, false⟩,
 ⟨33, .ar .add false (.t 32) (.k (.sc (.int .i64 15))), none, false⟩,
 ⟨34, .ca (.k (.cl 58 [])) [(.t 29), (.t 31), (.t 33)], none, false⟩,
 ⟨35, .mv (.t 34), none, false⟩,
 ⟨36, .mv (.t 0), (some (35, true)), false⟩,
 ⟨37, .nc (.t 36), (some (35, true)), false⟩,
 ⟨38, .fa 2 (.t 37), (some (35, true)), false⟩,
 ⟨39, .ld 1 false (.t 38), (some (35, true)), false⟩,
 ⟨40, .ca (.k (.cl 60 [])) [(.t 39)], (some (35, true)), false⟩,
 ⟨41, .pk (.t 35) (.t 40) (.k (.sc (.bool false))), none, false⟩,
 ⟨2, .mv (.t 41), none, false⟩])
 .ret)))))⟩
attribute [simp] i31
set_option maxRecDepth 1000000 in
theorem c31 : cFn Tryd.prog 31 [[]] = some i31 := by kernel_rfl
theorem e31 : enterOk Tryd.prog 31 = true := by kernel_rfl
def i33 : Ev.Fn := ⟨1, 29, [.tmp 2],
 (.seq
 (.reg false [⟨1, .bx (.t 0), none, false⟩,
 ⟨2, .mv (.k (.sc (.bool false))), none, false⟩])
 (.seq
 (.reg false [⟨6, .fa 0 (.t 1), none, false⟩,
 ⟨7, .ld 1 false (.t 6), none, false⟩,
 ⟨8, .ca (.k (.cl 62 [])) [(.t 7)], none, false⟩,
 ⟨5, .mv (.t 8), none, false⟩,
 ⟨9, .xt (.t 5) 0, none, false⟩,
 ⟨10, .xt (.t 5) 1, none, false⟩,
 ⟨3, .mv (.t 9), none, false⟩,
 ⟨4, .mv (.t 10), none, false⟩])
 (.seq
 (.reg false [⟨11, .mv (.t 4), none, false⟩,
 ⟨12, .mv (.t 11), none, false⟩,
 ⟨13, .fa 1 (.t 1), (some (12, true)), false⟩,
 ⟨14, .ld 1 false (.t 13), (some (12, true)), false⟩,
 ⟨15, .ca (.k (.cl 63 [])) [(.t 14), (.k (.sc (.int .i64 0))), (.k (.sc (.int .i64 100)))], (some (12, true)), false⟩,
 ⟨16, .pk (.t 12) (.t 15) (.k (.sc (.bool false))), none, false⟩,
 ⟨17, .mv (.t 16), none, false⟩,
 ⟨18, .fa 1 (.t 1), (some (17, true)), false⟩,
 ⟨19, .ld 1 false (.t 18), (some (17, true)), false⟩,
 ⟨20, .mv (.t 3), (some (17, true)), false⟩,
 ⟨21, .ar .sub false (.t 19) (.t 20), (some (17, true)), false⟩,
 ⟨22, .ca (.k (.cl 63 [])) [(.t 21), (.k (.sc (.int .i64 (-15)))), (.k (.sc (.int .i64 15)))], (some (17, true)), false⟩,
 ⟨23, .pk (.t 17) (.t 22) (.k (.sc (.bool false))), none, false⟩,
 ⟨24, .mv (.t 23), none, false⟩,
 ⟨25, .fa 2 (.t 1), (some (24, true)), false⟩,
 ⟨26, .ld 1 false (.t 25), (some (24, true)), false⟩,
 ⟨27, .ca (.k (.cl 63 [])) [(.t 26), (.k (.sc (.int .i64 0))), (.k (.sc (.int .i64 179)))], (some (24, true)), false⟩,
 ⟨28, .pk (.t 24) (.t 27) (.k (.sc (.bool false))), none, false⟩,
 ⟨2, .mv (.t 28), none, false⟩])
 .ret)))⟩
attribute [simp] i33
set_option maxRecDepth 1000000 in
theorem c33 : cFn Tryd.prog 33 [[]] = some i33 := by kernel_rfl
theorem e33 : enterOk Tryd.prog 33 = true := by kernel_rfl
def i34 : Ev.Fn := ⟨1, 5, [.tmp 2],
 (.seq
 (.reg false [⟨2, .mv (.k (.sc (.string ⟨#[]⟩))), none, false⟩])
 (.seq
 (.reg false [⟨3, .mv (.t 0), none, false⟩,
 ⟨4, .ca (.k (.cl 64 [])) [(.t 3), (.k (.sc (.int .i64 10)))], none, false⟩,
 ⟨2, .mv (.t 4), none, false⟩])
 .ret))⟩
attribute [simp] i34
set_option maxRecDepth 1000000 in
theorem c34 : cFn Tryd.prog 34 [[]] = some i34 := by kernel_rfl
theorem e34 : enterOk Tryd.prog 34 = true := by kernel_rfl
def i47 : Ev.Fn := ⟨1, 48, [.cell 2 3 true, .tmp 3],
 (.seq
 (.reg false [⟨2, .al [(.sc (.string ⟨#[]⟩)), (.sc (.int .i64 0)), (.sc (.int .i64 0))], none, false⟩,
 ⟨3, .mv (.k (.sc (.bool false))), none, false⟩])
 (.seq
 (.reg false [⟨10, .mv (.t 0), none, false⟩,
 ⟨11, .ca (.k (.cl 78 [])) [(.t 10), (.k (.sc (.int .u8 32)))], none, false⟩,
 ⟨4, .mv (.t 11), none, false⟩])
 (.seq
 (.seq
 (.reg false [⟨12, .mv (.t 4), none, false⟩,
 ⟨13, .ln false (.t 12), none, false⟩,
 ⟨14, .ar .neq false (.t 13) (.k (.sc (.int .i64 3))), none, false⟩])
 (.ite (.t 14)
 (.seq
 (.reg false [⟨15, .bd [(.sc (.string ⟨#[]⟩)), (.sc (.int .i64 0)), (.sc (.int .i64 0))] [], none, false⟩,
 ⟨1, .so 3 (.t 2) (.t 15), none, true⟩,
 ⟨3, .mv (.k (.sc (.bool false))), none, false⟩])
 .ret)
 .skip))
 (.seq
 (.reg false [⟨17, .mv (.t 4), none, false⟩,
 ⟨18, .ia 1 (.t 17) (.k (.sc (.int .i64 1))), none, false⟩,
 ⟨19, .ld 1 false (.t 18), none, false⟩,
 ⟨20, .ca (.k (.cl 79 [])) [(.t 19)], none, false⟩,
 ⟨16, .mv (.t 20), none, false⟩,
 ⟨21, .xt (.t 16) 0, none, false⟩,
 ⟨22, .xt (.t 16) 1, none, false⟩,
 ⟨5, .mv (.t 21), none, false⟩,
 ⟨6, .mv (.t 22), none, false⟩])
 (.seq
 (.reg false [⟨24, .mv (.t 4), none, false⟩,
 ⟨25, .ia 1 (.t 24) (.k (.sc (.int .i64 2))), none, false⟩,
 ⟨26, .ld 1 false (.t 25), none, false⟩,
 ⟨27, .ca (.k (.cl 79 [])) [(.t 26)], none, false⟩,
 ⟨23, .mv (.t 27), none, false⟩,
 ⟨28, .xt (.t 23) 0, none, false⟩,
 ⟨29, .xt (.t 23) 1, none, false⟩,
 ⟨7, .mv (.t 28), none, false⟩,
 ⟨8, .mv (.t 29), none, false⟩])
 (.seq
 (.reg false [⟨30, .mv (.t 4), none, false⟩,
 ⟨31, .ia 1 (.t 30) (.k (.sc (.int .i64 0))), none, false⟩,
 ⟨32, .ld 1 false (.t 31), none, false⟩,
 ⟨33, .mv (.t 5), none, false⟩,
 ⟨34, .mv (.t 7), none, false⟩,
 ⟨35, .bd [(.sc (.string ⟨#[]⟩)), (.sc (.int .i64 0)), (.sc (.int .i64 0))] [(0, 1, (.t 32)), (1, 1, (.t 33)), (2, 1, (.t 34))], none, false⟩,
 ⟨9, .al [(.sc (.string ⟨#[]⟩)), (.sc (.int .i64 0)), (.sc (.int .i64 0))], none, false⟩,
 ⟨1, .so 3 (.t 9) (.t 35), none, true⟩])
 (.seq
 (.seq
 (.reg false [⟨36, .mv (.t 6), none, false⟩,
 ⟨37, .nt (.t 36), none, false⟩,
 ⟨38, .mv (.t 37), none, false⟩,
 ⟨39, .mv (.t 8), (some (38, false)), false⟩,
 ⟨40, .nt (.t 39), (some (38, false)), false⟩,
 ⟨41, .pk (.t 38) (.k (.sc (.bool true))) (.t 40), none, false⟩,
 ⟨42, .mv (.t 41), none, false⟩,
 ⟨43, .ca (.k (.cl 31 [])) [(.t 9)], (some (42, false)), false⟩,
 ⟨44, .nt (.t 43), (some (42, false)), false⟩,
 ⟨45, .pk (.t 42) (.k (.sc (.bool true))) (.t 44), none, false⟩])
 (.ite (.t 45)
 (.seq
 (.reg false [⟨46, .bd [(.sc (.string ⟨#[]⟩)), (.sc (.int .i64 0)), (.sc (.int .i64 0))] [], none, false⟩,
 ⟨1, .so 3 (.t 2) (.t 46), none, true⟩,
 ⟨3, .mv (.k (.sc (.bool false))), none, false⟩])
 .ret)
 .skip))
 (.seq
 (.reg false [⟨47, .ld 3 true (.t 9), none, false⟩,
 ⟨1, .so 3 (.t 2) (.t 47), none, true⟩,
 ⟨3, .mv (.k (.sc (.bool true))), none, false⟩])
 .ret))))))))⟩
attribute [simp] i47
set_option maxRecDepth 1000000 in
theorem c47 : cFn Tryd.prog 47 [[]] = some i47 := by kernel_rfl
theorem e47 : enterOk Tryd.prog 47 = true := by kernel_rfl
def w49_1 : IC :=
(.seq
 (.seq
 (.reg false [⟨20, .mv (.t 6), none, false⟩,
 ⟨21, .mv (.t 4), none, false⟩,
 ⟨22, .ln true (.t 21), none, false⟩,
 ⟨23, .ar .lss false (.t 20) (.t 22), none, false⟩])
 (.ite (.t 23)
 .skip
 (.exit 0)))
 (.seq
 (.block 1
 (.seq
 (.seq
 (.reg false [⟨26, .mv (.t 4), none, false⟩,
 ⟨27, .mv (.t 6), none, false⟩,
 ⟨28, .ix (.t 26) (.t 27), none, false⟩,
 ⟨29, .ar .lss false (.t 28) (.k (.sc (.int .u8 48))), none, false⟩,
 ⟨30, .mv (.t 29), none, false⟩,
 ⟨31, .mv (.t 4), (some (30, false)), false⟩,
 ⟨32, .mv (.t 6), (some (30, false)), false⟩,
 ⟨33, .ix (.t 31) (.t 32), (some (30, false)), false⟩,
 ⟨34, .ar .gtr false (.t 33) (.k (.sc (.int .u8 57))), (some (30, false)), false⟩,
 ⟨35, .pk (.t 30) (.k (.sc (.bool true))) (.t 34), none, false⟩])
 (.ite (.t 35)
 (.seq
 (.reg false [⟨2, .mv (.k (.sc (.int .i64 0))), none, false⟩,
 ⟨3, .mv (.k (.sc (.bool false))), none, false⟩])
 .ret)
 .skip))
 (.reg false [⟨36, .mv (.t 5), none, false⟩,
 ⟨37, .ar .mul false (.t 36) (.k (.sc (.int .i64 10))), none, false⟩,
 ⟨38, .mv (.t 4), none, false⟩,
 ⟨39, .mv (.t 6), none, false⟩,
 ⟨40, .ix (.t 38) (.t 39), none, false⟩,
 ⟨41, .ar .sub false (.t 40) (.k (.sc (.int .u8 48))), none, false⟩,
 ⟨42, .cv .i64 (.t 41), none, false⟩,
 ⟨43, .ar .add false (.t 37) (.t 42), none, false⟩,
 ⟨5, .mv (.t 43), none, false⟩])))
 (.reg false [⟨24, .mv (.t 6), none, false⟩,
 ⟨25, .ar .add false (.t 24) (.k (.sc (.int .i64 1))), none, false⟩,
 ⟨6, .mv (.t 25), none, false⟩])))
def b49_1 : IC := w49_1
theorem u49_1 (call : CallF) (st : St) : evC call b49_1 st = evC call w49_1 st := rfl
attribute [simp] u49_1 w49_1
def i49 : Ev.Fn := ⟨1, 56, [.tmp 2, .tmp 3],
 (.seq
 (.reg false [⟨2, .mv (.k (.sc (.int .i64 0))), none, false⟩,
 ⟨3, .mv (.k (.sc (.bool false))), none, false⟩])
 (.seq
 (.reg false [⟨7, .mv (.t 0), none, false⟩,
 ⟨4, .mv (.t 7), none, false⟩])
 (.seq
 (.seq
 (.reg false [⟨8, .mv (.t 0), none, false⟩,
 ⟨9, .ca (.k (.cl 81 [])) [(.t 8), (.k (.sc (.string ⟨#[45]⟩)))], none, false⟩])
 (.ite (.t 9)
 (.reg false [⟨10, .mv (.t 0), none, false⟩,
 ⟨11, .sl 0 (.t 10) (some (.k (.sc (.int .i64 1)))) none, none, false⟩,
 ⟨4, .mv (.t 11), none, false⟩])
 .skip))
 (.seq
 (.seq
 (.reg false [⟨12, .mv (.t 4), none, false⟩,
 ⟨13, .ln true (.t 12), none, false⟩,
 ⟨14, .ar .lss false (.t 13) (.k (.sc (.int .i64 1))), none, false⟩,
 ⟨15, .mv (.t 14), none, false⟩,
 ⟨16, .mv (.t 4), (some (15, false)), false⟩,
 ⟨17, .ln true (.t 16), (some (15, false)), false⟩,
 ⟨18, .ar .gtr false (.t 17) (.k (.sc (.int .i64 18))), (some (15, false)), false⟩,
 ⟨19, .pk (.t 15) (.k (.sc (.bool true))) (.t 18), none, false⟩])
 (.ite (.t 19)
 (.seq
 (.reg false [⟨2, .mv (.k (.sc (.int .i64 0))), none, false⟩,
 ⟨3, .mv (.k (.sc (.bool false))), none, false⟩])
 .ret)
 .skip))
 (.seq
 (.reg false [⟨5, .mv (.k (.sc (.int .i64 0))), none, false⟩])
 (.seq
 (.seq
 (.reg false [⟨6, .mv (.k (.sc (.int .i64 0))), none, false⟩])
 (.cln [0, 4, 5] [2, 3]
 (.block 0
 (.loop [0, 4, 5, 6] b49_1))))
 (.seq
 (.seq
 (.reg false [⟨44, .mv (.t 4), none, false⟩,
 ⟨45, .ln true (.t 44), none, false⟩,
 ⟨46, .mv (.t 0), none, false⟩,
 ⟨47, .ln true (.t 46), none, false⟩,
 ⟨48, .ar .lss false (.t 45) (.t 47), none, false⟩])
 (.ite (.t 48)
 (.reg false [⟨49, .mv (.t 5), none, false⟩,
 ⟨50, .ng (.t 49), none, false⟩,
 ⟨5, .mv (.t 50), none, false⟩])
 .skip))
 (.seq
 (.seq
 (.reg false [⟨51, .mv (.t 5), none, false⟩,
 ⟨52, .ca (.k (.cl 34 [])) [(.t 51)], none, false⟩,
 ⟨53, .mv (.t 0), none, false⟩,
 ⟨54, .ar .neq false (.t 52) (.t 53), none, false⟩])
 (.ite (.t 54)
 (.seq
 (.reg false [⟨2, .mv (.k (.sc (.int .i64 0))), none, false⟩,
 ⟨3, .mv (.k (.sc (.bool false))), none, false⟩])
 .ret)
 .skip))
 (.seq
 (.reg false [⟨55, .mv (.t 5), none, false⟩,
 ⟨2, .mv (.t 55), none, false⟩,
 ⟨3, .mv (.k (.sc (.bool true))), none, false⟩])
 .ret)))))))))⟩
attribute [simp] i49
set_option maxRecDepth 1000000 in
theorem c49 : cFn Tryd.prog 49 [[], [0, 4, 5, 6], [0, 4, 5], [2, 3]] = some i49 := by kernel_rfl
theorem e49 : enterOk Tryd.prog 49 = true := by kernel_rfl
def w57_1 : IC :=
(.seq
 (.seq
 (.reg false [⟨6, .mv (.t 4), none, false⟩,
 ⟨7, .mv (.t 3), none, false⟩,
 ⟨8, .ln false (.t 7), none, false⟩,
 ⟨9, .ar .lss false (.t 6) (.t 8), none, false⟩])
 (.ite (.t 9)
 .skip
 (.exit 0)))
 (.seq
 (.block 1
 (.seq
 (.reg false [⟨12, .mv (.t 3), none, false⟩,
 ⟨13, .mv (.t 4), none, false⟩,
 ⟨14, .ia 1 (.t 12) (.t 13), none, false⟩,
 ⟨15, .ld 1 false (.t 14), none, false⟩,
 ⟨16, .mv (.t 0), none, false⟩,
 ⟨17, .ar .eql false (.t 15) (.t 16), none, false⟩])
 (.ite (.t 17)
 (.seq
 (.reg false [⟨18, .mv (.t 4), none, false⟩,
 ⟨2, .mv (.t 18), none, false⟩])
 .ret)
 .skip)))
 (.reg false [⟨10, .mv (.t 4), none, false⟩,
 ⟨11, .ar .add false (.t 10) (.k (.sc (.int .i64 1))), none, false⟩,
 ⟨4, .mv (.t 11), none, false⟩])))
def b57_1 : IC := w57_1
theorem u57_1 (call : CallF) (st : St) : evC call b57_1 st = evC call w57_1 st := rfl
attribute [simp] u57_1 w57_1
def i57 : Ev.Fn := ⟨1, 19, [.tmp 2],
 (.seq
 (.reg false [⟨2, .mv (.k (.sc (.int .i64 0))), none, false⟩])
 (.seq
 (.reg false [⟨5, .ca (.k (.cl 84 [])) [], none, false⟩,
 ⟨3, .mv (.t 5), none, false⟩])
 (.seq
 (.seq
 (.reg false [⟨4, .mv (.k (.sc (.int .i64 0))), none, false⟩])
 (.cln [] [2]
 (.block 0
 (.loop [0, 3, 4] b57_1))))
 (.seq
 (.reg false [⟨2, .mv (.k (.sc (.int .i64 (-1)))), none, false⟩])
 .ret))))⟩
attribute [simp] i57
set_option maxRecDepth 1000000 in
theorem c57 : cFn Tryd.prog 57 [[], [0, 3, 4], [], [2]] = some i57 := by kernel_rfl
theorem e57 : enterOk Tryd.prog 57 = true := by kernel_rfl
def i58 : Ev.Fn := ⟨3, 15, [.tmp 6],
 (.seq
 (.reg false [⟨6, .mv (.k (.sc (.bool false))), none, false⟩])
 (.seq
 (.reg false [⟨7, .mv (.t 0), none, false⟩,
 ⟨8, .mv (.t 1), none, false⟩,
 ⟨9, .ar .geq false (.t 7) (.t 8), none, false⟩,
 ⟨10, .mv (.t 9), none, false⟩,
 ⟨11, .mv (.t 0), (some (10, true)), false⟩,
 ⟨12, .mv (.t 2), (some (10, true)), false⟩,
 ⟨13, .ar .leq false (.t 11) (.t 12), (some (10, true)), false⟩,
 ⟨14, .pk (.t 10) (.t 13) (.k (.sc (.bool false))), none, false⟩,
 ⟨6, .mv (.t 14), none, false⟩])
 .ret))⟩
attribute [simp] i58
set_option maxRecDepth 1000000 in
theorem c58 : cFn Tryd.prog 58 [[]] = some i58 := by kernel_rfl
theorem e58 : enterOk Tryd.prog 58 = true := by kernel_rfl
def i59 : Ev.Fn := ⟨0, 12, [.tmp 0],
 (.seq
 (.reg false [⟨0, .mv (.k .nl), none, false⟩])
 (.seq
 (.reg false [⟨1, .bs 2 1 [(.sc (.int .i64 0))] 3 [(0, (.k (.sc (.int .i64 20)))), (1, (.k (.sc (.int .i64 40)))), (2, (.k (.sc (.int .i64 310))))], none, false⟩,
 ⟨2, .bs 2 1 [(.sc (.int .i64 0))] 3 [(0, (.k (.sc (.int .i64 35)))), (1, (.k (.sc (.int .i64 45)))), (2, (.k (.sc (.int .i64 410))))], none, false⟩,
 ⟨3, .bs 2 1 [(.sc (.int .i64 0))] 3 [(0, (.k (.sc (.int .i64 15)))), (1, (.k (.sc (.int .i64 33)))), (2, (.k (.sc (.int .i64 280))))], none, false⟩,
 ⟨4, .bs 2 1 [(.sc (.int .i64 0))] 3 [(0, (.k (.sc (.int .i64 50)))), (1, (.k (.sc (.int .i64 36)))), (2, (.k (.sc (.int .i64 240))))], none, false⟩,
 ⟨5, .bs 2 1 [(.sc (.int .i64 0))] 3 [(0, (.k (.sc (.int .i64 95)))), (1, (.k (.sc (.int .i64 85)))), (2, (.k (.sc (.int .i64 270))))], none, false⟩,
 ⟨6, .bs 2 1 [(.sc (.int .i64 0))] 3 [(0, (.k (.sc (.int .i64 5)))), (1, (.k (.sc (.int .i64 35)))), (2, (.k (.sc (.int .i64 370))))], none, false⟩,
 ⟨7, .bs 2 1 [(.sc (.int .i64 0))] 3 [(0, (.k (.sc (.int .i64 10)))), (1, (.k (.sc (.int .i64 42)))), (2, (.k (.sc (.int .i64 290))))], none, false⟩,
 ⟨8, .bs 2 1 [(.sc (.int .i64 0))] 3 [(0, (.k (.sc (.int .i64 40)))), (1, (.k (.sc (.int .i64 40)))), (2, (.k (.sc (.int .i64 330))))], none, false⟩,
 ⟨9, .bs 2 1 [(.sc (.int .i64 0))] 3 [(0, (.k (.sc (.int .i64 80)))), (1, (.k (.sc (.int .i64 60)))), (2, (.k (.sc (.int .i64 220))))], none, false⟩,
 ⟨10, .bs 2 1 [(.sc (.int .i64 0))] 3 [(0, (.k (.sc (.int .i64 70)))), (1, (.k (.sc (.int .i64 38)))), (2, (.k (.sc (.int .i64 260))))], none, false⟩,
 ⟨11, .bw 66 1 [.nl] 10 [(0, (.t 1)), (1, (.t 2)), (2, (.t 3)), (3, (.t 4)), (4, (.t 5)), (5, (.t 6)), (6, (.t 7)), (7, (.t 8)), (8, (.t 9)), (9, (.t 10))], none, false⟩,
 ⟨0, .mv (.t 11), none, false⟩])
 .ret))⟩
attribute [simp] i59
set_option maxRecDepth 1000000 in
theorem c59 : cFn Tryd.prog 59 [[]] = some i59 := by kernel_rfl
theorem e59 : enterOk Tryd.prog 59 = true := by kernel_rfl
def i60 : Ev.Fn := ⟨1, 5, [.tmp 2],
 (.seq
 (.reg false [⟨2, .mv (.k (.sc (.bool false))), none, false⟩])
 (.seq
 (.reg false [⟨3, .mv (.t 0), none, false⟩,
 ⟨4, .ca (.k (.cl 58 [])) [(.t 3), (.k (.sc (.int .i64 0))), (.k (.sc (.int .i64 179)))], none, false⟩,
 ⟨2, .mv (.t 4), none, false⟩])
 .ret))⟩
attribute [simp] i60
set_option maxRecDepth 1000000 in
theorem c60 : cFn Tryd.prog 60 [[]] = some i60 := by kernel_rfl
theorem e60 : enterOk Tryd.prog 60 = true := by kernel_rfl
def i62 : Ev.Fn := ⟨1, 18, [.tmp 2, .tmp 3],
 (.seq
 (.reg false [⟨2, .mv (.k (.sc (.int .i64 0))), none, false⟩,
 ⟨3, .mv (.k (.sc (.bool false))), none, false⟩])
 (.seq
 (.reg false [⟨9, .mv (.t 0), none, false⟩,
 ⟨10, .ca (.k (.cl 85 [])) [(.t 9)], none, false⟩,
 ⟨8, .mv (.t 10), none, false⟩,
 ⟨11, .xt (.t 8) 0, none, false⟩,
 ⟨12, .xt (.t 8) 1, none, false⟩,
 ⟨13, .xt (.t 8) 2, none, false⟩,
 ⟨14, .xt (.t 8) 3, none, false⟩,
 ⟨4, .mv (.t 11), none, false⟩,
 ⟨5, .mv (.t 12), none, false⟩,
 ⟨6, .mv (.t 13), none, false⟩,
 ⟨7, .mv (.t 14), none, false⟩])
 (.seq
 (.reg false [⟨15, .mv (.t 4), none, false⟩,
 ⟨16, .mv (.t 7), none, false⟩,
 ⟨17, .ar .eql false (.t 16) (.k (.sc (.int .i64 0))), none, false⟩,
 ⟨2, .mv (.t 15), none, false⟩,
 ⟨3, .mv (.t 17), none, false⟩])
 .ret)))⟩
attribute [simp] i62
set_option maxRecDepth 1000000 in
theorem c62 : cFn Tryd.prog 62 [[]] = some i62 := by kernel_rfl
theorem e62 : enterOk Tryd.prog 62 = true := by kernel_rfl
def i63 : Ev.Fn := ⟨3, 15, [.tmp 6],
 (.seq
 (.reg false [⟨6, .mv (.k (.sc (.bool false))), none, false⟩])
 (.seq
 (.reg false [⟨7, .mv (.t 0), none, false⟩,
 ⟨8, .mv (.t 1), none, false⟩,
 ⟨9, .ar .geq false (.t 7) (.t 8), none, false⟩,
 ⟨10, .mv (.t 9), none, false⟩,
 ⟨11, .mv (.t 0), (some (10, true)), false⟩,
 ⟨12, .mv (.t 2), (some (10, true)), false⟩,
 ⟨13, .ar .leq false (.t 11) (.t 12), (some (10, true)), false⟩,
 ⟨14, .pk (.t 10) (.t 13) (.k (.sc (.bool false))), none, false⟩,
 ⟨6, .mv (.t 14), none, false⟩])
 .ret))⟩
attribute [simp] i63
set_option maxRecDepth 1000000 in
theorem c63 : cFn Tryd.prog 63 [[]] = some i63 := by kernel_rfl
theorem e63 : enterOk Tryd.prog 63 = true := by kernel_rfl
def w78_1 : IC :=
(.seq
 (.seq
 (.reg false [⟨9, .mv (.t 7), none, false⟩,
 ⟨10, .mv (.t 0), none, false⟩,
 ⟨11, .ln true (.t 10), none, false⟩,
 ⟨12, .ar .lss false (.t 9) (.t 11), none, false⟩])
 (.ite (.t 12)
 .skip
 (.exit 0)))
 (.seq
 (.block 1
 (.seq
 (.reg false [⟨15, .mv (.t 0), none, false⟩,
 ⟨16, .mv (.t 7), none, false⟩,
 ⟨17, .ix (.t 15) (.t 16), none, false⟩,
 ⟨18, .mv (.t 1), none, false⟩,
 ⟨19, .ar .eql false (.t 17) (.t 18), none, false⟩])
 (.ite (.t 19)
 (.seq
 (.reg false [⟨20, .mv (.t 5), none, false⟩,
 ⟨21, .mv (.t 0), none, false⟩,
 ⟨22, .mv (.t 6), none, false⟩,
 ⟨23, .mv (.t 7), none, false⟩,
 ⟨24, .sl 0 (.t 21) (some (.t 22)) (some (.t 23)), none, false⟩,
 ⟨25, .bs 9 1 [(.sc (.string ⟨#[]⟩))] 1 [(0, (.t 24))], none, false⟩,
 ⟨26, .ap 9 1 false (.t 20) (.t 25), none, false⟩,
 ⟨5, .mv (.t 26), none, false⟩])
 (.reg false [⟨27, .mv (.t 7), none, false⟩,
 ⟨28, .ar .add false (.t 27) (.k (.sc (.int .i64 1))), none, false⟩,
 ⟨6, .mv (.t 28), none, false⟩]))
 .skip)))
 (.reg false [⟨13, .mv (.t 7), none, false⟩,
 ⟨14, .ar .add false (.t 13) (.k (.sc (.int .i64 1))), none, false⟩,
 ⟨7, .mv (.t 14), none, false⟩])))
def b78_1 : IC := w78_1
theorem u78_1 (call : CallF) (st : St) : evC call b78_1 st = evC call w78_1 st := rfl
attribute [simp] u78_1 w78_1
def i78 : Ev.Fn := ⟨2, 35, [.tmp 4],
 (.seq
 (.reg false [⟨4, .mv (.k .nl), none, false⟩])
 (.seq
 (.reg false [⟨8, .bs 9 1 [(.sc (.string ⟨#[]⟩))] 0 [], none, false⟩,
 ⟨5, .mv (.t 8), none, false⟩])
 (.seq
 (.reg false [⟨6, .mv (.k (.sc (.int .i64 0))), none, false⟩])
 (.seq
 (.seq
 (.reg false [⟨7, .mv (.k (.sc (.int .i64 0))), none, false⟩])
 (.cln [0, 5, 6] [4]
 (.block 0
 (.loop [0, 1, 5, 6, 7] b78_1))))
 (.seq
 (.reg false [⟨29, .mv (.t 5), none, false⟩,
 ⟨30, .mv (.t 0), none, false⟩,
 ⟨31, .mv (.t 6), none, false⟩,
 ⟨32, .sl 0 (.t 30) (some (.t 31)) none, none, false⟩,
 ⟨33, .bs 9 1 [(.sc (.string ⟨#[]⟩))] 1 [(0, (.t 32))], none, false⟩,
 ⟨34, .ap 9 1 false (.t 29) (.t 33), none, false⟩,
 ⟨4, .mv (.t 34), none, false⟩])
 .ret)))))⟩
attribute [simp] i78
set_option maxRecDepth 1000000 in
theorem c78 : cFn Tryd.prog 78 [[], [0, 1, 5, 6, 7], [0, 5, 6], [4]] = some i78 := by kernel_rfl
theorem e78 : enterOk Tryd.prog 78 = true := by kernel_rfl
def w79_1 : IC :=
(.seq
 (.seq
 (.reg false [⟨38, .mv (.t 6), none, false⟩,
 ⟨39, .mv (.t 0), none, false⟩,
 ⟨40, .ln true (.t 39), none, false⟩,
 ⟨41, .ar .lss false (.t 38) (.t 40), none, false⟩])
 (.ite (.t 41)
 .skip
 (.exit 0)))
 (.seq
 (.block 1
 (.seq
 (.seq
 (.reg false [⟨44, .mv (.t 0), none, false⟩,
 ⟨45, .mv (.t 6), none, false⟩,
 ⟨46, .ix (.t 44) (.t 45), none, false⟩,
 ⟨47, .ca (.k (.cl 88 [])) [(.t 46)], none, false⟩,
 ⟨48, .nt (.t 47), none, false⟩])
 (.ite (.t 48)
 (.seq
 (.reg false [⟨2, .mv (.k (.sc (.int .i64 0))), none, false⟩,
 ⟨3, .mv (.k (.sc (.bool false))), none, false⟩])
 .ret)
 .skip))
 (.reg false [⟨49, .mv (.t 5), none, false⟩,
 ⟨50, .ar .mul false (.k (.sc (.int .i64 10))) (.t 49), none, false⟩,
 ⟨51, .mv (.t 0), none, false⟩,
 ⟨52, .mv (.t 6), none, false⟩,
 ⟨53, .ix (.t 51) (.t 52), none, false⟩,
 ⟨54, .ar .sub false (.t 53) (.k (.sc (.int .u8 48))), none, false⟩,
 ⟨55, .cv .i64 (.t 54), none, false⟩,
 ⟨56, .ar .add false (.t 50) (.t 55), none, false⟩,
 ⟨5, .mv (.t 56), none, false⟩])))
 (.reg false [⟨42, .mv (.t 6), none, false⟩,
 ⟨43, .ar .add false (.t 42) (.k (.sc (.int .i64 1))), none, false⟩,
 ⟨6, .mv (.t 43), none, false⟩])))
def b79_1 : IC := w79_1
theorem u79_1 (call : CallF) (st : St) : evC call b79_1 st = evC call w79_1 st := rfl
attribute [simp] u79_1 w79_1
def i79 : Ev.Fn := ⟨1, 62, [.tmp 2, .tmp 3],
 (.seq
 (.reg false [⟨2, .mv (.k (.sc (.int .i64 0))), none, false⟩,
 ⟨3, .mv (.k (.sc (.bool false))), none, false⟩])
 (.seq
 (.reg false [⟨4, .mv (.k (.sc (.int .i64 0))), none, false⟩])
 (.seq
 (.seq
 (.reg false [⟨7, .mv (.t 0), none, false⟩,
 ⟨8, .ln true (.t 7), none, false⟩,
 ⟨9, .ar .gtr false (.t 8) (.k (.sc (.int .i64 0))), none, false⟩,
 ⟨10, .mv (.t 9), none, false⟩,
 ⟨11, .mv (.t 0), (some (10, true)), false⟩,
 ⟨12, .ix (.t 11) (.k (.sc (.int .i64 0))), (some (10, true)), false⟩,
 ⟨13, .ar .eql false (.t 12) (.k (.sc (.int .u8 45))), (some (10, true)), false⟩,
 ⟨14, .pk (.t 10) (.t 13) (.k (.sc (.bool false))), none, false⟩])
 (.ite (.t 14)
 (.reg false [⟨4, .mv (.k (.sc (.int .i64 1))), none, false⟩])
 .skip))
 (.seq
 (.seq
 (.reg false [⟨15, .mv (.t 0), none, false⟩,
 ⟨16, .ln true (.t 15), none, false⟩,
 ⟨17, .mv (.t 4), none, false⟩,
 ⟨18, .ar .eql false (.t 16) (.t 17), none, false⟩,
 ⟨19, .mv (.t 18), none, false⟩,
 ⟨20, .mv (.t 0), (some (19, false)), false⟩,
 ⟨21, .ln true (.t 20), (some (19, false)), false⟩,
 ⟨22, .mv (.t 4), (some (19, false)), false⟩,
 ⟨23, .ar .sub false (.t 21) (.t 22), (some (19, false)), false⟩,
 ⟨24, .ar .gtr false (.t 23) (.k (.sc (.int .i64 18))), (some (19, false)), false⟩,
 ⟨25, .pk (.t 19) (.k (.sc (.bool true))) (.t 24), none, false⟩,
 ⟨26, .mv (.t 25), none, false⟩,
 ⟨27, .mv (.t 0), (some (26, false)), false⟩,
 ⟨28, .mv (.t 4), (some (26, false)), false⟩,
 ⟨29, .ix (.t 27) (.t 28), (some (26, false)), false⟩,
 ⟨30, .ar .eql false (.t 29) (.k (.sc (.int .u8 48))), (some (26, false)), false⟩,
 ⟨31, .mv (.t 30), (some (26, false)), false⟩,
 ⟨32, .mv (.t 0), (some (31, true)), false⟩,
 ⟨33, .ln true (.t 32), (some (31, true)), false⟩,
 ⟨34, .ar .gtr false (.t 33) (.k (.sc (.int .i64 1))), (some (31, true)), false⟩,
 ⟨35, .pk (.t 31) (.t 34) (.k (.sc (.bool false))), (some (26, false)), false⟩,
 ⟨36, .pk (.t 26) (.k (.sc (.bool true))) (.t 35), none, false⟩])
 (.ite (.t 36)
 (.seq
 (.reg false [⟨2, .mv (.k (.sc (.int .i64 0))), none, false⟩,
 ⟨3, .mv (.k (.sc (.bool false))), none, false⟩])
 .ret)
 .skip))
 (.seq
 (.reg false [⟨5, .mv (.k (.sc (.int .i64 0))), none, false⟩])
 (.seq
 (.seq
 (.reg false [⟨37, .mv (.t 4), none, false⟩,
 ⟨6, .mv (.t 37), none, false⟩])
 (.cln [4, 5] [2, 3]
 (.block 0
 (.loop [0, 4, 5, 6] b79_1))))
 (.seq
 (.seq
 (.reg false [⟨57, .mv (.t 4), none, false⟩,
 ⟨58, .ar .eql false (.t 57) (.k (.sc (.int .i64 1))), none, false⟩])
 (.ite (.t 58)
 (.reg false [⟨59, .mv (.t 5), none, false⟩,
 ⟨60, .ng (.t 59), none, false⟩,
 ⟨5, .mv (.t 60), none, false⟩])
 .skip))
 (.seq
 (.reg false [⟨61, .mv (.t 5), none, false⟩,
 ⟨2, .mv (.t 61), none, false⟩,
 ⟨3, .mv (.k (.sc (.bool true))), none, false⟩])
 .ret))))))))⟩
attribute [simp] i79
set_option maxRecDepth 1000000 in
theorem c79 : cFn Tryd.prog 79 [[], [0, 4, 5, 6], [4, 5], [2, 3]] = some i79 := by kernel_rfl
theorem e79 : enterOk Tryd.prog 79 = true := by kernel_rfl
def i81 : Ev.Fn := ⟨2, 8, [.tmp 4],
 (.seq
 (.reg false [⟨4, .mv (.k (.sc (.bool false))), none, false⟩])
 (.seq
 (.reg false [⟨5, .mv (.t 0), none, false⟩,
 ⟨6, .mv (.t 1), none, false⟩,
 ⟨7, .ca (.k (.cl 95 [])) [(.t 5), (.t 6)], none, false⟩,
 ⟨4, .mv (.t 7), none, false⟩])
 .ret))⟩
attribute [simp] i81
set_option maxRecDepth 1000000 in
theorem c81 : cFn Tryd.prog 81 [[]] = some i81 := by kernel_rfl
theorem e81 : enterOk Tryd.prog 81 = true := by kernel_rfl
def i84 : Ev.Fn := ⟨0, 2, [.tmp 0],
 (.seq
 (.reg false [⟨0, .mv (.k .nl), none, false⟩])
 (.seq
 (.reg false [⟨1, .bs 9 1 [(.sc (.string ⟨#[]⟩))] 10 [(0, (.k (.sc (.string ⟨#[97, 115, 104]⟩)))), (1, (.k (.sc (.string ⟨#[98, 101, 101, 99, 104]⟩)))), (2, (.k (.sc (.string ⟨#[98, 105, 114, 99, 104]⟩)))), (3, (.k (.sc (.string ⟨#[99, 104, 101, 114, 114, 121]⟩)))), (4, (.k (.sc (.string ⟨#[101, 98, 111, 110, 121]⟩)))), (5, (.k (.sc (.string ⟨#[104, 111, 108, 108, 121]⟩)))), (6, (.k (.sc (.string ⟨#[109, 97, 112, 108, 101]⟩)))), (7, (.k (.sc (.string ⟨#[111, 97, 107]⟩)))), (8, (.k (.sc (.string ⟨#[114, 111, 115, 101, 119, 111, 111, 100]⟩)))), (9, (.k (.sc (.string ⟨#[119, 97, 108, 110, 117, 116]⟩))))], none, false⟩,
 ⟨0, .mv (.t 1), none, false⟩])
 .ret))⟩
attribute [simp] i84
set_option maxRecDepth 1000000 in
theorem c84 : cFn Tryd.prog 84 [[]] = some i84 := by kernel_rfl
theorem e84 : enterOk Tryd.prog 84 = true := by kernel_rfl
def i85 : Ev.Fn := ⟨1, 27, [.tmp 2, .tmp 3, .tmp 4, .tmp 5],
 (.seq
 (.reg false [⟨2, .mv (.k (.sc (.int .i64 0))), none, false⟩,
 ⟨3, .mv (.k (.sc (.int .i64 0))), none, false⟩,
 ⟨4, .mv (.k (.sc (.int .i64 0))), none, false⟩,
 ⟨5, .mv (.k (.sc (.int .i64 0))), none, false⟩])
 (.seq
 (.seq
 (.reg false [⟨6, .mv (.t 0), none, false⟩])
 (.block 0
 (.seq
 (.reg false [⟨8, .ar .eql false (.t 6) (.k (.sc (.string ⟨#[97, 115, 104]⟩))), none, false⟩,
 ⟨7, .mv (.t 8), none, false⟩])
 (.ite (.t 7)
 (.seq
 (.reg false [⟨2, .mv (.k (.sc (.int .i64 20))), none, false⟩,
 ⟨3, .mv (.k (.sc (.int .i64 40))), none, false⟩,
 ⟨4, .mv (.k (.sc (.int .i64 310))), none, false⟩,
 ⟨5, .mv (.k (.sc (.int .i64 0))), none, false⟩])
 .ret)
 (.seq
 (.reg false [⟨10, .ar .eql false (.t 6) (.k (.sc (.string ⟨#[98, 101, 101, 99, 104]⟩))), none, false⟩,
 ⟨9, .mv (.t 10), none, false⟩])
 (.ite (.t 9)
 (.seq
 (.reg false [⟨2, .mv (.k (.sc (.int .i64 35))), none, false⟩,
 ⟨3, .mv (.k (.sc (.int .i64 45))), none, false⟩,
 ⟨4, .mv (.k (.sc (.int .i64 410))), none, false⟩,
 ⟨5, .mv (.k (.sc (.int .i64 0))), none, false⟩])
 .ret)
 (.seq
 (.reg false [⟨12, .ar .eql false (.t 6) (.k (.sc (.string ⟨#[98, 105, 114, 99, 104]⟩))), none, false⟩,
 ⟨11, .mv (.t 12), none, false⟩])
 (.ite (.t 11)
 (.seq
 (.reg false [⟨2, .mv (.k (.sc (.int .i64 15))), none, false⟩,
 ⟨3, .mv (.k (.sc (.int .i64 33))), none, false⟩,
 ⟨4, .mv (.k (.sc (.int .i64 280))), none, false⟩,
 ⟨5, .mv (.k (.sc (.int .i64 0))), none, false⟩])
 .ret)
 (.seq
 (.reg false [⟨14, .ar .eql false (.t 6) (.k (.sc (.string ⟨#[99, 104, 101, 114, 114, 121]⟩))), none, false⟩,
 ⟨13, .mv (.t 14), none, false⟩])
 (.ite (.t 13)
 (.seq
 (.reg false [⟨2, .mv (.k (.sc (.int .i64 50))), none, false⟩,
 ⟨3, .mv (.k (.sc (.int .i64 36))), none, false⟩,
 ⟨4, .mv (.k (.sc (.int .i64 240))), none, false⟩,
 ⟨5, .mv (.k (.sc (.int .i64 0))), none, false⟩])
 .ret)
 (.seq
 (.reg false [⟨16, .ar .eql false (.t 6) (.k (.sc (.string ⟨#[101, 98, 111, 110, 121]⟩))), none, false⟩,
 ⟨15, .mv (.t 16), none, false⟩])
 (.ite (.t 15)
 (.seq
 (.reg false [⟨2, .mv (.k (.sc (.int .i64 95))), none, false⟩,
 ⟨3, .mv (.k (.sc (.int .i64 85))), none, false⟩,
 ⟨4, .mv (.k (.sc (.int .i64 270))), none, false⟩,
 ⟨5, .mv (.k (.sc (.int .i64 0))), none, false⟩])
 .ret)
 (.seq
 (.reg false [⟨18, .ar .eql false (.t 6) (.k (.sc (.string ⟨#[104, 111, 108, 108, 121]⟩))), none, false⟩,
 ⟨17, .mv (.t 18), none, false⟩])
 (.ite (.t 17)
 (.seq
 (.reg false [⟨2, .mv (.k (.sc (.int .i64 5))), none, false⟩,
 ⟨3, .mv (.k (.sc (.int .i64 35))), none, false⟩,
 ⟨4, .mv (.k (.sc (.int .i64 370))), none, false⟩,
 ⟨5, .mv (.k (.sc (.int .i64 0))), none, false⟩])
 .ret)
 (.seq
 (.reg false [⟨20, .ar .eql false (.t 6) (.k (.sc (.string ⟨#[109, 97, 112, 108, 101]⟩))), none, false⟩,
 ⟨19, .mv (.t 20), none, false⟩])
 (.ite (.t 19)
 (.seq
 (.reg false [⟨2, .mv (.k (.sc (.int .i64 10))), none, false⟩,
 ⟨3, .mv (.k (.sc (.int .i64 42))), none, false⟩,
 ⟨4, .mv (.k (.sc (.int .i64 290))), none, false⟩,
 ⟨5, .mv (.k (.sc (.int .i64 0))), none, false⟩])
 .ret)
 (.seq
 (.reg false [⟨22, .ar .eql false (.t 6) (.k (.sc (.string ⟨#[111, 97, 107]⟩))), none, false⟩,
 ⟨21, .mv (.t 22), none, false⟩])
 (.ite (.t 21)
 (.seq
 (.reg false [⟨2, .mv (.k (.sc (.int .i64 40))), none, false⟩,
 ⟨3, .mv (.k (.sc (.int .i64 40))), none, false⟩,
 ⟨4, .mv (.k (.sc (.int .i64 330))), none, false⟩,
 ⟨5, .mv (.k (.sc (.int .i64 0))), none, false⟩])
 .ret)
 (.seq
 (.reg false [⟨24, .ar .eql false (.t 6) (.k (.sc (.string ⟨#[114, 111, 115, 101, 119, 111, 111, 100]⟩))), none, false⟩,
 ⟨23, .mv (.t 24), none, false⟩])
 (.ite (.t 23)
 (.seq
 (.reg false [⟨2, .mv (.k (.sc (.int .i64 80))), none, false⟩,
 ⟨3, .mv (.k (.sc (.int .i64 60))), none, false⟩,
 ⟨4, .mv (.k (.sc (.int .i64 220))), none, false⟩,
 ⟨5, .mv (.k (.sc (.int .i64 0))), none, false⟩])
 .ret)
 (.seq
 (.reg false [⟨26, .ar .eql false (.t 6) (.k (.sc (.string ⟨#[119, 97, 108, 110, 117, 116]⟩))), none, false⟩,
 ⟨25, .mv (.t 26), none, false⟩])
 (.ite (.t 25)
 (.seq
 (.reg false [⟨2, .mv (.k (.sc (.int .i64 70))), none, false⟩,
 ⟨3, .mv (.k (.sc (.int .i64 38))), none, false⟩,
 ⟨4, .mv (.k (.sc (.int .i64 260))), none, false⟩,
 ⟨5, .mv (.k (.sc (.int .i64 0))), none, false⟩])
 .ret)
 .skip))))))))))))))))))))))
 (.seq
 (.reg false [⟨2, .mv (.k (.sc (.int .i64 0))), none, false⟩,
 ⟨3, .mv (.k (.sc (.int .i64 0))), none, false⟩,
 ⟨4, .mv (.k (.sc (.int .i64 0))), none, false⟩,
 ⟨5, .mv (.k (.sc (.int .i64 3))), none, false⟩])
 .ret)))⟩
attribute [simp] i85
set_option maxRecDepth 1000000 in
theorem c85 : cFn Tryd.prog 85 [[]] = some i85 := by kernel_rfl
theorem e85 : enterOk Tryd.prog 85 = true := by kernel_rfl
def i88 : Ev.Fn := ⟨1, 9, [.tmp 2],
 (.seq
 (.reg false [⟨2, .mv (.k (.sc (.bool false))), none, false⟩])
 (.seq
 (.reg false [⟨3, .mv (.t 0), none, false⟩,
 ⟨4, .ar .geq false (.t 3) (.k (.sc (.int .u8 48))), none, false⟩,
 ⟨5, .mv (.t 4), none, false⟩,
 ⟨6, .mv (.t 0), (some (5, true)), false⟩,
 ⟨7, .ar .leq false (.t 6) (.k (.sc (.int .u8 57))), (some (5, true)), false⟩,
 ⟨8, .pk (.t 5) (.t 7) (.k (.sc (.bool false))), none, false⟩,
 ⟨2, .mv (.t 8), none, false⟩])
 .ret))⟩
attribute [simp] i88
set_option maxRecDepth 1000000 in
theorem c88 : cFn Tryd.prog 88 [[]] = some i88 := by kernel_rfl
theorem e88 : enterOk Tryd.prog 88 = true := by kernel_rfl
def i95 : Ev.Fn := ⟨2, 18, [.tmp 4],
 (.seq
 (.reg false [⟨4, .mv (.k (.sc (.bool false))), none, false⟩])
 (.seq
 (.reg false [⟨5, .mv (.t 0), none, false⟩,
 ⟨6, .ln true (.t 5), none, false⟩,
 ⟨7, .mv (.t 1), none, false⟩,
 ⟨8, .ln true (.t 7), none, false⟩,
 ⟨9, .ar .geq false (.t 6) (.t 8), none, false⟩,
 ⟨10, .mv (.t 9), none, false⟩,
 ⟨11, .mv (.t 0), (some (10, true)), false⟩,
 ⟨12, .mv (.t 1), (some (10, true)), false⟩,
 ⟨13, .ln true (.t 12), (some (10, true)), false⟩,
 ⟨14, .sl 0 (.t 11) none (some (.t 13)), (some (10, true)), false⟩,
 ⟨15, .mv (.t 1), (some (10, true)), false⟩,
 ⟨16, .ar .eql false (.t 14) (.t 15), (some (10, true)), false⟩,
 ⟨17, .pk (.t 10) (.t 16) (.k (.sc (.bool false))), none, false⟩,
 ⟨4, .mv (.t 17), none, false⟩])
 .ret))⟩
attribute [simp] i95
set_option maxRecDepth 1000000 in
theorem c95 : cFn Tryd.prog 95 [[]] = some i95 := by kernel_rfl
theorem e95 : enterOk Tryd.prog 95 = true := by kernel_rfl
theorem mixed : Tryd.prog.follows .mixedOrders = true := by kernel_rfl
def Ft : List (Nat × Ev.Fn) := [(6, i6), (21, i21), (22, i22), (23, i23), (31, i31), (33, i33), (34, i34), (47, i47), (49, i49), (57, i57), (58, i58), (59, i59), (60, i60), (62, i62), (63, i63), (78, i78), (79, i79), (81, i81), (84, i84), (85, i85), (88, i88), (95, i95)]
def F : Nat → Option Ev.Fn := getF Ft
noncomputable def ev (d : Nat) : CallF := evF F prim d
theorem ev_fn {f : Nat} {fn : Ev.Fn} (h : F f = some fn) (d : Nat) (args : List LV) (hl : args.length = fn.nargs) : ev (d + 1) f args = Ev.finish fn.res (evC (ev d) fn.body (Ev.start args)) := evF_fn h d args hl
set_option maxRecDepth 1000000 in
theorem tab : ∀ f fn, F f = some fn → enterOk Tryd.prog f = true ∧ ∃ ks, cFn Tryd.prog f ks = some fn :=
  tabF (L := Ft) ⟨⟨e6, _, c6⟩, ⟨e21, _, c21⟩, ⟨e22, _, c22⟩, ⟨e23, _, c23⟩, ⟨e31, _, c31⟩, ⟨e33, _, c33⟩, ⟨e34, _, c34⟩, ⟨e47, _, c47⟩, ⟨e49, _, c49⟩, ⟨e57, _, c57⟩, ⟨e58, _, c58⟩, ⟨e59, _, c59⟩, ⟨e60, _, c60⟩, ⟨e62, _, c62⟩, ⟨e63, _, c63⟩, ⟨e78, _, c78⟩, ⟨e79, _, c79⟩, ⟨e81, _, c81⟩, ⟨e84, _, c84⟩, ⟨e85, _, c85⟩, ⟨e88, _, c88⟩, ⟨e95, _, c95⟩, trivial⟩
theorem tabn : ∀ f fn, F f = some fn → f < wrN := tabN (L := Ft) (by kernel_rfl)
theorem callOk (m : Int) (d : Nat) : CallOk (TT m) Tryd.prog (ev d) := (evF_ok2 mixed tab tabn (prim_ok m) (prim_okW m) d).1
abbrev I (n : Int) : LV := .sc (.int .i64 n)
abbrev B (b : Bool) : LV := .sc (.bool b)
abbrev T (s : ByteArray) : LV := .sc (.string s)
theorem s6 (d : Nat) (args : List LV) (hl : args.length = i6.nargs) : ev (d + 1) 6 args = Ev.finish i6.res (evC (ev d) i6.body (Ev.start args)) := ev_fn (by kernel_rfl) d args hl
theorem s21 (d : Nat) (args : List LV) (hl : args.length = i21.nargs) : ev (d + 1) 21 args = Ev.finish i21.res (evC (ev d) i21.body (Ev.start args)) := ev_fn (by kernel_rfl) d args hl
theorem s22 (d : Nat) (args : List LV) (hl : args.length = i22.nargs) : ev (d + 1) 22 args = Ev.finish i22.res (evC (ev d) i22.body (Ev.start args)) := ev_fn (by kernel_rfl) d args hl
theorem s23 (d : Nat) (args : List LV) (hl : args.length = i23.nargs) : ev (d + 1) 23 args = Ev.finish i23.res (evC (ev d) i23.body (Ev.start args)) := ev_fn (by kernel_rfl) d args hl
theorem s31 (d : Nat) (args : List LV) (hl : args.length = i31.nargs) : ev (d + 1) 31 args = Ev.finish i31.res (evC (ev d) i31.body (Ev.start args)) := ev_fn (by kernel_rfl) d args hl
theorem s33 (d : Nat) (args : List LV) (hl : args.length = i33.nargs) : ev (d + 1) 33 args = Ev.finish i33.res (evC (ev d) i33.body (Ev.start args)) := ev_fn (by kernel_rfl) d args hl
theorem s34 (d : Nat) (args : List LV) (hl : args.length = i34.nargs) : ev (d + 1) 34 args = Ev.finish i34.res (evC (ev d) i34.body (Ev.start args)) := ev_fn (by kernel_rfl) d args hl
theorem s47 (d : Nat) (args : List LV) (hl : args.length = i47.nargs) : ev (d + 1) 47 args = Ev.finish i47.res (evC (ev d) i47.body (Ev.start args)) := ev_fn (by kernel_rfl) d args hl
theorem s49 (d : Nat) (args : List LV) (hl : args.length = i49.nargs) : ev (d + 1) 49 args = Ev.finish i49.res (evC (ev d) i49.body (Ev.start args)) := ev_fn (by kernel_rfl) d args hl
theorem s57 (d : Nat) (args : List LV) (hl : args.length = i57.nargs) : ev (d + 1) 57 args = Ev.finish i57.res (evC (ev d) i57.body (Ev.start args)) := ev_fn (by kernel_rfl) d args hl
theorem s58 (d : Nat) (args : List LV) (hl : args.length = i58.nargs) : ev (d + 1) 58 args = Ev.finish i58.res (evC (ev d) i58.body (Ev.start args)) := ev_fn (by kernel_rfl) d args hl
theorem s59 (d : Nat) (args : List LV) (hl : args.length = i59.nargs) : ev (d + 1) 59 args = Ev.finish i59.res (evC (ev d) i59.body (Ev.start args)) := ev_fn (by kernel_rfl) d args hl
theorem s60 (d : Nat) (args : List LV) (hl : args.length = i60.nargs) : ev (d + 1) 60 args = Ev.finish i60.res (evC (ev d) i60.body (Ev.start args)) := ev_fn (by kernel_rfl) d args hl
theorem s62 (d : Nat) (args : List LV) (hl : args.length = i62.nargs) : ev (d + 1) 62 args = Ev.finish i62.res (evC (ev d) i62.body (Ev.start args)) := ev_fn (by kernel_rfl) d args hl
theorem s63 (d : Nat) (args : List LV) (hl : args.length = i63.nargs) : ev (d + 1) 63 args = Ev.finish i63.res (evC (ev d) i63.body (Ev.start args)) := ev_fn (by kernel_rfl) d args hl
theorem s78 (d : Nat) (args : List LV) (hl : args.length = i78.nargs) : ev (d + 1) 78 args = Ev.finish i78.res (evC (ev d) i78.body (Ev.start args)) := ev_fn (by kernel_rfl) d args hl
theorem s79 (d : Nat) (args : List LV) (hl : args.length = i79.nargs) : ev (d + 1) 79 args = Ev.finish i79.res (evC (ev d) i79.body (Ev.start args)) := ev_fn (by kernel_rfl) d args hl
theorem s81 (d : Nat) (args : List LV) (hl : args.length = i81.nargs) : ev (d + 1) 81 args = Ev.finish i81.res (evC (ev d) i81.body (Ev.start args)) := ev_fn (by kernel_rfl) d args hl
theorem s84 (d : Nat) (args : List LV) (hl : args.length = i84.nargs) : ev (d + 1) 84 args = Ev.finish i84.res (evC (ev d) i84.body (Ev.start args)) := ev_fn (by kernel_rfl) d args hl
theorem s85 (d : Nat) (args : List LV) (hl : args.length = i85.nargs) : ev (d + 1) 85 args = Ev.finish i85.res (evC (ev d) i85.body (Ev.start args)) := ev_fn (by kernel_rfl) d args hl
theorem s88 (d : Nat) (args : List LV) (hl : args.length = i88.nargs) : ev (d + 1) 88 args = Ev.finish i88.res (evC (ev d) i88.body (Ev.start args)) := ev_fn (by kernel_rfl) d args hl
theorem s95 (d : Nat) (args : List LV) (hl : args.length = i95.nargs) : ev (d + 1) 95 args = Ev.finish i95.res (evC (ev d) i95.body (Ev.start args)) := ev_fn (by kernel_rfl) d args hl
theorem q64R (d : Nat) (args : List LV) : ev d 64 args = prim 64 args := evF_prim (by kernel_rfl) (by decide) d args
theorem q64W (d : Nat) (args : List LV) : ev d (wrN + 64) args = prim (wrN + 64) args := evF_primW (by kernel_rfl) tabn (by decide) d args
theorem q64M (d : Nat) (args : List LV) : ev d (mvN + 64) args = prim (mvN + 64) args := evF_primM (by kernel_rfl) tabn (by decide) d args
theorem q48R (d : Nat) (args : List LV) : ev d 48 args = prim 48 args := evF_prim (by kernel_rfl) (by decide) d args
theorem q48W (d : Nat) (args : List LV) : ev d (wrN + 48) args = prim (wrN + 48) args := evF_primW (by kernel_rfl) tabn (by decide) d args
theorem q48M (d : Nat) (args : List LV) : ev d (mvN + 48) args = prim (mvN + 48) args := evF_primM (by kernel_rfl) tabn (by decide) d args
theorem q106R (d : Nat) (args : List LV) : ev d 106 args = prim 106 args := evF_prim (by kernel_rfl) (by decide) d args
theorem q106W (d : Nat) (args : List LV) : ev d (wrN + 106) args = prim (wrN + 106) args := evF_primW (by kernel_rfl) tabn (by decide) d args
theorem q106M (d : Nat) (args : List LV) : ev d (mvN + 106) args = prim (mvN + 106) args := evF_primM (by kernel_rfl) tabn (by decide) d args
end Go.Proofs.YthnkioafikmmaaaDoor.walkS
