/- The functions that some rows reach, turned; no conditions. -/
import Derived.Test.YthnkioafikmmaaaDoorPr
import Derived.KernelRfl
import Derived.Test.YthnkioafikmmaaaDoorProg
namespace Go.Proofs.YthnkioafikmmaaaDoor.walkS
open Go Go.Proofs.YthnkioafikmmaaaDoor.Ev
def i3 : Ev.Fn := ⟨1, 20, [.tmp 2],
 (.seq
 (.reg false [⟨1, .bx (.t 0), none, false⟩,
 ⟨2, .mv (.k (.sc (.bool false))), none, false⟩])
 (.seq
 (.reg false [⟨3, .mv (.k (.sc (.int .i64 1048576))), none, false⟩])
 (.seq
 (.reg false [⟨6, .ld 3 true (.t 1), none, false⟩,
 ⟨7, .mv (.t 3), none, false⟩,
 ⟨8, .ca (.k (.cl 9 [])) [(.t 6), (.t 7)], none, false⟩,
 ⟨3, .mv (.t 8), none, false⟩])
 (.seq
 (.seq
 (.reg false [⟨9, .mv (.t 3), none, false⟩,
 ⟨10, .ar .lss false (.t 9) (.k (.sc (.int .i64 0))), none, false⟩])
 (.ite (.t 10)
 (.seq
 (.reg false [⟨2, .mv (.k (.sc (.bool true))), none, false⟩])
 .ret)
 .skip))
 (.seq
 (.reg false [⟨11, .ld 3 true (.t 1), none, false⟩,
 ⟨12, .ca (.k (.cl 11 [])) [(.t 11)], none, false⟩,
 ⟨13, .ca (.k (.cl 10 [])) [(.t 12)], none, false⟩,
 ⟨4, .mv (.t 13), none, false⟩])
 (.seq
 (.reg false [⟨14, .ld 3 true (.t 1), none, false⟩,
 ⟨15, .ca (.k (.cl 11 [])) [(.t 14)], none, false⟩,
 ⟨16, .ca (.k (.cl 12 [])) [(.t 15)], none, false⟩,
 ⟨5, .mv (.t 16), none, false⟩])
 (.seq
 (.seq
 (.reg false [⟨17, .mv (.t 5), none, false⟩,
 ⟨18, .mv (.t 4), none, false⟩,
 ⟨19, .ar .neq false (.t 17) (.t 18), none, false⟩])
 (.ite (.t 19)
 (.seq
 (.reg false [⟨2, .mv (.k (.sc (.bool false))), none, false⟩])
 .ret)
 .skip))
 (.seq
 (.reg false [⟨2, .mv (.k (.sc (.bool true))), none, false⟩])
 .ret))))))))⟩
attribute [simp] i3
set_option maxRecDepth 1000000 in
theorem c3 : cFn Tryd.prog 3 [[]] = some i3 := by kernel_rfl
theorem e3 : enterOk Tryd.prog 3 = true := by kernel_rfl
def i9 : Ev.Fn := ⟨2, 13, [.tmp 4],
 (.seq
 (.reg false [⟨2, .bx (.t 0), none, false⟩,
 ⟨4, .mv (.k (.sc (.int .i64 0))), none, false⟩])
 (.seq
 (.reg false [⟨5, .mv (.t 1), none, false⟩,
 ⟨6, .fa 0 (.t 2), none, false⟩,
 ⟨7, .ld 1 false (.t 6), none, false⟩,
 ⟨8, .ln true (.t 7), none, false⟩,
 ⟨9, .ar .sub false (.t 5) (.t 8), none, false⟩,
 ⟨1, .mv (.t 9), none, false⟩])
 (.seq
 (.seq
 (.reg false [⟨10, .mv (.t 1), none, false⟩,
 ⟨11, .ar .lss false (.t 10) (.k (.sc (.int .i64 0))), none, false⟩])
 (.ite (.t 11)
 (.seq
 (.reg false [⟨4, .mv (.k (.sc (.int .i64 (-1)))), none, false⟩])
 .ret)
 .skip))
 (.seq
 (.reg false [⟨12, .mv (.t 1), none, false⟩,
 ⟨4, .mv (.t 12), none, false⟩])
 .ret))))⟩
attribute [simp] i9
set_option maxRecDepth 1000000 in
theorem c9 : cFn Tryd.prog 9 [[]] = some i9 := by kernel_rfl
theorem e9 : enterOk Tryd.prog 9 = true := by kernel_rfl
def i10 : Ev.Fn := ⟨1, 6, [.tmp 2],
 (.seq
 (.reg false [⟨1, .bx (.t 0), none, false⟩,
 ⟨2, .mv (.k (.sc (.string ⟨#[]⟩))), none, false⟩])
 (.seq
 (.seq
 (.reg false [⟨3, .ca (.k (.cl 31 [])) [(.t 1)], none, false⟩,
 ⟨4, .nt (.t 3), none, false⟩])
 (.ite (.t 4)
 (.seq
 (.reg false [⟨2, .mv (.k (.sc (.string ⟨#[]⟩))), none, false⟩])
 .ret)
 .skip))
 (.seq
 (.reg false [⟨5, .ca (.k (.cl 32 [])) [(.t 1)], none, false⟩,
 ⟨2, .mv (.t 5), none, false⟩])
 .ret)))⟩
attribute [simp] i10
set_option maxRecDepth 1000000 in
theorem c10 : cFn Tryd.prog 10 [[]] = some i10 := by kernel_rfl
theorem e10 : enterOk Tryd.prog 10 = true := by kernel_rfl
def i11 : Ev.Fn := ⟨1, 14, [.cell 2 3 true],
 (.seq
 (.reg false [⟨1, .bx (.t 0), none, false⟩,
 ⟨2, .al [(.sc (.string ⟨#[]⟩)), (.sc (.int .i64 0)), (.sc (.int .i64 0))], none, false⟩])
 (.seq
 (.reg false [⟨3, .al [(.sc (.string ⟨#[]⟩)), (.sc (.int .i64 0)), (.sc (.int .i64 0))], none, false⟩])
 (.seq
 (.reg false [⟨4, .fa 0 (.t 1), none, false⟩,
 ⟨5, .ld 1 false (.t 4), none, false⟩,
 ⟨6, .fa 0 (.t 3), none, false⟩,
 ⟨1, .so 1 (.t 6) (.t 5), none, true⟩])
 (.seq
 (.reg false [⟨7, .fa 1 (.t 1), none, false⟩,
 ⟨8, .ld 1 false (.t 7), none, false⟩,
 ⟨9, .fa 1 (.t 3), none, false⟩,
 ⟨1, .so 1 (.t 9) (.t 8), none, true⟩])
 (.seq
 (.reg false [⟨10, .fa 2 (.t 1), none, false⟩,
 ⟨11, .ld 1 false (.t 10), none, false⟩,
 ⟨12, .fa 2 (.t 3), none, false⟩,
 ⟨1, .so 1 (.t 12) (.t 11), none, true⟩])
 (.seq
 (.reg false [⟨13, .ld 3 true (.t 3), none, false⟩,
 ⟨1, .so 3 (.t 2) (.t 13), none, true⟩])
 .ret))))))⟩
attribute [simp] i11
set_option maxRecDepth 1000000 in
theorem c11 : cFn Tryd.prog 11 [[]] = some i11 := by kernel_rfl
theorem e11 : enterOk Tryd.prog 11 = true := by kernel_rfl
def i12 : Ev.Fn := ⟨1, 18, [.tmp 2],
 (.seq
 (.reg false [⟨1, .bx (.t 0), none, false⟩,
 ⟨2, .mv (.k (.sc (.string ⟨#[]⟩))), none, false⟩])
 (.seq
 (.seq
 (.reg false [⟨3, .ld 3 true (.t 1), none, false⟩,
 ⟨4, .ca (.k (.cl 33 [])) [(.t 3)], none, false⟩,
 ⟨5, .nt (.t 4), none, false⟩])
 (.ite (.t 5)
 (.seq
 (.reg false [⟨2, .mv (.k (.sc (.string ⟨#[]⟩))), none, false⟩])
 .ret)
 .skip))
 (.seq
 (.reg true [⟨6, .fa 0 (.t 1), none, false⟩,
 ⟨7, .ld 1 false (.t 6), none, false⟩,
 ⟨8, .ar .add false (.t 7) (.k (.sc (.string ⟨#[32]⟩))), none, false⟩,
 ⟨9, .fa 1 (.t 1), none, false⟩,
 ⟨10, .ld 1 false (.t 9), none, false⟩,
 ⟨11, .ca (.k (.cl 34 [])) [(.t 10)], none, false⟩,
 ⟨12, .ar .add false (.t 8) (.t 11), none, false⟩,
 ⟨13, .ar .add false (.t 12) (.k (.sc (.string ⟨#[32]⟩))), none, false⟩,
 ⟨14, .fa 2 (.t 1), none, false⟩,
 ⟨15, .ld 1 false (.t 14), none, false⟩,
 ⟨16, .ca (.k (.cl 34 [])) [(.t 15)], none, false⟩,
 ⟨17, .ar .add false (.t 13) (.t 16), none, false⟩,
 ⟨2, .mv (.t 17), none, false⟩])
 .ret)))⟩
attribute [simp] i12
set_option maxRecDepth 1000000 in
theorem c12 : cFn Tryd.prog 12 [[]] = some i12 := by kernel_rfl
theorem e12 : enterOk Tryd.prog 12 = true := by kernel_rfl
def i31 : Ev.Fn := ⟨1, 42, [.tmp 2],
 (.seq
 (.reg false [⟨2, .mv (.k (.sc (.bool false))), none, false⟩])
 (.seq
 (.reg false [⟨5, .mv (.t 0), none, false⟩,
 ⟨6, .nc (.t 5), none, false⟩,
 ⟨7, .fa 0 (.t 6), none, false⟩,
 ⟨8, .ld 1 false (.t 7), none, false⟩,
 ⟨9, .ca (.k (.cl 57 [])) [(.t 8)], none, false⟩,
 ⟨3, .mv (.t 9), none, false⟩])
 (.seq
 (.seq
 (.reg false [⟨10, .mv (.t 3), none, false⟩,
 ⟨11, .ar .lss false (.t 10) (.k (.sc (.int .i64 0))), none, false⟩,
 ⟨12, .mv (.t 11), none, false⟩,
 ⟨13, .mv (.t 0), (some (12, false)), false⟩,
 ⟨14, .nc (.t 13), (some (12, false)), false⟩,
 ⟨15, .fa 1 (.t 14), (some (12, false)), false⟩,
 ⟨16, .ld 1 false (.t 15), (some (12, false)), false⟩,
 ⟨17, .ca (.k (.cl 58 [])) [(.t 16), (.k (.sc (.int .i64 0))), (.k (.sc (.int .i64 100)))], (some (12, false)), false⟩,
 ⟨18, .nt (.t 17), (some (12, false)), false⟩,
 ⟨19, .pk (.t 12) (.k (.sc (.bool true))) (.t 18), none, false⟩])
 (.ite (.t 19)
 (.seq
 (.reg false [⟨2, .mv (.k (.sc (.bool false))), none, false⟩])
 .ret)
 .skip))
 (.seq
 (.reg false [⟨20, .ca (.k (.cl 59 [])) [], none, false⟩,
 ⟨21, .mv (.t 3), none, false⟩,
 ⟨22, .ia 1 (.t 20) (.t 21), none, false⟩,
 ⟨23, .ld 1 false (.t 22), none, false⟩,
 ⟨24, .ia 1 (.t 23) (.k (.sc (.int .i64 0))), none, false⟩,
 ⟨25, .ld 1 false (.t 24), none, false⟩,
 ⟨4, .mv (.t 25), none, false⟩])
 (.seq
 (.reg false [⟨26, .mv (.t 0), none, false⟩,
 ⟨27, .nc (.t 26), none, false⟩,
 ⟨28, .fa 1 (.t 27), none, false⟩,
 ⟨29, .ld 1 false (.t 28), none, false⟩,
 ⟨30, .mv (.t 4), none, false⟩,
 ⟨31, .ar .sub false (.t 30) (.k (.sc (.int .i64 15))), none, false⟩,
 ⟨32, .mv (.t 4), none, false⟩,
 ⟨33, .ar .add false (.t 32) (.k (.sc (.int .i64 15))), none, false⟩,
 ⟨34, .ca (.k (.cl 58 [])) [(.t 29), (.t 31), (.t 33)], none, false⟩,
 ⟨35, .mv (.t 34), none, false⟩,
 ⟨36, .mv (.t 0), (some (35, true)), false⟩,
 ⟨37, .nc (.t 36), (some (35, true)), false⟩,
 ⟨38, .fa 2 (.t 37), (some (35, true)), false⟩,
 ⟨39, .ld 1 false (.t 38), (some (35, true)), false⟩,
 ⟨40, .ca (.k (.cl 60 [])) [(.t 39)], (some (35, true)), false⟩,
 ⟨41, .pk (.t 35) (.t 40) (.k (.sc (.bool false))), none, false⟩,
 ⟨2, .mv (.t 41), none, false⟩])
 .ret)))))⟩
attribute [simp] i31
set_option maxRecDepth 1000000 in
theorem c31 : cFn Tryd.prog 31 [[]] = some i31 := by kernel_rfl
theorem e31 : enterOk Tryd.prog 31 = true := by kernel_rfl
def i32 : Ev.Fn := ⟨1, 21, [.tmp 2],
 (.seq
 (.reg false [⟨2, .mv (.k (.sc (.string ⟨#[]⟩))), none, false⟩])
 (.seq
 (.reg true [⟨3, .mv (.t 0), none, false⟩,
 ⟨4, .nc (.t 3), none, false⟩,
 ⟨5, .fa 0 (.t 4), none, false⟩,
 ⟨6, .ld 1 false (.t 5), none, false⟩,
 ⟨7, .ar .add false (.t 6) (.k (.sc (.string ⟨#[32]⟩))), none, false⟩,
 ⟨8, .mv (.t 0), none, false⟩,
 ⟨9, .nc (.t 8), none, false⟩,
 ⟨10, .fa 1 (.t 9), none, false⟩,
 ⟨11, .ld 1 false (.t 10), none, false⟩,
 ⟨12, .ca (.k (.cl 61 [])) [(.t 11)], none, false⟩,
 ⟨13, .ar .add false (.t 7) (.t 12), none, false⟩,
 ⟨14, .ar .add false (.t 13) (.k (.sc (.string ⟨#[32]⟩))), none, false⟩,
 ⟨15, .mv (.t 0), none, false⟩,
 ⟨16, .nc (.t 15), none, false⟩,
 ⟨17, .fa 2 (.t 16), none, false⟩,
 ⟨18, .ld 1 false (.t 17), none, false⟩,
 ⟨19, .ca (.k (.cl 61 [])) [(.t 18)], none, false⟩,
 ⟨20, .ar .add false (.t 14) (.t 19), none, false⟩,
 ⟨2, .mv (.t 20), none, false⟩])
 .ret))⟩
attribute [simp] i32
set_option maxRecDepth 1000000 in
theorem c32 : cFn Tryd.prog 32 [[]] = some i32 := by kernel_rfl
theorem e32 : enterOk Tryd.prog 32 = true := by kernel_rfl
def i33 : Ev.Fn := ⟨1, 29, [.tmp 2],
 (.seq
 (.reg false [⟨1, .bx (.t 0), none, false⟩,
 ⟨2, .mv (.k (.sc (.bool false))), none, false⟩])
 (.seq
 (.reg false [⟨6, .fa 0 (.t 1), none, false⟩,
 ⟨7, .ld 1 false (.t 6), none, false⟩,
 ⟨8, .ca (.k (.cl 62 [])) [(.t 7)], none, false⟩,
 ⟨5, .mv (.t 8), none, false⟩,
 ⟨9, .xt (.t 5) 0, none, false⟩,
 ⟨10, .xt (.t 5) 1, none, false⟩,
 ⟨3, .mv (.t 9), none, false⟩,
 ⟨4, .mv (.t 10), none, false⟩])
 (.seq
 (.reg false [⟨11, .mv (.t 4), none, false⟩,
 ⟨12, .mv (.t 11), none, false⟩,
 ⟨13, .fa 1 (.t 1), (some (12, true)), false⟩,
 ⟨14, .ld 1 false (.t 13), (some (12, true)), false⟩,
 ⟨15, .ca (.k (.cl 63 [])) [(.t 14), (.k (.sc (.int .i64 0))), (.k (.sc (.int .i64 100)))], (some (12, true)), false⟩,
 ⟨16, .pk (.t 12) (.t 15) (.k (.sc (.bool false))), none, false⟩,
 ⟨17, .mv (.t 16), none, false⟩,
 ⟨18, .fa 1 (.t 1), (some (17, true)), false⟩,
 ⟨19, .ld 1 false (.t 18), (some (17, true)), false⟩,
 ⟨20, .mv (.t 3), (some (17, true)), false⟩,
 ⟨21, .ar .sub false (.t 19) (.t 20), (some (17, true)), false⟩,
 ⟨22, .ca (.k (.cl 63 [])) [(.t 21), (.k (.sc (.int .i64 (-15)))), (.k (.sc (.int .i64 15)))], (some (17, true)), false⟩,
 ⟨23, .pk (.t 17) (.t 22) (.k (.sc (.bool false))), none, false⟩,
 ⟨24, .mv (.t 23), none, false⟩,
 ⟨25, .fa 2 (.t 1), (some (24, true)), false⟩,
 ⟨26, .ld 1 false (.t 25), (some (24, true)), false⟩,
 ⟨27, .ca (.k (.cl 63 [])) [(.t 26), (.k (.sc (.int .i64 0))), (.k (.sc (.int .i64 179)))], (some (24, true)), false⟩,
 ⟨28, .pk (.t 24) (.t 27) (.k (.sc (.bool false))), none, false⟩,
 ⟨2, .mv (.t 28), none, false⟩])
 .ret)))⟩
attribute [simp] i33
set_option maxRecDepth 1000000 in
theorem c33 : cFn Tryd.prog 33 [[]] = some i33 := by kernel_rfl
theorem e33 : enterOk Tryd.prog 33 = true := by kernel_rfl
def i34 : Ev.Fn := ⟨1, 5, [.tmp 2],
 (.seq
 (.reg false [⟨2, .mv (.k (.sc (.string ⟨#[]⟩))), none, false⟩])
 (.seq
 (.reg false [⟨3, .mv (.t 0), none, false⟩,
 ⟨4, .ca (.k (.cl 64 [])) [(.t 3), (.k (.sc (.int .i64 10)))], none, false⟩,
 ⟨2, .mv (.t 4), none, false⟩])
 .ret))⟩
attribute [simp] i34
set_option maxRecDepth 1000000 in
theorem c34 : cFn Tryd.prog 34 [[]] = some i34 := by kernel_rfl
theorem e34 : enterOk Tryd.prog 34 = true := by kernel_rfl
def w57_1 : IC :=
(.seq
 (.seq
 (.reg false [⟨6, .mv (.t 4), none, false⟩,
 ⟨7, .mv (.t 3), none, false⟩,
 ⟨8, .ln false (.t 7), none, false⟩,
 ⟨9, .ar .lss false (.t 6) (.t 8), none, false⟩])
 (.ite (.t 9)
 .skip
 (.exit 0)))
 (.seq
 (.block 1
 (.seq
 (.reg false [⟨12, .mv (.t 3), none, false⟩,
 ⟨13, .mv (.t 4), none, false⟩,
 ⟨14, .ia 1 (.t 12) (.t 13), none, false⟩,
 ⟨15, .ld 1 false (.t 14), none, false⟩,
 ⟨16, .mv (.t 0), none, false⟩,
 ⟨17, .ar .eql false (.t 15) (.t 16), none, false⟩])
 (.ite (.t 17)
 (.seq
 (.reg false [⟨18, .mv (.t 4), none, false⟩,
 ⟨2, .mv (.t 18), none, false⟩])
 .ret)
 .skip)))
 (.reg false [⟨10, .mv (.t 4), none, false⟩,
 ⟨11, .ar .add false (.t 10) (.k (.sc (.int .i64 1))), none, false⟩,
 ⟨4, .mv (.t 11), none, false⟩])))
def b57_1 : IC := w57_1
theorem u57_1 (call : CallF) (st : St) : evC call b57_1 st = evC call w57_1 st := rfl
attribute [simp] u57_1 w57_1
def i57 : Ev.Fn := ⟨1, 19, [.tmp 2],
 (.seq
 (.reg false [⟨2, .mv (.k (.sc (.int .i64 0))), none, false⟩])
 (.seq
 (.reg false [⟨5, .ca (.k (.cl 84 [])) [], none, false⟩,
 ⟨3, .mv (.t 5), none, false⟩])
 (.seq
 (.seq
 (.reg false [⟨4, .mv (.k (.sc (.int .i64 0))), none, false⟩])
 (.cln [] [2]
 (.block 0
 (.loop [0, 3, 4] b57_1))))
 (.seq
 (.reg false [⟨2, .mv (.k (.sc (.int .i64 (-1)))), none, false⟩])
 .ret))))⟩
attribute [simp] i57
set_option maxRecDepth 1000000 in
theorem c57 : cFn Tryd.prog 57 [[], [0, 3, 4], [], [2]] = some i57 := by kernel_rfl
theorem e57 : enterOk Tryd.prog 57 = true := by kernel_rfl
def i58 : Ev.Fn := ⟨3, 15, [.tmp 6],
 (.seq
 (.reg false [⟨6, .mv (.k (.sc (.bool false))), none, false⟩])
 (.seq
 (.reg false [⟨7, .mv (.t 0), none, false⟩,
 ⟨8, .mv (.t 1), none, false⟩,
 ⟨9, .ar .geq false (.t 7) (.t 8), none, false⟩,
 ⟨10, .mv (.t 9), none, false⟩,
 ⟨11, .mv (.t 0), (some (10, true)), false⟩,
 ⟨12, .mv (.t 2), (some (10, true)), false⟩,
 ⟨13, .ar .leq false (.t 11) (.t 12), (some (10, true)), false⟩,
 ⟨14, .pk (.t 10) (.t 13) (.k (.sc (.bool false))), none, false⟩,
 ⟨6, .mv (.t 14), none, false⟩])
 .ret))⟩
attribute [simp] i58
set_option maxRecDepth 1000000 in
theorem c58 : cFn Tryd.prog 58 [[]] = some i58 := by kernel_rfl
theorem e58 : enterOk Tryd.prog 58 = true := by kernel_rfl
def i59 : Ev.Fn := ⟨0, 12, [.tmp 0],
 (.seq
 (.reg false [⟨0, .mv (.k .nl), none, false⟩])
 (.seq
 (.reg false [⟨1, .bs 2 1 [(.sc (.int .i64 0))] 3 [(0, (.k (.sc (.int .i64 20)))), (1, (.k (.sc (.int .i64 40)))), (2, (.k (.sc (.int .i64 310))))], none, false⟩,
 ⟨2, .bs 2 1 [(.sc (.int .i64 0))] 3 [(0, (.k (.sc (.int .i64 35)))), (1, (.k (.sc (.int .i64 45)))), (2, (.k (.sc (.int .i64 410))))], none, false⟩,
 ⟨3, .bs 2 1 [(.sc (.int .i64 0))] 3 [(0, (.k (.sc (.int .i64 15)))), (1, (.k (.sc (.int .i64 33)))), (2, (.k (.sc (.int .i64 280))))], none, false⟩,
 ⟨4, .bs 2 1 [(.sc (.int .i64 0))] 3 [(0, (.k (.sc (.int .i64 50)))), (1, (.k (.sc (.int .i64 36)))), (2, (.k (.sc (.int .i64 240))))], none, false⟩,
 ⟨5, .bs 2 1 [(.sc (.int .i64 0))] 3 [(0, (.k (.sc (.int .i64 95)))), (1, (.k (.sc (.int .i64 85)))), (2, (.k (.sc (.int .i64 270))))], none, false⟩,
 ⟨6, .bs 2 1 [(.sc (.int .i64 0))] 3 [(0, (.k (.sc (.int .i64 5)))), (1, (.k (.sc (.int .i64 35)))), (2, (.k (.sc (.int .i64 370))))], none, false⟩,
 ⟨7, .bs 2 1 [(.sc (.int .i64 0))] 3 [(0, (.k (.sc (.int .i64 10)))), (1, (.k (.sc (.int .i64 42)))), (2, (.k (.sc (.int .i64 290))))], none, false⟩,
 ⟨8, .bs 2 1 [(.sc (.int .i64 0))] 3 [(0, (.k (.sc (.int .i64 40)))), (1, (.k (.sc (.int .i64 40)))), (2, (.k (.sc (.int .i64 330))))], none, false⟩,
 ⟨9, .bs 2 1 [(.sc (.int .i64 0))] 3 [(0, (.k (.sc (.int .i64 80)))), (1, (.k (.sc (.int .i64 60)))), (2, (.k (.sc (.int .i64 220))))], none, false⟩,
 ⟨10, .bs 2 1 [(.sc (.int .i64 0))] 3 [(0, (.k (.sc (.int .i64 70)))), (1, (.k (.sc (.int .i64 38)))), (2, (.k (.sc (.int .i64 260))))], none, false⟩,
 ⟨11, .bw 66 1 [.nl] 10 [(0, (.t 1)), (1, (.t 2)), (2, (.t 3)), (3, (.t 4)), (4, (.t 5)), (5, (.t 6)), (6, (.t 7)), (7, (.t 8)), (8, (.t 9)), (9, (.t 10))], none, false⟩,
 ⟨0, .mv (.t 11), none, false⟩])
 .ret))⟩
attribute [simp] i59
set_option maxRecDepth 1000000 in
theorem c59 : cFn Tryd.prog 59 [[]] = some i59 := by kernel_rfl
theorem e59 : enterOk Tryd.prog 59 = true := by kernel_rfl
def i60 : Ev.Fn := ⟨1, 5, [.tmp 2],
 (.seq
 (.reg false [⟨2, .mv (.k (.sc (.bool false))), none, false⟩])
 (.seq
 (.reg false [⟨3, .mv (.t 0), none, false⟩,
 ⟨4, .ca (.k (.cl 58 [])) [(.t 3), (.k (.sc (.int .i64 0))), (.k (.sc (.int .i64 179)))], none, false⟩,
 ⟨2, .mv (.t 4), none, false⟩])
 .ret))⟩
attribute [simp] i60
set_option maxRecDepth 1000000 in
theorem c60 : cFn Tryd.prog 60 [[]] = some i60 := by kernel_rfl
theorem e60 : enterOk Tryd.prog 60 = true := by kernel_rfl
def w61_1 : IC :=
(.seq
 (.seq
 (.reg false [⟨12, .mv (.t 4), none, false⟩,
 ⟨13, .ar .neq false (.t 12) (.k (.sc (.int .i64 0))), none, false⟩])
 (.ite (.t 13)
 .skip
 (.exit 0)))
 (.seq
 (.block 1
 (.seq
 (.reg false [⟨16, .mv (.t 4), none, false⟩,
 ⟨17, .ar .rem false (.t 16) (.k (.sc (.int .i64 10))), none, false⟩,
 ⟨5, .mv (.t 17), none, false⟩])
 (.seq
 (.seq
 (.reg false [⟨18, .mv (.t 5), none, false⟩,
 ⟨19, .ar .lss false (.t 18) (.k (.sc (.int .i64 0))), none, false⟩])
 (.ite (.t 19)
 (.reg false [⟨20, .mv (.t 5), none, false⟩,
 ⟨21, .ng (.t 20), none, false⟩,
 ⟨5, .mv (.t 21), none, false⟩])
 .skip))
 (.reg false [⟨22, .mv (.t 3), none, false⟩,
 ⟨23, .mv (.t 5), none, false⟩,
 ⟨24, .ar .add false (.k (.sc (.int .i64 48))) (.t 23), none, false⟩,
 ⟨25, .cv .u8 (.t 24), none, false⟩,
 ⟨26, .bs 5 1 [(.sc (.int .u8 0))] 1 [(0, (.t 25))], none, false⟩,
 ⟨27, .ap 5 1 false (.t 22) (.t 26), none, false⟩,
 ⟨3, .mv (.t 27), none, false⟩]))))
 (.reg false [⟨14, .mv (.t 4), none, false⟩,
 ⟨15, .ar .quo false (.t 14) (.k (.sc (.int .i64 10))), none, false⟩,
 ⟨4, .mv (.t 15), none, false⟩])))
def b61_1 : IC := w61_1
theorem u61_1 (call : CallF) (st : St) : evC call b61_1 st = evC call w61_1 st := rfl
attribute [simp] u61_1 w61_1
def w61_2 : IC :=
(.seq
 (.seq
 (.reg false [⟨37, .mv (.t 7), none, false⟩,
 ⟨38, .ar .geq false (.t 37) (.k (.sc (.int .i64 0))), none, false⟩])
 (.ite (.t 38)
 .skip
 (.exit 2)))
 (.seq
 (.block 3
 (.reg false [⟨41, .mv (.t 6), none, false⟩,
 ⟨42, .mv (.t 3), none, false⟩,
 ⟨43, .mv (.t 7), none, false⟩,
 ⟨44, .ia 1 (.t 42) (.t 43), none, false⟩,
 ⟨45, .ld 1 false (.t 44), none, false⟩,
 ⟨46, .bs 5 1 [(.sc (.int .u8 0))] 1 [(0, (.t 45))], none, false⟩,
 ⟨47, .ap 5 1 false (.t 41) (.t 46), none, false⟩,
 ⟨6, .mv (.t 47), none, false⟩]))
 (.reg false [⟨39, .mv (.t 7), none, false⟩,
 ⟨40, .ar .sub false (.t 39) (.k (.sc (.int .i64 1))), none, false⟩,
 ⟨7, .mv (.t 40), none, false⟩])))
def b61_2 : IC := w61_2
theorem u61_2 (call : CallF) (st : St) : evC call b61_2 st = evC call w61_2 st := rfl
attribute [simp] u61_2 w61_2
def i61 : Ev.Fn := ⟨1, 50, [.tmp 2],
 (.seq
 (.reg false [⟨2, .mv (.k (.sc (.string ⟨#[]⟩))), none, false⟩])
 (.seq
 (.seq
 (.reg false [⟨8, .mv (.t 0), none, false⟩,
 ⟨9, .ar .eql false (.t 8) (.k (.sc (.int .i64 0))), none, false⟩])
 (.ite (.t 9)
 (.seq
 (.reg false [⟨2, .mv (.k (.sc (.string ⟨#[48]⟩))), none, false⟩])
 .ret)
 .skip))
 (.seq
 (.reg false [⟨10, .bs 5 1 [(.sc (.int .u8 0))] 0 [], none, false⟩,
 ⟨3, .mv (.t 10), none, false⟩])
 (.seq
 (.seq
 (.reg false [⟨11, .mv (.t 0), none, false⟩,
 ⟨4, .mv (.t 11), none, false⟩])
 (.cln [0, 3] [2]
 (.block 0
 (.loop [0, 3, 4] b61_1))))
 (.seq
 (.seq
 (.reg false [⟨28, .mv (.t 0), none, false⟩,
 ⟨29, .ar .lss false (.t 28) (.k (.sc (.int .i64 0))), none, false⟩])
 (.ite (.t 29)
 (.reg false [⟨30, .mv (.t 3), none, false⟩,
 ⟨31, .bs 5 1 [(.sc (.int .u8 0))] 1 [(0, (.k (.sc (.int .u8 45))))], none, false⟩,
 ⟨32, .ap 5 1 false (.t 30) (.t 31), none, false⟩,
 ⟨3, .mv (.t 32), none, false⟩])
 .skip))
 (.seq
 (.reg false [⟨33, .bs 5 1 [(.sc (.int .u8 0))] 0 [], none, false⟩,
 ⟨6, .mv (.t 33), none, false⟩])
 (.seq
 (.seq
 (.reg false [⟨34, .mv (.t 3), none, false⟩,
 ⟨35, .ln false (.t 34), none, false⟩,
 ⟨36, .ar .sub false (.t 35) (.k (.sc (.int .i64 1))), none, false⟩,
 ⟨7, .mv (.t 36), none, false⟩])
 (.cln [6] [2]
 (.block 2
 (.loop [3, 6, 7] b61_2))))
 (.seq
 (.reg false [⟨48, .mv (.t 6), none, false⟩,
 ⟨49, .by (.t 48), none, false⟩,
 ⟨2, .mv (.t 49), none, false⟩])
 .ret))))))))⟩
attribute [simp] i61
set_option maxRecDepth 1000000 in
theorem c61 : cFn Tryd.prog 61 [[], [0, 3, 4], [0, 3], [2], [3, 6, 7], [6], [2]] = some i61 := by kernel_rfl
theorem e61 : enterOk Tryd.prog 61 = true := by kernel_rfl
def i62 : Ev.Fn := ⟨1, 18, [.tmp 2, .tmp 3],
 (.seq
 (.reg false [⟨2, .mv (.k (.sc (.int .i64 0))), none, false⟩,
 ⟨3, .mv (.k (.sc (.bool false))), none, false⟩])
 (.seq
 (.reg false [⟨9, .mv (.t 0), none, false⟩,
 ⟨10, .ca (.k (.cl 85 [])) [(.t 9)], none, false⟩,
 ⟨8, .mv (.t 10), none, false⟩,
 ⟨11, .xt (.t 8) 0, none, false⟩,
 ⟨12, .xt (.t 8) 1, none, false⟩,
 ⟨13, .xt (.t 8) 2, none, false⟩,
 ⟨14, .xt (.t 8) 3, none, false⟩,
 ⟨4, .mv (.t 11), none, false⟩,
 ⟨5, .mv (.t 12), none, false⟩,
 ⟨6, .mv (.t 13), none, false⟩,
 ⟨7, .mv (.t 14), none, false⟩])
 (.seq
 (.reg false [⟨15, .mv (.t 4), none, false⟩,
 ⟨16, .mv (.t 7), none, false⟩,
 ⟨17, .ar .eql false (.t 16) (.k (.sc (.int .i64 0))), none, false⟩,
 ⟨2, .mv (.t 15), none, false⟩,
 ⟨3, .mv (.t 17), none, false⟩])
 .ret)))⟩
attribute [simp] i62
set_option maxRecDepth 1000000 in
theorem c62 : cFn Tryd.prog 62 [[]] = some i62 := by kernel_rfl
theorem e62 : enterOk Tryd.prog 62 = true := by kernel_rfl
def i63 : Ev.Fn := ⟨3, 15, [.tmp 6],
 (.seq
 (.reg false [⟨6, .mv (.k (.sc (.bool false))), none, false⟩])
 (.seq
 (.reg false [⟨7, .mv (.t 0), none, false⟩,
 ⟨8, .mv (.t 1), none, false⟩,
 ⟨9, .ar .geq false (.t 7) (.t 8), none, false⟩,
 ⟨10, .mv (.t 9), none, false⟩,
 ⟨11, .mv (.t 0), (some (10, true)), false⟩,
 ⟨12, .mv (.t 2), (some (10, true)), false⟩,
 ⟨13, .ar .leq false (.t 11) (.t 12), (some (10, true)), false⟩,
 ⟨14, .pk (.t 10) (.t 13) (.k (.sc (.bool false))), none, false⟩,
 ⟨6, .mv (.t 14), none, false⟩])
 .ret))⟩
attribute [simp] i63
set_option maxRecDepth 1000000 in
theorem c63 : cFn Tryd.prog 63 [[]] = some i63 := by kernel_rfl
theorem e63 : enterOk Tryd.prog 63 = true := by kernel_rfl
def i84 : Ev.Fn := ⟨0, 2, [.tmp 0],
 (.seq
 (.reg false [⟨0, .mv (.k .nl), none, false⟩])
 (.seq
 (.reg false [⟨1, .bs 9 1 [(.sc (.string ⟨#[]⟩))] 10 [(0, (.k (.sc (.string ⟨#[97, 115, 104]⟩)))), (1, (.k (.sc (.string ⟨#[98, 101, 101, 99, 104]⟩)))), (2, (.k (.sc (.string ⟨#[98, 105, 114, 99, 104]⟩)))), (3, (.k (.sc (.string ⟨#[99, 104, 101, 114, 114, 121]⟩)))), (4, (.k (.sc (.string ⟨#[101, 98, 111, 110, 121]⟩)))), (5, (.k (.sc (.string ⟨#[104, 111, 108, 108, 121]⟩)))), (6, (.k (.sc (.string ⟨#[109, 97, 112, 108, 101]⟩)))), (7, (.k (.sc (.string ⟨#[111, 97, 107]⟩)))), (8, (.k (.sc (.string ⟨#[114, 111, 115, 101, 119, 111, 111, 100]⟩)))), (9, (.k (.sc (.string ⟨#[119, 97, 108, 110, 117, 116]⟩))))], none, false⟩,
 ⟨0, .mv (.t 1), none, false⟩])
 .ret))⟩
attribute [simp] i84
set_option maxRecDepth 1000000 in
theorem c84 : cFn Tryd.prog 84 [[]] = some i84 := by kernel_rfl
theorem e84 : enterOk Tryd.prog 84 = true := by kernel_rfl
def i85 : Ev.Fn := ⟨1, 27, [.tmp 2, .tmp 3, .tmp 4, .tmp 5],
 (.seq
 (.reg false [⟨2, .mv (.k (.sc (.int .i64 0))), none, false⟩,
 ⟨3, .mv (.k (.sc (.int .i64 0))), none, false⟩,
 ⟨4, .mv (.k (.sc (.int .i64 0))), none, false⟩,
 ⟨5, .mv (.k (.sc (.int .i64 0))), none, false⟩])
 (.seq
 (.seq
 (.reg false [⟨6, .mv (.t 0), none, false⟩])
 (.block 0
 (.seq
 (.reg false [⟨8, .ar .eql false (.t 6) (.k (.sc (.string ⟨#[97, 115, 104]⟩))), none, false⟩,
 ⟨7, .mv (.t 8), none, false⟩])
 (.ite (.t 7)
 (.seq
 (.reg false [⟨2, .mv (.k (.sc (.int .i64 20))), none, false⟩,
 ⟨3, .mv (.k (.sc (.int .i64 40))), none, false⟩,
 ⟨4, .mv (.k (.sc (.int .i64 310))), none, false⟩,
 ⟨5, .mv (.k (.sc (.int .i64 0))), none, false⟩])
 .ret)
 (.seq
 (.reg false [⟨10, .ar .eql false (.t 6) (.k (.sc (.string ⟨#[98, 101, 101, 99, 104]⟩))), none, false⟩,
 ⟨9, .mv (.t 10), none, false⟩])
 (.ite (.t 9)
 (.seq
 (.reg false [⟨2, .mv (.k (.sc (.int .i64 35))), none, false⟩,
 ⟨3, .mv (.k (.sc (.int .i64 45))), none, false⟩,
 ⟨4, .mv (.k (.sc (.int .i64 410))), none, false⟩,
 ⟨5, .mv (.k (.sc (.int .i64 0))), none, false⟩])
 .ret)
 (.seq
 (.reg false [⟨12, .ar .eql false (.t 6) (.k (.sc (.string ⟨#[98, 105, 114, 99, 104]⟩))), none, false⟩,
 ⟨11, .mv (.t 12), none, false⟩])
 (.ite (.t 11)
 (.seq
 (.reg false [⟨2, .mv (.k (.sc (.int .i64 15))), none, false⟩,
 ⟨3, .mv (.k (.sc (.int .i64 33))), none, false⟩,
 ⟨4, .mv (.k (.sc (.int .i64 280))), none, false⟩,
 ⟨5, .mv (.k (.sc (.int .i64 0))), none, false⟩])
 .ret)
 (.seq
 (.reg false [⟨14, .ar .eql false (.t 6) (.k (.sc (.string ⟨#[99, 104, 101, 114, 114, 121]⟩))), none, false⟩,
 ⟨13, .mv (.t 14), none, false⟩])
 (.ite (.t 13)
 (.seq
 (.reg false [⟨2, .mv (.k (.sc (.int .i64 50))), none, false⟩,
 ⟨3, .mv (.k (.sc (.int .i64 36))), none, false⟩,
 ⟨4, .mv (.k (.sc (.int .i64 240))), none, false⟩,
 ⟨5, .mv (.k (.sc (.int .i64 0))), none, false⟩])
 .ret)
 (.seq
 (.reg false [⟨16, .ar .eql false (.t 6) (.k (.sc (.string ⟨#[101, 98, 111, 110, 121]⟩))), none, false⟩,
 ⟨15, .mv (.t 16), none, false⟩])
 (.ite (.t 15)
 (.seq
 (.reg false [⟨2, .mv (.k (.sc (.int .i64 95))), none, false⟩,
 ⟨3, .mv (.k (.sc (.int .i64 85))), none, false⟩,
 ⟨4, .mv (.k (.sc (.int .i64 270))), none, false⟩,
 ⟨5, .mv (.k (.sc (.int .i64 0))), none, false⟩])
 .ret)
 (.seq
 (.reg false [⟨18, .ar .eql false (.t 6) (.k (.sc (.string ⟨#[104, 111, 108, 108, 121]⟩))), none, false⟩,
 ⟨17, .mv (.t 18), none, false⟩])
 (.ite (.t 17)
 (.seq
 (.reg false [⟨2, .mv (.k (.sc (.int .i64 5))), none, false⟩,
 ⟨3, .mv (.k (.sc (.int .i64 35))), none, false⟩,
 ⟨4, .mv (.k (.sc (.int .i64 370))), none, false⟩,
 ⟨5, .mv (.k (.sc (.int .i64 0))), none, false⟩])
 .ret)
 (.seq
 (.reg false [⟨20, .ar .eql false (.t 6) (.k (.sc (.string ⟨#[109, 97, 112, 108, 101]⟩))), none, false⟩,
 ⟨19, .mv (.t 20), none, false⟩])
 (.ite (.t 19)
 (.seq
 (.reg false [⟨2, .mv (.k (.sc (.int .i64 10))), none, false⟩,
 ⟨3, .mv (.k (.sc (.int .i64 42))), none, false⟩,
 ⟨4, .mv (.k (.sc (.int .i64 290))), none, false⟩,
 ⟨5, .mv (.k (.sc (.int .i64 0))), none, false⟩])
 .ret)
 (.seq
 (.reg false [⟨22, .ar .eql false (.t 6) (.k (.sc (.string ⟨#[111, 97, 107]⟩))), none, false⟩,
 ⟨21, .mv (.t 22), none, false⟩])
 (.ite (.t 21)
 (.seq
 (.reg false [⟨2, .mv (.k (.sc (.int .i64 40))), none, false⟩,
 ⟨3, .mv (.k (.sc (.int .i64 40))), none, false⟩,
 ⟨4, .mv (.k (.sc (.int .i64 330))), none, false⟩,
 ⟨5, .mv (.k (.sc (.int .i64 0))), none, false⟩])
 .ret)
 (.seq
 (.reg false [⟨24, .ar .eql false (.t 6) (.k (.sc (.string ⟨#[114, 111, 115, 101, 119, 111, 111, 100]⟩))), none, false⟩,
 ⟨23, .mv (.t 24), none, false⟩])
 (.ite (.t 23)
 (.seq
 (.reg false [⟨2, .mv (.k (.sc (.int .i64 80))), none, false⟩,
 ⟨3, .mv (.k (.sc (.int .i64 60))), none, false⟩,
 ⟨4, .mv (.k (.sc (.int .i64 220))), none, false⟩,
 ⟨5, .mv (.k (.sc (.int .i64 0))), none, false⟩])
 .ret)
 (.seq
 (.reg false [⟨26, .ar .eql false (.t 6) (.k (.sc (.string ⟨#[119, 97, 108, 110, 117, 116]⟩))), none, false⟩,
 ⟨25, .mv (.t 26), none, false⟩])
 (.ite (.t 25)
 (.seq
 (.reg false [⟨2, .mv (.k (.sc (.int .i64 70))), none, false⟩,
 ⟨3, .mv (.k (.sc (.int .i64 38))), none, false⟩,
 ⟨4, .mv (.k (.sc (.int .i64 260))), none, false⟩,
 ⟨5, .mv (.k (.sc (.int .i64 0))), none, false⟩])
 .ret)
 .skip))))))))))))))))))))))
 (.seq
 (.reg false [⟨2, .mv (.k (.sc (.int .i64 0))), none, false⟩,
 ⟨3, .mv (.k (.sc (.int .i64 0))), none, false⟩,
 ⟨4, .mv (.k (.sc (.int .i64 0))), none, false⟩,
 ⟨5, .mv (.k (.sc (.int .i64 3))), none, false⟩])
 .ret)))⟩
attribute [simp] i85
set_option maxRecDepth 1000000 in
theorem c85 : cFn Tryd.prog 85 [[]] = some i85 := by kernel_rfl
theorem e85 : enterOk Tryd.prog 85 = true := by kernel_rfl
theorem mixed : Tryd.prog.follows .mixedOrders = true := by kernel_rfl
def Ft : List (Nat × Ev.Fn) := [(3, i3), (9, i9), (10, i10), (11, i11), (12, i12), (31, i31), (32, i32), (33, i33), (34, i34), (57, i57), (58, i58), (59, i59), (60, i60), (61, i61), (62, i62), (63, i63), (84, i84), (85, i85)]
def F : Nat → Option Ev.Fn := getF Ft
noncomputable def ev (d : Nat) : CallF := evF F prim d
theorem ev_fn {f : Nat} {fn : Ev.Fn} (h : F f = some fn) (d : Nat) (args : List LV) (hl : args.length = fn.nargs) : ev (d + 1) f args = Ev.finish fn.res (evC (ev d) fn.body (Ev.start args)) := evF_fn h d args hl
set_option maxRecDepth 1000000 in
theorem tab : ∀ f fn, F f = some fn → enterOk Tryd.prog f = true ∧ ∃ ks, cFn Tryd.prog f ks = some fn :=
  tabF (L := Ft) ⟨⟨e3, _, c3⟩, ⟨e9, _, c9⟩, ⟨e10, _, c10⟩, ⟨e11, _, c11⟩, ⟨e12, _, c12⟩, ⟨e31, _, c31⟩, ⟨e32, _, c32⟩, ⟨e33, _, c33⟩, ⟨e34, _, c34⟩, ⟨e57, _, c57⟩, ⟨e58, _, c58⟩, ⟨e59, _, c59⟩, ⟨e60, _, c60⟩, ⟨e61, _, c61⟩, ⟨e62, _, c62⟩, ⟨e63, _, c63⟩, ⟨e84, _, c84⟩, ⟨e85, _, c85⟩, trivial⟩
theorem tabn : ∀ f fn, F f = some fn → f < wrN := tabN (L := Ft) (by kernel_rfl)
theorem callOk (m : Int) (d : Nat) : CallOk (TT m) Tryd.prog (ev d) := (evF_ok2 mixed tab tabn (prim_ok m) (prim_okW m) d).1
abbrev I (n : Int) : LV := .sc (.int .i64 n)
abbrev B (b : Bool) : LV := .sc (.bool b)
abbrev T (s : ByteArray) : LV := .sc (.string s)
theorem s3 (d : Nat) (args : List LV) (hl : args.length = i3.nargs) : ev (d + 1) 3 args = Ev.finish i3.res (evC (ev d) i3.body (Ev.start args)) := ev_fn (by kernel_rfl) d args hl
theorem s9 (d : Nat) (args : List LV) (hl : args.length = i9.nargs) : ev (d + 1) 9 args = Ev.finish i9.res (evC (ev d) i9.body (Ev.start args)) := ev_fn (by kernel_rfl) d args hl
theorem s10 (d : Nat) (args : List LV) (hl : args.length = i10.nargs) : ev (d + 1) 10 args = Ev.finish i10.res (evC (ev d) i10.body (Ev.start args)) := ev_fn (by kernel_rfl) d args hl
theorem s11 (d : Nat) (args : List LV) (hl : args.length = i11.nargs) : ev (d + 1) 11 args = Ev.finish i11.res (evC (ev d) i11.body (Ev.start args)) := ev_fn (by kernel_rfl) d args hl
theorem s12 (d : Nat) (args : List LV) (hl : args.length = i12.nargs) : ev (d + 1) 12 args = Ev.finish i12.res (evC (ev d) i12.body (Ev.start args)) := ev_fn (by kernel_rfl) d args hl
theorem s31 (d : Nat) (args : List LV) (hl : args.length = i31.nargs) : ev (d + 1) 31 args = Ev.finish i31.res (evC (ev d) i31.body (Ev.start args)) := ev_fn (by kernel_rfl) d args hl
theorem s32 (d : Nat) (args : List LV) (hl : args.length = i32.nargs) : ev (d + 1) 32 args = Ev.finish i32.res (evC (ev d) i32.body (Ev.start args)) := ev_fn (by kernel_rfl) d args hl
theorem s33 (d : Nat) (args : List LV) (hl : args.length = i33.nargs) : ev (d + 1) 33 args = Ev.finish i33.res (evC (ev d) i33.body (Ev.start args)) := ev_fn (by kernel_rfl) d args hl
theorem s34 (d : Nat) (args : List LV) (hl : args.length = i34.nargs) : ev (d + 1) 34 args = Ev.finish i34.res (evC (ev d) i34.body (Ev.start args)) := ev_fn (by kernel_rfl) d args hl
theorem s57 (d : Nat) (args : List LV) (hl : args.length = i57.nargs) : ev (d + 1) 57 args = Ev.finish i57.res (evC (ev d) i57.body (Ev.start args)) := ev_fn (by kernel_rfl) d args hl
theorem s58 (d : Nat) (args : List LV) (hl : args.length = i58.nargs) : ev (d + 1) 58 args = Ev.finish i58.res (evC (ev d) i58.body (Ev.start args)) := ev_fn (by kernel_rfl) d args hl
theorem s59 (d : Nat) (args : List LV) (hl : args.length = i59.nargs) : ev (d + 1) 59 args = Ev.finish i59.res (evC (ev d) i59.body (Ev.start args)) := ev_fn (by kernel_rfl) d args hl
theorem s60 (d : Nat) (args : List LV) (hl : args.length = i60.nargs) : ev (d + 1) 60 args = Ev.finish i60.res (evC (ev d) i60.body (Ev.start args)) := ev_fn (by kernel_rfl) d args hl
theorem s61 (d : Nat) (args : List LV) (hl : args.length = i61.nargs) : ev (d + 1) 61 args = Ev.finish i61.res (evC (ev d) i61.body (Ev.start args)) := ev_fn (by kernel_rfl) d args hl
theorem s62 (d : Nat) (args : List LV) (hl : args.length = i62.nargs) : ev (d + 1) 62 args = Ev.finish i62.res (evC (ev d) i62.body (Ev.start args)) := ev_fn (by kernel_rfl) d args hl
theorem s63 (d : Nat) (args : List LV) (hl : args.length = i63.nargs) : ev (d + 1) 63 args = Ev.finish i63.res (evC (ev d) i63.body (Ev.start args)) := ev_fn (by kernel_rfl) d args hl
theorem s84 (d : Nat) (args : List LV) (hl : args.length = i84.nargs) : ev (d + 1) 84 args = Ev.finish i84.res (evC (ev d) i84.body (Ev.start args)) := ev_fn (by kernel_rfl) d args hl
theorem s85 (d : Nat) (args : List LV) (hl : args.length = i85.nargs) : ev (d + 1) 85 args = Ev.finish i85.res (evC (ev d) i85.body (Ev.start args)) := ev_fn (by kernel_rfl) d args hl
theorem q64R (d : Nat) (args : List LV) : ev d 64 args = prim 64 args := evF_prim (by kernel_rfl) (by decide) d args
theorem q64W (d : Nat) (args : List LV) : ev d (wrN + 64) args = prim (wrN + 64) args := evF_primW (by kernel_rfl) tabn (by decide) d args
theorem q64M (d : Nat) (args : List LV) : ev d (mvN + 64) args = prim (mvN + 64) args := evF_primM (by kernel_rfl) tabn (by decide) d args
end Go.Proofs.YthnkioafikmmaaaDoor.walkS
