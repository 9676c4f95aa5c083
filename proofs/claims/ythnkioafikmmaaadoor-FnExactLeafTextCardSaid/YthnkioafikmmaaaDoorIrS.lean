/- The functions that some rows reach, turned; no conditions. -/
import Derived.Test.YthnkioafikmmaaaDoorPr
import Derived.KernelRfl
import Derived.Test.YthnkioafikmmaaaDoorProg
namespace Go.Proofs.YthnkioafikmmaaaDoor.walkS
open Go Go.Proofs.YthnkioafikmmaaaDoor.Ev
def i5 : Ev.Fn := ⟨1, 27, [.tmp 2],
 (.seq
 (.reg false [⟨1, .bx (.t 0), none, false⟩,
 ⟨2, .mv (.k (.sc (.bool false))), none, false⟩])
 (.seq
 (.reg false [⟨3, .mv (.k (.sc (.int .i64 1048576))), none, false⟩])
 (.seq
 (.reg false [⟨7, .ld 9 true (.t 1), none, false⟩,
 ⟨8, .mv (.t 3), none, false⟩,
 ⟨9, .ca (.k (.cl 16 [])) [(.t 7), (.t 8)], none, false⟩,
 ⟨3, .mv (.t 9), none, false⟩])
 (.seq
 (.seq
 (.reg false [⟨10, .mv (.t 3), none, false⟩,
 ⟨11, .ar .lss false (.t 10) (.k (.sc (.int .i64 0))), none, false⟩])
 (.ite (.t 11)
 (.seq
 (.reg false [⟨2, .mv (.k (.sc (.bool true))), none, false⟩])
 .ret)
 .skip))
 (.seq
 (.reg false [⟨12, .ld 9 true (.t 1), none, false⟩,
 ⟨13, .ca (.k (.cl 18 [])) [(.t 12)], none, false⟩,
 ⟨14, .ca (.k (.cl 17 [])) [(.t 13)], none, false⟩,
 ⟨4, .mv (.t 14), none, false⟩])
 (.seq
 (.reg false [⟨15, .ld 9 true (.t 1), none, false⟩,
 ⟨16, .ca (.k (.cl 18 [])) [(.t 15)], none, false⟩,
 ⟨5, .al [(.sc (.string ⟨#[]⟩)), (.sc (.string ⟨#[]⟩)), (.sc (.int .i64 0)), (.sc (.string ⟨#[]⟩)), (.sc (.int .i64 0)), (.sc (.int .i64 0)), (.sc (.int .i64 0)), (.sc (.int .i64 0)), .nl], none, false⟩,
 ⟨1, .so 9 (.t 5) (.t 16), none, true⟩])
 (.seq
 (.reg false [⟨17, .ld 9 true (.t 5), none, false⟩,
 ⟨18, .ca (.k (.cl 19 [])) [(.t 17)], none, false⟩,
 ⟨6, .mv (.t 18), none, false⟩])
 (.seq
 (.seq
 (.reg false [⟨19, .mv (.t 6), none, false⟩,
 ⟨20, .mv (.t 4), none, false⟩,
 ⟨21, .ar .neq false (.t 19) (.t 20), none, false⟩])
 (.ite (.t 21)
 (.seq
 (.reg false [⟨2, .mv (.k (.sc (.bool false))), none, false⟩])
 .ret)
 .skip))
 (.seq
 (.seq
 (.reg true [⟨22, .ld 9 true (.t 5), none, false⟩,
 ⟨23, .ld 9 true (.t 1), none, false⟩,
 ⟨24, .ca (.k (.cl 18 [])) [(.t 23)], none, false⟩,
 ⟨25, .ca (.k (.cl 20 [])) [(.t 22), (.t 24)], none, false⟩,
 ⟨26, .nt (.t 25), none, false⟩])
 (.ite (.t 26)
 (.seq
 (.reg false [⟨2, .mv (.k (.sc (.bool false))), none, false⟩])
 .ret)
 .skip))
 (.seq
 (.reg false [⟨2, .mv (.k (.sc (.bool true))), none, false⟩])
 .ret))))))))))⟩
attribute [simp] i5
set_option maxRecDepth 1000000 in
theorem c5 : cFn Tryd.prog 5 [[]] = some i5 := by kernel_rfl
theorem e5 : enterOk Tryd.prog 5 = true := by kernel_rfl
def i9 : Ev.Fn := ⟨2, 13, [.tmp 4],
 (.seq
 (.reg false [⟨2, .bx (.t 0), none, false⟩,
 ⟨4, .mv (.k (.sc (.int .i64 0))), none, false⟩])
 (.seq
 (.reg false [⟨5, .mv (.t 1), none, false⟩,
 ⟨6, .fa 0 (.t 2), none, false⟩,
 ⟨7, .ld 1 false (.t 6), none, false⟩,
 ⟨8, .ln true (.t 7), none, false⟩,
 ⟨9, .ar .sub false (.t 5) (.t 8), none, false⟩,
 ⟨1, .mv (.t 9), none, false⟩])
 (.seq
 (.seq
 (.reg false [⟨10, .mv (.t 1), none, false⟩,
 ⟨11, .ar .lss false (.t 10) (.k (.sc (.int .i64 0))), none, false⟩])
 (.ite (.t 11)
 (.seq
 (.reg false [⟨4, .mv (.k (.sc (.int .i64 (-1)))), none, false⟩])
 .ret)
 .skip))
 (.seq
 (.reg false [⟨12, .mv (.t 1), none, false⟩,
 ⟨4, .mv (.t 12), none, false⟩])
 .ret))))⟩
attribute [simp] i9
set_option maxRecDepth 1000000 in
theorem c9 : cFn Tryd.prog 9 [[]] = some i9 := by kernel_rfl
theorem e9 : enterOk Tryd.prog 9 = true := by kernel_rfl
def i11 : Ev.Fn := ⟨1, 14, [.cell 2 3 true],
 (.seq
 (.reg false [⟨1, .bx (.t 0), none, false⟩,
 ⟨2, .al [(.sc (.string ⟨#[]⟩)), (.sc (.int .i64 0)), (.sc (.int .i64 0))], none, false⟩])
 (.seq
 (.reg false [⟨3, .al [(.sc (.string ⟨#[]⟩)), (.sc (.int .i64 0)), (.sc (.int .i64 0))], none, false⟩])
 (.seq
 (.reg false [⟨4, .fa 0 (.t 1), none, false⟩,
 ⟨5, .ld 1 false (.t 4), none, false⟩,
 ⟨6, .fa 0 (.t 3), none, false⟩,
 ⟨1, .so 1 (.t 6) (.t 5), none, true⟩])
 (.seq
 (.reg false [⟨7, .fa 1 (.t 1), none, false⟩,
 ⟨8, .ld 1 false (.t 7), none, false⟩,
 ⟨9, .fa 1 (.t 3), none, false⟩,
 ⟨1, .so 1 (.t 9) (.t 8), none, true⟩])
 (.seq
 (.reg false [⟨10, .fa 2 (.t 1), none, false⟩,
 ⟨11, .ld 1 false (.t 10), none, false⟩,
 ⟨12, .fa 2 (.t 3), none, false⟩,
 ⟨1, .so 1 (.t 12) (.t 11), none, true⟩])
 (.seq
 (.reg false [⟨13, .ld 3 true (.t 3), none, false⟩,
 ⟨1, .so 3 (.t 2) (.t 13), none, true⟩])
 .ret))))))⟩
attribute [simp] i11
set_option maxRecDepth 1000000 in
theorem c11 : cFn Tryd.prog 11 [[]] = some i11 := by kernel_rfl
theorem e11 : enterOk Tryd.prog 11 = true := by kernel_rfl
def i12 : Ev.Fn := ⟨1, 18, [.tmp 2],
 (.seq
 (.reg false [⟨1, .bx (.t 0), none, false⟩,
 ⟨2, .mv (.k (.sc (.string ⟨#[]⟩))), none, false⟩])
 (.seq
 (.seq
 (.reg false [⟨3, .ld 3 true (.t 1), none, false⟩,
 ⟨4, .ca (.k (.cl 33 [])) [(.t 3)], none, false⟩,
 ⟨5, .nt (.t 4), none, false⟩])
 (.ite (.t 5)
 (.seq
 (.reg false [⟨2, .mv (.k (.sc (.string ⟨#[]⟩))), none, false⟩])
 .ret)
 .skip))
 (.seq
 (.reg true [⟨6, .fa 0 (.t 1), none, false⟩,
 ⟨7, .ld 1 false (.t 6), none, false⟩,
 ⟨8, .ar .add false (.t 7) (.k (.sc (.string ⟨#[32]⟩))), none, false⟩,
 ⟨9, .fa 1 (.t 1), none, false⟩,
 ⟨10, .ld 1 false (.t 9), none, false⟩,
 ⟨11, .ca (.k (.cl 34 [])) [(.t 10)], none, false⟩,
 ⟨12, .ar .add false (.t 8) (.t 11), none, false⟩,
 ⟨13, .ar .add false (.t 12) (.k (.sc (.string ⟨#[32]⟩))), none, false⟩,
 ⟨14, .fa 2 (.t 1), none, false⟩,
 ⟨15, .ld 1 false (.t 14), none, false⟩,
 ⟨16, .ca (.k (.cl 34 [])) [(.t 15)], none, false⟩,
 ⟨17, .ar .add false (.t 13) (.t 16), none, false⟩,
 ⟨2, .mv (.t 17), none, false⟩])
 .ret)))⟩
attribute [simp] i12
set_option maxRecDepth 1000000 in
theorem c12 : cFn Tryd.prog 12 [[]] = some i12 := by kernel_rfl
theorem e12 : enterOk Tryd.prog 12 = true := by kernel_rfl
def i16 : Ev.Fn := ⟨2, 32, [.tmp 4],
 (.seq
 (.reg false [⟨2, .bx (.t 0), none, false⟩,
 ⟨4, .mv (.k (.sc (.int .i64 0))), none, false⟩])
 (.seq
 (.reg false [⟨5, .mv (.t 1), none, false⟩,
 ⟨6, .fa 0 (.t 2), none, false⟩,
 ⟨7, .ld 1 false (.t 6), none, false⟩,
 ⟨8, .ln true (.t 7), none, false⟩,
 ⟨9, .ar .sub false (.t 5) (.t 8), none, false⟩,
 ⟨1, .mv (.t 9), none, false⟩])
 (.seq
 (.seq
 (.reg false [⟨10, .mv (.t 1), none, false⟩,
 ⟨11, .ar .lss false (.t 10) (.k (.sc (.int .i64 0))), none, false⟩])
 (.ite (.t 11)
 (.seq
 (.reg false [⟨4, .mv (.k (.sc (.int .i64 (-1)))), none, false⟩])
 .ret)
 .skip))
 (.seq
 (.reg false [⟨12, .mv (.t 1), none, false⟩,
 ⟨13, .fa 1 (.t 2), none, false⟩,
 ⟨14, .ld 1 false (.t 13), none, false⟩,
 ⟨15, .ln true (.t 14), none, false⟩,
 ⟨16, .ar .sub false (.t 12) (.t 15), none, false⟩,
 ⟨1, .mv (.t 16), none, false⟩])
 (.seq
 (.seq
 (.reg false [⟨17, .mv (.t 1), none, false⟩,
 ⟨18, .ar .lss false (.t 17) (.k (.sc (.int .i64 0))), none, false⟩])
 (.ite (.t 18)
 (.seq
 (.reg false [⟨4, .mv (.k (.sc (.int .i64 (-1)))), none, false⟩])
 .ret)
 .skip))
 (.seq
 (.reg false [⟨19, .fa 3 (.t 2), none, false⟩,
 ⟨20, .ld 3 true (.t 19), none, false⟩,
 ⟨21, .mv (.t 1), none, false⟩,
 ⟨22, .ca (.k (.cl 9 [])) [(.t 20), (.t 21)], none, false⟩,
 ⟨1, .mv (.t 22), none, false⟩])
 (.seq
 (.seq
 (.reg false [⟨23, .mv (.t 1), none, false⟩,
 ⟨24, .ar .lss false (.t 23) (.k (.sc (.int .i64 0))), none, false⟩])
 (.ite (.t 24)
 (.seq
 (.reg false [⟨4, .mv (.k (.sc (.int .i64 (-1)))), none, false⟩])
 .ret)
 .skip))
 (.seq
 (.reg false [⟨25, .fa 8 (.t 2), none, false⟩,
 ⟨26, .ld 1 false (.t 25), none, false⟩,
 ⟨27, .mv (.t 1), none, false⟩,
 ⟨28, .ca (.k (.cl 39 [])) [(.t 26), (.t 27)], none, false⟩,
 ⟨1, .mv (.t 28), none, false⟩])
 (.seq
 (.seq
 (.reg false [⟨29, .mv (.t 1), none, false⟩,
 ⟨30, .ar .lss false (.t 29) (.k (.sc (.int .i64 0))), none, false⟩])
 (.ite (.t 30)
 (.seq
 (.reg false [⟨4, .mv (.k (.sc (.int .i64 (-1)))), none, false⟩])
 .ret)
 .skip))
 (.seq
 (.reg false [⟨31, .mv (.t 1), none, false⟩,
 ⟨4, .mv (.t 31), none, false⟩])
 .ret))))))))))⟩
attribute [simp] i16
set_option maxRecDepth 1000000 in
theorem c16 : cFn Tryd.prog 16 [[]] = some i16 := by kernel_rfl
theorem e16 : enterOk Tryd.prog 16 = true := by kernel_rfl
def i17 : Ev.Fn := ⟨1, 6, [.tmp 2],
 (.seq
 (.reg false [⟨1, .bx (.t 0), none, false⟩,
 ⟨2, .mv (.k (.sc (.string ⟨#[]⟩))), none, false⟩])
 (.seq
 (.seq
 (.reg false [⟨3, .ca (.k (.cl 40 [])) [(.t 1)], none, false⟩,
 ⟨4, .nt (.t 3), none, false⟩])
 (.ite (.t 4)
 (.seq
 (.reg false [⟨2, .mv (.k (.sc (.string ⟨#[]⟩))), none, false⟩])
 .ret)
 .skip))
 (.seq
 (.reg false [⟨5, .ca (.k (.cl 41 [])) [(.t 1)], none, false⟩,
 ⟨2, .mv (.t 5), none, false⟩])
 .ret)))⟩
attribute [simp] i17
set_option maxRecDepth 1000000 in
theorem c17 : cFn Tryd.prog 17 [[]] = some i17 := by kernel_rfl
theorem e17 : enterOk Tryd.prog 17 = true := by kernel_rfl
def i18 : Ev.Fn := ⟨1, 28, [.cell 2 9 true],
 (.seq
 (.reg false [⟨1, .bx (.t 0), none, false⟩,
 ⟨2, .al [(.sc (.string ⟨#[]⟩)), (.sc (.string ⟨#[]⟩)), (.sc (.int .i64 0)), (.sc (.string ⟨#[]⟩)), (.sc (.int .i64 0)), (.sc (.int .i64 0)), (.sc (.int .i64 0)), (.sc (.int .i64 0)), .nl], none, false⟩])
 (.seq
 (.reg false [⟨3, .al [(.sc (.string ⟨#[]⟩)), (.sc (.string ⟨#[]⟩)), (.sc (.int .i64 0)), (.sc (.string ⟨#[]⟩)), (.sc (.int .i64 0)), (.sc (.int .i64 0)), (.sc (.int .i64 0)), (.sc (.int .i64 0)), .nl], none, false⟩])
 (.seq
 (.reg false [⟨4, .fa 0 (.t 1), none, false⟩,
 ⟨5, .ld 1 false (.t 4), none, false⟩,
 ⟨6, .fa 0 (.t 3), none, false⟩,
 ⟨1, .so 1 (.t 6) (.t 5), none, true⟩])
 (.seq
 (.reg false [⟨7, .fa 1 (.t 1), none, false⟩,
 ⟨8, .ld 1 false (.t 7), none, false⟩,
 ⟨9, .fa 1 (.t 3), none, false⟩,
 ⟨1, .so 1 (.t 9) (.t 8), none, true⟩])
 (.seq
 (.reg false [⟨10, .fa 2 (.t 1), none, false⟩,
 ⟨11, .ld 1 false (.t 10), none, false⟩,
 ⟨12, .fa 2 (.t 3), none, false⟩,
 ⟨1, .so 1 (.t 12) (.t 11), none, true⟩])
 (.seq
 (.reg false [⟨13, .fa 3 (.t 1), none, false⟩,
 ⟨14, .ld 3 true (.t 13), none, false⟩,
 ⟨15, .ca (.k (.cl 11 [])) [(.t 14)], none, false⟩,
 ⟨16, .fa 3 (.t 3), none, false⟩,
 ⟨1, .so 3 (.t 16) (.t 15), none, true⟩])
 (.seq
 (.reg false [⟨17, .fa 6 (.t 1), none, false⟩,
 ⟨18, .ld 1 false (.t 17), none, false⟩,
 ⟨19, .fa 6 (.t 3), none, false⟩,
 ⟨1, .so 1 (.t 19) (.t 18), none, true⟩])
 (.seq
 (.reg false [⟨20, .fa 7 (.t 1), none, false⟩,
 ⟨21, .ld 1 false (.t 20), none, false⟩,
 ⟨22, .fa 7 (.t 3), none, false⟩,
 ⟨1, .so 1 (.t 22) (.t 21), none, true⟩])
 (.seq
 (.reg false [⟨23, .fa 8 (.t 1), none, false⟩,
 ⟨24, .ld 1 false (.t 23), none, false⟩,
 ⟨25, .ca (.k (.cl 42 [])) [(.t 24)], none, false⟩,
 ⟨26, .fa 8 (.t 3), none, false⟩,
 ⟨1, .so 1 (.t 26) (.t 25), none, true⟩])
 (.seq
 (.reg false [⟨27, .ld 9 true (.t 3), none, false⟩,
 ⟨1, .so 9 (.t 2) (.t 27), none, true⟩])
 .ret))))))))))⟩
attribute [simp] i18
set_option maxRecDepth 1000000 in
theorem c18 : cFn Tryd.prog 18 [[]] = some i18 := by kernel_rfl
theorem e18 : enterOk Tryd.prog 18 = true := by kernel_rfl
def w19_1 : IC :=
(.seq
 (.reg false [⟨32, .ar .lss false (.t 31) (.t 30), none, false⟩])
 (.seq
 (.ite (.t 32)
 .skip
 (.exit 0))
 (.seq
 (.block 1
 (.seq
 (.reg false [⟨33, .ia 4 (.t 29) (.t 31), none, false⟩,
 ⟨34, .ld 4 true (.t 33), none, false⟩,
 ⟨5, .al [(.sc (.int .i64 0)), (.sc (.int .i64 0)), (.sc (.int .i64 0)), (.sc (.int .i64 0))], none, false⟩,
 ⟨1, .so 4 (.t 5) (.t 34), none, true⟩])
 (.reg false [⟨35, .mv (.t 3), none, false⟩,
 ⟨36, .ld 4 true (.t 5), none, false⟩,
 ⟨37, .ca (.k (.cl 44 [])) [(.t 36)], none, false⟩,
 ⟨38, .bs 9 1 [(.sc (.string ⟨#[]⟩))] 1 [(0, (.t 37))], none, false⟩,
 ⟨39, .ap 9 1 false (.t 35) (.t 38), none, false⟩,
 ⟨3, .mv (.t 39), none, false⟩])))
 (.reg false [⟨40, .ar .add false (.t 31) (.k (.sc (.int .i64 1))), none, false⟩,
 ⟨31, .mv (.t 40), none, false⟩]))))
def b19_1 : IC := w19_1
theorem u19_1 (call : CallF) (st : St) : evC call b19_1 st = evC call w19_1 st := rfl
attribute [simp] u19_1 w19_1
def i19 : Ev.Fn := ⟨1, 43, [.tmp 2],
 (.seq
 (.reg false [⟨1, .bx (.t 0), none, false⟩,
 ⟨2, .mv (.k (.sc (.string ⟨#[]⟩))), none, false⟩])
 (.seq
 (.seq
 (.reg false [⟨6, .ld 9 true (.t 1), none, false⟩,
 ⟨7, .ca (.k (.cl 43 [])) [(.t 6)], none, false⟩,
 ⟨8, .nt (.t 7), none, false⟩])
 (.ite (.t 8)
 (.seq
 (.reg false [⟨2, .mv (.k (.sc (.string ⟨#[]⟩))), none, false⟩])
 .ret)
 .skip))
 (.seq
 (.reg true [⟨9, .fa 0 (.t 1), none, false⟩,
 ⟨10, .ld 1 false (.t 9), none, false⟩,
 ⟨11, .fa 1 (.t 1), none, false⟩,
 ⟨12, .ld 1 false (.t 11), none, false⟩,
 ⟨13, .fa 2 (.t 1), none, false⟩,
 ⟨14, .ld 1 false (.t 13), none, false⟩,
 ⟨15, .ca (.k (.cl 34 [])) [(.t 14)], none, false⟩,
 ⟨16, .fa 3 (.t 1), none, false⟩,
 ⟨17, .ld 3 true (.t 16), none, false⟩,
 ⟨18, .ca (.k (.cl 12 [])) [(.t 17)], none, false⟩,
 ⟨19, .fa 6 (.t 1), none, false⟩,
 ⟨20, .ld 1 false (.t 19), none, false⟩,
 ⟨21, .ca (.k (.cl 34 [])) [(.t 20)], none, false⟩,
 ⟨22, .ar .add false (.t 21) (.k (.sc (.string ⟨#[120]⟩))), none, false⟩,
 ⟨23, .fa 7 (.t 1), none, false⟩,
 ⟨24, .ld 1 false (.t 23), none, false⟩,
 ⟨25, .ca (.k (.cl 34 [])) [(.t 24)], none, false⟩,
 ⟨26, .ar .add false (.t 22) (.t 25), none, false⟩,
 ⟨27, .bs 9 1 [(.sc (.string ⟨#[]⟩))] 5 [(0, (.t 10)), (1, (.t 12)), (2, (.t 15)), (3, (.t 18)), (4, (.t 26))], none, false⟩,
 ⟨3, .mv (.t 27), none, false⟩])
 (.seq
 (.seq
 (.reg false [⟨28, .fa 8 (.t 1), none, false⟩,
 ⟨29, .ld 1 false (.t 28), none, false⟩,
 ⟨30, .ln false (.t 29), none, false⟩,
 ⟨31, .mv (.k (.sc (.int .i64 0))), none, false⟩])
 (.cln [3] [2]
 (.block 0
 (.loop [3, 29, 30, 31] b19_1))))
 (.seq
 (.reg false [⟨41, .mv (.t 3), none, false⟩,
 ⟨42, .ca (.k (.cl 45 [])) [(.t 41), (.k (.sc (.string ⟨#[47]⟩)))], none, false⟩,
 ⟨2, .mv (.t 42), none, false⟩])
 .ret)))))⟩
attribute [simp] i19
set_option maxRecDepth 1000000 in
theorem c19 : cFn Tryd.prog 19 [[], [3, 29, 30, 31], [3], [2]] = some i19 := by kernel_rfl
theorem e19 : enterOk Tryd.prog 19 = true := by kernel_rfl
def i20 : Ev.Fn := ⟨2, 42, [.tmp 4],
 (.seq
 (.reg false [⟨2, .bx (.t 0), none, false⟩,
 ⟨3, .bx (.t 1), none, false⟩,
 ⟨4, .mv (.k (.sc (.bool false))), none, false⟩])
 (.seq
 (.seq
 (.reg false [⟨5, .fa 0 (.t 2), none, false⟩,
 ⟨6, .ld 1 false (.t 5), none, false⟩,
 ⟨7, .fa 0 (.t 3), none, false⟩,
 ⟨8, .ld 1 false (.t 7), none, false⟩,
 ⟨9, .ar .neq false (.t 6) (.t 8), none, false⟩])
 (.ite (.t 9)
 (.seq
 (.reg false [⟨4, .mv (.k (.sc (.bool false))), none, false⟩])
 .ret)
 .skip))
 (.seq
 (.seq
 (.reg false [⟨10, .fa 1 (.t 2), none, false⟩,
 ⟨11, .ld 1 false (.t 10), none, false⟩,
 ⟨12, .fa 1 (.t 3), none, false⟩,
 ⟨13, .ld 1 false (.t 12), none, false⟩,
 ⟨14, .ar .neq false (.t 11) (.t 13), none, false⟩])
 (.ite (.t 14)
 (.seq
 (.reg false [⟨4, .mv (.k (.sc (.bool false))), none, false⟩])
 .ret)
 .skip))
 (.seq
 (.seq
 (.reg false [⟨15, .fa 2 (.t 2), none, false⟩,
 ⟨16, .ld 1 false (.t 15), none, false⟩,
 ⟨17, .fa 2 (.t 3), none, false⟩,
 ⟨18, .ld 1 false (.t 17), none, false⟩,
 ⟨19, .ar .neq false (.t 16) (.t 18), none, false⟩])
 (.ite (.t 19)
 (.seq
 (.reg false [⟨4, .mv (.k (.sc (.bool false))), none, false⟩])
 .ret)
 .skip))
 (.seq
 (.seq
 (.reg false [⟨20, .fa 3 (.t 2), none, false⟩,
 ⟨21, .ld 3 true (.t 20), none, false⟩,
 ⟨22, .fa 3 (.t 3), none, false⟩,
 ⟨23, .ld 3 true (.t 22), none, false⟩,
 ⟨24, .ca (.k (.cl 23 [])) [(.t 21), (.t 23)], none, false⟩,
 ⟨25, .nt (.t 24), none, false⟩])
 (.ite (.t 25)
 (.seq
 (.reg false [⟨4, .mv (.k (.sc (.bool false))), none, false⟩])
 .ret)
 .skip))
 (.seq
 (.seq
 (.reg false [⟨26, .fa 6 (.t 2), none, false⟩,
 ⟨27, .ld 1 false (.t 26), none, false⟩,
 ⟨28, .fa 6 (.t 3), none, false⟩,
 ⟨29, .ld 1 false (.t 28), none, false⟩,
 ⟨30, .ar .neq false (.t 27) (.t 29), none, false⟩])
 (.ite (.t 30)
 (.seq
 (.reg false [⟨4, .mv (.k (.sc (.bool false))), none, false⟩])
 .ret)
 .skip))
 (.seq
 (.seq
 (.reg false [⟨31, .fa 7 (.t 2), none, false⟩,
 ⟨32, .ld 1 false (.t 31), none, false⟩,
 ⟨33, .fa 7 (.t 3), none, false⟩,
 ⟨34, .ld 1 false (.t 33), none, false⟩,
 ⟨35, .ar .neq false (.t 32) (.t 34), none, false⟩])
 (.ite (.t 35)
 (.seq
 (.reg false [⟨4, .mv (.k (.sc (.bool false))), none, false⟩])
 .ret)
 .skip))
 (.seq
 (.seq
 (.reg false [⟨36, .fa 8 (.t 2), none, false⟩,
 ⟨37, .ld 1 false (.t 36), none, false⟩,
 ⟨38, .fa 8 (.t 3), none, false⟩,
 ⟨39, .ld 1 false (.t 38), none, false⟩,
 ⟨40, .ca (.k (.cl 46 [])) [(.t 37), (.t 39)], none, false⟩,
 ⟨41, .nt (.t 40), none, false⟩])
 (.ite (.t 41)
 (.seq
 (.reg false [⟨4, .mv (.k (.sc (.bool false))), none, false⟩])
 .ret)
 .skip))
 (.seq
 (.reg false [⟨4, .mv (.k (.sc (.bool true))), none, false⟩])
 .ret)))))))))⟩
attribute [simp] i20
set_option maxRecDepth 1000000 in
theorem c20 : cFn Tryd.prog 20 [[]] = some i20 := by kernel_rfl
theorem e20 : enterOk Tryd.prog 20 = true := by kernel_rfl
def i23 : Ev.Fn := ⟨2, 20, [.tmp 4],
 (.seq
 (.reg false [⟨2, .bx (.t 0), none, false⟩,
 ⟨3, .bx (.t 1), none, false⟩,
 ⟨4, .mv (.k (.sc (.bool false))), none, false⟩])
 (.seq
 (.seq
 (.reg false [⟨5, .fa 0 (.t 2), none, false⟩,
 ⟨6, .ld 1 false (.t 5), none, false⟩,
 ⟨7, .fa 0 (.t 3), none, false⟩,
 ⟨8, .ld 1 false (.t 7), none, false⟩,
 ⟨9, .ar .neq false (.t 6) (.t 8), none, false⟩])
 (.ite (.t 9)
 (.seq
 (.reg false [⟨4, .mv (.k (.sc (.bool false))), none, false⟩])
 .ret)
 .skip))
 (.seq
 (.seq
 (.reg false [⟨10, .fa 1 (.t 2), none, false⟩,
 ⟨11, .ld 1 false (.t 10), none, false⟩,
 ⟨12, .fa 1 (.t 3), none, false⟩,
 ⟨13, .ld 1 false (.t 12), none, false⟩,
 ⟨14, .ar .neq false (.t 11) (.t 13), none, false⟩])
 (.ite (.t 14)
 (.seq
 (.reg false [⟨4, .mv (.k (.sc (.bool false))), none, false⟩])
 .ret)
 .skip))
 (.seq
 (.seq
 (.reg false [⟨15, .fa 2 (.t 2), none, false⟩,
 ⟨16, .ld 1 false (.t 15), none, false⟩,
 ⟨17, .fa 2 (.t 3), none, false⟩,
 ⟨18, .ld 1 false (.t 17), none, false⟩,
 ⟨19, .ar .neq false (.t 16) (.t 18), none, false⟩])
 (.ite (.t 19)
 (.seq
 (.reg false [⟨4, .mv (.k (.sc (.bool false))), none, false⟩])
 .ret)
 .skip))
 (.seq
 (.reg false [⟨4, .mv (.k (.sc (.bool true))), none, false⟩])
 .ret)))))⟩
attribute [simp] i23
set_option maxRecDepth 1000000 in
theorem c23 : cFn Tryd.prog 23 [[]] = some i23 := by kernel_rfl
theorem e23 : enterOk Tryd.prog 23 = true := by kernel_rfl
def i31 : Ev.Fn := ⟨1, 42, [.tmp 2],
 (.seq
 (.reg false [⟨2, .mv (.k (.sc (.bool false))), none, false⟩])
 (.seq
 (.reg false [⟨5, .mv (.t 0), none, false⟩,
 ⟨6, .nc (.t 5), none, false⟩,
 ⟨7, .fa 0 (.t 6), none, false⟩,
 ⟨8, .ld 1 false (.t 7), none, false⟩,
 ⟨9, .ca (.k (.cl 57 [])) [(.t 8)], none, false⟩,
 ⟨3, .mv (.t 9), none, false⟩])
 (.seq
 (.seq
 (.reg false [⟨10, .mv (.t 3), none, false⟩,
 ⟨11, .ar .lss false (.t 10) (.k (.sc (.int .i64 0))), none, false⟩,
 ⟨12, .mv (.t 11), none, false⟩,
 ⟨13, .mv (.t 0), (some (12, false)), false⟩,
 ⟨14, .nc (.t 13), (some (12, false)), false⟩,
 ⟨15, .fa 1 (.t 14), (some (12, false)), false⟩,
 ⟨16, .ld 1 false (.t 15), (some (12, false)), false⟩,
 ⟨17, .ca (.k (.cl 58 [])) [(.t 16), (.k (.sc (.int .i64 0))), (.k (.sc (.int .i64 100)))], (some (12, false)), false⟩,
 ⟨18, .nt (.t 17), (some (12, false)), false⟩,
 ⟨19, .pk (.t 12) (.k (.sc (.bool true))) (.t 18), none, false⟩])
 (.ite (.t 19)
 (.seq
 (.reg false [⟨2, .mv (.k (.sc (.bool false))), none, false⟩])
 .ret)
 .skip))
 (.seq
 (.reg false [⟨20, .ca (.k (.cl 59 [])) [], none, false⟩,
 ⟨21, .mv (.t 3), none, false⟩,
 ⟨22, .ia 1 (.t 20) (.t 21), none, false⟩,
 ⟨23, .ld 1 false (.t 22), none, false⟩,
 ⟨24, .ia 1 (.t 23) (.k (.sc (.int .i64 0))), none, false⟩,
 ⟨25, .ld 1 false (.t 24), none, false⟩,
 ⟨4, .mv (.t 25), none, false⟩])
 (.seq
 (.reg false [⟨26, .mv (.t 0), none, false⟩,
 ⟨27, .nc (.t 26), none, false⟩,
 ⟨28, .fa 1 (.t 27), none, false⟩,
 ⟨29, .ld 1 false (.t 28), none, false⟩,
 ⟨30, .mv (.t 4), none, false⟩,
 ⟨31, .ar .sub false (.t 30) (.k (.sc (.int .i64 15))), none, false⟩,
 ⟨32, .mv (.t 4), none, false⟩,
 ⟨33, .ar .add false (.t 32) (.k (.sc (.int .i64 15))), none, false⟩,
 ⟨34, .ca (.k (.cl 58 [])) [(.t 29), (.t 31), (.t 33)], none, false⟩,
 ⟨35, .mv (.t 34), none, false⟩,
 ⟨36, .mv (.t 0), (some (35, true)), false⟩,
 ⟨37, .nc (.t 36), (some (35, true)), false⟩,
 ⟨38, .fa 2 (.t 37), (some (35, true)), false⟩,
 ⟨39, .ld 1 false (.t 38), (some (35, true)), false⟩,
 ⟨40, .ca (.k (.cl 60 [])) [(.t 39)], (some (35, true)), false⟩,
 ⟨41, .pk (.t 35) (.t 40) (.k (.sc (.bool false))), none, false⟩,
 ⟨2, .mv (.t 41), none, false⟩])
 .ret)))))⟩
attribute [simp] i31
set_option maxRecDepth 1000000 in
theorem c31 : cFn Tryd.prog 31 [[]] = some i31 := by kernel_rfl
theorem e31 : enterOk Tryd.prog 31 = true := by kernel_rfl
def i32 : Ev.Fn := ⟨1, 21, [.tmp 2],
 (.seq
 (.reg false [⟨2, .mv (.k (.sc (.string ⟨#[]⟩))), none, false⟩])
 (.seq
 (.reg true [⟨3, .mv (.t 0), none, false⟩,
 ⟨4, .nc (.t 3), none, false⟩,
 ⟨5, .fa 0 (.t 4), none, false⟩,
 ⟨6, .ld 1 false (.t 5), none, false⟩,
 ⟨7, .ar .add false (.t 6) (.k (.sc (.string ⟨#[32]⟩))), none, false⟩,
 ⟨8, .mv (.t 0), none, false⟩,
 ⟨9, .nc (.t 8), none, false⟩,
 ⟨10, .fa 1 (.t 9), none, false⟩,
 ⟨11, .ld 1 false (.t 10), none, false⟩,
 ⟨12, .ca (.k (.cl 61 [])) [(.t 11)], none, false⟩,
 ⟨13, .ar .add false (.t 7) (.t 12), none, false⟩,
 ⟨14, .ar .add false (.t 13) (.k (.sc (.string ⟨#[32]⟩))), none, false⟩,
 ⟨15, .mv (.t 0), none, false⟩,
 ⟨16, .nc (.t 15), none, false⟩,
 ⟨17, .fa 2 (.t 16), none, false⟩,
 ⟨18, .ld 1 false (.t 17), none, false⟩,
 ⟨19, .ca (.k (.cl 61 [])) [(.t 18)], none, false⟩,
 ⟨20, .ar .add false (.t 14) (.t 19), none, false⟩,
 ⟨2, .mv (.t 20), none, false⟩])
 .ret))⟩
attribute [simp] i32
set_option maxRecDepth 1000000 in
theorem c32 : cFn Tryd.prog 32 [[]] = some i32 := by kernel_rfl
theorem e32 : enterOk Tryd.prog 32 = true := by kernel_rfl
def i33 : Ev.Fn := ⟨1, 29, [.tmp 2],
 (.seq
 (.reg false [⟨1, .bx (.t 0), none, false⟩,
 ⟨2, .mv (.k (.sc (.bool false))), none, false⟩])
 (.seq
 (.reg false [⟨6, .fa 0 (.t 1), none, false⟩,
 ⟨7, .ld 1 false (.t 6), none, false⟩,
 ⟨8, .ca (.k (.cl 62 [])) [(.t 7)], none, false⟩,
 ⟨5, .mv (.t 8), none, false⟩,
 ⟨9, .xt (.t 5) 0, none, false⟩,
 ⟨10, .xt (.t 5) 1, none, false⟩,
 ⟨3, .mv (.t 9), none, false⟩,
 ⟨4, .mv (.t 10), none, false⟩])
 (.seq
 (.reg false [⟨11, .mv (.t 4), none, false⟩,
 ⟨12, .mv (.t 11), none, false⟩,
 ⟨13, .fa 1 (.t 1), (some (12, true)), false⟩,
 ⟨14, .ld 1 false (.t 13), (some (12, true)), false⟩,
 ⟨15, .ca (.k (.cl 63 [])) [(.t 14), (.k (.sc (.int .i64 0))), (.k (.sc (.int .i64 100)))], (some (12, true)), false⟩,
 ⟨16, .pk (.t 12) (.t 15) (.k (.sc (.bool false))), none, false⟩,
 ⟨17, .mv (.t 16), none, false⟩,
 ⟨18, .fa 1 (.t 1), (some (17, true)), false⟩,
 ⟨19, .ld 1 false (.t 18), (some (17, true)), false⟩,
 ⟨20, .mv (.t 3), (some (17, true)), false⟩,
 ⟨21, .ar .sub false (.t 19) (.t 20), (some (17, true)), false⟩,
 ⟨22, .ca (.k (.cl 63 [])) [(.t 21), (.k (.sc (.int .i64 (-15)))), (.k (.sc (.int .i64 15)))], (some (17, true)), false⟩,
 ⟨23, .pk (.t 17) (.t 22) (.k (.sc (.bool false))), none, false⟩,
 ⟨24, .mv (.t 23), none, false⟩,
 ⟨25, .fa 2 (.t 1), (some (24, true)), false⟩,
 ⟨26, .ld 1 false (.t 25), (some (24, true)), false⟩,
 ⟨27, .ca (.k (.cl 63 [])) [(.t 26), (.k (.sc (.int .i64 0))), (.k (.sc (.int .i64 179)))], (some (24, true)), false⟩,
 ⟨28, .pk (.t 24) (.t 27) (.k (.sc (.bool false))), none, false⟩,
 ⟨2, .mv (.t 28), none, false⟩])
 .ret)))⟩
attribute [simp] i33
set_option maxRecDepth 1000000 in
theorem c33 : cFn Tryd.prog 33 [[]] = some i33 := by kernel_rfl
theorem e33 : enterOk Tryd.prog 33 = true := by kernel_rfl
def i34 : Ev.Fn := ⟨1, 5, [.tmp 2],
 (.seq
 (.reg false [⟨2, .mv (.k (.sc (.string ⟨#[]⟩))), none, false⟩])
 (.seq
 (.reg false [⟨3, .mv (.t 0), none, false⟩,
 ⟨4, .ca (.k (.cl 64 [])) [(.t 3), (.k (.sc (.int .i64 10)))], none, false⟩,
 ⟨2, .mv (.t 4), none, false⟩])
 .ret))⟩
attribute [simp] i34
set_option maxRecDepth 1000000 in
theorem c34 : cFn Tryd.prog 34 [[]] = some i34 := by kernel_rfl
theorem e34 : enterOk Tryd.prog 34 = true := by kernel_rfl
def w38_1 : IC :=
(.seq
 (.reg false [⟨14, .ar .lss false (.t 13) (.t 12), none, false⟩])
 (.seq
 (.ite (.t 14)
 .skip
 (.exit 0))
 (.seq
 (.block 1
 (.seq
 (.reg false [⟨15, .ia 1 (.t 11) (.t 13), none, false⟩,
 ⟨16, .ld 1 false (.t 15), none, false⟩,
 ⟨4, .mv (.t 16), none, false⟩])
 (.seq
 (.reg false [⟨17, .mv (.t 4), none, false⟩,
 ⟨18, .ca (.k (.cl 63 [])) [(.t 17), (.k (.sc (.int .i64 (-1000000000000)))), (.k (.sc (.int .i64 1000000000000)))], none, false⟩,
 ⟨19, .nt (.t 18), none, false⟩])
 (.ite (.t 19)
 (.seq
 (.reg false [⟨2, .mv (.k (.sc (.string ⟨#[]⟩))), none, false⟩])
 .ret)
 .skip))))
 (.reg false [⟨20, .ar .add false (.t 13) (.k (.sc (.int .i64 1))), none, false⟩,
 ⟨13, .mv (.t 20), none, false⟩]))))
def b38_1 : IC := w38_1
theorem u38_1 (call : CallF) (st : St) : evC call b38_1 st = evC call w38_1 st := rfl
attribute [simp] u38_1 w38_1
def w38_2 : IC :=
(.seq
 (.reg false [⟨28, .ar .lss false (.t 27) (.t 26), none, false⟩])
 (.seq
 (.ite (.t 28)
 .skip
 (.exit 2))
 (.seq
 (.block 3
 (.seq
 (.reg false [⟨29, .ia 1 (.t 25) (.t 27), none, false⟩,
 ⟨30, .ld 1 false (.t 29), none, false⟩,
 ⟨7, .mv (.t 30), none, false⟩])
 (.reg false [⟨31, .mv (.t 5), none, false⟩,
 ⟨32, .mv (.t 7), none, false⟩,
 ⟨33, .ca (.k (.cl 34 [])) [(.t 32)], none, false⟩,
 ⟨34, .bs 9 1 [(.sc (.string ⟨#[]⟩))] 1 [(0, (.t 33))], none, false⟩,
 ⟨35, .ap 9 1 false (.t 31) (.t 34), none, false⟩,
 ⟨5, .mv (.t 35), none, false⟩])))
 (.reg false [⟨36, .ar .add false (.t 27) (.k (.sc (.int .i64 1))), none, false⟩,
 ⟨27, .mv (.t 36), none, false⟩]))))
def b38_2 : IC := w38_2
theorem u38_2 (call : CallF) (st : St) : evC call b38_2 st = evC call w38_2 st := rfl
attribute [simp] u38_2 w38_2
def i38 : Ev.Fn := ⟨1, 39, [.tmp 2],
 (.seq
 (.reg false [⟨2, .mv (.k (.sc (.string ⟨#[]⟩))), none, false⟩])
 (.seq
 (.seq
 (.reg false [⟨8, .mv (.t 0), none, false⟩,
 ⟨9, .ln false (.t 8), none, false⟩,
 ⟨10, .ar .gtr false (.t 9) (.k (.sc (.int .i64 64))), none, false⟩])
 (.ite (.t 10)
 (.seq
 (.reg false [⟨2, .mv (.k (.sc (.string ⟨#[]⟩))), none, false⟩])
 .ret)
 .skip))
 (.seq
 (.seq
 (.reg false [⟨11, .mv (.t 0), none, false⟩,
 ⟨12, .ln false (.t 11), none, false⟩,
 ⟨13, .mv (.k (.sc (.int .i64 0))), none, false⟩])
 (.cln [0] [2]
 (.block 0
 (.loop [0, 11, 12, 13] b38_1))))
 (.seq
 (.seq
 (.reg false [⟨21, .mv (.t 0), none, false⟩,
 ⟨22, .ln false (.t 21), none, false⟩,
 ⟨23, .ar .eql false (.t 22) (.k (.sc (.int .i64 0))), none, false⟩])
 (.ite (.t 23)
 (.seq
 (.reg false [⟨2, .mv (.k (.sc (.string ⟨#[45]⟩))), none, false⟩])
 .ret)
 .skip))
 (.seq
 (.reg false [⟨24, .bs 9 1 [(.sc (.string ⟨#[]⟩))] 0 [], none, false⟩,
 ⟨5, .mv (.t 24), none, false⟩])
 (.seq
 (.seq
 (.reg false [⟨25, .mv (.t 0), none, false⟩,
 ⟨26, .ln false (.t 25), none, false⟩,
 ⟨27, .mv (.k (.sc (.int .i64 0))), none, false⟩])
 (.cln [5] [2]
 (.block 2
 (.loop [5, 25, 26, 27] b38_2))))
 (.seq
 (.reg false [⟨37, .mv (.t 5), none, false⟩,
 ⟨38, .ca (.k (.cl 45 [])) [(.t 37), (.k (.sc (.string ⟨#[44]⟩)))], none, false⟩,
 ⟨2, .mv (.t 38), none, false⟩])
 .ret)))))))⟩
attribute [simp] i38
set_option maxRecDepth 1000000 in
theorem c38 : cFn Tryd.prog 38 [[], [0, 11, 12, 13], [0], [2], [5, 25, 26, 27], [5], [2]] = some i38 := by kernel_rfl
theorem e38 : enterOk Tryd.prog 38 = true := by kernel_rfl
def i39 : Ev.Fn := ⟨2, 12, [.tmp 4],
 (.seq
 (.reg false [⟨4, .mv (.k (.sc (.int .i64 0))), none, false⟩])
 (.seq
 (.reg false [⟨5, .mv (.t 1), none, false⟩,
 ⟨6, .mv (.t 0), none, false⟩,
 ⟨7, .ln false (.t 6), none, false⟩,
 ⟨8, .ar .sub false (.t 5) (.t 7), none, false⟩,
 ⟨1, .mv (.t 8), none, false⟩])
 (.seq
 (.seq
 (.reg false [⟨9, .mv (.t 1), none, false⟩,
 ⟨10, .ar .lss false (.t 9) (.k (.sc (.int .i64 0))), none, false⟩])
 (.ite (.t 10)
 (.seq
 (.reg false [⟨4, .mv (.k (.sc (.int .i64 (-1)))), none, false⟩])
 .ret)
 .skip))
 (.seq
 (.reg false [⟨11, .mv (.t 1), none, false⟩,
 ⟨4, .mv (.t 11), none, false⟩])
 .ret))))⟩
attribute [simp] i39
set_option maxRecDepth 1000000 in
theorem c39 : cFn Tryd.prog 39 [[]] = some i39 := by kernel_rfl
theorem e39 : enterOk Tryd.prog 39 = true := by kernel_rfl
def w40_1 : IC :=
(.seq
 (.seq
 (.reg false [⟨55, .mv (.t 3), none, false⟩,
 ⟨56, .mv (.t 0), none, false⟩,
 ⟨57, .nc (.t 56), none, false⟩,
 ⟨58, .fa 8 (.t 57), none, false⟩,
 ⟨59, .ld 1 false (.t 58), none, false⟩,
 ⟨60, .ln false (.t 59), none, false⟩,
 ⟨61, .ar .lss false (.t 55) (.t 60), none, false⟩])
 (.ite (.t 61)
 .skip
 (.exit 0)))
 (.seq
 (.block 1
 (.seq
 (.reg true [⟨64, .mv (.t 0), none, false⟩,
 ⟨65, .nc (.t 64), none, false⟩,
 ⟨66, .fa 8 (.t 65), none, false⟩,
 ⟨67, .ld 1 false (.t 66), none, false⟩,
 ⟨68, .mv (.t 3), none, false⟩,
 ⟨69, .ia 4 (.t 67) (.t 68), none, false⟩,
 ⟨70, .mv (.t 0), none, false⟩,
 ⟨71, .nc (.t 70), none, false⟩,
 ⟨72, .fa 6 (.t 71), none, false⟩,
 ⟨73, .ld 1 false (.t 72), none, false⟩,
 ⟨74, .mv (.t 0), none, false⟩,
 ⟨75, .nc (.t 74), none, false⟩,
 ⟨76, .fa 7 (.t 75), none, false⟩,
 ⟨77, .ld 1 false (.t 76), none, false⟩,
 ⟨78, .ca (.k (.cl 68 [])) [(.t 69), (.t 73), (.t 77)], none, false⟩,
 ⟨79, .nt (.t 78), none, false⟩])
 (.ite (.t 79)
 (.seq
 (.reg false [⟨2, .mv (.k (.sc (.bool false))), none, false⟩])
 .ret)
 .skip)))
 (.reg false [⟨62, .mv (.t 3), none, false⟩,
 ⟨63, .ar .add false (.t 62) (.k (.sc (.int .i64 1))), none, false⟩,
 ⟨3, .mv (.t 63), none, false⟩])))
def b40_1 : IC := w40_1
theorem u40_1 (call : CallF) (st : St) : evC call b40_1 st = evC call w40_1 st := rfl
attribute [simp] u40_1 w40_1
def i40 : Ev.Fn := ⟨1, 80, [.tmp 2],
 (.seq
 (.reg false [⟨2, .mv (.k (.sc (.bool false))), none, false⟩])
 (.seq
 (.seq
 (.reg false [⟨4, .mv (.t 0), none, false⟩,
 ⟨5, .nc (.t 4), none, false⟩,
 ⟨6, .fa 0 (.t 5), none, false⟩,
 ⟨7, .ld 1 false (.t 6), none, false⟩,
 ⟨8, .ca (.k (.cl 67 [])) [(.t 7)], none, false⟩,
 ⟨9, .nt (.t 8), none, false⟩,
 ⟨10, .mv (.t 9), none, false⟩,
 ⟨11, .mv (.t 0), (some (10, false)), false⟩,
 ⟨12, .nc (.t 11), (some (10, false)), false⟩,
 ⟨13, .fa 1 (.t 12), (some (10, false)), false⟩,
 ⟨14, .ld 1 false (.t 13), (some (10, false)), false⟩,
 ⟨15, .ca (.k (.cl 67 [])) [(.t 14)], (some (10, false)), false⟩,
 ⟨16, .nt (.t 15), (some (10, false)), false⟩,
 ⟨17, .pk (.t 10) (.k (.sc (.bool true))) (.t 16), none, false⟩,
 ⟨18, .mv (.t 17), none, false⟩,
 ⟨19, .mv (.t 0), (some (18, false)), false⟩,
 ⟨20, .nc (.t 19), (some (18, false)), false⟩,
 ⟨21, .fa 2 (.t 20), (some (18, false)), false⟩,
 ⟨22, .ld 1 false (.t 21), (some (18, false)), false⟩,
 ⟨23, .ca (.k (.cl 58 [])) [(.t 22), (.k (.sc (.int .i64 0))), (.k (.sc (.int .i64 999)))], (some (18, false)), false⟩,
 ⟨24, .nt (.t 23), (some (18, false)), false⟩,
 ⟨25, .pk (.t 18) (.k (.sc (.bool true))) (.t 24), none, false⟩,
 ⟨26, .mv (.t 25), none, false⟩,
 ⟨27, .mv (.t 0), (some (26, false)), false⟩,
 ⟨28, .nc (.t 27), (some (26, false)), false⟩,
 ⟨29, .fa 3 (.t 28), (some (26, false)), false⟩,
 ⟨30, .ca (.k (.cl 31 [])) [(.t 29)], (some (26, false)), false⟩,
 ⟨31, .nt (.t 30), (some (26, false)), false⟩,
 ⟨32, .pk (.t 26) (.k (.sc (.bool true))) (.t 31), none, false⟩])
 (.ite (.t 32)
 (.seq
 (.reg false [⟨2, .mv (.k (.sc (.bool false))), none, false⟩])
 .ret)
 .skip))
 (.seq
 (.seq
 (.reg false [⟨33, .mv (.t 0), none, false⟩,
 ⟨34, .nc (.t 33), none, false⟩,
 ⟨35, .fa 6 (.t 34), none, false⟩,
 ⟨36, .ld 1 false (.t 35), none, false⟩,
 ⟨37, .ca (.k (.cl 58 [])) [(.t 36), (.k (.sc (.int .i64 10))), (.k (.sc (.int .i64 20000)))], none, false⟩,
 ⟨38, .nt (.t 37), none, false⟩,
 ⟨39, .mv (.t 38), none, false⟩,
 ⟨40, .mv (.t 0), (some (39, false)), false⟩,
 ⟨41, .nc (.t 40), (some (39, false)), false⟩,
 ⟨42, .fa 7 (.t 41), (some (39, false)), false⟩,
 ⟨43, .ld 1 false (.t 42), (some (39, false)), false⟩,
 ⟨44, .ca (.k (.cl 58 [])) [(.t 43), (.k (.sc (.int .i64 10))), (.k (.sc (.int .i64 20000)))], (some (39, false)), false⟩,
 ⟨45, .nt (.t 44), (some (39, false)), false⟩,
 ⟨46, .pk (.t 39) (.k (.sc (.bool true))) (.t 45), none, false⟩,
 ⟨47, .mv (.t 46), none, false⟩,
 ⟨48, .mv (.t 0), (some (47, false)), false⟩,
 ⟨49, .nc (.t 48), (some (47, false)), false⟩,
 ⟨50, .fa 8 (.t 49), (some (47, false)), false⟩,
 ⟨51, .ld 1 false (.t 50), (some (47, false)), false⟩,
 ⟨52, .ln false (.t 51), (some (47, false)), false⟩,
 ⟨53, .ar .gtr false (.t 52) (.k (.sc (.int .i64 6))), (some (47, false)), false⟩,
 ⟨54, .pk (.t 47) (.k (.sc (.bool true))) (.t 53), none, false⟩])
 (.ite (.t 54)
 (.seq
 (.reg false [⟨2, .mv (.k (.sc (.bool false))), none, false⟩])
 .ret)
 .skip))
 (.seq
 (.seq
 (.reg false [⟨3, .mv (.k (.sc (.int .i64 0))), none, false⟩])
 (.cln [] [2]
 (.block 0
 (.loop [0, 3] b40_1))))
 (.seq
 (.reg false [⟨2, .mv (.k (.sc (.bool true))), none, false⟩])
 .ret)))))⟩
attribute [simp] i40
set_option maxRecDepth 1000000 in
theorem c40 : cFn Tryd.prog 40 [[], [0, 3], [], [2]] = some i40 := by kernel_rfl
theorem e40 : enterOk Tryd.prog 40 = true := by kernel_rfl
def w41_1 : IC :=
(.seq
 (.seq
 (.reg false [⟨43, .mv (.t 4), none, false⟩,
 ⟨44, .mv (.t 0), none, false⟩,
 ⟨45, .nc (.t 44), none, false⟩,
 ⟨46, .fa 8 (.t 45), none, false⟩,
 ⟨47, .ld 1 false (.t 46), none, false⟩,
 ⟨48, .ln false (.t 47), none, false⟩,
 ⟨49, .ar .lss false (.t 43) (.t 48), none, false⟩])
 (.ite (.t 49)
 .skip
 (.exit 0)))
 (.seq
 (.block 1
 (.seq
 (.reg false [⟨52, .mv (.t 0), none, false⟩,
 ⟨53, .nc (.t 52), none, false⟩,
 ⟨54, .fa 8 (.t 53), none, false⟩,
 ⟨55, .ld 1 false (.t 54), none, false⟩,
 ⟨56, .mv (.t 4), none, false⟩,
 ⟨57, .ia 4 (.t 55) (.t 56), none, false⟩,
 ⟨58, .ld 4 true (.t 57), none, false⟩,
 ⟨5, .al [(.sc (.int .i64 0)), (.sc (.int .i64 0)), (.sc (.int .i64 0)), (.sc (.int .i64 0))], none, false⟩,
 ⟨1, .so 4 (.t 5) (.t 58), none, true⟩])
 (.reg false [⟨59, .mv (.t 3), none, false⟩,
 ⟨60, .fa 0 (.t 5), none, false⟩,
 ⟨61, .ld 1 false (.t 60), none, false⟩,
 ⟨62, .fa 1 (.t 5), none, false⟩,
 ⟨63, .ld 1 false (.t 62), none, false⟩,
 ⟨64, .fa 2 (.t 5), none, false⟩,
 ⟨65, .ld 1 false (.t 64), none, false⟩,
 ⟨66, .fa 3 (.t 5), none, false⟩,
 ⟨67, .ld 1 false (.t 66), none, false⟩,
 ⟨68, .bs 2 1 [(.sc (.int .i64 0))] 4 [(0, (.t 61)), (1, (.t 63)), (2, (.t 65)), (3, (.t 67))], none, false⟩,
 ⟨69, .ca (.k (.cl 66 [])) [(.t 68)], none, false⟩,
 ⟨70, .ar .add false (.k (.sc (.string ⟨#[47]⟩))) (.t 69), none, false⟩,
 ⟨71, .ar .add false (.t 59) (.t 70), none, false⟩,
 ⟨3, .mv (.t 71), none, false⟩])))
 (.reg false [⟨50, .mv (.t 4), none, false⟩,
 ⟨51, .ar .add false (.t 50) (.k (.sc (.int .i64 1))), none, false⟩,
 ⟨4, .mv (.t 51), none, false⟩])))
def b41_1 : IC := w41_1
theorem u41_1 (call : CallF) (st : St) : evC call b41_1 st = evC call w41_1 st := rfl
attribute [simp] u41_1 w41_1
def i41 : Ev.Fn := ⟨1, 73, [.tmp 2],
 (.seq
 (.reg false [⟨2, .mv (.k (.sc (.string ⟨#[]⟩))), none, false⟩])
 (.seq
 (.reg true [⟨6, .mv (.t 0), none, false⟩,
 ⟨7, .nc (.t 6), none, false⟩,
 ⟨8, .fa 0 (.t 7), none, false⟩,
 ⟨9, .ld 1 false (.t 8), none, false⟩,
 ⟨10, .ar .add false (.t 9) (.k (.sc (.string ⟨#[47]⟩))), none, false⟩,
 ⟨11, .mv (.t 0), none, false⟩,
 ⟨12, .nc (.t 11), none, false⟩,
 ⟨13, .fa 1 (.t 12), none, false⟩,
 ⟨14, .ld 1 false (.t 13), none, false⟩,
 ⟨15, .ar .add false (.t 10) (.t 14), none, false⟩,
 ⟨16, .ar .add false (.t 15) (.k (.sc (.string ⟨#[47]⟩))), none, false⟩,
 ⟨17, .mv (.t 0), none, false⟩,
 ⟨18, .nc (.t 17), none, false⟩,
 ⟨19, .fa 2 (.t 18), none, false⟩,
 ⟨20, .ld 1 false (.t 19), none, false⟩,
 ⟨21, .ca (.k (.cl 61 [])) [(.t 20)], none, false⟩,
 ⟨22, .ar .add false (.t 16) (.t 21), none, false⟩,
 ⟨23, .ar .add false (.t 22) (.k (.sc (.string ⟨#[47]⟩))), none, false⟩,
 ⟨24, .mv (.t 0), none, false⟩,
 ⟨25, .nc (.t 24), none, false⟩,
 ⟨26, .fa 3 (.t 25), none, false⟩,
 ⟨27, .ca (.k (.cl 32 [])) [(.t 26)], none, false⟩,
 ⟨28, .ar .add false (.t 23) (.t 27), none, false⟩,
 ⟨29, .ar .add false (.t 28) (.k (.sc (.string ⟨#[47]⟩))), none, false⟩,
 ⟨30, .mv (.t 0), none, false⟩,
 ⟨31, .nc (.t 30), none, false⟩,
 ⟨32, .fa 6 (.t 31), none, false⟩,
 ⟨33, .ld 1 false (.t 32), none, false⟩,
 ⟨34, .ca (.k (.cl 61 [])) [(.t 33)], none, false⟩,
 ⟨35, .ar .add false (.t 29) (.t 34), none, false⟩,
 ⟨36, .ar .add false (.t 35) (.k (.sc (.string ⟨#[120]⟩))), none, false⟩,
 ⟨37, .mv (.t 0), none, false⟩,
 ⟨38, .nc (.t 37), none, false⟩,
 ⟨39, .fa 7 (.t 38), none, false⟩,
 ⟨40, .ld 1 false (.t 39), none, false⟩,
 ⟨41, .ca (.k (.cl 61 [])) [(.t 40)], none, false⟩,
 ⟨42, .ar .add false (.t 36) (.t 41), none, false⟩,
 ⟨3, .mv (.t 42), none, false⟩])
 (.seq
 (.seq
 (.reg false [⟨4, .mv (.k (.sc (.int .i64 0))), none, false⟩])
 (.cln [3] [2]
 (.block 0
 (.loop [0, 3, 4] b41_1))))
 (.seq
 (.reg false [⟨72, .mv (.t 3), none, false⟩,
 ⟨2, .mv (.t 72), none, false⟩])
 .ret))))⟩
attribute [simp] i41
set_option maxRecDepth 1000000 in
theorem c41 : cFn Tryd.prog 41 [[], [0, 3, 4], [3], [2]] = some i41 := by kernel_rfl
theorem e41 : enterOk Tryd.prog 41 = true := by kernel_rfl
def w42_1 : IC :=
(.seq
 (.seq
 (.reg false [⟨8, .mv (.t 4), none, false⟩,
 ⟨9, .mv (.t 0), none, false⟩,
 ⟨10, .ln false (.t 9), none, false⟩,
 ⟨11, .ar .lss false (.t 8) (.t 10), none, false⟩])
 (.ite (.t 11)
 .skip
 (.exit 0)))
 (.seq
 (.block 1
 (.reg false [⟨14, .mv (.t 3), none, false⟩,
 ⟨15, .mv (.t 4), none, false⟩,
 ⟨16, .mv (.t 0), none, false⟩,
 ⟨17, .mv (.t 4), none, false⟩,
 ⟨18, .ia 4 (.t 16) (.t 17), none, false⟩,
 ⟨19, .ld 4 true (.t 18), none, false⟩,
 ⟨20, .ca (.k (.cl 69 [])) [(.t 19)], none, false⟩,
 ⟨21, .ia 4 (.t 14) (.t 15), none, false⟩,
 ⟨1, .so 4 (.t 21) (.t 20), none, true⟩]))
 (.reg false [⟨12, .mv (.t 4), none, false⟩,
 ⟨13, .ar .add false (.t 12) (.k (.sc (.int .i64 1))), none, false⟩,
 ⟨4, .mv (.t 13), none, false⟩])))
def b42_1 : IC := w42_1
theorem u42_1 (call : CallF) (st : St) : evC call b42_1 st = evC call w42_1 st := rfl
attribute [simp] u42_1 w42_1
def i42 : Ev.Fn := ⟨1, 23, [.tmp 2],
 (.seq
 (.reg false [⟨2, .mv (.k .nl), none, false⟩])
 (.seq
 (.reg false [⟨5, .mv (.t 0), none, false⟩,
 ⟨6, .ln false (.t 5), none, false⟩,
 ⟨7, .ms 75 4 [(.sc (.int .i64 0)), (.sc (.int .i64 0)), (.sc (.int .i64 0)), (.sc (.int .i64 0))] (.t 6), none, false⟩,
 ⟨3, .mv (.t 7), none, false⟩])
 (.seq
 (.seq
 (.reg false [⟨4, .mv (.k (.sc (.int .i64 0))), none, false⟩])
 (.cln [3] [2]
 (.block 0
 (.loop [0, 3, 4] b42_1))))
 (.seq
 (.reg false [⟨22, .mv (.t 3), none, false⟩,
 ⟨2, .mv (.t 22), none, false⟩])
 .ret))))⟩
attribute [simp] i42
set_option maxRecDepth 1000000 in
theorem c42 : cFn Tryd.prog 42 [[], [0, 3, 4], [3], [2]] = some i42 := by kernel_rfl
theorem e42 : enterOk Tryd.prog 42 = true := by kernel_rfl
def i43 : Ev.Fn := ⟨1, 46, [.tmp 2],
 (.seq
 (.reg false [⟨1, .bx (.t 0), none, false⟩,
 ⟨2, .mv (.k (.sc (.bool false))), none, false⟩])
 (.seq
 (.seq
 (.reg false [⟨3, .fa 0 (.t 1), none, false⟩,
 ⟨4, .ld 1 false (.t 3), none, false⟩,
 ⟨5, .ca (.k (.cl 70 [])) [(.t 4)], none, false⟩,
 ⟨6, .nt (.t 5), none, false⟩,
 ⟨7, .mv (.t 6), none, false⟩,
 ⟨8, .fa 1 (.t 1), (some (7, false)), false⟩,
 ⟨9, .ld 1 false (.t 8), (some (7, false)), false⟩,
 ⟨10, .ca (.k (.cl 70 [])) [(.t 9)], (some (7, false)), false⟩,
 ⟨11, .nt (.t 10), (some (7, false)), false⟩,
 ⟨12, .pk (.t 7) (.k (.sc (.bool true))) (.t 11), none, false⟩,
 ⟨13, .mv (.t 12), none, false⟩,
 ⟨14, .fa 2 (.t 1), (some (13, false)), false⟩,
 ⟨15, .ld 1 false (.t 14), (some (13, false)), false⟩,
 ⟨16, .ca (.k (.cl 63 [])) [(.t 15), (.k (.sc (.int .i64 0))), (.k (.sc (.int .i64 999)))], (some (13, false)), false⟩,
 ⟨17, .nt (.t 16), (some (13, false)), false⟩,
 ⟨18, .pk (.t 13) (.k (.sc (.bool true))) (.t 17), none, false⟩,
 ⟨19, .mv (.t 18), none, false⟩,
 ⟨20, .fa 3 (.t 1), (some (19, false)), false⟩,
 ⟨21, .ld 3 true (.t 20), (some (19, false)), false⟩,
 ⟨22, .ca (.k (.cl 33 [])) [(.t 21)], (some (19, false)), false⟩,
 ⟨23, .nt (.t 22), (some (19, false)), false⟩,
 ⟨24, .pk (.t 19) (.k (.sc (.bool true))) (.t 23), none, false⟩])
 (.ite (.t 24)
 (.seq
 (.reg false [⟨2, .mv (.k (.sc (.bool false))), none, false⟩])
 .ret)
 .skip))
 (.seq
 (.seq
 (.reg false [⟨25, .fa 6 (.t 1), none, false⟩,
 ⟨26, .ld 1 false (.t 25), none, false⟩,
 ⟨27, .ca (.k (.cl 63 [])) [(.t 26), (.k (.sc (.int .i64 10))), (.k (.sc (.int .i64 20000)))], none, false⟩,
 ⟨28, .nt (.t 27), none, false⟩,
 ⟨29, .mv (.t 28), none, false⟩,
 ⟨30, .fa 7 (.t 1), (some (29, false)), false⟩,
 ⟨31, .ld 1 false (.t 30), (some (29, false)), false⟩,
 ⟨32, .ca (.k (.cl 63 [])) [(.t 31), (.k (.sc (.int .i64 10))), (.k (.sc (.int .i64 20000)))], (some (29, false)), false⟩,
 ⟨33, .nt (.t 32), (some (29, false)), false⟩,
 ⟨34, .pk (.t 29) (.k (.sc (.bool true))) (.t 33), none, false⟩,
 ⟨35, .mv (.t 34), none, false⟩,
 ⟨36, .fa 8 (.t 1), (some (35, false)), false⟩,
 ⟨37, .ld 1 false (.t 36), (some (35, false)), false⟩,
 ⟨38, .ln false (.t 37), (some (35, false)), false⟩,
 ⟨39, .ar .gtr false (.t 38) (.k (.sc (.int .i64 6))), (some (35, false)), false⟩,
 ⟨40, .pk (.t 35) (.k (.sc (.bool true))) (.t 39), none, false⟩])
 (.ite (.t 40)
 (.seq
 (.reg false [⟨2, .mv (.k (.sc (.bool false))), none, false⟩])
 .ret)
 .skip))
 (.seq
 (.reg false [⟨41, .fa 8 (.t 1), none, false⟩,
 ⟨42, .ld 1 false (.t 41), none, false⟩,
 ⟨43, .mf 72 [(.t 1)], none, false⟩,
 ⟨44, .ca (.k (.cl 71 [])) [(.t 42), (.t 43)], none, false⟩,
 ⟨45, .nt (.t 44), none, false⟩,
 ⟨2, .mv (.t 45), none, false⟩])
 .ret))))⟩
attribute [simp] i43
set_option maxRecDepth 1000000 in
theorem c43 : cFn Tryd.prog 43 [[]] = some i43 := by kernel_rfl
theorem e43 : enterOk Tryd.prog 43 = true := by kernel_rfl
def i44 : Ev.Fn := ⟨1, 13, [.tmp 2],
 (.seq
 (.reg false [⟨1, .bx (.t 0), none, false⟩,
 ⟨2, .mv (.k (.sc (.string ⟨#[]⟩))), none, false⟩])
 (.seq
 (.reg false [⟨3, .fa 0 (.t 1), none, false⟩,
 ⟨4, .ld 1 false (.t 3), none, false⟩,
 ⟨5, .fa 1 (.t 1), none, false⟩,
 ⟨6, .ld 1 false (.t 5), none, false⟩,
 ⟨7, .fa 2 (.t 1), none, false⟩,
 ⟨8, .ld 1 false (.t 7), none, false⟩,
 ⟨9, .fa 3 (.t 1), none, false⟩,
 ⟨10, .ld 1 false (.t 9), none, false⟩,
 ⟨11, .bs 2 1 [(.sc (.int .i64 0))] 4 [(0, (.t 4)), (1, (.t 6)), (2, (.t 8)), (3, (.t 10))], none, false⟩,
 ⟨12, .ca (.k (.cl 38 [])) [(.t 11)], none, false⟩,
 ⟨2, .mv (.t 12), none, false⟩])
 .ret))⟩
attribute [simp] i44
set_option maxRecDepth 1000000 in
theorem c44 : cFn Tryd.prog 44 [[]] = some i44 := by kernel_rfl
theorem e44 : enterOk Tryd.prog 44 = true := by kernel_rfl
def w46_1 : IC :=
(.seq
 (.seq
 (.reg false [⟨11, .mv (.t 5), none, false⟩,
 ⟨12, .mv (.t 0), none, false⟩,
 ⟨13, .ln false (.t 12), none, false⟩,
 ⟨14, .ar .lss false (.t 11) (.t 13), none, false⟩])
 (.ite (.t 14)
 .skip
 (.exit 0)))
 (.seq
 (.block 1
 (.seq
 (.reg true [⟨17, .mv (.t 0), none, false⟩,
 ⟨18, .mv (.t 5), none, false⟩,
 ⟨19, .ia 4 (.t 17) (.t 18), none, false⟩,
 ⟨20, .ld 4 true (.t 19), none, false⟩,
 ⟨21, .mv (.t 1), none, false⟩,
 ⟨22, .mv (.t 5), none, false⟩,
 ⟨23, .ia 4 (.t 21) (.t 22), none, false⟩,
 ⟨24, .ld 4 true (.t 23), none, false⟩,
 ⟨25, .ca (.k (.cl 77 [])) [(.t 20), (.t 24)], none, false⟩,
 ⟨26, .nt (.t 25), none, false⟩])
 (.ite (.t 26)
 (.seq
 (.reg false [⟨4, .mv (.k (.sc (.bool false))), none, false⟩])
 .ret)
 .skip)))
 (.reg false [⟨15, .mv (.t 5), none, false⟩,
 ⟨16, .ar .add false (.t 15) (.k (.sc (.int .i64 1))), none, false⟩,
 ⟨5, .mv (.t 16), none, false⟩])))
def b46_1 : IC := w46_1
theorem u46_1 (call : CallF) (st : St) : evC call b46_1 st = evC call w46_1 st := rfl
attribute [simp] u46_1 w46_1
def i46 : Ev.Fn := ⟨2, 27, [.tmp 4],
 (.seq
 (.reg false [⟨4, .mv (.k (.sc (.bool false))), none, false⟩])
 (.seq
 (.seq
 (.reg false [⟨6, .mv (.t 0), none, false⟩,
 ⟨7, .ln false (.t 6), none, false⟩,
 ⟨8, .mv (.t 1), none, false⟩,
 ⟨9, .ln false (.t 8), none, false⟩,
 ⟨10, .ar .neq false (.t 7) (.t 9), none, false⟩])
 (.ite (.t 10)
 (.seq
 (.reg false [⟨4, .mv (.k (.sc (.bool false))), none, false⟩])
 .ret)
 .skip))
 (.seq
 (.seq
 (.reg false [⟨5, .mv (.k (.sc (.int .i64 0))), none, false⟩])
 (.cln [] [4]
 (.block 0
 (.loop [0, 1, 5] b46_1))))
 (.seq
 (.reg false [⟨4, .mv (.k (.sc (.bool true))), none, false⟩])
 .ret))))⟩
attribute [simp] i46
set_option maxRecDepth 1000000 in
theorem c46 : cFn Tryd.prog 46 [[], [0, 1, 5], [], [4]] = some i46 := by kernel_rfl
theorem e46 : enterOk Tryd.prog 46 = true := by kernel_rfl
def w57_1 : IC :=
(.seq
 (.seq
 (.reg false [⟨6, .mv (.t 4), none, false⟩,
 ⟨7, .mv (.t 3), none, false⟩,
 ⟨8, .ln false (.t 7), none, false⟩,
 ⟨9, .ar .lss false (.t 6) (.t 8), none, false⟩])
 (.ite (.t 9)
 .skip
 (.exit 0)))
 (.seq
 (.block 1
 (.seq
 (.reg false [⟨12, .mv (.t 3), none, false⟩,
 ⟨13, .mv (.t 4), none, false⟩,
 ⟨14, .ia 1 (.t 12) (.t 13), none, false⟩,
 ⟨15, .ld 1 false (.t 14), none, false⟩,
 ⟨16, .mv (.t 0), none, false⟩,
 ⟨17, .ar .eql false (.t 15) (.t 16), none, false⟩])
 (.ite (.t 17)
 (.seq
 (.reg false [⟨18, .mv (.t 4), none, false⟩,
 ⟨2, .mv (.t 18), none, false⟩])
 .ret)
 .skip)))
 (.reg false [⟨10, .mv (.t 4), none, false⟩,
 ⟨11, .ar .add false (.t 10) (.k (.sc (.int .i64 1))), none, false⟩,
 ⟨4, .mv (.t 11), none, false⟩])))
def b57_1 : IC := w57_1
theorem u57_1 (call : CallF) (st : St) : evC call b57_1 st = evC call w57_1 st := rfl
attribute [simp] u57_1 w57_1
def i57 : Ev.Fn := ⟨1, 19, [.tmp 2],
 (.seq
 (.reg false [⟨2, .mv (.k (.sc (.int .i64 0))), none, false⟩])
 (.seq
 (.reg false [⟨5, .ca (.k (.cl 84 [])) [], none, false⟩,
 ⟨3, .mv (.t 5), none, false⟩])
 (.seq
 (.seq
 (.reg false [⟨4, .mv (.k (.sc (.int .i64 0))), none, false⟩])
 (.cln [] [2]
 (.block 0
 (.loop [0, 3, 4] b57_1))))
 (.seq
 (.reg false [⟨2, .mv (.k (.sc (.int .i64 (-1)))), none, false⟩])
 .ret))))⟩
attribute [simp] i57
set_option maxRecDepth 1000000 in
theorem c57 : cFn Tryd.prog 57 [[], [0, 3, 4], [], [2]] = some i57 := by kernel_rfl
theorem e57 : enterOk Tryd.prog 57 = true := by kernel_rfl
def i58 : Ev.Fn := ⟨3, 15, [.tmp 6],
 (.seq
 (.reg false [⟨6, .mv (.k (.sc (.bool false))), none, false⟩])
 (.seq
 (.reg false [⟨7, .mv (.t 0), none, false⟩,
 ⟨8, .mv (.t 1), none, false⟩,
 ⟨9, .ar .geq false (.t 7) (.t 8), none, false⟩,
 ⟨10, .mv (.t 9), none, false⟩,
 ⟨11, .mv (.t 0), (some (10, true)), false⟩,
 ⟨12, .mv (.t 2), (some (10, true)), false⟩,
 ⟨13, .ar .leq false (.t 11) (.t 12), (some (10, true)), false⟩,
 ⟨14, .pk (.t 10) (.t 13) (.k (.sc (.bool false))), none, false⟩,
 ⟨6, .mv (.t 14), none, false⟩])
 .ret))⟩
attribute [simp] i58
set_option maxRecDepth 1000000 in
theorem c58 : cFn Tryd.prog 58 [[]] = some i58 := by kernel_rfl
theorem e58 : enterOk Tryd.prog 58 = true := by kernel_rfl
def i59 : Ev.Fn := ⟨0, 12, [.tmp 0],
 (.seq
 (.reg false [⟨0, .mv (.k .nl), none, false⟩])
 (.seq
 (.reg false [⟨1, .bs 2 1 [(.sc (.int .i64 0))] 3 [(0, (.k (.sc (.int .i64 20)))), (1, (.k (.sc (.int .i64 40)))), (2, (.k (.sc (.int .i64 310))))], none, false⟩,
 ⟨2, .bs 2 1 [(.sc (.int .i64 0))] 3 [(0, (.k (.sc (.int .i64 35)))), (1, (.k (.sc (.int .i64 45)))), (2, (.k (.sc (.int .i64 410))))], none, false⟩,
 ⟨3, .bs 2 1 [(.sc (.int .i64 0))] 3 [(0, (.k (.sc (.int .i64 15)))), (1, (.k (.sc (.int .i64 33)))), (2, (.k (.sc (.int .i64 280))))], none, false⟩,
 ⟨4, .bs 2 1 [(.sc (.int .i64 0))] 3 [(0, (.k (.sc (.int .i64 50)))), (1, (.k (.sc (.int .i64 36)))), (2, (.k (.sc (.int .i64 240))))], none, false⟩,
 ⟨5, .bs 2 1 [(.sc (.int .i64 0))] 3 [(0, (.k (.sc (.int .i64 95)))), (1, (.k (.sc (.int .i64 85)))), (2, (.k (.sc (.int .i64 270))))], none, false⟩,
 ⟨6, .bs 2 1 [(.sc (.int .i64 0))] 3 [(0, (.k (.sc (.int .i64 5)))), (1, (.k (.sc (.int .i64 35)))), (2, (.k (.sc (.int .i64 370))))], none, false⟩,
 ⟨7, .bs 2 1 [(.sc (.int .i64 0))] 3 [(0, (.k (.sc (.int .i64 10)))), (1, (.k (.sc (.int .i64 42)))), (2, (.k (.sc (.int .i64 290))))], none, false⟩,
 ⟨8, .bs 2 1 [(.sc (.int .i64 0))] 3 [(0, (.k (.sc (.int .i64 40)))), (1, (.k (.sc (.int .i64 40)))), (2, (.k (.sc (.int .i64 330))))], none, false⟩,
 ⟨9, .bs 2 1 [(.sc (.int .i64 0))] 3 [(0, (.k (.sc (.int .i64 80)))), (1, (.k (.sc (.int .i64 60)))), (2, (.k (.sc (.int .i64 220))))], none, false⟩,
 ⟨10, .bs 2 1 [(.sc (.int .i64 0))] 3 [(0, (.k (.sc (.int .i64 70)))), (1, (.k (.sc (.int .i64 38)))), (2, (.k (.sc (.int .i64 260))))], none, false⟩,
 ⟨11, .bw 66 1 [.nl] 10 [(0, (.t 1)), (1, (.t 2)), (2, (.t 3)), (3, (.t 4)), (4, (.t 5)), (5, (.t 6)), (6, (.t 7)), (7, (.t 8)), (8, (.t 9)), (9, (.t 10))], none, false⟩,
 ⟨0, .mv (.t 11), none, false⟩])
 .ret))⟩
attribute [simp] i59
set_option maxRecDepth 1000000 in
theorem c59 : cFn Tryd.prog 59 [[]] = some i59 := by kernel_rfl
theorem e59 : enterOk Tryd.prog 59 = true := by kernel_rfl
def i60 : Ev.Fn := ⟨1, 5, [.tmp 2],
 (.seq
 (.reg false [⟨2, .mv (.k (.sc (.bool false))), none, false⟩])
 (.seq
 (.reg false [⟨3, .mv (.t 0), none, false⟩,
 ⟨4, .ca (.k (.cl 58 [])) [(.t 3), (.k (.sc (.int .i64 0))), (.k (.sc (.int .i64 179)))], none, false⟩,
 ⟨2, .mv (.t 4), none, false⟩])
 .ret))⟩
attribute [simp] i60
set_option maxRecDepth 1000000 in
theorem c60 : cFn Tryd.prog 60 [[]] = some i60 := by kernel_rfl
theorem e60 : enterOk Tryd.prog 60 = true := by kernel_rfl
def w61_1 : IC :=
(.seq
 (.seq
 (.reg false [⟨12, .mv (.t 4), none, false⟩,
 ⟨13, .ar .neq false (.t 12) (.k (.sc (.int .i64 0))), none, false⟩])
 (.ite (.t 13)
 .skip
 (.exit 0)))
 (.seq
 (.block 1
 (.seq
 (.reg false [⟨16, .mv (.t 4), none, false⟩,
 ⟨17, .ar .rem false (.t 16) (.k (.sc (.int .i64 10))), none, false⟩,
 ⟨5, .mv (.t 17), none, false⟩])
 (.seq
 (.seq
 (.reg false [⟨18, .mv (.t 5), none, false⟩,
 ⟨19, .ar .lss false (.t 18) (.k (.sc (.int .i64 0))), none, false⟩])
 (.ite (.t 19)
 (.reg false [⟨20, .mv (.t 5), none, false⟩,
 ⟨21, .ng (.t 20), none, false⟩,
 ⟨5, .mv (.t 21), none, false⟩])
 .skip))
 (.reg false [⟨22, .mv (.t 3), none, false⟩,
 ⟨23, .mv (.t 5), none, false⟩,
 ⟨24, .ar .add false (.k (.sc (.int .i64 48))) (.t 23), none, false⟩,
 ⟨25, .cv .u8 (.t 24), none, false⟩,
 ⟨26, .bs 5 1 [(.sc (.int .u8 0))] 1 [(0, (.t 25))], none, false⟩,
 ⟨27, .ap 5 1 false (.t 22) (.t 26), none, false⟩,
 ⟨3, .mv (.t 27), none, false⟩]))))
 (.reg false [⟨14, .mv (.t 4), none, false⟩,
 ⟨15, .ar .quo false (.t 14) (.k (.sc (.int .i64 10))), none, false⟩,
 ⟨4, .mv (.t 15), none, false⟩])))
def b61_1 : IC := w61_1
theorem u61_1 (call : CallF) (st : St) : evC call b61_1 st = evC call w61_1 st := rfl
attribute [simp] u61_1 w61_1
def w61_2 : IC :=
(.seq
 (.seq
 (.reg false [⟨37, .mv (.t 7), none, false⟩,
 ⟨38, .ar .geq false (.t 37) (.k (.sc (.int .i64 0))), none, false⟩])
 (.ite (.t 38)
 .skip
 (.exit 2)))
 (.seq
 (.block 3
 (.reg false [⟨41, .mv (.t 6), none, false⟩,
 ⟨42, .mv (.t 3), none, false⟩,
 ⟨43, .mv (.t 7), none, false⟩,
 ⟨44, .ia 1 (.t 42) (.t 43), none, false⟩,
 ⟨45, .ld 1 false (.t 44), none, false⟩,
 ⟨46, .bs 5 1 [(.sc (.int .u8 0))] 1 [(0, (.t 45))], none, false⟩,
 ⟨47, .ap 5 1 false (.t 41) (.t 46), none, false⟩,
 ⟨6, .mv (.t 47), none, false⟩]))
 (.reg false [⟨39, .mv (.t 7), none, false⟩,
 ⟨40, .ar .sub false (.t 39) (.k (.sc (.int .i64 1))), none, false⟩,
 ⟨7, .mv (.t 40), none, false⟩])))
def b61_2 : IC := w61_2
theorem u61_2 (call : CallF) (st : St) : evC call b61_2 st = evC call w61_2 st := rfl
attribute [simp] u61_2 w61_2
def i61 : Ev.Fn := ⟨1, 50, [.tmp 2],
 (.seq
 (.reg false [⟨2, .mv (.k (.sc (.string ⟨#[]⟩))), none, false⟩])
 (.seq
 (.seq
 (.reg false [⟨8, .mv (.t 0), none, false⟩,
 ⟨9, .ar .eql false (.t 8) (.k (.sc (.int .i64 0))), none, false⟩])
 (.ite (.t 9)
 (.seq
 (.reg false [⟨2, .mv (.k (.sc (.string ⟨#[48]⟩))), none, false⟩])
 .ret)
 .skip))
 (.seq
 (.reg false [⟨10, .bs 5 1 [(.sc (.int .u8 0))] 0 [], none, false⟩,
 ⟨3, .mv (.t 10), none, false⟩])
 (.seq
 (.seq
 (.reg false [⟨11, .mv (.t 0), none, false⟩,
 ⟨4, .mv (.t 11), none, false⟩])
 (.cln [0, 3] [2]
 (.block 0
 (.loop [0, 3, 4] b61_1))))
 (.seq
 (.seq
 (.reg false [⟨28, .mv (.t 0), none, false⟩,
 ⟨29, .ar .lss false (.t 28) (.k (.sc (.int .i64 0))), none, false⟩])
 (.ite (.t 29)
 (.reg false [⟨30, .mv (.t 3), none, false⟩,
 ⟨31, .bs 5 1 [(.sc (.int .u8 0))] 1 [(0, (.k (.sc (.int .u8 45))))], none, false⟩,
 ⟨32, .ap 5 1 false (.t 30) (.t 31), none, false⟩,
 ⟨3, .mv (.t 32), none, false⟩])
 .skip))
 (.seq
 (.reg false [⟨33, .bs 5 1 [(.sc (.int .u8 0))] 0 [], none, false⟩,
 ⟨6, .mv (.t 33), none, false⟩])
 (.seq
 (.seq
 (.reg false [⟨34, .mv (.t 3), none, false⟩,
 ⟨35, .ln false (.t 34), none, false⟩,
 ⟨36, .ar .sub false (.t 35) (.k (.sc (.int .i64 1))), none, false⟩,
 ⟨7, .mv (.t 36), none, false⟩])
 (.cln [6] [2]
 (.block 2
 (.loop [3, 6, 7] b61_2))))
 (.seq
 (.reg false [⟨48, .mv (.t 6), none, false⟩,
 ⟨49, .by (.t 48), none, false⟩,
 ⟨2, .mv (.t 49), none, false⟩])
 .ret))))))))⟩
attribute [simp] i61
set_option maxRecDepth 1000000 in
theorem c61 : cFn Tryd.prog 61 [[], [0, 3, 4], [0, 3], [2], [3, 6, 7], [6], [2]] = some i61 := by kernel_rfl
theorem e61 : enterOk Tryd.prog 61 = true := by kernel_rfl
def i62 : Ev.Fn := ⟨1, 18, [.tmp 2, .tmp 3],
 (.seq
 (.reg false [⟨2, .mv (.k (.sc (.int .i64 0))), none, false⟩,
 ⟨3, .mv (.k (.sc (.bool false))), none, false⟩])
 (.seq
 (.reg false [⟨9, .mv (.t 0), none, false⟩,
 ⟨10, .ca (.k (.cl 85 [])) [(.t 9)], none, false⟩,
 ⟨8, .mv (.t 10), none, false⟩,
 ⟨11, .xt (.t 8) 0, none, false⟩,
 ⟨12, .xt (.t 8) 1, none, false⟩,
 ⟨13, .xt (.t 8) 2, none, false⟩,
 ⟨14, .xt (.t 8) 3, none, false⟩,
 ⟨4, .mv (.t 11), none, false⟩,
 ⟨5, .mv (.t 12), none, false⟩,
 ⟨6, .mv (.t 13), none, false⟩,
 ⟨7, .mv (.t 14), none, false⟩])
 (.seq
 (.reg false [⟨15, .mv (.t 4), none, false⟩,
 ⟨16, .mv (.t 7), none, false⟩,
 ⟨17, .ar .eql false (.t 16) (.k (.sc (.int .i64 0))), none, false⟩,
 ⟨2, .mv (.t 15), none, false⟩,
 ⟨3, .mv (.t 17), none, false⟩])
 .ret)))⟩
attribute [simp] i62
set_option maxRecDepth 1000000 in
theorem c62 : cFn Tryd.prog 62 [[]] = some i62 := by kernel_rfl
theorem e62 : enterOk Tryd.prog 62 = true := by kernel_rfl
def i63 : Ev.Fn := ⟨3, 15, [.tmp 6],
 (.seq
 (.reg false [⟨6, .mv (.k (.sc (.bool false))), none, false⟩])
 (.seq
 (.reg false [⟨7, .mv (.t 0), none, false⟩,
 ⟨8, .mv (.t 1), none, false⟩,
 ⟨9, .ar .geq false (.t 7) (.t 8), none, false⟩,
 ⟨10, .mv (.t 9), none, false⟩,
 ⟨11, .mv (.t 0), (some (10, true)), false⟩,
 ⟨12, .mv (.t 2), (some (10, true)), false⟩,
 ⟨13, .ar .leq false (.t 11) (.t 12), (some (10, true)), false⟩,
 ⟨14, .pk (.t 10) (.t 13) (.k (.sc (.bool false))), none, false⟩,
 ⟨6, .mv (.t 14), none, false⟩])
 .ret))⟩
attribute [simp] i63
set_option maxRecDepth 1000000 in
theorem c63 : cFn Tryd.prog 63 [[]] = some i63 := by kernel_rfl
theorem e63 : enterOk Tryd.prog 63 = true := by kernel_rfl
def w66_1 : IC :=
(.seq
 (.seq
 (.reg false [⟨8, .mv (.t 4), none, false⟩,
 ⟨9, .mv (.t 0), none, false⟩,
 ⟨10, .ln false (.t 9), none, false⟩,
 ⟨11, .ar .lss false (.t 8) (.t 10), none, false⟩])
 (.ite (.t 11)
 .skip
 (.exit 0)))
 (.seq
 (.block 1
 (.seq
 (.seq
 (.reg false [⟨14, .mv (.t 4), none, false⟩,
 ⟨15, .ar .gtr false (.t 14) (.k (.sc (.int .i64 0))), none, false⟩])
 (.ite (.t 15)
 (.reg false [⟨16, .mv (.t 3), none, false⟩,
 ⟨17, .ar .add false (.t 16) (.k (.sc (.string ⟨#[44]⟩))), none, false⟩,
 ⟨3, .mv (.t 17), none, false⟩])
 .skip))
 (.reg false [⟨18, .mv (.t 3), none, false⟩,
 ⟨19, .mv (.t 0), none, false⟩,
 ⟨20, .mv (.t 4), none, false⟩,
 ⟨21, .ia 1 (.t 19) (.t 20), none, false⟩,
 ⟨22, .ld 1 false (.t 21), none, false⟩,
 ⟨23, .ca (.k (.cl 61 [])) [(.t 22)], none, false⟩,
 ⟨24, .ar .add false (.t 18) (.t 23), none, false⟩,
 ⟨3, .mv (.t 24), none, false⟩])))
 (.reg false [⟨12, .mv (.t 4), none, false⟩,
 ⟨13, .ar .add false (.t 12) (.k (.sc (.int .i64 1))), none, false⟩,
 ⟨4, .mv (.t 13), none, false⟩])))
def b66_1 : IC := w66_1
theorem u66_1 (call : CallF) (st : St) : evC call b66_1 st = evC call w66_1 st := rfl
attribute [simp] u66_1 w66_1
def i66 : Ev.Fn := ⟨1, 26, [.tmp 2],
 (.seq
 (.reg false [⟨2, .mv (.k (.sc (.string ⟨#[]⟩))), none, false⟩])
 (.seq
 (.seq
 (.reg false [⟨5, .mv (.t 0), none, false⟩,
 ⟨6, .ln false (.t 5), none, false⟩,
 ⟨7, .ar .eql false (.t 6) (.k (.sc (.int .i64 0))), none, false⟩])
 (.ite (.t 7)
 (.seq
 (.reg false [⟨2, .mv (.k (.sc (.string ⟨#[45]⟩))), none, false⟩])
 .ret)
 .skip))
 (.seq
 (.reg false [⟨3, .mv (.k (.sc (.string ⟨#[]⟩))), none, false⟩])
 (.seq
 (.seq
 (.reg false [⟨4, .mv (.k (.sc (.int .i64 0))), none, false⟩])
 (.cln [3] [2]
 (.block 0
 (.loop [0, 3, 4] b66_1))))
 (.seq
 (.reg false [⟨25, .mv (.t 3), none, false⟩,
 ⟨2, .mv (.t 25), none, false⟩])
 .ret)))))⟩
attribute [simp] i66
set_option maxRecDepth 1000000 in
theorem c66 : cFn Tryd.prog 66 [[], [0, 3, 4], [3], [2]] = some i66 := by kernel_rfl
theorem e66 : enterOk Tryd.prog 66 = true := by kernel_rfl
def w67_1 : IC :=
(.seq
 (.seq
 (.reg false [⟨17, .mv (.t 3), none, false⟩,
 ⟨18, .mv (.t 0), none, false⟩,
 ⟨19, .ln true (.t 18), none, false⟩,
 ⟨20, .ar .lss false (.t 17) (.t 19), none, false⟩])
 (.ite (.t 20)
 .skip
 (.exit 0)))
 (.seq
 (.block 1
 (.seq
 (.reg false [⟨23, .mv (.t 0), none, false⟩,
 ⟨24, .mv (.t 3), none, false⟩,
 ⟨25, .ix (.t 23) (.t 24), none, false⟩,
 ⟨26, .ca (.k (.cl 87 [])) [(.t 25)], none, false⟩,
 ⟨27, .nt (.t 26), none, false⟩,
 ⟨28, .mv (.t 27), none, false⟩,
 ⟨29, .mv (.t 0), (some (28, true)), false⟩,
 ⟨30, .mv (.t 3), (some (28, true)), false⟩,
 ⟨31, .ix (.t 29) (.t 30), (some (28, true)), false⟩,
 ⟨32, .ca (.k (.cl 88 [])) [(.t 31)], (some (28, true)), false⟩,
 ⟨33, .nt (.t 32), (some (28, true)), false⟩,
 ⟨34, .pk (.t 28) (.t 33) (.k (.sc (.bool false))), none, false⟩])
 (.ite (.t 34)
 (.seq
 (.reg false [⟨2, .mv (.k (.sc (.bool false))), none, false⟩])
 .ret)
 .skip)))
 (.reg false [⟨21, .mv (.t 3), none, false⟩,
 ⟨22, .ar .add false (.t 21) (.k (.sc (.int .i64 1))), none, false⟩,
 ⟨3, .mv (.t 22), none, false⟩])))
def b67_1 : IC := w67_1
theorem u67_1 (call : CallF) (st : St) : evC call b67_1 st = evC call w67_1 st := rfl
attribute [simp] u67_1 w67_1
def i67 : Ev.Fn := ⟨1, 35, [.tmp 2],
 (.seq
 (.reg false [⟨2, .mv (.k (.sc (.bool false))), none, false⟩])
 (.seq
 (.seq
 (.reg false [⟨4, .mv (.t 0), none, false⟩,
 ⟨5, .ar .eql false (.t 4) (.k (.sc (.string ⟨#[]⟩))), none, false⟩,
 ⟨6, .mv (.t 5), none, false⟩,
 ⟨7, .mv (.t 0), (some (6, false)), false⟩,
 ⟨8, .ln true (.t 7), (some (6, false)), false⟩,
 ⟨9, .ar .gtr false (.t 8) (.k (.sc (.int .i64 10))), (some (6, false)), false⟩,
 ⟨10, .pk (.t 6) (.k (.sc (.bool true))) (.t 9), none, false⟩,
 ⟨11, .mv (.t 10), none, false⟩,
 ⟨12, .mv (.t 0), (some (11, false)), false⟩,
 ⟨13, .ix (.t 12) (.k (.sc (.int .i64 0))), (some (11, false)), false⟩,
 ⟨14, .ca (.k (.cl 87 [])) [(.t 13)], (some (11, false)), false⟩,
 ⟨15, .nt (.t 14), (some (11, false)), false⟩,
 ⟨16, .pk (.t 11) (.k (.sc (.bool true))) (.t 15), none, false⟩])
 (.ite (.t 16)
 (.seq
 (.reg false [⟨2, .mv (.k (.sc (.bool false))), none, false⟩])
 .ret)
 .skip))
 (.seq
 (.seq
 (.reg false [⟨3, .mv (.k (.sc (.int .i64 0))), none, false⟩])
 (.cln [] [2]
 (.block 0
 (.loop [0, 3] b67_1))))
 (.seq
 (.reg false [⟨2, .mv (.k (.sc (.bool true))), none, false⟩])
 .ret))))⟩
attribute [simp] i67
set_option maxRecDepth 1000000 in
theorem c67 : cFn Tryd.prog 67 [[], [0, 3], [], [2]] = some i67 := by kernel_rfl
theorem e67 : enterOk Tryd.prog 67 = true := by kernel_rfl
def i68 : Ev.Fn := ⟨3, 47, [.tmp 6],
 (.seq
 (.reg false [⟨6, .mv (.k (.sc (.bool false))), none, false⟩])
 (.seq
 (.reg true [⟨7, .mv (.t 0), none, false⟩,
 ⟨8, .nc (.t 7), none, false⟩,
 ⟨9, .fa 0 (.t 8), none, false⟩,
 ⟨10, .ld 1 false (.t 9), none, false⟩,
 ⟨11, .mv (.t 1), none, false⟩,
 ⟨12, .ca (.k (.cl 58 [])) [(.t 10), (.k (.sc (.int .i64 0))), (.t 11)], none, false⟩,
 ⟨13, .mv (.t 12), none, false⟩,
 ⟨14, .mv (.t 0), (some (13, true)), false⟩,
 ⟨15, .nc (.t 14), (some (13, true)), false⟩,
 ⟨16, .fa 1 (.t 15), (some (13, true)), false⟩,
 ⟨17, .ld 1 false (.t 16), (some (13, true)), false⟩,
 ⟨18, .mv (.t 2), (some (13, true)), false⟩,
 ⟨19, .ca (.k (.cl 58 [])) [(.t 17), (.k (.sc (.int .i64 0))), (.t 18)], (some (13, true)), false⟩,
 ⟨20, .pk (.t 13) (.t 19) (.k (.sc (.bool false))), none, false⟩,
 ⟨21, .mv (.t 20), none, false⟩,
 ⟨22, .mv (.t 0), (some (21, true)), false⟩,
 ⟨23, .nc (.t 22), (some (21, true)), false⟩,
 ⟨24, .fa 2 (.t 23), (some (21, true)), false⟩,
 ⟨25, .ld 1 false (.t 24), (some (21, true)), false⟩,
 ⟨26, .mv (.t 1), (some (21, true)), false⟩,
 ⟨27, .mv (.t 0), (some (21, true)), false⟩,
 ⟨28, .nc (.t 27), (some (21, true)), false⟩,
 ⟨29, .fa 0 (.t 28), (some (21, true)), false⟩,
 ⟨30, .ld 1 false (.t 29), (some (21, true)), false⟩,
 ⟨31, .ar .sub false (.t 26) (.t 30), (some (21, true)), false⟩,
 ⟨32, .ca (.k (.cl 58 [])) [(.t 25), (.k (.sc (.int .i64 1))), (.t 31)], (some (21, true)), false⟩,
 ⟨33, .pk (.t 21) (.t 32) (.k (.sc (.bool false))), none, false⟩,
 ⟨34, .mv (.t 33), none, false⟩,
 ⟨35, .mv (.t 0), (some (34, true)), false⟩,
 ⟨36, .nc (.t 35), (some (34, true)), false⟩,
 ⟨37, .fa 3 (.t 36), (some (34, true)), false⟩,
 ⟨38, .ld 1 false (.t 37), (some (34, true)), false⟩,
 ⟨39, .mv (.t 2), (some (34, true)), false⟩,
 ⟨40, .mv (.t 0), (some (34, true)), false⟩,
 ⟨41, .nc (.t 40), (some (34, true)), false⟩,
 ⟨42, .fa 1 (.t 41), (some (34, true)), false⟩,
 ⟨43, .ld 1 false (.t 42), (some (34, true)), false⟩,
 ⟨44, .ar .sub false (.t 39) (.t 43), (some (34, true)), false⟩,
 ⟨45, .ca (.k (.cl 58 [])) [(.t 38), (.k (.sc (.int .i64 1))), (.t 44)], (some (34, true)), false⟩,
 ⟨46, .pk (.t 34) (.t 45) (.k (.sc (.bool false))), none, false⟩,
 ⟨6, .mv (.t 46), none, false⟩])
 .ret))⟩
attribute [simp] i68
set_option maxRecDepth 1000000 in
theorem c68 : cFn Tryd.prog 68 [[]] = some i68 := by kernel_rfl
theorem e68 : enterOk Tryd.prog 68 = true := by kernel_rfl
def i69 : Ev.Fn := ⟨1, 17, [.cell 2 4 true],
 (.seq
 (.reg false [⟨1, .bx (.t 0), none, false⟩,
 ⟨2, .al [(.sc (.int .i64 0)), (.sc (.int .i64 0)), (.sc (.int .i64 0)), (.sc (.int .i64 0))], none, false⟩])
 (.seq
 (.reg false [⟨3, .al [(.sc (.int .i64 0)), (.sc (.int .i64 0)), (.sc (.int .i64 0)), (.sc (.int .i64 0))], none, false⟩])
 (.seq
 (.reg false [⟨4, .fa 0 (.t 1), none, false⟩,
 ⟨5, .ld 1 false (.t 4), none, false⟩,
 ⟨6, .fa 0 (.t 3), none, false⟩,
 ⟨1, .so 1 (.t 6) (.t 5), none, true⟩])
 (.seq
 (.reg false [⟨7, .fa 1 (.t 1), none, false⟩,
 ⟨8, .ld 1 false (.t 7), none, false⟩,
 ⟨9, .fa 1 (.t 3), none, false⟩,
 ⟨1, .so 1 (.t 9) (.t 8), none, true⟩])
 (.seq
 (.reg false [⟨10, .fa 2 (.t 1), none, false⟩,
 ⟨11, .ld 1 false (.t 10), none, false⟩,
 ⟨12, .fa 2 (.t 3), none, false⟩,
 ⟨1, .so 1 (.t 12) (.t 11), none, true⟩])
 (.seq
 (.reg false [⟨13, .fa 3 (.t 1), none, false⟩,
 ⟨14, .ld 1 false (.t 13), none, false⟩,
 ⟨15, .fa 3 (.t 3), none, false⟩,
 ⟨1, .so 1 (.t 15) (.t 14), none, true⟩])
 (.seq
 (.reg false [⟨16, .ld 4 true (.t 3), none, false⟩,
 ⟨1, .so 4 (.t 2) (.t 16), none, true⟩])
 .ret)))))))⟩
attribute [simp] i69
set_option maxRecDepth 1000000 in
theorem c69 : cFn Tryd.prog 69 [[]] = some i69 := by kernel_rfl
theorem e69 : enterOk Tryd.prog 69 = true := by kernel_rfl
def w70_1 : IC :=
(.seq
 (.seq
 (.reg false [⟨22, .mv (.t 3), none, false⟩,
 ⟨23, .mv (.t 0), none, false⟩,
 ⟨24, .ln true (.t 23), none, false⟩,
 ⟨25, .ar .lss false (.t 22) (.t 24), none, false⟩])
 (.ite (.t 25)
 .skip
 (.exit 0)))
 (.seq
 (.block 1
 (.seq
 (.reg false [⟨28, .mv (.t 0), none, false⟩,
 ⟨29, .mv (.t 3), none, false⟩,
 ⟨30, .ix (.t 28) (.t 29), none, false⟩,
 ⟨31, .ar .lss false (.t 30) (.k (.sc (.int .u8 97))), none, false⟩,
 ⟨32, .mv (.t 31), none, false⟩,
 ⟨33, .mv (.t 0), (some (32, false)), false⟩,
 ⟨34, .mv (.t 3), (some (32, false)), false⟩,
 ⟨35, .ix (.t 33) (.t 34), (some (32, false)), false⟩,
 ⟨36, .ar .gtr false (.t 35) (.k (.sc (.int .u8 122))), (some (32, false)), false⟩,
 ⟨37, .pk (.t 32) (.k (.sc (.bool true))) (.t 36), none, false⟩,
 ⟨38, .mv (.t 37), none, false⟩,
 ⟨39, .mv (.t 0), (some (38, true)), false⟩,
 ⟨40, .mv (.t 3), (some (38, true)), false⟩,
 ⟨41, .ix (.t 39) (.t 40), (some (38, true)), false⟩,
 ⟨42, .ar .lss false (.t 41) (.k (.sc (.int .u8 48))), (some (38, true)), false⟩,
 ⟨43, .mv (.t 42), (some (38, true)), false⟩,
 ⟨44, .mv (.t 0), (some (43, false)), false⟩,
 ⟨45, .mv (.t 3), (some (43, false)), false⟩,
 ⟨46, .ix (.t 44) (.t 45), (some (43, false)), false⟩,
 ⟨47, .ar .gtr false (.t 46) (.k (.sc (.int .u8 57))), (some (43, false)), false⟩,
 ⟨48, .pk (.t 43) (.k (.sc (.bool true))) (.t 47), (some (38, true)), false⟩,
 ⟨49, .pk (.t 38) (.t 48) (.k (.sc (.bool false))), none, false⟩])
 (.ite (.t 49)
 (.seq
 (.reg false [⟨2, .mv (.k (.sc (.bool false))), none, false⟩])
 .ret)
 .skip)))
 (.reg false [⟨26, .mv (.t 3), none, false⟩,
 ⟨27, .ar .add false (.t 26) (.k (.sc (.int .i64 1))), none, false⟩,
 ⟨3, .mv (.t 27), none, false⟩])))
def b70_1 : IC := w70_1
theorem u70_1 (call : CallF) (st : St) : evC call b70_1 st = evC call w70_1 st := rfl
attribute [simp] u70_1 w70_1
def i70 : Ev.Fn := ⟨1, 50, [.tmp 2],
 (.seq
 (.reg false [⟨2, .mv (.k (.sc (.bool false))), none, false⟩])
 (.seq
 (.seq
 (.reg false [⟨4, .mv (.t 0), none, false⟩,
 ⟨5, .ln true (.t 4), none, false⟩,
 ⟨6, .ar .lss false (.t 5) (.k (.sc (.int .i64 1))), none, false⟩,
 ⟨7, .mv (.t 6), none, false⟩,
 ⟨8, .mv (.t 0), (some (7, false)), false⟩,
 ⟨9, .ln true (.t 8), (some (7, false)), false⟩,
 ⟨10, .ar .gtr false (.t 9) (.k (.sc (.int .i64 10))), (some (7, false)), false⟩,
 ⟨11, .pk (.t 7) (.k (.sc (.bool true))) (.t 10), none, false⟩,
 ⟨12, .mv (.t 11), none, false⟩,
 ⟨13, .mv (.t 0), (some (12, false)), false⟩,
 ⟨14, .ix (.t 13) (.k (.sc (.int .i64 0))), (some (12, false)), false⟩,
 ⟨15, .ar .lss false (.t 14) (.k (.sc (.int .u8 97))), (some (12, false)), false⟩,
 ⟨16, .pk (.t 12) (.k (.sc (.bool true))) (.t 15), none, false⟩,
 ⟨17, .mv (.t 16), none, false⟩,
 ⟨18, .mv (.t 0), (some (17, false)), false⟩,
 ⟨19, .ix (.t 18) (.k (.sc (.int .i64 0))), (some (17, false)), false⟩,
 ⟨20, .ar .gtr false (.t 19) (.k (.sc (.int .u8 122))), (some (17, false)), false⟩,
 ⟨21, .pk (.t 17) (.k (.sc (.bool true))) (.t 20), none, false⟩])
 (.ite (.t 21)
 (.seq
 (.reg false [⟨2, .mv (.k (.sc (.bool false))), none, false⟩])
 .ret)
 .skip))
 (.seq
 (.seq
 (.reg false [⟨3, .mv (.k (.sc (.int .i64 0))), none, false⟩])
 (.cln [] [2]
 (.block 0
 (.loop [0, 3] b70_1))))
 (.seq
 (.reg false [⟨2, .mv (.k (.sc (.bool true))), none, false⟩])
 .ret))))⟩
attribute [simp] i70
set_option maxRecDepth 1000000 in
theorem c70 : cFn Tryd.prog 70 [[], [0, 3], [], [2]] = some i70 := by kernel_rfl
theorem e70 : enterOk Tryd.prog 70 = true := by kernel_rfl
def i71 : Ev.Fn := ⟨2, 9, [.tmp 4],
 (.seq
 (.reg false [⟨4, .mv (.k (.sc (.bool false))), none, false⟩])
 (.seq
 (.reg false [⟨5, .mv (.t 0), none, false⟩,
 ⟨6, .mv (.t 1), none, false⟩,
 ⟨7, .ca (.k (.cl 89 [])) [(.t 5), (.t 6)], none, false⟩,
 ⟨8, .ar .geq false (.t 7) (.k (.sc (.int .i64 0))), none, false⟩,
 ⟨4, .mv (.t 8), none, false⟩])
 .ret))⟩
attribute [simp] i71
set_option maxRecDepth 1000000 in
theorem c71 : cFn Tryd.prog 71 [[]] = some i71 := by kernel_rfl
theorem e71 : enterOk Tryd.prog 71 = true := by kernel_rfl
def i72 : Ev.Fn := ⟨2, 11, [.tmp 3],
 (.seq
 (.reg false [⟨2, .bx (.t 0), none, false⟩,
 ⟨3, .mv (.k (.sc (.bool false))), none, false⟩])
 (.seq
 (.reg false [⟨4, .ld 4 true (.t 2), none, false⟩,
 ⟨5, .fa 6 (.t 1), none, false⟩,
 ⟨6, .ld 1 false (.t 5), none, false⟩,
 ⟨7, .fa 7 (.t 1), none, false⟩,
 ⟨8, .ld 1 false (.t 7), none, false⟩,
 ⟨9, .ca (.k (.cl 73 [])) [(.t 4), (.t 6), (.t 8)], none, false⟩,
 ⟨10, .nt (.t 9), none, false⟩,
 ⟨3, .mv (.t 10), none, false⟩])
 .ret))⟩
attribute [simp] i72
set_option maxRecDepth 1000000 in
theorem c72 : cFn Tryd.prog 72 [[]] = some i72 := by kernel_rfl
theorem e72 : enterOk Tryd.prog 72 = true := by kernel_rfl
def i73 : Ev.Fn := ⟨3, 35, [.tmp 6],
 (.seq
 (.reg false [⟨3, .bx (.t 0), none, false⟩,
 ⟨6, .mv (.k (.sc (.bool false))), none, false⟩])
 (.seq
 (.reg false [⟨7, .fa 0 (.t 3), none, false⟩,
 ⟨8, .ld 1 false (.t 7), none, false⟩,
 ⟨9, .mv (.t 1), none, false⟩,
 ⟨10, .ca (.k (.cl 63 [])) [(.t 8), (.k (.sc (.int .i64 0))), (.t 9)], none, false⟩,
 ⟨11, .mv (.t 10), none, false⟩,
 ⟨12, .fa 1 (.t 3), (some (11, true)), false⟩,
 ⟨13, .ld 1 false (.t 12), (some (11, true)), false⟩,
 ⟨14, .mv (.t 2), (some (11, true)), false⟩,
 ⟨15, .ca (.k (.cl 63 [])) [(.t 13), (.k (.sc (.int .i64 0))), (.t 14)], (some (11, true)), false⟩,
 ⟨16, .pk (.t 11) (.t 15) (.k (.sc (.bool false))), none, false⟩,
 ⟨17, .mv (.t 16), none, false⟩,
 ⟨18, .fa 2 (.t 3), (some (17, true)), false⟩,
 ⟨19, .ld 1 false (.t 18), (some (17, true)), false⟩,
 ⟨20, .mv (.t 1), (some (17, true)), false⟩,
 ⟨21, .fa 0 (.t 3), (some (17, true)), false⟩,
 ⟨22, .ld 1 false (.t 21), (some (17, true)), false⟩,
 ⟨23, .ar .sub false (.t 20) (.t 22), (some (17, true)), false⟩,
 ⟨24, .ca (.k (.cl 63 [])) [(.t 19), (.k (.sc (.int .i64 1))), (.t 23)], (some (17, true)), false⟩,
 ⟨25, .pk (.t 17) (.t 24) (.k (.sc (.bool false))), none, false⟩,
 ⟨26, .mv (.t 25), none, false⟩,
 ⟨27, .fa 3 (.t 3), (some (26, true)), false⟩,
 ⟨28, .ld 1 false (.t 27), (some (26, true)), false⟩,
 ⟨29, .mv (.t 2), (some (26, true)), false⟩,
 ⟨30, .fa 1 (.t 3), (some (26, true)), false⟩,
 ⟨31, .ld 1 false (.t 30), (some (26, true)), false⟩,
 ⟨32, .ar .sub false (.t 29) (.t 31), (some (26, true)), false⟩,
 ⟨33, .ca (.k (.cl 63 [])) [(.t 28), (.k (.sc (.int .i64 1))), (.t 32)], (some (26, true)), false⟩,
 ⟨34, .pk (.t 26) (.t 33) (.k (.sc (.bool false))), none, false⟩,
 ⟨6, .mv (.t 34), none, false⟩])
 .ret))⟩
attribute [simp] i73
set_option maxRecDepth 1000000 in
theorem c73 : cFn Tryd.prog 73 [[]] = some i73 := by kernel_rfl
theorem e73 : enterOk Tryd.prog 73 = true := by kernel_rfl
def i77 : Ev.Fn := ⟨2, 25, [.tmp 4],
 (.seq
 (.reg false [⟨2, .bx (.t 0), none, false⟩,
 ⟨3, .bx (.t 1), none, false⟩,
 ⟨4, .mv (.k (.sc (.bool false))), none, false⟩])
 (.seq
 (.seq
 (.reg false [⟨5, .fa 0 (.t 2), none, false⟩,
 ⟨6, .ld 1 false (.t 5), none, false⟩,
 ⟨7, .fa 0 (.t 3), none, false⟩,
 ⟨8, .ld 1 false (.t 7), none, false⟩,
 ⟨9, .ar .neq false (.t 6) (.t 8), none, false⟩])
 (.ite (.t 9)
 (.seq
 (.reg false [⟨4, .mv (.k (.sc (.bool false))), none, false⟩])
 .ret)
 .skip))
 (.seq
 (.seq
 (.reg false [⟨10, .fa 1 (.t 2), none, false⟩,
 ⟨11, .ld 1 false (.t 10), none, false⟩,
 ⟨12, .fa 1 (.t 3), none, false⟩,
 ⟨13, .ld 1 false (.t 12), none, false⟩,
 ⟨14, .ar .neq false (.t 11) (.t 13), none, false⟩])
 (.ite (.t 14)
 (.seq
 (.reg false [⟨4, .mv (.k (.sc (.bool false))), none, false⟩])
 .ret)
 .skip))
 (.seq
 (.seq
 (.reg false [⟨15, .fa 2 (.t 2), none, false⟩,
 ⟨16, .ld 1 false (.t 15), none, false⟩,
 ⟨17, .fa 2 (.t 3), none, false⟩,
 ⟨18, .ld 1 false (.t 17), none, false⟩,
 ⟨19, .ar .neq false (.t 16) (.t 18), none, false⟩])
 (.ite (.t 19)
 (.seq
 (.reg false [⟨4, .mv (.k (.sc (.bool false))), none, false⟩])
 .ret)
 .skip))
 (.seq
 (.seq
 (.reg false [⟨20, .fa 3 (.t 2), none, false⟩,
 ⟨21, .ld 1 false (.t 20), none, false⟩,
 ⟨22, .fa 3 (.t 3), none, false⟩,
 ⟨23, .ld 1 false (.t 22), none, false⟩,
 ⟨24, .ar .neq false (.t 21) (.t 23), none, false⟩])
 (.ite (.t 24)
 (.seq
 (.reg false [⟨4, .mv (.k (.sc (.bool false))), none, false⟩])
 .ret)
 .skip))
 (.seq
 (.reg false [⟨4, .mv (.k (.sc (.bool true))), none, false⟩])
 .ret))))))⟩
attribute [simp] i77
set_option maxRecDepth 1000000 in
theorem c77 : cFn Tryd.prog 77 [[]] = some i77 := by kernel_rfl
theorem e77 : enterOk Tryd.prog 77 = true := by kernel_rfl
def i84 : Ev.Fn := ⟨0, 2, [.tmp 0],
 (.seq
 (.reg false [⟨0, .mv (.k .nl), none, false⟩])
 (.seq
 (.reg false [⟨1, .bs 9 1 [(.sc (.string ⟨#[]⟩))] 10 [(0, (.k (.sc (.string ⟨#[97, 115, 104]⟩)))), (1, (.k (.sc (.string ⟨#[98, 101, 101, 99, 104]⟩)))), (2, (.k (.sc (.string ⟨#[98, 105, 114, 99, 104]⟩)))), (3, (.k (.sc (.string ⟨#[99, 104, 101, 114, 114, 121]⟩)))), (4, (.k (.sc (.string ⟨#[101, 98, 111, 110, 121]⟩)))), (5, (.k (.sc (.string ⟨#[104, 111, 108, 108, 121]⟩)))), (6, (.k (.sc (.string ⟨#[109, 97, 112, 108, 101]⟩)))), (7, (.k (.sc (.string ⟨#[111, 97, 107]⟩)))), (8, (.k (.sc (.string ⟨#[114, 111, 115, 101, 119, 111, 111, 100]⟩)))), (9, (.k (.sc (.string ⟨#[119, 97, 108, 110, 117, 116]⟩))))], none, false⟩,
 ⟨0, .mv (.t 1), none, false⟩])
 .ret))⟩
attribute [simp] i84
set_option maxRecDepth 1000000 in
theorem c84 : cFn Tryd.prog 84 [[]] = some i84 := by kernel_rfl
theorem e84 : enterOk Tryd.prog 84 = true := by kernel_rfl
def i85 : Ev.Fn := ⟨1, 27, [.tmp 2, .tmp 3, .tmp 4, .tmp 5],
 (.seq
 (.reg false [⟨2, .mv (.k (.sc (.int .i64 0))), none, false⟩,
 ⟨3, .mv (.k (.sc (.int .i64 0))), none, false⟩,
 ⟨4, .mv (.k (.sc (.int .i64 0))), none, false⟩,
 ⟨5, .mv (.k (.sc (.int .i64 0))), none, false⟩])
 (.seq
 (.seq
 (.reg false [⟨6, .mv (.t 0), none, false⟩])
 (.block 0
 (.seq
 (.reg false [⟨8, .ar .eql false (.t 6) (.k (.sc (.string ⟨#[97, 115, 104]⟩))), none, false⟩,
 ⟨7, .mv (.t 8), none, false⟩])
 (.ite (.t 7)
 (.seq
 (.reg false [⟨2, .mv (.k (.sc (.int .i64 20))), none, false⟩,
 ⟨3, .mv (.k (.sc (.int .i64 40))), none, false⟩,
 ⟨4, .mv (.k (.sc (.int .i64 310))), none, false⟩,
 ⟨5, .mv (.k (.sc (.int .i64 0))), none, false⟩])
 .ret)
 (.seq
 (.reg false [⟨10, .ar .eql false (.t 6) (.k (.sc (.string ⟨#[98, 101, 101, 99, 104]⟩))), none, false⟩,
 ⟨9, .mv (.t 10), none, false⟩])
 (.ite (.t 9)
 (.seq
 (.reg false [⟨2, .mv (.k (.sc (.int .i64 35))), none, false⟩,
 ⟨3, .mv (.k (.sc (.int .i64 45))), none, false⟩,
 ⟨4, .mv (.k (.sc (.int .i64 410))), none, false⟩,
 ⟨5, .mv (.k (.sc (.int .i64 0))), none, false⟩])
 .ret)
 (.seq
 (.reg false [⟨12, .ar .eql false (.t 6) (.k (.sc (.string ⟨#[98, 105, 114, 99, 104]⟩))), none, false⟩,
 ⟨11, .mv (.t 12), none, false⟩])
 (.ite (.t 11)
 (.seq
 (.reg false [⟨2, .mv (.k (.sc (.int .i64 15))), none, false⟩,
 ⟨3, .mv (.k (.sc (.int .i64 33))), none, false⟩,
 ⟨4, .mv (.k (.sc (.int .i64 280))), none, false⟩,
 ⟨5, .mv (.k (.sc (.int .i64 0))), none, false⟩])
 .ret)
 (.seq
 (.reg false [⟨14, .ar .eql false (.t 6) (.k (.sc (.string ⟨#[99, 104, 101, 114, 114, 121]⟩))), none, false⟩,
 ⟨13, .mv (.t 14), none, false⟩])
 (.ite (.t 13)
 (.seq
 (.reg false [⟨2, .mv (.k (.sc (.int .i64 50))), none, false⟩,
 ⟨3, .mv (.k (.sc (.int .i64 36))), none, false⟩,
 ⟨4, .mv (.k (.sc (.int .i64 240))), none, false⟩,
 ⟨5, .mv (.k (.sc (.int .i64 0))), none, false⟩])
 .ret)
 (.seq
 (.reg false [⟨16, .ar .eql false (.t 6) (.k (.sc (.string ⟨#[101, 98, 111, 110, 121]⟩))), none, false⟩,
 ⟨15, .mv (.t 16), none, false⟩])
 (.ite (.t 15)
 (.seq
 (.reg false [⟨2, .mv (.k (.sc (.int .i64 95))), none, false⟩,
 ⟨3, .mv (.k (.sc (.int .i64 85))), none, false⟩,
 ⟨4, .mv (.k (.sc (.int .i64 270))), none, false⟩,
 ⟨5, .mv (.k (.sc (.int .i64 0))), none, false⟩])
 .ret)
 (.seq
 (.reg false [⟨18, .ar .eql false (.t 6) (.k (.sc (.string ⟨#[104, 111, 108, 108, 121]⟩))), none, false⟩,
 ⟨17, .mv (.t 18), none, false⟩])
 (.ite (.t 17)
 (.seq
 (.reg false [⟨2, .mv (.k (.sc (.int .i64 5))), none, false⟩,
 ⟨3, .mv (.k (.sc (.int .i64 35))), none, false⟩,
 ⟨4, .mv (.k (.sc (.int .i64 370))), none, false⟩,
 ⟨5, .mv (.k (.sc (.int .i64 0))), none, false⟩])
 .ret)
 (.seq
 (.reg false [⟨20, .ar .eql false (.t 6) (.k (.sc (.string ⟨#[109, 97, 112, 108, 101]⟩))), none, false⟩,
 ⟨19, .mv (.t 20), none, false⟩])
 (.ite (.t 19)
 (.seq
 (.reg false [⟨2, .mv (.k (.sc (.int .i64 10))), none, false⟩,
 ⟨3, .mv (.k (.sc (.int .i64 42))), none, false⟩,
 ⟨4, .mv (.k (.sc (.int .i64 290))), none, false⟩,
 ⟨5, .mv (.k (.sc (.int .i64 0))), none, false⟩])
 .ret)
 (.seq
 (.reg false [⟨22, .ar .eql false (.t 6) (.k (.sc (.string ⟨#[111, 97, 107]⟩))), none, false⟩,
 ⟨21, .mv (.t 22), none, false⟩])
 (.ite (.t 21)
 (.seq
 (.reg false [⟨2, .mv (.k (.sc (.int .i64 40))), none, false⟩,
 ⟨3, .mv (.k (.sc (.int .i64 40))), none, false⟩,
 ⟨4, .mv (.k (.sc (.int .i64 330))), none, false⟩,
 ⟨5, .mv (.k (.sc (.int .i64 0))), none, false⟩])
 .ret)
 (.seq
 (.reg false [⟨24, .ar .eql false (.t 6) (.k (.sc (.string ⟨#[114, 111, 115, 101, 119, 111, 111, 100]⟩))), none, false⟩,
 ⟨23, .mv (.t 24), none, false⟩])
 (.ite (.t 23)
 (.seq
 (.reg false [⟨2, .mv (.k (.sc (.int .i64 80))), none, false⟩,
 ⟨3, .mv (.k (.sc (.int .i64 60))), none, false⟩,
 ⟨4, .mv (.k (.sc (.int .i64 220))), none, false⟩,
 ⟨5, .mv (.k (.sc (.int .i64 0))), none, false⟩])
 .ret)
 (.seq
 (.reg false [⟨26, .ar .eql false (.t 6) (.k (.sc (.string ⟨#[119, 97, 108, 110, 117, 116]⟩))), none, false⟩,
 ⟨25, .mv (.t 26), none, false⟩])
 (.ite (.t 25)
 (.seq
 (.reg false [⟨2, .mv (.k (.sc (.int .i64 70))), none, false⟩,
 ⟨3, .mv (.k (.sc (.int .i64 38))), none, false⟩,
 ⟨4, .mv (.k (.sc (.int .i64 260))), none, false⟩,
 ⟨5, .mv (.k (.sc (.int .i64 0))), none, false⟩])
 .ret)
 .skip))))))))))))))))))))))
 (.seq
 (.reg false [⟨2, .mv (.k (.sc (.int .i64 0))), none, false⟩,
 ⟨3, .mv (.k (.sc (.int .i64 0))), none, false⟩,
 ⟨4, .mv (.k (.sc (.int .i64 0))), none, false⟩,
 ⟨5, .mv (.k (.sc (.int .i64 3))), none, false⟩])
 .ret)))⟩
attribute [simp] i85
set_option maxRecDepth 1000000 in
theorem c85 : cFn Tryd.prog 85 [[]] = some i85 := by kernel_rfl
theorem e85 : enterOk Tryd.prog 85 = true := by kernel_rfl
def i87 : Ev.Fn := ⟨1, 9, [.tmp 2],
 (.seq
 (.reg false [⟨2, .mv (.k (.sc (.bool false))), none, false⟩])
 (.seq
 (.reg false [⟨3, .mv (.t 0), none, false⟩,
 ⟨4, .ar .geq false (.t 3) (.k (.sc (.int .u8 97))), none, false⟩,
 ⟨5, .mv (.t 4), none, false⟩,
 ⟨6, .mv (.t 0), (some (5, true)), false⟩,
 ⟨7, .ar .leq false (.t 6) (.k (.sc (.int .u8 122))), (some (5, true)), false⟩,
 ⟨8, .pk (.t 5) (.t 7) (.k (.sc (.bool false))), none, false⟩,
 ⟨2, .mv (.t 8), none, false⟩])
 .ret))⟩
attribute [simp] i87
set_option maxRecDepth 1000000 in
theorem c87 : cFn Tryd.prog 87 [[]] = some i87 := by kernel_rfl
theorem e87 : enterOk Tryd.prog 87 = true := by kernel_rfl
def i88 : Ev.Fn := ⟨1, 9, [.tmp 2],
 (.seq
 (.reg false [⟨2, .mv (.k (.sc (.bool false))), none, false⟩])
 (.seq
 (.reg false [⟨3, .mv (.t 0), none, false⟩,
 ⟨4, .ar .geq false (.t 3) (.k (.sc (.int .u8 48))), none, false⟩,
 ⟨5, .mv (.t 4), none, false⟩,
 ⟨6, .mv (.t 0), (some (5, true)), false⟩,
 ⟨7, .ar .leq false (.t 6) (.k (.sc (.int .u8 57))), (some (5, true)), false⟩,
 ⟨8, .pk (.t 5) (.t 7) (.k (.sc (.bool false))), none, false⟩,
 ⟨2, .mv (.t 8), none, false⟩])
 .ret))⟩
attribute [simp] i88
set_option maxRecDepth 1000000 in
theorem c88 : cFn Tryd.prog 88 [[]] = some i88 := by kernel_rfl
theorem e88 : enterOk Tryd.prog 88 = true := by kernel_rfl
def w89_1 : IC :=
(.seq
 (.reg false [⟨9, .ar .lss false (.t 8) (.t 7), none, false⟩])
 (.seq
 (.ite (.t 9)
 .skip
 (.exit 0))
 (.seq
 (.block 1
 (.seq
 (.reg false [⟨10, .mv (.t 8), none, false⟩,
 ⟨5, .mv (.t 10), none, false⟩])
 (.seq
 (.reg false [⟨11, .mv (.t 1), none, false⟩,
 ⟨12, .mv (.t 0), none, false⟩,
 ⟨13, .mv (.t 5), none, false⟩,
 ⟨14, .ia 4 (.t 12) (.t 13), none, false⟩,
 ⟨15, .ld 4 true (.t 14), none, false⟩,
 ⟨16, .ca (.t 11) [(.t 15)], none, false⟩])
 (.ite (.t 16)
 (.seq
 (.reg false [⟨17, .mv (.t 5), none, false⟩,
 ⟨4, .mv (.t 17), none, false⟩])
 .ret)
 .skip))))
 (.reg false [⟨18, .ar .add false (.t 8) (.k (.sc (.int .i64 1))), none, false⟩,
 ⟨8, .mv (.t 18), none, false⟩]))))
def b89_1 : IC := w89_1
theorem u89_1 (call : CallF) (st : St) : evC call b89_1 st = evC call w89_1 st := rfl
attribute [simp] u89_1 w89_1
def i89 : Ev.Fn := ⟨2, 19, [.tmp 4],
 (.seq
 (.reg false [⟨4, .mv (.k (.sc (.int .i64 0))), none, false⟩])
 (.seq
 (.seq
 (.reg false [⟨6, .mv (.t 0), none, false⟩,
 ⟨7, .ln false (.t 6), none, false⟩,
 ⟨8, .mv (.k (.sc (.int .i64 0))), none, false⟩])
 (.cln [] [4]
 (.block 0
 (.loop [0, 1, 7, 8] b89_1))))
 (.seq
 (.reg false [⟨4, .mv (.k (.sc (.int .i64 (-1)))), none, false⟩])
 .ret)))⟩
attribute [simp] i89
set_option maxRecDepth 1000000 in
theorem c89 : cFn Tryd.prog 89 [[], [0, 1, 7, 8], [], [4]] = some i89 := by kernel_rfl
theorem e89 : enterOk Tryd.prog 89 = true := by kernel_rfl
theorem mixed : Tryd.prog.follows .mixedOrders = true := by kernel_rfl
def Ft : List (Nat × Ev.Fn) := [(5, i5), (9, i9), (11, i11), (12, i12), (16, i16), (17, i17), (18, i18), (19, i19), (20, i20), (23, i23), (31, i31), (32, i32), (33, i33), (34, i34), (38, i38), (39, i39), (40, i40), (41, i41), (42, i42), (43, i43), (44, i44), (46, i46), (57, i57), (58, i58), (59, i59), (60, i60), (61, i61), (62, i62), (63, i63), (66, i66), (67, i67), (68, i68), (69, i69), (70, i70), (71, i71), (72, i72), (73, i73), (77, i77), (84, i84), (85, i85), (87, i87), (88, i88), (89, i89)]
def F : Nat → Option Ev.Fn := getF Ft
noncomputable def ev (d : Nat) : CallF := evF F prim d
theorem ev_fn {f : Nat} {fn : Ev.Fn} (h : F f = some fn) (d : Nat) (args : List LV) (hl : args.length = fn.nargs) : ev (d + 1) f args = Ev.finish fn.res (evC (ev d) fn.body (Ev.start args)) := evF_fn h d args hl
set_option maxRecDepth 1000000 in
theorem tab : ∀ f fn, F f = some fn → enterOk Tryd.prog f = true ∧ ∃ ks, cFn Tryd.prog f ks = some fn :=
  tabF (L := Ft) ⟨⟨e5, _, c5⟩, ⟨e9, _, c9⟩, ⟨e11, _, c11⟩, ⟨e12, _, c12⟩, ⟨e16, _, c16⟩, ⟨e17, _, c17⟩, ⟨e18, _, c18⟩, ⟨e19, _, c19⟩, ⟨e20, _, c20⟩, ⟨e23, _, c23⟩, ⟨e31, _, c31⟩, ⟨e32, _, c32⟩, ⟨e33, _, c33⟩, ⟨e34, _, c34⟩, ⟨e38, _, c38⟩, ⟨e39, _, c39⟩, ⟨e40, _, c40⟩, ⟨e41, _, c41⟩, ⟨e42, _, c42⟩, ⟨e43, _, c43⟩, ⟨e44, _, c44⟩, ⟨e46, _, c46⟩, ⟨e57, _, c57⟩, ⟨e58, _, c58⟩, ⟨e59, _, c59⟩, ⟨e60, _, c60⟩, ⟨e61, _, c61⟩, ⟨e62, _, c62⟩, ⟨e63, _, c63⟩, ⟨e66, _, c66⟩, ⟨e67, _, c67⟩, ⟨e68, _, c68⟩, ⟨e69, _, c69⟩, ⟨e70, _, c70⟩, ⟨e71, _, c71⟩, ⟨e72, _, c72⟩, ⟨e73, _, c73⟩, ⟨e77, _, c77⟩, ⟨e84, _, c84⟩, ⟨e85, _, c85⟩, ⟨e87, _, c87⟩, ⟨e88, _, c88⟩, ⟨e89, _, c89⟩, trivial⟩
theorem tabn : ∀ f fn, F f = some fn → f < wrN := tabN (L := Ft) (by kernel_rfl)
theorem callOk (m : Int) (d : Nat) : CallOk (TT m) Tryd.prog (ev d) := (evF_ok2 mixed tab tabn (prim_ok m) (prim_okW m) d).1
abbrev I (n : Int) : LV := .sc (.int .i64 n)
abbrev B (b : Bool) : LV := .sc (.bool b)
abbrev T (s : ByteArray) : LV := .sc (.string s)
theorem s5 (d : Nat) (args : List LV) (hl : args.length = i5.nargs) : ev (d + 1) 5 args = Ev.finish i5.res (evC (ev d) i5.body (Ev.start args)) := ev_fn (by kernel_rfl) d args hl
theorem s9 (d : Nat) (args : List LV) (hl : args.length = i9.nargs) : ev (d + 1) 9 args = Ev.finish i9.res (evC (ev d) i9.body (Ev.start args)) := ev_fn (by kernel_rfl) d args hl
theorem s11 (d : Nat) (args : List LV) (hl : args.length = i11.nargs) : ev (d + 1) 11 args = Ev.finish i11.res (evC (ev d) i11.body (Ev.start args)) := ev_fn (by kernel_rfl) d args hl
theorem s12 (d : Nat) (args : List LV) (hl : args.length = i12.nargs) : ev (d + 1) 12 args = Ev.finish i12.res (evC (ev d) i12.body (Ev.start args)) := ev_fn (by kernel_rfl) d args hl
theorem s16 (d : Nat) (args : List LV) (hl : args.length = i16.nargs) : ev (d + 1) 16 args = Ev.finish i16.res (evC (ev d) i16.body (Ev.start args)) := ev_fn (by kernel_rfl) d args hl
theorem s17 (d : Nat) (args : List LV) (hl : args.length = i17.nargs) : ev (d + 1) 17 args = Ev.finish i17.res (evC (ev d) i17.body (Ev.start args)) := ev_fn (by kernel_rfl) d args hl
theorem s18 (d : Nat) (args : List LV) (hl : args.length = i18.nargs) : ev (d + 1) 18 args = Ev.finish i18.res (evC (ev d) i18.body (Ev.start args)) := ev_fn (by kernel_rfl) d args hl
theorem s19 (d : Nat) (args : List LV) (hl : args.length = i19.nargs) : ev (d + 1) 19 args = Ev.finish i19.res (evC (ev d) i19.body (Ev.start args)) := ev_fn (by kernel_rfl) d args hl
theorem s20 (d : Nat) (args : List LV) (hl : args.length = i20.nargs) : ev (d + 1) 20 args = Ev.finish i20.res (evC (ev d) i20.body (Ev.start args)) := ev_fn (by kernel_rfl) d args hl
theorem s23 (d : Nat) (args : List LV) (hl : args.length = i23.nargs) : ev (d + 1) 23 args = Ev.finish i23.res (evC (ev d) i23.body (Ev.start args)) := ev_fn (by kernel_rfl) d args hl
theorem s31 (d : Nat) (args : List LV) (hl : args.length = i31.nargs) : ev (d + 1) 31 args = Ev.finish i31.res (evC (ev d) i31.body (Ev.start args)) := ev_fn (by kernel_rfl) d args hl
theorem s32 (d : Nat) (args : List LV) (hl : args.length = i32.nargs) : ev (d + 1) 32 args = Ev.finish i32.res (evC (ev d) i32.body (Ev.start args)) := ev_fn (by kernel_rfl) d args hl
theorem s33 (d : Nat) (args : List LV) (hl : args.length = i33.nargs) : ev (d + 1) 33 args = Ev.finish i33.res (evC (ev d) i33.body (Ev.start args)) := ev_fn (by kernel_rfl) d args hl
theorem s34 (d : Nat) (args : List LV) (hl : args.length = i34.nargs) : ev (d + 1) 34 args = Ev.finish i34.res (evC (ev d) i34.body (Ev.start args)) := ev_fn (by kernel_rfl) d args hl
theorem s38 (d : Nat) (args : List LV) (hl : args.length = i38.nargs) : ev (d + 1) 38 args = Ev.finish i38.res (evC (ev d) i38.body (Ev.start args)) := ev_fn (by kernel_rfl) d args hl
theorem s39 (d : Nat) (args : List LV) (hl : args.length = i39.nargs) : ev (d + 1) 39 args = Ev.finish i39.res (evC (ev d) i39.body (Ev.start args)) := ev_fn (by kernel_rfl) d args hl
theorem s40 (d : Nat) (args : List LV) (hl : args.length = i40.nargs) : ev (d + 1) 40 args = Ev.finish i40.res (evC (ev d) i40.body (Ev.start args)) := ev_fn (by kernel_rfl) d args hl
theorem s41 (d : Nat) (args : List LV) (hl : args.length = i41.nargs) : ev (d + 1) 41 args = Ev.finish i41.res (evC (ev d) i41.body (Ev.start args)) := ev_fn (by kernel_rfl) d args hl
theorem s42 (d : Nat) (args : List LV) (hl : args.length = i42.nargs) : ev (d + 1) 42 args = Ev.finish i42.res (evC (ev d) i42.body (Ev.start args)) := ev_fn (by kernel_rfl) d args hl
theorem s43 (d : Nat) (args : List LV) (hl : args.length = i43.nargs) : ev (d + 1) 43 args = Ev.finish i43.res (evC (ev d) i43.body (Ev.start args)) := ev_fn (by kernel_rfl) d args hl
theorem s44 (d : Nat) (args : List LV) (hl : args.length = i44.nargs) : ev (d + 1) 44 args = Ev.finish i44.res (evC (ev d) i44.body (Ev.start args)) := ev_fn (by kernel_rfl) d args hl
theorem s46 (d : Nat) (args : List LV) (hl : args.length = i46.nargs) : ev (d + 1) 46 args = Ev.finish i46.res (evC (ev d) i46.body (Ev.start args)) := ev_fn (by kernel_rfl) d args hl
theorem s57 (d : Nat) (args : List LV) (hl : args.length = i57.nargs) : ev (d + 1) 57 args = Ev.finish i57.res (evC (ev d) i57.body (Ev.start args)) := ev_fn (by kernel_rfl) d args hl
theorem s58 (d : Nat) (args : List LV) (hl : args.length = i58.nargs) : ev (d + 1) 58 args = Ev.finish i58.res (evC (ev d) i58.body (Ev.start args)) := ev_fn (by kernel_rfl) d args hl
theorem s59 (d : Nat) (args : List LV) (hl : args.length = i59.nargs) : ev (d + 1) 59 args = Ev.finish i59.res (evC (ev d) i59.body (Ev.start args)) := ev_fn (by kernel_rfl) d args hl
theorem s60 (d : Nat) (args : List LV) (hl : args.length = i60.nargs) : ev (d + 1) 60 args = Ev.finish i60.res (evC (ev d) i60.body (Ev.start args)) := ev_fn (by kernel_rfl) d args hl
theorem s61 (d : Nat) (args : List LV) (hl : args.length = i61.nargs) : ev (d + 1) 61 args = Ev.finish i61.res (evC (ev d) i61.body (Ev.start args)) := ev_fn (by kernel_rfl) d args hl
theorem s62 (d : Nat) (args : List LV) (hl : args.length = i62.nargs) : ev (d + 1) 62 args = Ev.finish i62.res (evC (ev d) i62.body (Ev.start args)) := ev_fn (by kernel_rfl) d args hl
theorem s63 (d : Nat) (args : List LV) (hl : args.length = i63.nargs) : ev (d + 1) 63 args = Ev.finish i63.res (evC (ev d) i63.body (Ev.start args)) := ev_fn (by kernel_rfl) d args hl
theorem s66 (d : Nat) (args : List LV) (hl : args.length = i66.nargs) : ev (d + 1) 66 args = Ev.finish i66.res (evC (ev d) i66.body (Ev.start args)) := ev_fn (by kernel_rfl) d args hl
theorem s67 (d : Nat) (args : List LV) (hl : args.length = i67.nargs) : ev (d + 1) 67 args = Ev.finish i67.res (evC (ev d) i67.body (Ev.start args)) := ev_fn (by kernel_rfl) d args hl
theorem s68 (d : Nat) (args : List LV) (hl : args.length = i68.nargs) : ev (d + 1) 68 args = Ev.finish i68.res (evC (ev d) i68.body (Ev.start args)) := ev_fn (by kernel_rfl) d args hl
theorem s69 (d : Nat) (args : List LV) (hl : args.length = i69.nargs) : ev (d + 1) 69 args = Ev.finish i69.res (evC (ev d) i69.body (Ev.start args)) := ev_fn (by kernel_rfl) d args hl
theorem s70 (d : Nat) (args : List LV) (hl : args.length = i70.nargs) : ev (d + 1) 70 args = Ev.finish i70.res (evC (ev d) i70.body (Ev.start args)) := ev_fn (by kernel_rfl) d args hl
theorem s71 (d : Nat) (args : List LV) (hl : args.length = i71.nargs) : ev (d + 1) 71 args = Ev.finish i71.res (evC (ev d) i71.body (Ev.start args)) := ev_fn (by kernel_rfl) d args hl
theorem s72 (d : Nat) (args : List LV) (hl : args.length = i72.nargs) : ev (d + 1) 72 args = Ev.finish i72.res (evC (ev d) i72.body (Ev.start args)) := ev_fn (by kernel_rfl) d args hl
theorem s73 (d : Nat) (args : List LV) (hl : args.length = i73.nargs) : ev (d + 1) 73 args = Ev.finish i73.res (evC (ev d) i73.body (Ev.start args)) := ev_fn (by kernel_rfl) d args hl
theorem s77 (d : Nat) (args : List LV) (hl : args.length = i77.nargs) : ev (d + 1) 77 args = Ev.finish i77.res (evC (ev d) i77.body (Ev.start args)) := ev_fn (by kernel_rfl) d args hl
theorem s84 (d : Nat) (args : List LV) (hl : args.length = i84.nargs) : ev (d + 1) 84 args = Ev.finish i84.res (evC (ev d) i84.body (Ev.start args)) := ev_fn (by kernel_rfl) d args hl
theorem s85 (d : Nat) (args : List LV) (hl : args.length = i85.nargs) : ev (d + 1) 85 args = Ev.finish i85.res (evC (ev d) i85.body (Ev.start args)) := ev_fn (by kernel_rfl) d args hl
theorem s87 (d : Nat) (args : List LV) (hl : args.length = i87.nargs) : ev (d + 1) 87 args = Ev.finish i87.res (evC (ev d) i87.body (Ev.start args)) := ev_fn (by kernel_rfl) d args hl
theorem s88 (d : Nat) (args : List LV) (hl : args.length = i88.nargs) : ev (d + 1) 88 args = Ev.finish i88.res (evC (ev d) i88.body (Ev.start args)) := ev_fn (by kernel_rfl) d args hl
theorem s89 (d : Nat) (args : List LV) (hl : args.length = i89.nargs) : ev (d + 1) 89 args = Ev.finish i89.res (evC (ev d) i89.body (Ev.start args)) := ev_fn (by kernel_rfl) d args hl
theorem q64R (d : Nat) (args : List LV) : ev d 64 args = prim 64 args := evF_prim (by kernel_rfl) (by decide) d args
theorem q64W (d : Nat) (args : List LV) : ev d (wrN + 64) args = prim (wrN + 64) args := evF_primW (by kernel_rfl) tabn (by decide) d args
theorem q64M (d : Nat) (args : List LV) : ev d (mvN + 64) args = prim (mvN + 64) args := evF_primM (by kernel_rfl) tabn (by decide) d args
theorem q45R (d : Nat) (args : List LV) : ev d 45 args = prim 45 args := evF_prim (by kernel_rfl) (by decide) d args
theorem q45W (d : Nat) (args : List LV) : ev d (wrN + 45) args = prim (wrN + 45) args := evF_primW (by kernel_rfl) tabn (by decide) d args
theorem q45M (d : Nat) (args : List LV) : ev d (mvN + 45) args = prim (mvN + 45) args := evF_primM (by kernel_rfl) tabn (by decide) d args
end Go.Proofs.YthnkioafikmmaaaDoor.walkS
