/- The functions that some rows reach, turned; no conditions. -/
import Derived.Test.YthnkioafikmmaaaDoorPr
import Derived.KernelRfl
import Derived.Test.YthnkioafikmmaaaDoorProg
namespace Go.Proofs.YthnkioafikmmaaaDoor.walkS
open Go Go.Proofs.YthnkioafikmmaaaDoor.Ev
def i8 : Ev.Fn := ⟨1, 66, [.tmp 2],
 (.seq
 (.reg false [⟨2, .mv (.k (.sc (.bool false))), none, false⟩])
 (.seq
 (.seq
 (.reg false [⟨11, .mv (.t 0), none, false⟩,
 ⟨12, .ln true (.t 11), none, false⟩,
 ⟨13, .ar .gtr false (.t 12) (.k (.sc (.int .i64 1048576))), none, false⟩])
 (.ite (.t 13)
 (.seq
 (.reg false [⟨2, .mv (.k (.sc (.bool true))), none, false⟩])
 .ret)
 .skip))
 (.seq
 (.reg false [⟨15, .mv (.t 0), none, false⟩,
 ⟨16, .ca (.k (.cl 27 [])) [(.t 15)], none, false⟩,
 ⟨14, .mv (.t 16), none, false⟩,
 ⟨17, .xt (.t 14) 0, none, false⟩,
 ⟨18, .xt (.t 14) 1, none, false⟩,
 ⟨3, .al [(.sc (.string ⟨#[]⟩)), (.sc (.string ⟨#[]⟩)), (.sc (.int .i64 0)), (.sc (.string ⟨#[]⟩)), (.sc (.int .i64 0)), (.sc (.int .i64 0)), (.sc (.int .i64 0)), (.sc (.int .i64 0)), .nl], none, false⟩,
 ⟨1, .so 9 (.t 3) (.t 17), none, true⟩,
 ⟨4, .mv (.t 18), none, false⟩])
 (.seq
 (.reg false [⟨20, .mv (.t 0), none, false⟩,
 ⟨21, .ca (.k (.cl 28 [])) [(.t 20)], none, false⟩,
 ⟨19, .mv (.t 21), none, false⟩,
 ⟨22, .xt (.t 19) 0, none, false⟩,
 ⟨23, .xt (.t 19) 1, none, false⟩,
 ⟨5, .al [(.sc (.string ⟨#[]⟩)), (.sc (.string ⟨#[]⟩)), (.sc (.int .i64 0)), (.sc (.string ⟨#[]⟩)), (.sc (.int .i64 0)), (.sc (.int .i64 0)), (.sc (.int .i64 0)), (.sc (.int .i64 0)), .nl], none, false⟩,
 ⟨1, .so 9 (.t 5) (.t 22), none, true⟩,
 ⟨6, .mv (.t 23), none, false⟩])
 (.seq
 (.seq
 (.reg false [⟨24, .ld 9 true (.t 5), none, false⟩,
 ⟨25, .ld 9 true (.t 3), none, false⟩,
 ⟨26, .ca (.k (.cl 20 [])) [(.t 24), (.t 25)], none, false⟩,
 ⟨27, .nt (.t 26), none, false⟩,
 ⟨28, .mv (.t 27), none, false⟩,
 ⟨29, .mv (.t 6), (some (28, false)), false⟩,
 ⟨30, .mv (.t 4), (some (28, false)), false⟩,
 ⟨31, .ar .neq true (.t 29) (.t 30), (some (28, false)), false⟩,
 ⟨32, .pk (.t 28) (.k (.sc (.bool true))) (.t 31), none, false⟩])
 (.ite (.t 32)
 (.seq
 (.reg false [⟨2, .mv (.k (.sc (.bool false))), none, false⟩])
 .ret)
 .skip))
 (.seq
 (.reg false [⟨7, .mv (.k (.sc (.int .i64 1))), none, false⟩])
 (.seq
 (.rgw [⟨33, .ld 9 true (.t 5), none, false⟩,
 ⟨34, .mv (.t 7), none, false⟩,
 ⟨35, .cw 29 [] [(.t 33), (.t 34)], none, false⟩,
 ⟨7, .mv (.t 35), none, false⟩])
 (.seq
 (.reg false [⟨8, .mv (.k (.sc (.int .i64 1))), none, false⟩])
 (.seq
 (.reg false [⟨36, .ld 9 true (.t 5), none, false⟩,
 ⟨37, .mv (.t 8), none, false⟩,
 ⟨38, .ca (.k (.cl 30 [])) [(.t 36), (.t 37)], none, false⟩,
 ⟨8, .mv (.t 38), none, false⟩])
 (.seq
 (.seq
 (.reg false [⟨39, .mv (.t 8), none, false⟩,
 ⟨40, .ar .lss false (.t 39) (.k (.sc (.int .i64 0))), none, false⟩])
 (.ite (.t 40)
 (.seq
 (.reg false [⟨2, .mv (.k (.sc (.bool false))), none, false⟩])
 .ret)
 .skip))
 (.seq
 (.seq
 (.reg false [⟨41, .mv (.t 8), none, false⟩,
 ⟨42, .mv (.t 7), none, false⟩,
 ⟨43, .ar .neq false (.t 41) (.t 42), none, false⟩])
 (.ite (.t 43)
 (.seq
 (.reg false [⟨2, .mv (.k (.sc (.bool false))), none, false⟩])
 .ret)
 .skip))
 (.seq
 (.reg false [⟨45, .mv (.t 0), none, false⟩,
 ⟨46, .ca (.k (.cl 28 [])) [(.t 45)], none, false⟩,
 ⟨44, .mv (.t 46), none, false⟩,
 ⟨47, .xt (.t 44) 0, none, false⟩,
 ⟨48, .xt (.t 44) 1, none, false⟩,
 ⟨9, .al [(.sc (.string ⟨#[]⟩)), (.sc (.string ⟨#[]⟩)), (.sc (.int .i64 0)), (.sc (.string ⟨#[]⟩)), (.sc (.int .i64 0)), (.sc (.int .i64 0)), (.sc (.int .i64 0)), (.sc (.int .i64 0)), .nl], none, false⟩,
 ⟨1, .so 9 (.t 9) (.t 47), none, true⟩,
 ⟨10, .mv (.t 48), none, false⟩])
 (.seq
 (.seq
 (.reg false [⟨49, .ld 9 true (.t 9), none, false⟩,
 ⟨50, .ld 9 true (.t 3), none, false⟩,
 ⟨51, .ca (.k (.cl 20 [])) [(.t 49), (.t 50)], none, false⟩,
 ⟨52, .nt (.t 51), none, false⟩,
 ⟨53, .mv (.t 52), none, false⟩,
 ⟨54, .mv (.t 10), (some (53, false)), false⟩,
 ⟨55, .mv (.t 4), (some (53, false)), false⟩,
 ⟨56, .ar .neq true (.t 54) (.t 55), (some (53, false)), false⟩,
 ⟨57, .pk (.t 53) (.k (.sc (.bool true))) (.t 56), none, false⟩])
 (.ite (.t 57)
 (.seq
 (.reg false [⟨2, .mv (.k (.sc (.bool false))), none, false⟩])
 .ret)
 .skip))
 (.seq
 (.reg false [⟨8, .mv (.k (.sc (.int .i64 1))), none, false⟩])
 (.seq
 (.reg false [⟨58, .ld 9 true (.t 5), none, false⟩,
 ⟨59, .mv (.t 8), none, false⟩,
 ⟨60, .ca (.k (.cl 30 [])) [(.t 58), (.t 59)], none, false⟩,
 ⟨8, .mv (.t 60), none, false⟩])
 (.seq
 (.seq
 (.reg false [⟨61, .mv (.t 8), none, false⟩,
 ⟨62, .ar .lss false (.t 61) (.k (.sc (.int .i64 0))), none, false⟩])
 (.ite (.t 62)
 (.seq
 (.reg false [⟨2, .mv (.k (.sc (.bool false))), none, false⟩])
 .ret)
 .skip))
 (.seq
 (.seq
 (.reg false [⟨63, .mv (.t 8), none, false⟩,
 ⟨64, .mv (.t 7), none, false⟩,
 ⟨65, .ar .neq false (.t 63) (.t 64), none, false⟩])
 (.ite (.t 65)
 (.seq
 (.reg false [⟨2, .mv (.k (.sc (.bool false))), none, false⟩])
 .ret)
 .skip))
 (.seq
 (.reg false [⟨2, .mv (.k (.sc (.bool true))), none, false⟩])
 .ret))))))))))))))))))⟩
attribute [simp] i8
set_option maxRecDepth 1000000 in
theorem c8 : cFn Tryd.prog 8 [[29]] = some i8 := by kernel_rfl
theorem e8 : enterOk Tryd.prog 8 = true := by kernel_rfl
def i12 : Ev.Fn := ⟨1, 18, [.tmp 2],
 (.seq
 (.reg false [⟨1, .bx (.t 0), none, false⟩,
 ⟨2, .mv (.k (.sc (.string ⟨#[]⟩))), none, false⟩])
 (.seq
 (.seq
 (.reg false [⟨3, .ld 3 true (.t 1), none, false⟩,
 ⟨4, .ca (.k (.cl 33 [])) [(.t 3)], none, false⟩,
 ⟨5, .nt (.t 4), none, false⟩])
 (.ite (.t 5)
 (.seq
 (.reg false [⟨2, .mv (.k (.sc (.string ⟨#[]⟩))), none, false⟩])
 .ret)
 .skip))
 (.seq
 (.reg true [⟨6, .fa 0 (.t 1), none, false⟩,
 ⟨7, .ld 1 false (.t 6), none, false⟩,
 ⟨8, .ar .add false (.t 7) (.k (.sc (.string ⟨#[32]⟩))), none, false⟩,
 ⟨9, .fa 1 (.t 1), none, false⟩,
 ⟨10, .ld 1 false (.t 9), none, false⟩,
 ⟨11, .ca (.k (.cl 34 [])) [(.t 10)], none, false⟩,
 ⟨12, .ar .add false (.t 8) (.t 11), none, false⟩,
 ⟨13, .ar .add false (.t 12) (.k (.sc (.string ⟨#[32]⟩))), none, false⟩,
 ⟨14, .fa 2 (.t 1), none, false⟩,
 ⟨15, .ld 1 false (.t 14), none, false⟩,
 ⟨16, .ca (.k (.cl 34 [])) [(.t 15)], none, false⟩,
 ⟨17, .ar .add false (.t 13) (.t 16), none, false⟩,
 ⟨2, .mv (.t 17), none, false⟩])
 .ret)))⟩
attribute [simp] i12
set_option maxRecDepth 1000000 in
theorem c12 : cFn Tryd.prog 12 [[]] = some i12 := by kernel_rfl
theorem e12 : enterOk Tryd.prog 12 = true := by kernel_rfl
def w19_1 : IC :=
(.seq
 (.reg false [⟨32, .ar .lss false (.t 31) (.t 30), none, false⟩])
 (.seq
 (.ite (.t 32)
 .skip
 (.exit 0))
 (.seq
 (.block 1
 (.seq
 (.reg false [⟨33, .ia 4 (.t 29) (.t 31), none, false⟩,
 ⟨34, .ld 4 true (.t 33), none, false⟩,
 ⟨5, .al [(.sc (.int .i64 0)), (.sc (.int .i64 0)), (.sc (.int .i64 0)), (.sc (.int .i64 0))], none, false⟩,
 ⟨1, .so 4 (.t 5) (.t 34), none, true⟩])
 (.reg false [⟨35, .mv (.t 3), none, false⟩,
 ⟨36, .ld 4 true (.t 5), none, false⟩,
 ⟨37, .ca (.k (.cl 44 [])) [(.t 36)], none, false⟩,
 ⟨38, .bs 9 1 [(.sc (.string ⟨#[]⟩))] 1 [(0, (.t 37))], none, false⟩,
 ⟨39, .ap 9 1 false (.t 35) (.t 38), none, false⟩,
 ⟨3, .mv (.t 39), none, false⟩])))
 (.reg false [⟨40, .ar .add false (.t 31) (.k (.sc (.int .i64 1))), none, false⟩,
 ⟨31, .mv (.t 40), none, false⟩]))))
def b19_1 : IC := w19_1
theorem u19_1 (call : CallF) (st : St) : evC call b19_1 st = evC call w19_1 st := rfl
attribute [simp] u19_1 w19_1
def i19 : Ev.Fn := ⟨1, 43, [.tmp 2],
 (.seq
 (.reg false [⟨1, .bx (.t 0), none, false⟩,
 ⟨2, .mv (.k (.sc (.string ⟨#[]⟩))), none, false⟩])
 (.seq
 (.seq
 (.reg false [⟨6, .ld 9 true (.t 1), none, false⟩,
 ⟨7, .ca (.k (.cl 43 [])) [(.t 6)], none, false⟩,
 ⟨8, .nt (.t 7), none, false⟩])
 (.ite (.t 8)
 (.seq
 (.reg false [⟨2, .mv (.k (.sc (.string ⟨#[]⟩))), none, false⟩])
 .ret)
 .skip))
 (.seq
 (.reg true [⟨9, .fa 0 (.t 1), none, false⟩,
 ⟨10, .ld 1 false (.t 9), none, false⟩,
 ⟨11, .fa 1 (.t 1), none, false⟩,
 ⟨12, .ld 1 false (.t 11), none, false⟩,
 ⟨13, .fa 2 (.t 1), none, false⟩,
 ⟨14, .ld 1 false (.t 13), none, false⟩,
 ⟨15, .ca (.k (.cl 34 [])) [(.t 14)], none, false⟩,
 ⟨16, .fa 3 (.t 1), none, false⟩,
 ⟨17, .ld 3 true (.t 16), none, false⟩,
 ⟨18, .ca (.k (.cl 12 [])) [(.t 17)], none, false⟩,
 ⟨19, .fa 6 (.t 1), none, false⟩,
 ⟨20, .ld 1 false (.t 19), none, false⟩,
 ⟨21, .ca (.k (.cl 34 [])) [(.t 20)], none, false⟩,
 ⟨22, .ar .add false (.t 21) (.k (.sc (.string ⟨#[120]⟩))), none, false⟩,
 ⟨23, .fa 7 (.t 1), none, false⟩,
 ⟨24, .ld 1 false (.t 23), none, false⟩,
 ⟨25, .ca (.k (.cl 34 [])) [(.t 24)], none, false⟩,
 ⟨26, .ar .add false (.t 22) (.t 25), none, false⟩,
 ⟨27, .bs 9 1 [(.sc (.string ⟨#[]⟩))] 5 [(0, (.t 10)), (1, (.t 12)), (2, (.t 15)), (3, (.t 18)), (4, (.t 26))], none, false⟩,
 ⟨3, .mv (.t 27), none, false⟩])
 (.seq
 (.seq
 (.reg false [⟨28, .fa 8 (.t 1), none, false⟩,
 ⟨29, .ld 1 false (.t 28), none, false⟩,
 ⟨30, .ln false (.t 29), none, false⟩,
 ⟨31, .mv (.k (.sc (.int .i64 0))), none, false⟩])
 (.cln [3] [2]
 (.block 0
 (.loop [3, 29, 30, 31] b19_1))))
 (.seq
 (.reg false [⟨41, .mv (.t 3), none, false⟩,
 ⟨42, .ca (.k (.cl 45 [])) [(.t 41), (.k (.sc (.string ⟨#[47]⟩)))], none, false⟩,
 ⟨2, .mv (.t 42), none, false⟩])
 .ret)))))⟩
attribute [simp] i19
set_option maxRecDepth 1000000 in
theorem c19 : cFn Tryd.prog 19 [[], [3, 29, 30, 31], [3], [2]] = some i19 := by kernel_rfl
theorem e19 : enterOk Tryd.prog 19 = true := by kernel_rfl
def i20 : Ev.Fn := ⟨2, 42, [.tmp 4],
 (.seq
 (.reg false [⟨2, .bx (.t 0), none, false⟩,
 ⟨3, .bx (.t 1), none, false⟩,
 ⟨4, .mv (.k (.sc (.bool false))), none, false⟩])
 (.seq
 (.seq
 (.reg false [⟨5, .fa 0 (.t 2), none, false⟩,
 ⟨6, .ld 1 false (.t 5), none, false⟩,
 ⟨7, .fa 0 (.t 3), none, false⟩,
 ⟨8, .ld 1 false (.t 7), none, false⟩,
 ⟨9, .ar .neq false (.t 6) (.t 8), none, false⟩])
 (.ite (.t 9)
 (.seq
 (.reg false [⟨4, .mv (.k (.sc (.bool false))), none, false⟩])
 .ret)
 .skip))
 (.seq
 (.seq
 (.reg false [⟨10, .fa 1 (.t 2), none, false⟩,
 ⟨11, .ld 1 false (.t 10), none, false⟩,
 ⟨12, .fa 1 (.t 3), none, false⟩,
 ⟨13, .ld 1 false (.t 12), none, false⟩,
 ⟨14, .ar .neq false (.t 11) (.t 13), none, false⟩])
 (.ite (.t 14)
 (.seq
 (.reg false [⟨4, .mv (.k (.sc (.bool false))), none, false⟩])
 .ret)
 .skip))
 (.seq
 (.seq
 (.reg false [⟨15, .fa 2 (.t 2), none, false⟩,
 ⟨16, .ld 1 false (.t 15), none, false⟩,
 ⟨17, .fa 2 (.t 3), none, false⟩,
 ⟨18, .ld 1 false (.t 17), none, false⟩,
 ⟨19, .ar .neq false (.t 16) (.t 18), none, false⟩])
 (.ite (.t 19)
 (.seq
 (.reg false [⟨4, .mv (.k (.sc (.bool false))), none, false⟩])
 .ret)
 .skip))
 (.seq
 (.seq
 (.reg false [⟨20, .fa 3 (.t 2), none, false⟩,
 ⟨21, .ld 3 true (.t 20), none, false⟩,
 ⟨22, .fa 3 (.t 3), none, false⟩,
 ⟨23, .ld 3 true (.t 22), none, false⟩,
 ⟨24, .ca (.k (.cl 23 [])) [(.t 21), (.t 23)], none, false⟩,
 ⟨25, .nt (.t 24), none, false⟩])
 (.ite (.t 25)
 (.seq
 (.reg false [⟨4, .mv (.k (.sc (.bool false))), none, false⟩])
 .ret)
 .skip))
 (.seq
 (.seq
 (.reg false [⟨26, .fa 6 (.t 2), none, false⟩,
 ⟨27, .ld 1 false (.t 26), none, false⟩,
 ⟨28, .fa 6 (.t 3), none, false⟩,
 ⟨29, .ld 1 false (.t 28), none, false⟩,
 ⟨30, .ar .neq false (.t 27) (.t 29), none, false⟩])
 (.ite (.t 30)
 (.seq
 (.reg false [⟨4, .mv (.k (.sc (.bool false))), none, false⟩])
 .ret)
 .skip))
 (.seq
 (.seq
 (.reg false [⟨31, .fa 7 (.t 2), none, false⟩,
 ⟨32, .ld 1 false (.t 31), none, false⟩,
 ⟨33, .fa 7 (.t 3), none, false⟩,
 ⟨34, .ld 1 false (.t 33), none, false⟩,
 ⟨35, .ar .neq false (.t 32) (.t 34), none, false⟩])
 (.ite (.t 35)
 (.seq
 (.reg false [⟨4, .mv (.k (.sc (.bool false))), none, false⟩])
 .ret)
 .skip))
 (.seq
 (.seq
 (.reg false [⟨36, .fa 8 (.t 2), none, false⟩,
 ⟨37, .ld 1 false (.t 36), none, false⟩,
 ⟨38, .fa 8 (.t 3), none, false⟩,
 ⟨39, .ld 1 false (.t 38), none, false⟩,
 ⟨40, .ca (.k (.cl 46 [])) [(.t 37), (.t 39)], none, false⟩,
 ⟨41, .nt (.t 40), none, false⟩])
 (.ite (.t 41)
 (.seq
 (.reg false [⟨4, .mv (.k (.sc (.bool false))), none, false⟩])
 .ret)
 .skip))
 (.seq
 (.reg false [⟨4, .mv (.k (.sc (.bool true))), none, false⟩])
 .ret)))))))))⟩
attribute [simp] i20
set_option maxRecDepth 1000000 in
theorem c20 : cFn Tryd.prog 20 [[]] = some i20 := by kernel_rfl
theorem e20 : enterOk Tryd.prog 20 = true := by kernel_rfl
def i22 : Ev.Fn := ⟨1, 46, [.cell 2 3 true, .tmp 3],
 (.seq
 (.reg false [⟨2, .al [(.sc (.string ⟨#[]⟩)), (.sc (.int .i64 0)), (.sc (.int .i64 0))], none, false⟩,
 ⟨3, .mv (.k (.sc (.bool false))), none, false⟩])
 (.seq
 (.reg false [⟨10, .mv (.t 0), none, false⟩,
 ⟨11, .ca (.k (.cl 48 [])) [(.t 10), (.k (.sc (.string ⟨#[32]⟩)))], none, false⟩,
 ⟨4, .mv (.t 11), none, false⟩])
 (.seq
 (.seq
 (.reg false [⟨12, .mv (.t 4), none, false⟩,
 ⟨13, .ln false (.t 12), none, false⟩,
 ⟨14, .ar .neq false (.t 13) (.k (.sc (.int .i64 3))), none, false⟩])
 (.ite (.t 14)
 (.seq
 (.reg false [⟨15, .bd [(.sc (.string ⟨#[]⟩)), (.sc (.int .i64 0)), (.sc (.int .i64 0))] [], none, false⟩,
 ⟨1, .so 3 (.t 2) (.t 15), none, true⟩,
 ⟨3, .mv (.k (.sc (.bool false))), none, false⟩])
 .ret)
 .skip))
 (.seq
 (.reg false [⟨17, .mv (.t 4), none, false⟩,
 ⟨18, .ia 1 (.t 17) (.k (.sc (.int .i64 1))), none, false⟩,
 ⟨19, .ld 1 false (.t 18), none, false⟩,
 ⟨20, .ca (.k (.cl 49 [])) [(.t 19)], none, false⟩,
 ⟨16, .mv (.t 20), none, false⟩,
 ⟨21, .xt (.t 16) 0, none, false⟩,
 ⟨22, .xt (.t 16) 1, none, false⟩,
 ⟨5, .mv (.t 21), none, false⟩,
 ⟨6, .mv (.t 22), none, false⟩])
 (.seq
 (.reg false [⟨24, .mv (.t 4), none, false⟩,
 ⟨25, .ia 1 (.t 24) (.k (.sc (.int .i64 2))), none, false⟩,
 ⟨26, .ld 1 false (.t 25), none, false⟩,
 ⟨27, .ca (.k (.cl 49 [])) [(.t 26)], none, false⟩,
 ⟨23, .mv (.t 27), none, false⟩,
 ⟨28, .xt (.t 23) 0, none, false⟩,
 ⟨29, .xt (.t 23) 1, none, false⟩,
 ⟨7, .mv (.t 28), none, false⟩,
 ⟨8, .mv (.t 29), none, false⟩])
 (.seq
 (.seq
 (.reg false [⟨30, .mv (.t 4), none, false⟩,
 ⟨31, .ia 1 (.t 30) (.k (.sc (.int .i64 0))), none, false⟩,
 ⟨32, .ld 1 false (.t 31), none, false⟩,
 ⟨33, .mv (.t 5), none, false⟩,
 ⟨34, .mv (.t 7), none, false⟩,
 ⟨35, .bd [(.sc (.string ⟨#[]⟩)), (.sc (.int .i64 0)), (.sc (.int .i64 0))] [(0, 1, (.t 32)), (1, 1, (.t 33)), (2, 1, (.t 34))], none, false⟩,
 ⟨9, .al [(.sc (.string ⟨#[]⟩)), (.sc (.int .i64 0)), (.sc (.int .i64 0))], none, false⟩,
 ⟨1, .so 3 (.t 9) (.t 35), none, true⟩])
 (.seq
 (.reg false [⟨36, .mv (.t 6), none, false⟩,
 ⟨37, .mv (.t 36), none, false⟩,
 ⟨38, .mv (.t 8), (some (37, true)), false⟩,
 ⟨39, .pk (.t 37) (.t 38) (.k (.sc (.bool false))), none, false⟩,
 ⟨40, .mv (.t 39), none, false⟩,
 ⟨41, .ld 3 true (.t 9), (some (40, true)), false⟩,
 ⟨42, .ca (.k (.cl 33 [])) [(.t 41)], (some (40, true)), false⟩,
 ⟨43, .pk (.t 40) (.t 42) (.k (.sc (.bool false))), none, false⟩])
 (.ite (.t 43)
 (.seq
 (.reg false [⟨44, .ld 3 true (.t 9), none, false⟩,
 ⟨1, .so 3 (.t 2) (.t 44), none, true⟩,
 ⟨3, .mv (.k (.sc (.bool true))), none, false⟩])
 .ret)
 .skip)))
 (.seq
 (.reg false [⟨45, .bd [(.sc (.string ⟨#[]⟩)), (.sc (.int .i64 0)), (.sc (.int .i64 0))] [], none, false⟩,
 ⟨1, .so 3 (.t 2) (.t 45), none, true⟩,
 ⟨3, .mv (.k (.sc (.bool false))), none, false⟩])
 .ret)))))))⟩
attribute [simp] i22
set_option maxRecDepth 1000000 in
theorem c22 : cFn Tryd.prog 22 [[]] = some i22 := by kernel_rfl
theorem e22 : enterOk Tryd.prog 22 = true := by kernel_rfl
def i23 : Ev.Fn := ⟨2, 20, [.tmp 4],
 (.seq
 (.reg false [⟨2, .bx (.t 0), none, false⟩,
 ⟨3, .bx (.t 1), none, false⟩,
 ⟨4, .mv (.k (.sc (.bool false))), none, false⟩])
 (.seq
 (.seq
 (.reg false [⟨5, .fa 0 (.t 2), none, false⟩,
 ⟨6, .ld 1 false (.t 5), none, false⟩,
 ⟨7, .fa 0 (.t 3), none, false⟩,
 ⟨8, .ld 1 false (.t 7), none, false⟩,
 ⟨9, .ar .neq false (.t 6) (.t 8), none, false⟩])
 (.ite (.t 9)
 (.seq
 (.reg false [⟨4, .mv (.k (.sc (.bool false))), none, false⟩])
 .ret)
 .skip))
 (.seq
 (.seq
 (.reg false [⟨10, .fa 1 (.t 2), none, false⟩,
 ⟨11, .ld 1 false (.t 10), none, false⟩,
 ⟨12, .fa 1 (.t 3), none, false⟩,
 ⟨13, .ld 1 false (.t 12), none, false⟩,
 ⟨14, .ar .neq false (.t 11) (.t 13), none, false⟩])
 (.ite (.t 14)
 (.seq
 (.reg false [⟨4, .mv (.k (.sc (.bool false))), none, false⟩])
 .ret)
 .skip))
 (.seq
 (.seq
 (.reg false [⟨15, .fa 2 (.t 2), none, false⟩,
 ⟨16, .ld 1 false (.t 15), none, false⟩,
 ⟨17, .fa 2 (.t 3), none, false⟩,
 ⟨18, .ld 1 false (.t 17), none, false⟩,
 ⟨19, .ar .neq false (.t 16) (.t 18), none, false⟩])
 (.ite (.t 19)
 (.seq
 (.reg false [⟨4, .mv (.k (.sc (.bool false))), none, false⟩])
 .ret)
 .skip))
 (.seq
 (.reg false [⟨4, .mv (.k (.sc (.bool true))), none, false⟩])
 .ret)))))⟩
attribute [simp] i23
set_option maxRecDepth 1000000 in
theorem c23 : cFn Tryd.prog 23 [[]] = some i23 := by kernel_rfl
theorem e23 : enterOk Tryd.prog 23 = true := by kernel_rfl
def i27 : Ev.Fn := ⟨1, 8, [.cell 2 9 true, .tmp 3],
 (.seq
 (.reg false [⟨2, .al [(.sc (.string ⟨#[]⟩)), (.sc (.string ⟨#[]⟩)), (.sc (.int .i64 0)), (.sc (.string ⟨#[]⟩)), (.sc (.int .i64 0)), (.sc (.int .i64 0)), (.sc (.int .i64 0)), (.sc (.int .i64 0)), .nl], none, false⟩,
 ⟨3, .mv (.k (.sc (.bool false))), none, false⟩])
 (.seq
 (.reg false [⟨4, .mv (.t 0), none, false⟩,
 ⟨5, .ca (.k (.cl 52 [])) [(.t 4)], none, false⟩,
 ⟨6, .xt (.t 5) 0, none, false⟩,
 ⟨7, .xt (.t 5) 1, none, false⟩,
 ⟨1, .so 9 (.t 2) (.t 6), none, true⟩,
 ⟨3, .mv (.t 7), none, false⟩])
 .ret))⟩
attribute [simp] i27
set_option maxRecDepth 1000000 in
theorem c27 : cFn Tryd.prog 27 [[]] = some i27 := by kernel_rfl
theorem e27 : enterOk Tryd.prog 27 = true := by kernel_rfl
def w28_1 : IC :=
(.seq
 (.reg false [⟨71, .ar .lss false (.t 70) (.t 69), none, false⟩])
 (.seq
 (.ite (.t 71)
 .skip
 (.exit 0))
 (.seq
 (.block 1
 (.seq
 (.reg false [⟨72, .ia 1 (.t 68) (.t 70), none, false⟩,
 ⟨73, .ld 1 false (.t 72), none, false⟩,
 ⟨14, .mv (.t 73), none, false⟩])
 (.seq
 (.reg false [⟨75, .mv (.t 14), none, false⟩,
 ⟨76, .ca (.k (.cl 54 [])) [(.t 75)], none, false⟩,
 ⟨74, .mv (.t 76), none, false⟩,
 ⟨77, .xt (.t 74) 0, none, false⟩,
 ⟨78, .xt (.t 74) 1, none, false⟩,
 ⟨15, .al [(.sc (.int .i64 0)), (.sc (.int .i64 0)), (.sc (.int .i64 0)), (.sc (.int .i64 0))], none, false⟩,
 ⟨1, .so 4 (.t 15) (.t 77), none, true⟩,
 ⟨16, .mv (.t 78), none, false⟩])
 (.seq
 (.seq
 (.reg false [⟨79, .mv (.t 16), none, false⟩,
 ⟨80, .nt (.t 79), none, false⟩])
 (.ite (.t 80)
 (.seq
 (.reg false [⟨81, .bd [(.sc (.string ⟨#[]⟩)), (.sc (.string ⟨#[]⟩)), (.sc (.int .i64 0)), (.sc (.string ⟨#[]⟩)), (.sc (.int .i64 0)), (.sc (.int .i64 0)), (.sc (.int .i64 0)), (.sc (.int .i64 0)), .nl] [], none, false⟩,
 ⟨1, .so 9 (.t 2) (.t 81), none, true⟩,
 ⟨3, .mv (.k (.sc (.bool false))), none, false⟩])
 .ret)
 .skip))
 (.reg false [⟨82, .fa 8 (.t 12), none, false⟩,
 ⟨83, .ld 1 false (.t 82), none, false⟩,
 ⟨84, .ld 4 true (.t 15), none, false⟩,
 ⟨85, .bs 75 4 [(.sc (.int .i64 0)), (.sc (.int .i64 0)), (.sc (.int .i64 0)), (.sc (.int .i64 0))] 1 [(0, (.t 84))], none, false⟩,
 ⟨86, .ap 75 4 false (.t 83) (.t 85), none, false⟩,
 ⟨87, .fa 8 (.t 12), none, false⟩,
 ⟨1, .so 1 (.t 87) (.t 86), none, true⟩])))))
 (.reg false [⟨88, .ar .add false (.t 70) (.k (.sc (.int .i64 1))), none, false⟩,
 ⟨70, .mv (.t 88), none, false⟩]))))
def b28_1 : IC := w28_1
theorem u28_1 (call : CallF) (st : St) : evC call b28_1 st = evC call w28_1 st := rfl
attribute [simp] u28_1 w28_1
def i28 : Ev.Fn := ⟨1, 95, [.cell 2 9 true, .tmp 3],
 (.seq
 (.reg false [⟨2, .al [(.sc (.string ⟨#[]⟩)), (.sc (.string ⟨#[]⟩)), (.sc (.int .i64 0)), (.sc (.string ⟨#[]⟩)), (.sc (.int .i64 0)), (.sc (.int .i64 0)), (.sc (.int .i64 0)), (.sc (.int .i64 0)), .nl], none, false⟩,
 ⟨3, .mv (.k (.sc (.bool false))), none, false⟩])
 (.seq
 (.reg false [⟨17, .mv (.t 0), none, false⟩,
 ⟨18, .ca (.k (.cl 48 [])) [(.t 17), (.k (.sc (.string ⟨#[47]⟩)))], none, false⟩,
 ⟨4, .mv (.t 18), none, false⟩])
 (.seq
 (.seq
 (.reg false [⟨19, .mv (.t 4), none, false⟩,
 ⟨20, .ln false (.t 19), none, false⟩,
 ⟨21, .ar .lss false (.t 20) (.k (.sc (.int .i64 5))), none, false⟩])
 (.ite (.t 21)
 (.seq
 (.reg false [⟨22, .bd [(.sc (.string ⟨#[]⟩)), (.sc (.string ⟨#[]⟩)), (.sc (.int .i64 0)), (.sc (.string ⟨#[]⟩)), (.sc (.int .i64 0)), (.sc (.int .i64 0)), (.sc (.int .i64 0)), (.sc (.int .i64 0)), .nl] [], none, false⟩,
 ⟨1, .so 9 (.t 2) (.t 22), none, true⟩,
 ⟨3, .mv (.k (.sc (.bool false))), none, false⟩])
 .ret)
 .skip))
 (.seq
 (.reg false [⟨24, .mv (.t 4), none, false⟩,
 ⟨25, .ia 1 (.t 24) (.k (.sc (.int .i64 2))), none, false⟩,
 ⟨26, .ld 1 false (.t 25), none, false⟩,
 ⟨27, .ca (.k (.cl 49 [])) [(.t 26)], none, false⟩,
 ⟨23, .mv (.t 27), none, false⟩,
 ⟨28, .xt (.t 23) 0, none, false⟩,
 ⟨29, .xt (.t 23) 1, none, false⟩,
 ⟨5, .mv (.t 28), none, false⟩,
 ⟨6, .mv (.t 29), none, false⟩])
 (.seq
 (.reg false [⟨31, .mv (.t 4), none, false⟩,
 ⟨32, .ia 1 (.t 31) (.k (.sc (.int .i64 3))), none, false⟩,
 ⟨33, .ld 1 false (.t 32), none, false⟩,
 ⟨34, .ca (.k (.cl 22 [])) [(.t 33)], none, false⟩,
 ⟨30, .mv (.t 34), none, false⟩,
 ⟨35, .xt (.t 30) 0, none, false⟩,
 ⟨36, .xt (.t 30) 1, none, false⟩,
 ⟨7, .al [(.sc (.string ⟨#[]⟩)), (.sc (.int .i64 0)), (.sc (.int .i64 0))], none, false⟩,
 ⟨1, .so 3 (.t 7) (.t 35), none, true⟩,
 ⟨8, .mv (.t 36), none, false⟩])
 (.seq
 (.reg false [⟨38, .mv (.t 4), none, false⟩,
 ⟨39, .ia 1 (.t 38) (.k (.sc (.int .i64 4))), none, false⟩,
 ⟨40, .ld 1 false (.t 39), none, false⟩,
 ⟨41, .ca (.k (.cl 53 [])) [(.t 40)], none, false⟩,
 ⟨37, .mv (.t 41), none, false⟩,
 ⟨42, .xt (.t 37) 0, none, false⟩,
 ⟨43, .xt (.t 37) 1, none, false⟩,
 ⟨44, .xt (.t 37) 2, none, false⟩,
 ⟨9, .mv (.t 42), none, false⟩,
 ⟨10, .mv (.t 43), none, false⟩,
 ⟨11, .mv (.t 44), none, false⟩])
 (.seq
 (.seq
 (.reg false [⟨45, .mv (.t 6), none, false⟩,
 ⟨46, .nt (.t 45), none, false⟩,
 ⟨47, .mv (.t 46), none, false⟩,
 ⟨48, .mv (.t 8), (some (47, false)), false⟩,
 ⟨49, .nt (.t 48), (some (47, false)), false⟩,
 ⟨50, .pk (.t 47) (.k (.sc (.bool true))) (.t 49), none, false⟩,
 ⟨51, .mv (.t 50), none, false⟩,
 ⟨52, .mv (.t 11), (some (51, false)), false⟩,
 ⟨53, .nt (.t 52), (some (51, false)), false⟩,
 ⟨54, .pk (.t 51) (.k (.sc (.bool true))) (.t 53), none, false⟩])
 (.ite (.t 54)
 (.seq
 (.reg false [⟨55, .bd [(.sc (.string ⟨#[]⟩)), (.sc (.string ⟨#[]⟩)), (.sc (.int .i64 0)), (.sc (.string ⟨#[]⟩)), (.sc (.int .i64 0)), (.sc (.int .i64 0)), (.sc (.int .i64 0)), (.sc (.int .i64 0)), .nl] [], none, false⟩,
 ⟨1, .so 9 (.t 2) (.t 55), none, true⟩,
 ⟨3, .mv (.k (.sc (.bool false))), none, false⟩])
 .ret)
 .skip))
 (.seq
 (.reg true [⟨56, .mv (.t 4), none, false⟩,
 ⟨57, .ia 1 (.t 56) (.k (.sc (.int .i64 0))), none, false⟩,
 ⟨58, .ld 1 false (.t 57), none, false⟩,
 ⟨59, .mv (.t 4), none, false⟩,
 ⟨60, .ia 1 (.t 59) (.k (.sc (.int .i64 1))), none, false⟩,
 ⟨61, .ld 1 false (.t 60), none, false⟩,
 ⟨62, .mv (.t 5), none, false⟩,
 ⟨63, .ld 3 true (.t 7), none, false⟩,
 ⟨64, .mv (.t 9), none, false⟩,
 ⟨65, .mv (.t 10), none, false⟩,
 ⟨66, .bd [(.sc (.string ⟨#[]⟩)), (.sc (.string ⟨#[]⟩)), (.sc (.int .i64 0)), (.sc (.string ⟨#[]⟩)), (.sc (.int .i64 0)), (.sc (.int .i64 0)), (.sc (.int .i64 0)), (.sc (.int .i64 0)), .nl] [(0, 1, (.t 58)), (1, 1, (.t 61)), (2, 1, (.t 62)), (3, 3, (.t 63)), (6, 1, (.t 64)), (7, 1, (.t 65))], none, false⟩,
 ⟨12, .al [(.sc (.string ⟨#[]⟩)), (.sc (.string ⟨#[]⟩)), (.sc (.int .i64 0)), (.sc (.string ⟨#[]⟩)), (.sc (.int .i64 0)), (.sc (.int .i64 0)), (.sc (.int .i64 0)), (.sc (.int .i64 0)), .nl], none, false⟩,
 ⟨1, .so 9 (.t 12) (.t 66), none, true⟩])
 (.seq
 (.seq
 (.reg false [⟨67, .mv (.t 4), none, false⟩,
 ⟨68, .sl 1 (.t 67) (some (.k (.sc (.int .i64 5)))) none, none, false⟩,
 ⟨69, .ln false (.t 68), none, false⟩,
 ⟨70, .mv (.k (.sc (.int .i64 0))), none, false⟩])
 (.cln [0, 2, 12] [2, 3]
 (.block 0
 (.loop [0, 2, 12, 68, 69, 70] b28_1))))
 (.seq
 (.seq
 (.reg false [⟨89, .ld 9 true (.t 12), none, false⟩,
 ⟨90, .ca (.k (.cl 19 [])) [(.t 89)], none, false⟩,
 ⟨91, .mv (.t 0), none, false⟩,
 ⟨92, .ar .neq false (.t 90) (.t 91), none, false⟩])
 (.ite (.t 92)
 (.seq
 (.reg false [⟨93, .bd [(.sc (.string ⟨#[]⟩)), (.sc (.string ⟨#[]⟩)), (.sc (.int .i64 0)), (.sc (.string ⟨#[]⟩)), (.sc (.int .i64 0)), (.sc (.int .i64 0)), (.sc (.int .i64 0)), (.sc (.int .i64 0)), .nl] [], none, false⟩,
 ⟨1, .so 9 (.t 2) (.t 93), none, true⟩,
 ⟨3, .mv (.k (.sc (.bool false))), none, false⟩])
 .ret)
 .skip))
 (.seq
 (.reg false [⟨94, .ld 9 true (.t 12), none, false⟩,
 ⟨1, .so 9 (.t 2) (.t 94), none, true⟩,
 ⟨3, .mv (.k (.sc (.bool true))), none, false⟩])
 .ret)))))))))))⟩
attribute [simp] i28
set_option maxRecDepth 1000000 in
theorem c28 : cFn Tryd.prog 28 [[], [0, 2, 12, 68, 69, 70], [0, 2, 12], [2, 3]] = some i28 := by kernel_rfl
theorem e28 : enterOk Tryd.prog 28 = true := by kernel_rfl
def i29 : Ev.Fn := ⟨2, 10, [.tmp 4],
 (.seq
 (.reg false [⟨2, .bx (.t 0), none, false⟩,
 ⟨4, .mv (.k (.sc (.int .i64 0))), none, false⟩])
 (.seq
 (.rgw [⟨5, .fa 8 (.t 2), none, false⟩,
 ⟨6, .ld 1 false (.t 5), none, false⟩,
 ⟨7, .mv (.t 1), none, false⟩,
 ⟨8, .cw 55 [] [(.t 6), (.t 7)], none, false⟩,
 ⟨1, .mv (.t 8), none, false⟩])
 (.seq
 (.reg false [⟨9, .mv (.t 1), none, false⟩,
 ⟨4, .mv (.t 9), none, false⟩])
 .ret)))⟩
attribute [simp] i29
set_option maxRecDepth 1000000 in
theorem c29 : cFn Tryd.prog 29 [[55]] = some i29 := by kernel_rfl
theorem e29 : enterOk Tryd.prog 29 = true := by kernel_rfl
def i30 : Ev.Fn := ⟨2, 12, [.tmp 4],
 (.seq
 (.reg false [⟨2, .bx (.t 0), none, false⟩,
 ⟨4, .mv (.k (.sc (.int .i64 0))), none, false⟩])
 (.seq
 (.reg false [⟨5, .fa 8 (.t 2), none, false⟩,
 ⟨6, .ld 1 false (.t 5), none, false⟩,
 ⟨7, .mv (.t 1), none, false⟩,
 ⟨8, .ca (.k (.cl 56 [])) [(.t 6), (.t 7)], none, false⟩,
 ⟨1, .mv (.t 8), none, false⟩])
 (.seq
 (.seq
 (.reg false [⟨9, .mv (.t 1), none, false⟩,
 ⟨10, .ar .lss false (.t 9) (.k (.sc (.int .i64 0))), none, false⟩])
 (.ite (.t 10)
 (.seq
 (.reg false [⟨4, .mv (.k (.sc (.int .i64 (-1)))), none, false⟩])
 .ret)
 .skip))
 (.seq
 (.reg false [⟨11, .mv (.t 1), none, false⟩,
 ⟨4, .mv (.t 11), none, false⟩])
 .ret))))⟩
attribute [simp] i30
set_option maxRecDepth 1000000 in
theorem c30 : cFn Tryd.prog 30 [[]] = some i30 := by kernel_rfl
theorem e30 : enterOk Tryd.prog 30 = true := by kernel_rfl
def i31 : Ev.Fn := ⟨1, 42, [.tmp 2],
 (.seq
 (.reg false [⟨2, .mv (.k (.sc (.bool false))), none, false⟩])
 (.seq
 (.reg false [⟨5, .mv (.t 0), none, false⟩,
 ⟨6, .nc (.t 5), none, false⟩,
 ⟨7, .fa 0 (.t 6), none, false⟩,
 ⟨8, .ld 1 false (.t 7), none, false⟩,
 ⟨9, .ca (.k (.cl 57 [])) [(.t 8)], none, false⟩,
 ⟨3, .mv (.t 9), none, false⟩])
 (.seq
 (.seq
 (.reg false [⟨10, .mv (.t 3), none, false⟩,
 ⟨11, .ar .lss false (.t 10) (.k (.sc (.int .i64 0))), none, false⟩,
 ⟨12, .mv (.t 11), none, false⟩,
 ⟨13, .mv (.t 0), (some (12, false)), false⟩,
 ⟨14, .nc (.t 13), (some (12, false)), false⟩,
 ⟨15, .fa 1 (.t 14), (some (12, false)), false⟩,
 ⟨16, .ld 1 false (.t 15), (some (12, false)), false⟩,
 ⟨17, .ca (.k (.cl 58 [])) [(.t 16), (.k (.sc (.int .i64 0))), (.k (.sc (.int .i64 100)))], (some (12, false)), false⟩,
 ⟨18, .nt (.t 17), (some (12, false)), false⟩,
 ⟨19, .pk (.t 12) (.k (.sc (.bool true))) (.t 18), none, false⟩])
 (.ite (.t 19)
 (.seq
 (.reg false [⟨2, .mv (.k (.sc (.bool false))), none, false⟩])
 .ret)
 .skip))
 (.seq
 (.reg false [⟨20, .ca (.k (.cl 59 [])) [], none, false⟩,
 ⟨21, .mv (.t 3), none, false⟩,
 ⟨22, .ia 1 (.t 20) (.t 21), none, false⟩,
 ⟨23, .ld 1 false (.t 22), none, false⟩,
 ⟨24, .ia 1 (.t 23) (.k (.sc (.int .i64 0))), none, false⟩,
 ⟨25, .ld 1 false (.t 24), none, false⟩,
 ⟨4, .mv (.t 25), none, false⟩])
 (.seq
 (.reg false [⟨26, .mv (.t 0), none, false⟩,
 ⟨27, .nc (.t 26), none, false⟩,
 ⟨28, .fa 1 (.t 27), none, false⟩,
 ⟨29, .ld 1 false (.t 28), none, false⟩,
 ⟨30, .mv (.t 4), none, false⟩,
 ⟨31, .ar .sub false (.t 30) (.k (.sc (.int .i64 15))), none, false⟩,
 ⟨32, .mv (.t 4), none, false⟩,
 ⟨33, .ar .add false (.t 32) (.k (.sc (.int .i64 15))), none, false⟩,
 ⟨34, .ca (.k (.cl 58 [])) [(.t 29), (.t 31), (.t 33)], none, false⟩,
 ⟨35, .mv (.t 34), none, false⟩,
 ⟨36, .mv (.t 0), (some (35, true)), false⟩,
 ⟨37, .nc (.t 36), (some (35, true)), false⟩,
 ⟨38, .fa 2 (.t 37), (some (35, true)), false⟩,
 ⟨39, .ld 1 false (.t 38), (some (35, true)), false⟩,
 ⟨40, .ca (.k (.cl 60 [])) [(.t 39)], (some (35, true)), false⟩,
 ⟨41, .pk (.t 35) (.t 40) (.k (.sc (.bool false))), none, false⟩,
 ⟨2, .mv (.t 41), none, false⟩])
 .ret)))))⟩
attribute [simp] i31
set_option maxRecDepth 1000000 in
theorem c31 : cFn Tryd.prog 31 [[]] = some i31 := by kernel_rfl
theorem e31 : enterOk Tryd.prog 31 = true := by kernel_rfl
def i33 : Ev.Fn := ⟨1, 29, [.tmp 2],
 (.seq
 (.reg false [⟨1, .bx (.t 0), none, false⟩,
 ⟨2, .mv (.k (.sc (.bool false))), none, false⟩])
 (.seq
 (.reg false [⟨6, .fa 0 (.t 1), none, false⟩,
 ⟨7, .ld 1 false (.t 6), none, false⟩,
 ⟨8, .ca (.k (.cl 62 [])) [(.t 7)], none, false⟩,
 ⟨5, .mv (.t 8), none, false⟩,
 ⟨9, .xt (.t 5) 0, none, false⟩,
 ⟨10, .xt (.t 5) 1, none, false⟩,
 ⟨3, .mv (.t 9), none, false⟩,
 ⟨4, .mv (.t 10), none, false⟩])
 (.seq
 (.reg false [⟨11, .mv (.t 4), none, false⟩,
 ⟨12, .mv (.t 11), none, false⟩,
 ⟨13, .fa 1 (.t 1), (some (12, true)), false⟩,
 ⟨14, .ld 1 false (.t 13), (some (12, true)), false⟩,
 ⟨15, .ca (.k (.cl 63 [])) [(.t 14), (.k (.sc (.int .i64 0))), (.k (.sc (.int .i64 100)))], (some (12, true)), false⟩,
 ⟨16, .pk (.t 12) (.t 15) (.k (.sc (.bool false))), none, false⟩,
 ⟨17, .mv (.t 16), none, false⟩,
 ⟨18, .fa 1 (.t 1), (some (17, true)), false⟩,
 ⟨19, .ld 1 false (.t 18), (some (17, true)), false⟩,
 ⟨20, .mv (.t 3), (some (17, true)), false⟩,
 ⟨21, .ar .sub false (.t 19) (.t 20), (some (17, true)), false⟩,
 ⟨22, .ca (.k (.cl 63 [])) [(.t 21), (.k (.sc (.int .i64 (-15)))), (.k (.sc (.int .i64 15)))], (some (17, true)), false⟩,
 ⟨23, .pk (.t 17) (.t 22) (.k (.sc (.bool false))), none, false⟩,
 ⟨24, .mv (.t 23), none, false⟩,
 ⟨25, .fa 2 (.t 1), (some (24, true)), false⟩,
 ⟨26, .ld 1 false (.t 25), (some (24, true)), false⟩,
 ⟨27, .ca (.k (.cl 63 [])) [(.t 26), (.k (.sc (.int .i64 0))), (.k (.sc (.int .i64 179)))], (some (24, true)), false⟩,
 ⟨28, .pk (.t 24) (.t 27) (.k (.sc (.bool false))), none, false⟩,
 ⟨2, .mv (.t 28), none, false⟩])
 .ret)))⟩
attribute [simp] i33
set_option maxRecDepth 1000000 in
theorem c33 : cFn Tryd.prog 33 [[]] = some i33 := by kernel_rfl
theorem e33 : enterOk Tryd.prog 33 = true := by kernel_rfl
def i34 : Ev.Fn := ⟨1, 5, [.tmp 2],
 (.seq
 (.reg false [⟨2, .mv (.k (.sc (.string ⟨#[]⟩))), none, false⟩])
 (.seq
 (.reg false [⟨3, .mv (.t 0), none, false⟩,
 ⟨4, .ca (.k (.cl 64 [])) [(.t 3), (.k (.sc (.int .i64 10)))], none, false⟩,
 ⟨2, .mv (.t 4), none, false⟩])
 .ret))⟩
attribute [simp] i34
set_option maxRecDepth 1000000 in
theorem c34 : cFn Tryd.prog 34 [[]] = some i34 := by kernel_rfl
theorem e34 : enterOk Tryd.prog 34 = true := by kernel_rfl
def w38_1 : IC :=
(.seq
 (.reg false [⟨14, .ar .lss false (.t 13) (.t 12), none, false⟩])
 (.seq
 (.ite (.t 14)
 .skip
 (.exit 0))
 (.seq
 (.block 1
 (.seq
 (.reg false [⟨15, .ia 1 (.t 11) (.t 13), none, false⟩,
 ⟨16, .ld 1 false (.t 15), none, false⟩,
 ⟨4, .mv (.t 16), none, false⟩])
 (.seq
 (.reg false [⟨17, .mv (.t 4), none, false⟩,
 ⟨18, .ca (.k (.cl 63 [])) [(.t 17), (.k (.sc (.int .i64 (-1000000000000)))), (.k (.sc (.int .i64 1000000000000)))], none, false⟩,
 ⟨19, .nt (.t 18), none, false⟩])
 (.ite (.t 19)
 (.seq
 (.reg false [⟨2, .mv (.k (.sc (.string ⟨#[]⟩))), none, false⟩])
 .ret)
 .skip))))
 (.reg false [⟨20, .ar .add false (.t 13) (.k (.sc (.int .i64 1))), none, false⟩,
 ⟨13, .mv (.t 20), none, false⟩]))))
def b38_1 : IC := w38_1
theorem u38_1 (call : CallF) (st : St) : evC call b38_1 st = evC call w38_1 st := rfl
attribute [simp] u38_1 w38_1
def w38_2 : IC :=
(.seq
 (.reg false [⟨28, .ar .lss false (.t 27) (.t 26), none, false⟩])
 (.seq
 (.ite (.t 28)
 .skip
 (.exit 2))
 (.seq
 (.block 3
 (.seq
 (.reg false [⟨29, .ia 1 (.t 25) (.t 27), none, false⟩,
 ⟨30, .ld 1 false (.t 29), none, false⟩,
 ⟨7, .mv (.t 30), none, false⟩])
 (.reg false [⟨31, .mv (.t 5), none, false⟩,
 ⟨32, .mv (.t 7), none, false⟩,
 ⟨33, .ca (.k (.cl 34 [])) [(.t 32)], none, false⟩,
 ⟨34, .bs 9 1 [(.sc (.string ⟨#[]⟩))] 1 [(0, (.t 33))], none, false⟩,
 ⟨35, .ap 9 1 false (.t 31) (.t 34), none, false⟩,
 ⟨5, .mv (.t 35), none, false⟩])))
 (.reg false [⟨36, .ar .add false (.t 27) (.k (.sc (.int .i64 1))), none, false⟩,
 ⟨27, .mv (.t 36), none, false⟩]))))
def b38_2 : IC := w38_2
theorem u38_2 (call : CallF) (st : St) : evC call b38_2 st = evC call w38_2 st := rfl
attribute [simp] u38_2 w38_2
def i38 : Ev.Fn := ⟨1, 39, [.tmp 2],
 (.seq
 (.reg false [⟨2, .mv (.k (.sc (.string ⟨#[]⟩))), none, false⟩])
 (.seq
 (.seq
 (.reg false [⟨8, .mv (.t 0), none, false⟩,
 ⟨9, .ln false (.t 8), none, false⟩,
 ⟨10, .ar .gtr false (.t 9) (.k (.sc (.int .i64 64))), none, false⟩])
 (.ite (.t 10)
 (.seq
 (.reg false [⟨2, .mv (.k (.sc (.string ⟨#[]⟩))), none, false⟩])
 .ret)
 .skip))
 (.seq
 (.seq
 (.reg false [⟨11, .mv (.t 0), none, false⟩,
 ⟨12, .ln false (.t 11), none, false⟩,
 ⟨13, .mv (.k (.sc (.int .i64 0))), none, false⟩])
 (.cln [0] [2]
 (.block 0
 (.loop [0, 11, 12, 13] b38_1))))
 (.seq
 (.seq
 (.reg false [⟨21, .mv (.t 0), none, false⟩,
 ⟨22, .ln false (.t 21), none, false⟩,
 ⟨23, .ar .eql false (.t 22) (.k (.sc (.int .i64 0))), none, false⟩])
 (.ite (.t 23)
 (.seq
 (.reg false [⟨2, .mv (.k (.sc (.string ⟨#[45]⟩))), none, false⟩])
 .ret)
 .skip))
 (.seq
 (.reg false [⟨24, .bs 9 1 [(.sc (.string ⟨#[]⟩))] 0 [], none, false⟩,
 ⟨5, .mv (.t 24), none, false⟩])
 (.seq
 (.seq
 (.reg false [⟨25, .mv (.t 0), none, false⟩,
 ⟨26, .ln false (.t 25), none, false⟩,
 ⟨27, .mv (.k (.sc (.int .i64 0))), none, false⟩])
 (.cln [5] [2]
 (.block 2
 (.loop [5, 25, 26, 27] b38_2))))
 (.seq
 (.reg false [⟨37, .mv (.t 5), none, false⟩,
 ⟨38, .ca (.k (.cl 45 [])) [(.t 37), (.k (.sc (.string ⟨#[44]⟩)))], none, false⟩,
 ⟨2, .mv (.t 38), none, false⟩])
 .ret)))))))⟩
attribute [simp] i38
set_option maxRecDepth 1000000 in
theorem c38 : cFn Tryd.prog 38 [[], [0, 11, 12, 13], [0], [2], [5, 25, 26, 27], [5], [2]] = some i38 := by kernel_rfl
theorem e38 : enterOk Tryd.prog 38 = true := by kernel_rfl
def w40_1 : IC :=
(.seq
 (.seq
 (.reg false [⟨55, .mv (.t 3), none, false⟩,
 ⟨56, .mv (.t 0), none, false⟩,
 ⟨57, .nc (.t 56), none, false⟩,
 ⟨58, .fa 8 (.t 57), none, false⟩,
 ⟨59, .ld 1 false (.t 58), none, false⟩,
 ⟨60, .ln false (.t 59), none, false⟩,
 ⟨61, .ar .lss false (.t 55) (.t 60), none, false⟩])
 (.ite (.t 61)
 .skip
 (.exit 0)))
 (.seq
 (.block 1
 (.seq
 (.reg true [⟨64, .mv (.t 0), none, false⟩,
 ⟨65, .nc (.t 64), none, false⟩,
 ⟨66, .fa 8 (.t 65), none, false⟩,
 ⟨67, .ld 1 false (.t 66), none, false⟩,
 ⟨68, .mv (.t 3), none, false⟩,
 ⟨69, .ia 4 (.t 67) (.t 68), none, false⟩,
 ⟨70, .mv (.t 0), none, false⟩,
 ⟨71, .nc (.t 70), none, false⟩,
 ⟨72, .fa 6 (.t 71), none, false⟩,
 ⟨73, .ld 1 false (.t 72), none, false⟩,
 ⟨74, .mv (.t 0), none, false⟩,
 ⟨75, .nc (.t 74), none, false⟩,
 ⟨76, .fa 7 (.t 75), none, false⟩,
 ⟨77, .ld 1 false (.t 76), none, false⟩,
 ⟨78, .ca (.k (.cl 68 [])) [(.t 69), (.t 73), (.t 77)], none, false⟩,
 ⟨79, .nt (.t 78), none, false⟩])
 (.ite (.t 79)
 (.seq
 (.reg false [⟨2, .mv (.k (.sc (.bool false))), none, false⟩])
 .ret)
 .skip)))
 (.reg false [⟨62, .mv (.t 3), none, false⟩,
 ⟨63, .ar .add false (.t 62) (.k (.sc (.int .i64 1))), none, false⟩,
 ⟨3, .mv (.t 63), none, false⟩])))
def b40_1 : IC := w40_1
theorem u40_1 (call : CallF) (st : St) : evC call b40_1 st = evC call w40_1 st := rfl
attribute [simp] u40_1 w40_1
def i40 : Ev.Fn := ⟨1, 80, [.tmp 2],
 (.seq
 (.reg false [⟨2, .mv (.k (.sc (.bool false))), none, false⟩])
 (.seq
 (.seq
 (.reg false [⟨4, .mv (.t 0), none, false⟩,
 ⟨5, .nc (.t 4), none, false⟩,
 ⟨6, .fa 0 (.t 5), none, false⟩,
 ⟨7, .ld 1 false (.t 6), none, false⟩,
 ⟨8, .ca (.k (.cl 67 [])) [(.t 7)], none, false⟩,
 ⟨9, .nt (.t 8), none, false⟩,
 ⟨10, .mv (.t 9), none, false⟩,
 ⟨11, .mv (.t 0), (some (10, false)), false⟩,
 ⟨12, .nc (.t 11), (some (10, false)), false⟩,
 ⟨13, .fa 1 (.t 12), (some (10, false)), false⟩,
 ⟨14, .ld 1 false (.t 13), (some (10, false)), false⟩,
 ⟨15, .ca (.k (.cl 67 [])) [(.t 14)], (some (10, false)), false⟩,
 ⟨16, .nt (.t 15), (some (10, false)), false⟩,
 ⟨17, .pk (.t 10) (.k (.sc (.bool true))) (.t 16), none, false⟩,
 ⟨18, .mv (.t 17), none, false⟩,
 ⟨19, .mv (.t 0), (some (18, false)), false⟩,
 ⟨20, .nc (.t 19), (some (18, false)), false⟩,
 ⟨21, .fa 2 (.t 20), (some (18, false)), false⟩,
 ⟨22, .ld 1 false (.t 21), (some (18, false)), false⟩,
 ⟨23, .ca (.k (.cl 58 [])) [(.t 22), (.k (.sc (.int .i64 0))), (.k (.sc (.int .i64 999)))], (some (18, false)), false⟩,
 ⟨24, .nt (.t 23), (some (18, false)), false⟩,
 ⟨25, .pk (.t 18) (.k (.sc (.bool true))) (.t 24), none, false⟩,
 ⟨26, .mv (.t 25), none, false⟩,
 ⟨27, .mv (.t 0), (some (26, false)), false⟩,
 ⟨28, .nc (.t 27), (some (26, false)), false⟩,
 ⟨29, .fa 3 (.t 28), (some (26, false)), false⟩,
 ⟨30, .ca (.k (.cl 31 [])) [(.t 29)], (some (26, false)), false⟩,
 ⟨31, .nt (.t 30), (some (26, false)), false⟩,
 ⟨32, .pk (.t 26) (.k (.sc (.bool true))) (.t 31), none, false⟩])
 (.ite (.t 32)
 (.seq
 (.reg false [⟨2, .mv (.k (.sc (.bool false))), none, false⟩])
 .ret)
 .skip))
 (.seq
 (.seq
 (.reg false [⟨33, .mv (.t 0), none, false⟩,
 ⟨34, .nc (.t 33), none, false⟩,
 ⟨35, .fa 6 (.t 34), none, false⟩,
 ⟨36, .ld 1 false (.t 35), none, false⟩,
 ⟨37, .ca (.k (.cl 58 [])) [(.t 36), (.k (.sc (.int .i64 10))), (.k (.sc (.int .i64 20000)))], none, false⟩,
 ⟨38, .nt (.t 37), none, false⟩,
 ⟨39, .mv (.t 38), none, false⟩,
 ⟨40, .mv (.t 0), (some (39, false)), false⟩,
 ⟨41, .nc (.t 40), (some (39, false)), false⟩,
 ⟨42, .fa 7 (.t 41), (some (39, false)), false⟩,
 ⟨43, .ld 1 false (.t 42), (some (39, false)), false⟩,
 ⟨44, .ca (.k (.cl 58 [])) [(.t 43), (.k (.sc (.int .i64 10))), (.k (.sc (.int .i64 20000)))], (some (39, false)), false⟩,
 ⟨45, .nt (.t 44), (some (39, false)), false⟩,
 ⟨46, .pk (.t 39) (.k (.sc (.bool true))) (.t 45), none, false⟩,
 ⟨47, .mv (.t 46), none, false⟩,
 ⟨48, .mv (.t 0), (some (47, false)), false⟩,
 ⟨49, .nc (.t 48), (some (47, false)), false⟩,
 ⟨50, .fa 8 (.t 49), (some (47, false)), false⟩,
 ⟨51, .ld 1 false (.t 50), (some (47, false)), false⟩,
 ⟨52, .ln false (.t 51), (some (47, false)), false⟩,
 ⟨53, .ar .gtr false (.t 52) (.k (.sc (.int .i64 6))), (some (47, false)), false⟩,
 ⟨54, .pk (.t 47) (.k (.sc (.bool true))) (.t 53), none, false⟩])
 (.ite (.t 54)
 (.seq
 (.reg false [⟨2, .mv (.k (.sc (.bool false))), none, false⟩])
 .ret)
 .skip))
 (.seq
 (.seq
 (.reg false [⟨3, .mv (.k (.sc (.int .i64 0))), none, false⟩])
 (.cln [] [2]
 (.block 0
 (.loop [0, 3] b40_1))))
 (.seq
 (.reg false [⟨2, .mv (.k (.sc (.bool true))), none, false⟩])
 .ret)))))⟩
attribute [simp] i40
set_option maxRecDepth 1000000 in
theorem c40 : cFn Tryd.prog 40 [[], [0, 3], [], [2]] = some i40 := by kernel_rfl
theorem e40 : enterOk Tryd.prog 40 = true := by kernel_rfl
def i43 : Ev.Fn := ⟨1, 46, [.tmp 2],
 (.seq
 (.reg false [⟨1, .bx (.t 0), none, false⟩,
 ⟨2, .mv (.k (.sc (.bool false))), none, false⟩])
 (.seq
 (.seq
 (.reg false [⟨3, .fa 0 (.t 1), none, false⟩,
 ⟨4, .ld 1 false (.t 3), none, false⟩,
 ⟨5, .ca (.k (.cl 70 [])) [(.t 4)], none, false⟩,
 ⟨6, .nt (.t 5), none, false⟩,
 ⟨7, .mv (.t 6), none, false⟩,
 ⟨8, .fa 1 (.t 1), (some (7, false)), false⟩,
 ⟨9, .ld 1 false (.t 8), (some (7, false)), false⟩,
 ⟨10, .ca (.k (.cl 70 [])) [(.t 9)], (some (7, false)), false⟩,
 ⟨11, .nt (.t 10), (some (7, false)), false⟩,
 ⟨12, .pk (.t 7) (.k (.sc (.bool true))) (.t 11), none, false⟩,
 ⟨13, .mv (.t 12), none, false⟩,
 ⟨14, .fa 2 (.t 1), (some (13, false)), false⟩,
 ⟨15, .ld 1 false (.t 14), (some (13, false)), false⟩,
 ⟨16, .ca (.k (.cl 63 [])) [(.t 15), (.k (.sc (.int .i64 0))), (.k (.sc (.int .i64 999)))], (some (13, false)), false⟩,
 ⟨17, .nt (.t 16), (some (13, false)), false⟩,
 ⟨18, .pk (.t 13) (.k (.sc (.bool true))) (.t 17), none, false⟩,
 ⟨19, .mv (.t 18), none, false⟩,
 ⟨20, .fa 3 (.t 1), (some (19, false)), false⟩,
 ⟨21, .ld 3 true (.t 20), (some (19, false)), false⟩,
 ⟨22, .ca (.k (.cl 33 [])) [(.t 21)], (some (19, false)), false⟩,
 ⟨23, .nt (.t 22), (some (19, false)), false⟩,
 ⟨24, .pk (.t 19) (.k (.sc (.bool true))) (.t 23), none, false⟩])
 (.ite (.t 24)
 (.seq
 (.reg false [⟨2, .mv (.k (.sc (.bool false))), none, false⟩])
 .ret)
 .skip))
 (.seq
 (.seq
 (.reg false [⟨25, .fa 6 (.t 1), none, false⟩,
 ⟨26, .ld 1 false (.t 25), none, false⟩,
 ⟨27, .ca (.k (.cl 63 [])) [(.t 26), (.k (.sc (.int .i64 10))), (.k (.sc (.int .i64 20000)))], none, false⟩,
 ⟨28, .nt (.t 27), none, false⟩,
 ⟨29, .mv (.t 28), none, false⟩,
 ⟨30, .fa 7 (.t 1), (some (29, false)), false⟩,
 ⟨31, .ld 1 false (.t 30), (some (29, false)), false⟩,
 ⟨32, .ca (.k (.cl 63 [])) [(.t 31), (.k (.sc (.int .i64 10))), (.k (.sc (.int .i64 20000)))], (some (29, false)), false⟩,
 ⟨33, .nt (.t 32), (some (29, false)), false⟩,
 ⟨34, .pk (.t 29) (.k (.sc (.bool true))) (.t 33), none, false⟩,
 ⟨35, .mv (.t 34), none, false⟩,
 ⟨36, .fa 8 (.t 1), (some (35, false)), false⟩,
 ⟨37, .ld 1 false (.t 36), (some (35, false)), false⟩,
 ⟨38, .ln false (.t 37), (some (35, false)), false⟩,
 ⟨39, .ar .gtr false (.t 38) (.k (.sc (.int .i64 6))), (some (35, false)), false⟩,
 ⟨40, .pk (.t 35) (.k (.sc (.bool true))) (.t 39), none, false⟩])
 (.ite (.t 40)
 (.seq
 (.reg false [⟨2, .mv (.k (.sc (.bool false))), none, false⟩])
 .ret)
 .skip))
 (.seq
 (.reg false [⟨41, .fa 8 (.t 1), none, false⟩,
 ⟨42, .ld 1 false (.t 41), none, false⟩,
 ⟨43, .mf 72 [(.t 1)], none, false⟩,
 ⟨44, .ca (.k (.cl 71 [])) [(.t 42), (.t 43)], none, false⟩,
 ⟨45, .nt (.t 44), none, false⟩,
 ⟨2, .mv (.t 45), none, false⟩])
 .ret))))⟩
attribute [simp] i43
set_option maxRecDepth 1000000 in
theorem c43 : cFn Tryd.prog 43 [[]] = some i43 := by kernel_rfl
theorem e43 : enterOk Tryd.prog 43 = true := by kernel_rfl
def i44 : Ev.Fn := ⟨1, 13, [.tmp 2],
 (.seq
 (.reg false [⟨1, .bx (.t 0), none, false⟩,
 ⟨2, .mv (.k (.sc (.string ⟨#[]⟩))), none, false⟩])
 (.seq
 (.reg false [⟨3, .fa 0 (.t 1), none, false⟩,
 ⟨4, .ld 1 false (.t 3), none, false⟩,
 ⟨5, .fa 1 (.t 1), none, false⟩,
 ⟨6, .ld 1 false (.t 5), none, false⟩,
 ⟨7, .fa 2 (.t 1), none, false⟩,
 ⟨8, .ld 1 false (.t 7), none, false⟩,
 ⟨9, .fa 3 (.t 1), none, false⟩,
 ⟨10, .ld 1 false (.t 9), none, false⟩,
 ⟨11, .bs 2 1 [(.sc (.int .i64 0))] 4 [(0, (.t 4)), (1, (.t 6)), (2, (.t 8)), (3, (.t 10))], none, false⟩,
 ⟨12, .ca (.k (.cl 38 [])) [(.t 11)], none, false⟩,
 ⟨2, .mv (.t 12), none, false⟩])
 .ret))⟩
attribute [simp] i44
set_option maxRecDepth 1000000 in
theorem c44 : cFn Tryd.prog 44 [[]] = some i44 := by kernel_rfl
theorem e44 : enterOk Tryd.prog 44 = true := by kernel_rfl
def w46_1 : IC :=
(.seq
 (.seq
 (.reg false [⟨11, .mv (.t 5), none, false⟩,
 ⟨12, .mv (.t 0), none, false⟩,
 ⟨13, .ln false (.t 12), none, false⟩,
 ⟨14, .ar .lss false (.t 11) (.t 13), none, false⟩])
 (.ite (.t 14)
 .skip
 (.exit 0)))
 (.seq
 (.block 1
 (.seq
 (.reg true [⟨17, .mv (.t 0), none, false⟩,
 ⟨18, .mv (.t 5), none, false⟩,
 ⟨19, .ia 4 (.t 17) (.t 18), none, false⟩,
 ⟨20, .ld 4 true (.t 19), none, false⟩,
 ⟨21, .mv (.t 1), none, false⟩,
 ⟨22, .mv (.t 5), none, false⟩,
 ⟨23, .ia 4 (.t 21) (.t 22), none, false⟩,
 ⟨24, .ld 4 true (.t 23), none, false⟩,
 ⟨25, .ca (.k (.cl 77 [])) [(.t 20), (.t 24)], none, false⟩,
 ⟨26, .nt (.t 25), none, false⟩])
 (.ite (.t 26)
 (.seq
 (.reg false [⟨4, .mv (.k (.sc (.bool false))), none, false⟩])
 .ret)
 .skip)))
 (.reg false [⟨15, .mv (.t 5), none, false⟩,
 ⟨16, .ar .add false (.t 15) (.k (.sc (.int .i64 1))), none, false⟩,
 ⟨5, .mv (.t 16), none, false⟩])))
def b46_1 : IC := w46_1
theorem u46_1 (call : CallF) (st : St) : evC call b46_1 st = evC call w46_1 st := rfl
attribute [simp] u46_1 w46_1
def i46 : Ev.Fn := ⟨2, 27, [.tmp 4],
 (.seq
 (.reg false [⟨4, .mv (.k (.sc (.bool false))), none, false⟩])
 (.seq
 (.seq
 (.reg false [⟨6, .mv (.t 0), none, false⟩,
 ⟨7, .ln false (.t 6), none, false⟩,
 ⟨8, .mv (.t 1), none, false⟩,
 ⟨9, .ln false (.t 8), none, false⟩,
 ⟨10, .ar .neq false (.t 7) (.t 9), none, false⟩])
 (.ite (.t 10)
 (.seq
 (.reg false [⟨4, .mv (.k (.sc (.bool false))), none, false⟩])
 .ret)
 .skip))
 (.seq
 (.seq
 (.reg false [⟨5, .mv (.k (.sc (.int .i64 0))), none, false⟩])
 (.cln [] [4]
 (.block 0
 (.loop [0, 1, 5] b46_1))))
 (.seq
 (.reg false [⟨4, .mv (.k (.sc (.bool true))), none, false⟩])
 .ret))))⟩
attribute [simp] i46
set_option maxRecDepth 1000000 in
theorem c46 : cFn Tryd.prog 46 [[], [0, 1, 5], [], [4]] = some i46 := by kernel_rfl
theorem e46 : enterOk Tryd.prog 46 = true := by kernel_rfl
def i47 : Ev.Fn := ⟨1, 48, [.cell 2 3 true, .tmp 3],
 (.seq
 (.reg false [⟨2, .al [(.sc (.string ⟨#[]⟩)), (.sc (.int .i64 0)), (.sc (.int .i64 0))], none, false⟩,
 ⟨3, .mv (.k (.sc (.bool false))), none, false⟩])
 (.seq
 (.reg false [⟨10, .mv (.t 0), none, false⟩,
 ⟨11, .ca (.k (.cl 78 [])) [(.t 10), (.k (.sc (.int .u8 32)))], none, false⟩,
 ⟨4, .mv (.t 11), none, false⟩])
 (.seq
 (.seq
 (.reg false [⟨12, .mv (.t 4), none, false⟩,
 ⟨13, .ln false (.t 12), none, false⟩,
 ⟨14, .ar .neq false (.t 13) (.k (.sc (.int .i64 3))), none, false⟩])
 (.ite (.t 14)
 (.seq
 (.reg false [⟨15, .bd [(.sc (.string ⟨#[]⟩)), (.sc (.int .i64 0)), (.sc (.int .i64 0))] [], none, false⟩,
 ⟨1, .so 3 (.t 2) (.t 15), none, true⟩,
 ⟨3, .mv (.k (.sc (.bool false))), none, false⟩])
 .ret)
 .skip))
 (.seq
 (.reg false [⟨17, .mv (.t 4), none, false⟩,
 ⟨18, .ia 1 (.t 17) (.k (.sc (.int .i64 1))), none, false⟩,
 ⟨19, .ld 1 false (.t 18), none, false⟩,
 ⟨20, .ca (.k (.cl 79 [])) [(.t 19)], none, false⟩,
 ⟨16, .mv (.t 20), none, false⟩,
 ⟨21, .xt (.t 16) 0, none, false⟩,
 ⟨22, .xt (.t 16) 1, none, false⟩,
 ⟨5, .mv (.t 21), none, false⟩,
 ⟨6, .mv (.t 22), none, false⟩])
 (.seq
 (.reg false [⟨24, .mv (.t 4), none, false⟩,
 ⟨25, .ia 1 (.t 24) (.k (.sc (.int .i64 2))), none, false⟩,
 ⟨26, .ld 1 false (.t 25), none, false⟩,
 ⟨27, .ca (.k (.cl 79 [])) [(.t 26)], none, false⟩,
 ⟨23, .mv (.t 27), none, false⟩,
 ⟨28, .xt (.t 23) 0, none, false⟩,
 ⟨29, .xt (.t 23) 1, none, false⟩,
 ⟨7, .mv (.t 28), none, false⟩,
 ⟨8, .mv (.t 29), none, false⟩])
 (.seq
 (.reg false [⟨30, .mv (.t 4), none, false⟩,
 ⟨31, .ia 1 (.t 30) (.k (.sc (.int .i64 0))), none, false⟩,
 ⟨32, .ld 1 false (.t 31), none, false⟩,
 ⟨33, .mv (.t 5), none, false⟩,
 ⟨34, .mv (.t 7), none, false⟩,
 ⟨35, .bd [(.sc (.string ⟨#[]⟩)), (.sc (.int .i64 0)), (.sc (.int .i64 0))] [(0, 1, (.t 32)), (1, 1, (.t 33)), (2, 1, (.t 34))], none, false⟩,
 ⟨9, .al [(.sc (.string ⟨#[]⟩)), (.sc (.int .i64 0)), (.sc (.int .i64 0))], none, false⟩,
 ⟨1, .so 3 (.t 9) (.t 35), none, true⟩])
 (.seq
 (.seq
 (.reg false [⟨36, .mv (.t 6), none, false⟩,
 ⟨37, .nt (.t 36), none, false⟩,
 ⟨38, .mv (.t 37), none, false⟩,
 ⟨39, .mv (.t 8), (some (38, false)), false⟩,
 ⟨40, .nt (.t 39), (some (38, false)), false⟩,
 ⟨41, .pk (.t 38) (.k (.sc (.bool true))) (.t 40), none, false⟩,
 ⟨42, .mv (.t 41), none, false⟩,
 ⟨43, .ca (.k (.cl 31 [])) [(.t 9)], (some (42, false)), false⟩,
 ⟨44, .nt (.t 43), (some (42, false)), false⟩,
 ⟨45, .pk (.t 42) (.k (.sc (.bool true))) (.t 44), none, false⟩])
 (.ite (.t 45)
 (.seq
 (.reg false [⟨46, .bd [(.sc (.string ⟨#[]⟩)), (.sc (.int .i64 0)), (.sc (.int .i64 0))] [], none, false⟩,
 ⟨1, .so 3 (.t 2) (.t 46), none, true⟩,
 ⟨3, .mv (.k (.sc (.bool false))), none, false⟩])
 .ret)
 .skip))
 (.seq
 (.reg false [⟨47, .ld 3 true (.t 9), none, false⟩,
 ⟨1, .so 3 (.t 2) (.t 47), none, true⟩,
 ⟨3, .mv (.k (.sc (.bool true))), none, false⟩])
 .ret))))))))⟩
attribute [simp] i47
set_option maxRecDepth 1000000 in
theorem c47 : cFn Tryd.prog 47 [[]] = some i47 := by kernel_rfl
theorem e47 : enterOk Tryd.prog 47 = true := by kernel_rfl
def w49_1 : IC :=
(.seq
 (.seq
 (.reg false [⟨20, .mv (.t 6), none, false⟩,
 ⟨21, .mv (.t 4), none, false⟩,
 ⟨22, .ln true (.t 21), none, false⟩,
 ⟨23, .ar .lss false (.t 20) (.t 22), none, false⟩])
 (.ite (.t 23)
 .skip
 (.exit 0)))
 (.seq
 (.block 1
 (.seq
 (.seq
 (.reg false [⟨26, .mv (.t 4), none, false⟩,
 ⟨27, .mv (.t 6), none, false⟩,
 ⟨28, .ix (.t 26) (.t 27), none, false⟩,
 ⟨29, .ar .lss false (.t 28) (.k (.sc (.int .u8 48))), none, false⟩,
 ⟨30, .mv (.t 29), none, false⟩,
 ⟨31, .mv (.t 4), (some (30, false)), false⟩,
 ⟨32, .mv (.t 6), (some (30, false)), false⟩,
 ⟨33, .ix (.t 31) (.t 32), (some (30, false)), false⟩,
 ⟨34, .ar .gtr false (.t 33) (.k (.sc (.int .u8 57))), (some (30, false)), false⟩,
 ⟨35, .pk (.t 30) (.k (.sc (.bool true))) (.t 34), none, false⟩])
 (.ite (.t 35)
 (.seq
 (.reg false [⟨2, .mv (.k (.sc (.int .i64 0))), none, false⟩,
 ⟨3, .mv (.k (.sc (.bool false))), none, false⟩])
 .ret)
 .skip))
 (.reg false [⟨36, .mv (.t 5), none, false⟩,
 ⟨37, .ar .mul false (.t 36) (.k (.sc (.int .i64 10))), none, false⟩,
 ⟨38, .mv (.t 4), none, false⟩,
 ⟨39, .mv (.t 6), none, false⟩,
 ⟨40, .ix (.t 38) (.t 39), none, false⟩,
 ⟨41, .ar .sub false (.t 40) (.k (.sc (.int .u8 48))), none, false⟩,
 ⟨42, .cv .i64 (.t 41), none, false⟩,
 ⟨43, .ar .add false (.t 37) (.t 42), none, false⟩,
 ⟨5, .mv (.t 43), none, false⟩])))
 (.reg false [⟨24, .mv (.t 6), none, false⟩,
 ⟨25, .ar .add false (.t 24) (.k (.sc (.int .i64 1))), none, false⟩,
 ⟨6, .mv (.t 25), none, false⟩])))
def b49_1 : IC := w49_1
theorem u49_1 (call : CallF) (st : St) : evC call b49_1 st = evC call w49_1 st := rfl
attribute [simp] u49_1 w49_1
def i49 : Ev.Fn := ⟨1, 56, [.tmp 2, .tmp 3],
 (.seq
 (.reg false [⟨2, .mv (.k (.sc (.int .i64 0))), none, false⟩,
 ⟨3, .mv (.k (.sc (.bool false))), none, false⟩])
 (.seq
 (.reg false [⟨7, .mv (.t 0), none, false⟩,
 ⟨4, .mv (.t 7), none, false⟩])
 (.seq
 (.seq
 (.reg false [⟨8, .mv (.t 0), none, false⟩,
 ⟨9, .ca (.k (.cl 81 [])) [(.t 8), (.k (.sc (.string ⟨#[45]⟩)))], none, false⟩])
 (.ite (.t 9)
 (.reg false [⟨10, .mv (.t 0), none, false⟩,
 ⟨11, .sl 0 (.t 10) (some (.k (.sc (.int .i64 1)))) none, none, false⟩,
 ⟨4, .mv (.t 11), none, false⟩])
 .skip))
 (.seq
 (.seq
 (.reg false [⟨12, .mv (.t 4), none, false⟩,
 ⟨13, .ln true (.t 12), none, false⟩,
 ⟨14, .ar .lss false (.t 13) (.k (.sc (.int .i64 1))), none, false⟩,
 ⟨15, .mv (.t 14), none, false⟩,
 ⟨16, .mv (.t 4), (some (15, false)), false⟩,
 ⟨17, .ln true (.t 16), (some (15, false)), false⟩,
 ⟨18, .ar .gtr false (.t 17) (.k (.sc (.int .i64 18))), (some (15, false)), false⟩,
 ⟨19, .pk (.t 15) (.k (.sc (.bool true))) (.t 18), none, false⟩])
 (.ite (.t 19)
 (.seq
 (.reg false [⟨2, .mv (.k (.sc (.int .i64 0))), none, false⟩,
 ⟨3, .mv (.k (.sc (.bool false))), none, false⟩])
 .ret)
 .skip))
 (.seq
 (.reg false [⟨5, .mv (.k (.sc (.int .i64 0))), none, false⟩])
 (.seq
 (.seq
 (.reg false [⟨6, .mv (.k (.sc (.int .i64 0))), none, false⟩])
 (.cln [0, 4, 5] [2, 3]
 (.block 0
 (.loop [0, 4, 5, 6] b49_1))))
 (.seq
 (.seq
 (.reg false [⟨44, .mv (.t 4), none, false⟩,
 ⟨45, .ln true (.t 44), none, false⟩,
 ⟨46, .mv (.t 0), none, false⟩,
 ⟨47, .ln true (.t 46), none, false⟩,
 ⟨48, .ar .lss false (.t 45) (.t 47), none, false⟩])
 (.ite (.t 48)
 (.reg false [⟨49, .mv (.t 5), none, false⟩,
 ⟨50, .ng (.t 49), none, false⟩,
 ⟨5, .mv (.t 50), none, false⟩])
 .skip))
 (.seq
 (.seq
 (.reg false [⟨51, .mv (.t 5), none, false⟩,
 ⟨52, .ca (.k (.cl 34 [])) [(.t 51)], none, false⟩,
 ⟨53, .mv (.t 0), none, false⟩,
 ⟨54, .ar .neq false (.t 52) (.t 53), none, false⟩])
 (.ite (.t 54)
 (.seq
 (.reg false [⟨2, .mv (.k (.sc (.int .i64 0))), none, false⟩,
 ⟨3, .mv (.k (.sc (.bool false))), none, false⟩])
 .ret)
 .skip))
 (.seq
 (.reg false [⟨55, .mv (.t 5), none, false⟩,
 ⟨2, .mv (.t 55), none, false⟩,
 ⟨3, .mv (.k (.sc (.bool true))), none, false⟩])
 .ret)))))))))⟩
attribute [simp] i49
set_option maxRecDepth 1000000 in
theorem c49 : cFn Tryd.prog 49 [[], [0, 4, 5, 6], [0, 4, 5], [2, 3]] = some i49 := by kernel_rfl
theorem e49 : enterOk Tryd.prog 49 = true := by kernel_rfl
def w50_1 : IC :=
(.seq
 (.seq
 (.reg false [⟨18, .mv (.t 6), none, false⟩,
 ⟨19, .mv (.t 4), none, false⟩,
 ⟨20, .ln false (.t 19), none, false⟩,
 ⟨21, .ar .lss false (.t 18) (.t 20), none, false⟩])
 (.ite (.t 21)
 .skip
 (.exit 0)))
 (.seq
 (.block 1
 (.seq
 (.reg false [⟨25, .mv (.t 4), none, false⟩,
 ⟨26, .mv (.t 6), none, false⟩,
 ⟨27, .ia 1 (.t 25) (.t 26), none, false⟩,
 ⟨28, .ld 1 false (.t 27), none, false⟩,
 ⟨29, .ca (.k (.cl 79 [])) [(.t 28)], none, false⟩,
 ⟨24, .mv (.t 29), none, false⟩,
 ⟨30, .xt (.t 24) 0, none, false⟩,
 ⟨31, .xt (.t 24) 1, none, false⟩,
 ⟨7, .mv (.t 30), none, false⟩,
 ⟨8, .mv (.t 31), none, false⟩])
 (.seq
 (.seq
 (.reg false [⟨32, .mv (.t 8), none, false⟩,
 ⟨33, .nt (.t 32), none, false⟩,
 ⟨34, .mv (.t 33), none, false⟩,
 ⟨35, .mv (.t 7), (some (34, false)), false⟩,
 ⟨36, .ca (.k (.cl 58 [])) [(.t 35), (.k (.sc (.int .i64 (-1000000000000)))), (.k (.sc (.int .i64 1000000000000)))], (some (34, false)), false⟩,
 ⟨37, .nt (.t 36), (some (34, false)), false⟩,
 ⟨38, .pk (.t 34) (.k (.sc (.bool true))) (.t 37), none, false⟩])
 (.ite (.t 38)
 (.seq
 (.reg false [⟨2, .mv (.k .nl), none, false⟩,
 ⟨3, .mv (.k (.sc (.bool false))), none, false⟩])
 .ret)
 .skip))
 (.reg false [⟨39, .mv (.t 5), none, false⟩,
 ⟨40, .mv (.t 7), none, false⟩,
 ⟨41, .bs 2 1 [(.sc (.int .i64 0))] 1 [(0, (.t 40))], none, false⟩,
 ⟨42, .ap 2 1 false (.t 39) (.t 41), none, false⟩,
 ⟨5, .mv (.t 42), none, false⟩]))))
 (.reg false [⟨22, .mv (.t 6), none, false⟩,
 ⟨23, .ar .add false (.t 22) (.k (.sc (.int .i64 1))), none, false⟩,
 ⟨6, .mv (.t 23), none, false⟩])))
def b50_1 : IC := w50_1
theorem u50_1 (call : CallF) (st : St) : evC call b50_1 st = evC call w50_1 st := rfl
attribute [simp] u50_1 w50_1
def i50 : Ev.Fn := ⟨1, 44, [.tmp 2, .tmp 3],
 (.seq
 (.reg false [⟨2, .mv (.k .nl), none, false⟩,
 ⟨3, .mv (.k (.sc (.bool false))), none, false⟩])
 (.seq
 (.seq
 (.reg false [⟨9, .mv (.t 0), none, false⟩,
 ⟨10, .ar .eql false (.t 9) (.k (.sc (.string ⟨#[45]⟩))), none, false⟩])
 (.ite (.t 10)
 (.seq
 (.reg false [⟨11, .bs 2 1 [(.sc (.int .i64 0))] 0 [], none, false⟩,
 ⟨2, .mv (.t 11), none, false⟩,
 ⟨3, .mv (.k (.sc (.bool true))), none, false⟩])
 .ret)
 .skip))
 (.seq
 (.reg false [⟨12, .mv (.t 0), none, false⟩,
 ⟨13, .ca (.k (.cl 78 [])) [(.t 12), (.k (.sc (.int .u8 44)))], none, false⟩,
 ⟨4, .mv (.t 13), none, false⟩])
 (.seq
 (.seq
 (.reg false [⟨14, .mv (.t 4), none, false⟩,
 ⟨15, .ln false (.t 14), none, false⟩,
 ⟨16, .ar .gtr false (.t 15) (.k (.sc (.int .i64 64))), none, false⟩])
 (.ite (.t 16)
 (.seq
 (.reg false [⟨2, .mv (.k .nl), none, false⟩,
 ⟨3, .mv (.k (.sc (.bool false))), none, false⟩])
 .ret)
 .skip))
 (.seq
 (.reg false [⟨17, .bs 2 1 [(.sc (.int .i64 0))] 0 [], none, false⟩,
 ⟨5, .mv (.t 17), none, false⟩])
 (.seq
 (.seq
 (.reg false [⟨6, .mv (.k (.sc (.int .i64 0))), none, false⟩])
 (.cln [5] [2, 3]
 (.block 0
 (.loop [4, 5, 6] b50_1))))
 (.seq
 (.reg false [⟨43, .mv (.t 5), none, false⟩,
 ⟨2, .mv (.t 43), none, false⟩,
 ⟨3, .mv (.k (.sc (.bool true))), none, false⟩])
 .ret)))))))⟩
attribute [simp] i50
set_option maxRecDepth 1000000 in
theorem c50 : cFn Tryd.prog 50 [[], [4, 5, 6], [5], [2, 3]] = some i50 := by kernel_rfl
theorem e50 : enterOk Tryd.prog 50 = true := by kernel_rfl
def w51_1 : IC :=
(.seq
 (.reg false [⟨16, .ar .lss false (.t 15) (.t 14), none, false⟩])
 (.seq
 (.ite (.t 16)
 .skip
 (.exit 0))
 (.seq
 (.block 1
 (.seq
 (.reg false [⟨17, .ia 1 (.t 13) (.t 15), none, false⟩,
 ⟨18, .ld 1 false (.t 17), none, false⟩,
 ⟨6, .mv (.t 18), none, false⟩])
 (.seq
 (.reg false [⟨20, .mv (.t 6), none, false⟩,
 ⟨21, .ca (.k (.cl 49 [])) [(.t 20)], none, false⟩,
 ⟨19, .mv (.t 21), none, false⟩,
 ⟨22, .xt (.t 19) 0, none, false⟩,
 ⟨23, .xt (.t 19) 1, none, false⟩,
 ⟨7, .mv (.t 22), none, false⟩,
 ⟨8, .mv (.t 23), none, false⟩])
 (.seq
 (.seq
 (.reg false [⟨24, .mv (.t 8), none, false⟩,
 ⟨25, .nt (.t 24), none, false⟩,
 ⟨26, .mv (.t 25), none, false⟩,
 ⟨27, .mv (.t 7), (some (26, false)), false⟩,
 ⟨28, .ca (.k (.cl 63 [])) [(.t 27), (.k (.sc (.int .i64 (-1000000000000)))), (.k (.sc (.int .i64 1000000000000)))], (some (26, false)), false⟩,
 ⟨29, .nt (.t 28), (some (26, false)), false⟩,
 ⟨30, .pk (.t 26) (.k (.sc (.bool true))) (.t 29), none, false⟩])
 (.ite (.t 30)
 (.seq
 (.reg false [⟨2, .mv (.k .nl), none, false⟩,
 ⟨3, .mv (.k (.sc (.bool false))), none, false⟩])
 .ret)
 .skip))
 (.reg false [⟨31, .mv (.t 4), none, false⟩,
 ⟨32, .mv (.t 7), none, false⟩,
 ⟨33, .bs 2 1 [(.sc (.int .i64 0))] 1 [(0, (.t 32))], none, false⟩,
 ⟨34, .ap 2 1 false (.t 31) (.t 33), none, false⟩,
 ⟨4, .mv (.t 34), none, false⟩])))))
 (.reg false [⟨35, .ar .add false (.t 15) (.k (.sc (.int .i64 1))), none, false⟩,
 ⟨15, .mv (.t 35), none, false⟩]))))
def b51_1 : IC := w51_1
theorem u51_1 (call : CallF) (st : St) : evC call b51_1 st = evC call w51_1 st := rfl
attribute [simp] u51_1 w51_1
def i51 : Ev.Fn := ⟨1, 40, [.tmp 2, .tmp 3],
 (.seq
 (.reg false [⟨2, .mv (.k .nl), none, false⟩,
 ⟨3, .mv (.k (.sc (.bool false))), none, false⟩])
 (.seq
 (.seq
 (.reg false [⟨9, .mv (.t 0), none, false⟩,
 ⟨10, .ar .eql false (.t 9) (.k (.sc (.string ⟨#[45]⟩))), none, false⟩])
 (.ite (.t 10)
 (.seq
 (.reg false [⟨2, .mv (.k .nl), none, false⟩,
 ⟨3, .mv (.k (.sc (.bool true))), none, false⟩])
 .ret)
 .skip))
 (.seq
 (.reg false [⟨11, .bs 2 1 [(.sc (.int .i64 0))] 0 [], none, false⟩,
 ⟨4, .mv (.t 11), none, false⟩])
 (.seq
 (.seq
 (.reg false [⟨12, .mv (.t 0), none, false⟩,
 ⟨13, .ca (.k (.cl 48 [])) [(.t 12), (.k (.sc (.string ⟨#[44]⟩)))], none, false⟩,
 ⟨14, .ln false (.t 13), none, false⟩,
 ⟨15, .mv (.k (.sc (.int .i64 0))), none, false⟩])
 (.cln [4] [2, 3]
 (.block 0
 (.loop [4, 13, 14, 15] b51_1))))
 (.seq
 (.seq
 (.reg false [⟨36, .mv (.t 4), none, false⟩,
 ⟨37, .ln false (.t 36), none, false⟩,
 ⟨38, .ar .gtr false (.t 37) (.k (.sc (.int .i64 64))), none, false⟩])
 (.ite (.t 38)
 (.seq
 (.reg false [⟨2, .mv (.k .nl), none, false⟩,
 ⟨3, .mv (.k (.sc (.bool false))), none, false⟩])
 .ret)
 .skip))
 (.seq
 (.reg false [⟨39, .mv (.t 4), none, false⟩,
 ⟨2, .mv (.t 39), none, false⟩,
 ⟨3, .mv (.k (.sc (.bool true))), none, false⟩])
 .ret))))))⟩
attribute [simp] i51
set_option maxRecDepth 1000000 in
theorem c51 : cFn Tryd.prog 51 [[], [4, 13, 14, 15], [4], [2, 3]] = some i51 := by kernel_rfl
theorem e51 : enterOk Tryd.prog 51 = true := by kernel_rfl
def w52_1 : IC :=
(.seq
 (.seq
 (.reg false [⟨63, .mv (.t 14), none, false⟩,
 ⟨64, .mv (.t 4), none, false⟩,
 ⟨65, .ln false (.t 64), none, false⟩,
 ⟨66, .ar .lss false (.t 63) (.t 65), none, false⟩])
 (.ite (.t 66)
 .skip
 (.exit 0)))
 (.seq
 (.block 1
 (.seq
 (.reg false [⟨70, .mv (.t 4), none, false⟩,
 ⟨71, .mv (.t 14), none, false⟩,
 ⟨72, .ia 1 (.t 70) (.t 71), none, false⟩,
 ⟨73, .ld 1 false (.t 72), none, false⟩,
 ⟨74, .ca (.k (.cl 50 [])) [(.t 73)], none, false⟩,
 ⟨69, .mv (.t 74), none, false⟩,
 ⟨75, .xt (.t 69) 0, none, false⟩,
 ⟨76, .xt (.t 69) 1, none, false⟩,
 ⟨15, .mv (.t 75), none, false⟩,
 ⟨16, .mv (.t 76), none, false⟩])
 (.seq
 (.seq
 (.reg false [⟨77, .mv (.t 16), none, false⟩,
 ⟨78, .nt (.t 77), none, false⟩,
 ⟨79, .mv (.t 78), none, false⟩,
 ⟨80, .mv (.t 15), (some (79, false)), false⟩,
 ⟨81, .ln false (.t 80), (some (79, false)), false⟩,
 ⟨82, .ar .neq false (.t 81) (.k (.sc (.int .i64 4))), (some (79, false)), false⟩,
 ⟨83, .pk (.t 79) (.k (.sc (.bool true))) (.t 82), none, false⟩])
 (.ite (.t 83)
 (.seq
 (.reg false [⟨84, .bd [(.sc (.string ⟨#[]⟩)), (.sc (.string ⟨#[]⟩)), (.sc (.int .i64 0)), (.sc (.string ⟨#[]⟩)), (.sc (.int .i64 0)), (.sc (.int .i64 0)), (.sc (.int .i64 0)), (.sc (.int .i64 0)), .nl] [], none, false⟩,
 ⟨1, .so 9 (.t 2) (.t 84), none, true⟩,
 ⟨3, .mv (.k (.sc (.bool false))), none, false⟩])
 .ret)
 .skip))
 (.reg true [⟨85, .fa 8 (.t 12), none, false⟩,
 ⟨86, .ld 1 false (.t 85), none, false⟩,
 ⟨87, .mv (.t 15), none, false⟩,
 ⟨88, .ia 1 (.t 87) (.k (.sc (.int .i64 0))), none, false⟩,
 ⟨89, .ld 1 false (.t 88), none, false⟩,
 ⟨90, .mv (.t 15), none, false⟩,
 ⟨91, .ia 1 (.t 90) (.k (.sc (.int .i64 1))), none, false⟩,
 ⟨92, .ld 1 false (.t 91), none, false⟩,
 ⟨93, .mv (.t 15), none, false⟩,
 ⟨94, .ia 1 (.t 93) (.k (.sc (.int .i64 2))), none, false⟩,
 ⟨95, .ld 1 false (.t 94), none, false⟩,
 ⟨96, .mv (.t 15), none, false⟩,
 ⟨97, .ia 1 (.t 96) (.k (.sc (.int .i64 3))), none, false⟩,
 ⟨98, .ld 1 false (.t 97), none, false⟩,
 ⟨99, .bd [(.sc (.int .i64 0)), (.sc (.int .i64 0)), (.sc (.int .i64 0)), (.sc (.int .i64 0))] [(0, 1, (.t 89)), (1, 1, (.t 92)), (2, 1, (.t 95)), (3, 1, (.t 98))], none, false⟩,
 ⟨100, .bs 75 4 [(.sc (.int .i64 0)), (.sc (.int .i64 0)), (.sc (.int .i64 0)), (.sc (.int .i64 0))] 1 [(0, (.t 99))], none, false⟩,
 ⟨101, .ap 75 4 false (.t 86) (.t 100), none, false⟩,
 ⟨102, .fa 8 (.t 12), none, false⟩,
 ⟨1, .so 1 (.t 102) (.t 101), none, true⟩]))))
 (.reg false [⟨67, .mv (.t 14), none, false⟩,
 ⟨68, .ar .add false (.t 67) (.k (.sc (.int .i64 1))), none, false⟩,
 ⟨14, .mv (.t 68), none, false⟩])))
def b52_1 : IC := w52_1
theorem u52_1 (call : CallF) (st : St) : evC call b52_1 st = evC call w52_1 st := rfl
attribute [simp] u52_1 w52_1
def i52 : Ev.Fn := ⟨1, 111, [.cell 2 9 true, .tmp 3],
 (.seq
 (.reg false [⟨2, .al [(.sc (.string ⟨#[]⟩)), (.sc (.string ⟨#[]⟩)), (.sc (.int .i64 0)), (.sc (.string ⟨#[]⟩)), (.sc (.int .i64 0)), (.sc (.int .i64 0)), (.sc (.int .i64 0)), (.sc (.int .i64 0)), .nl], none, false⟩,
 ⟨3, .mv (.k (.sc (.bool false))), none, false⟩])
 (.seq
 (.reg false [⟨17, .mv (.t 0), none, false⟩,
 ⟨18, .ca (.k (.cl 78 [])) [(.t 17), (.k (.sc (.int .u8 47)))], none, false⟩,
 ⟨4, .mv (.t 18), none, false⟩])
 (.seq
 (.seq
 (.reg false [⟨19, .mv (.t 4), none, false⟩,
 ⟨20, .ln false (.t 19), none, false⟩,
 ⟨21, .ar .lss false (.t 20) (.k (.sc (.int .i64 5))), none, false⟩])
 (.ite (.t 21)
 (.seq
 (.reg false [⟨22, .bd [(.sc (.string ⟨#[]⟩)), (.sc (.string ⟨#[]⟩)), (.sc (.int .i64 0)), (.sc (.string ⟨#[]⟩)), (.sc (.int .i64 0)), (.sc (.int .i64 0)), (.sc (.int .i64 0)), (.sc (.int .i64 0)), .nl] [], none, false⟩,
 ⟨1, .so 9 (.t 2) (.t 22), none, true⟩,
 ⟨3, .mv (.k (.sc (.bool false))), none, false⟩])
 .ret)
 .skip))
 (.seq
 (.reg false [⟨24, .mv (.t 4), none, false⟩,
 ⟨25, .ia 1 (.t 24) (.k (.sc (.int .i64 2))), none, false⟩,
 ⟨26, .ld 1 false (.t 25), none, false⟩,
 ⟨27, .ca (.k (.cl 79 [])) [(.t 26)], none, false⟩,
 ⟨23, .mv (.t 27), none, false⟩,
 ⟨28, .xt (.t 23) 0, none, false⟩,
 ⟨29, .xt (.t 23) 1, none, false⟩,
 ⟨5, .mv (.t 28), none, false⟩,
 ⟨6, .mv (.t 29), none, false⟩])
 (.seq
 (.reg false [⟨31, .mv (.t 4), none, false⟩,
 ⟨32, .ia 1 (.t 31) (.k (.sc (.int .i64 3))), none, false⟩,
 ⟨33, .ld 1 false (.t 32), none, false⟩,
 ⟨34, .ca (.k (.cl 47 [])) [(.t 33)], none, false⟩,
 ⟨30, .mv (.t 34), none, false⟩,
 ⟨35, .xt (.t 30) 0, none, false⟩,
 ⟨36, .xt (.t 30) 1, none, false⟩,
 ⟨7, .al [(.sc (.string ⟨#[]⟩)), (.sc (.int .i64 0)), (.sc (.int .i64 0))], none, false⟩,
 ⟨1, .so 3 (.t 7) (.t 35), none, true⟩,
 ⟨8, .mv (.t 36), none, false⟩])
 (.seq
 (.reg false [⟨38, .mv (.t 4), none, false⟩,
 ⟨39, .ia 1 (.t 38) (.k (.sc (.int .i64 4))), none, false⟩,
 ⟨40, .ld 1 false (.t 39), none, false⟩,
 ⟨41, .ca (.k (.cl 82 [])) [(.t 40)], none, false⟩,
 ⟨37, .mv (.t 41), none, false⟩,
 ⟨42, .xt (.t 37) 0, none, false⟩,
 ⟨43, .xt (.t 37) 1, none, false⟩,
 ⟨44, .xt (.t 37) 2, none, false⟩,
 ⟨9, .mv (.t 42), none, false⟩,
 ⟨10, .mv (.t 43), none, false⟩,
 ⟨11, .mv (.t 44), none, false⟩])
 (.seq
 (.reg true [⟨45, .mv (.t 4), none, false⟩,
 ⟨46, .ia 1 (.t 45) (.k (.sc (.int .i64 0))), none, false⟩,
 ⟨47, .ld 1 false (.t 46), none, false⟩,
 ⟨48, .mv (.t 4), none, false⟩,
 ⟨49, .ia 1 (.t 48) (.k (.sc (.int .i64 1))), none, false⟩,
 ⟨50, .ld 1 false (.t 49), none, false⟩,
 ⟨51, .mv (.t 5), none, false⟩,
 ⟨52, .ld 3 true (.t 7), none, false⟩,
 ⟨53, .mv (.t 9), none, false⟩,
 ⟨54, .mv (.t 10), none, false⟩,
 ⟨55, .bd [(.sc (.string ⟨#[]⟩)), (.sc (.string ⟨#[]⟩)), (.sc (.int .i64 0)), (.sc (.string ⟨#[]⟩)), (.sc (.int .i64 0)), (.sc (.int .i64 0)), (.sc (.int .i64 0)), (.sc (.int .i64 0)), .nl] [(0, 1, (.t 47)), (1, 1, (.t 50)), (2, 1, (.t 51)), (3, 3, (.t 52)), (6, 1, (.t 53)), (7, 1, (.t 54))], none, false⟩,
 ⟨12, .al [(.sc (.string ⟨#[]⟩)), (.sc (.string ⟨#[]⟩)), (.sc (.int .i64 0)), (.sc (.string ⟨#[]⟩)), (.sc (.int .i64 0)), (.sc (.int .i64 0)), (.sc (.int .i64 0)), (.sc (.int .i64 0)), .nl], none, false⟩,
 ⟨1, .so 9 (.t 12) (.t 55), none, true⟩])
 (.seq
 (.reg false [⟨56, .mv (.t 6), none, false⟩,
 ⟨57, .mv (.t 56), none, false⟩,
 ⟨58, .mv (.t 8), (some (57, true)), false⟩,
 ⟨59, .pk (.t 57) (.t 58) (.k (.sc (.bool false))), none, false⟩,
 ⟨60, .mv (.t 59), none, false⟩,
 ⟨61, .mv (.t 11), (some (60, true)), false⟩,
 ⟨62, .pk (.t 60) (.t 61) (.k (.sc (.bool false))), none, false⟩,
 ⟨13, .mv (.t 62), none, false⟩])
 (.seq
 (.seq
 (.reg false [⟨14, .mv (.k (.sc (.int .i64 5))), none, false⟩])
 (.cln [2, 12, 13] [2, 3]
 (.block 0
 (.loop [2, 4, 12, 13, 14] b52_1))))
 (.seq
 (.seq
 (.reg false [⟨103, .mv (.t 13), none, false⟩,
 ⟨104, .nt (.t 103), none, false⟩,
 ⟨105, .mv (.t 104), none, false⟩,
 ⟨106, .ca (.k (.cl 40 [])) [(.t 12)], (some (105, false)), false⟩,
 ⟨107, .nt (.t 106), (some (105, false)), false⟩,
 ⟨108, .pk (.t 105) (.k (.sc (.bool true))) (.t 107), none, false⟩])
 (.ite (.t 108)
 (.seq
 (.reg false [⟨109, .bd [(.sc (.string ⟨#[]⟩)), (.sc (.string ⟨#[]⟩)), (.sc (.int .i64 0)), (.sc (.string ⟨#[]⟩)), (.sc (.int .i64 0)), (.sc (.int .i64 0)), (.sc (.int .i64 0)), (.sc (.int .i64 0)), .nl] [], none, false⟩,
 ⟨1, .so 9 (.t 2) (.t 109), none, true⟩,
 ⟨3, .mv (.k (.sc (.bool false))), none, false⟩])
 .ret)
 .skip))
 (.seq
 (.reg false [⟨110, .ld 9 true (.t 12), none, false⟩,
 ⟨1, .so 9 (.t 2) (.t 110), none, true⟩,
 ⟨3, .mv (.k (.sc (.bool true))), none, false⟩])
 .ret)))))))))))⟩
attribute [simp] i52
set_option maxRecDepth 1000000 in
theorem c52 : cFn Tryd.prog 52 [[], [2, 4, 12, 13, 14], [2, 12, 13], [2, 3]] = some i52 := by kernel_rfl
theorem e52 : enterOk Tryd.prog 52 = true := by kernel_rfl
def i53 : Ev.Fn := ⟨1, 37, [.tmp 2, .tmp 3, .tmp 4],
 (.seq
 (.reg false [⟨2, .mv (.k (.sc (.int .i64 0))), none, false⟩,
 ⟨3, .mv (.k (.sc (.int .i64 0))), none, false⟩,
 ⟨4, .mv (.k (.sc (.bool false))), none, false⟩])
 (.seq
 (.reg false [⟨13, .mv (.t 0), none, false⟩,
 ⟨14, .ca (.k (.cl 83 [])) [(.t 13), (.k (.sc (.string ⟨#[120]⟩)))], none, false⟩,
 ⟨12, .mv (.t 14), none, false⟩,
 ⟨15, .xt (.t 12) 0, none, false⟩,
 ⟨16, .xt (.t 12) 1, none, false⟩,
 ⟨17, .xt (.t 12) 2, none, false⟩,
 ⟨5, .mv (.t 15), none, false⟩,
 ⟨6, .mv (.t 16), none, false⟩,
 ⟨7, .mv (.t 17), none, false⟩])
 (.seq
 (.reg false [⟨19, .mv (.t 5), none, false⟩,
 ⟨20, .ca (.k (.cl 49 [])) [(.t 19)], none, false⟩,
 ⟨18, .mv (.t 20), none, false⟩,
 ⟨21, .xt (.t 18) 0, none, false⟩,
 ⟨22, .xt (.t 18) 1, none, false⟩,
 ⟨8, .mv (.t 21), none, false⟩,
 ⟨9, .mv (.t 22), none, false⟩])
 (.seq
 (.reg false [⟨24, .mv (.t 6), none, false⟩,
 ⟨25, .ca (.k (.cl 49 [])) [(.t 24)], none, false⟩,
 ⟨23, .mv (.t 25), none, false⟩,
 ⟨26, .xt (.t 23) 0, none, false⟩,
 ⟨27, .xt (.t 23) 1, none, false⟩,
 ⟨10, .mv (.t 26), none, false⟩,
 ⟨11, .mv (.t 27), none, false⟩])
 (.seq
 (.reg false [⟨28, .mv (.t 8), none, false⟩,
 ⟨29, .mv (.t 10), none, false⟩,
 ⟨30, .mv (.t 7), none, false⟩,
 ⟨31, .mv (.t 30), none, false⟩,
 ⟨32, .mv (.t 9), (some (31, true)), false⟩,
 ⟨33, .pk (.t 31) (.t 32) (.k (.sc (.bool false))), none, false⟩,
 ⟨34, .mv (.t 33), none, false⟩,
 ⟨35, .mv (.t 11), (some (34, true)), false⟩,
 ⟨36, .pk (.t 34) (.t 35) (.k (.sc (.bool false))), none, false⟩,
 ⟨2, .mv (.t 28), none, false⟩,
 ⟨3, .mv (.t 29), none, false⟩,
 ⟨4, .mv (.t 36), none, false⟩])
 .ret)))))⟩
attribute [simp] i53
set_option maxRecDepth 1000000 in
theorem c53 : cFn Tryd.prog 53 [[]] = some i53 := by kernel_rfl
theorem e53 : enterOk Tryd.prog 53 = true := by kernel_rfl
def i54 : Ev.Fn := ⟨1, 32, [.cell 2 4 true, .tmp 3],
 (.seq
 (.reg false [⟨2, .al [(.sc (.int .i64 0)), (.sc (.int .i64 0)), (.sc (.int .i64 0)), (.sc (.int .i64 0))], none, false⟩,
 ⟨3, .mv (.k (.sc (.bool false))), none, false⟩])
 (.seq
 (.reg false [⟨7, .mv (.t 0), none, false⟩,
 ⟨8, .ca (.k (.cl 51 [])) [(.t 7)], none, false⟩,
 ⟨6, .mv (.t 8), none, false⟩,
 ⟨9, .xt (.t 6) 0, none, false⟩,
 ⟨10, .xt (.t 6) 1, none, false⟩,
 ⟨4, .mv (.t 9), none, false⟩,
 ⟨5, .mv (.t 10), none, false⟩])
 (.seq
 (.seq
 (.reg false [⟨11, .mv (.t 5), none, false⟩,
 ⟨12, .nt (.t 11), none, false⟩,
 ⟨13, .mv (.t 12), none, false⟩,
 ⟨14, .mv (.t 4), (some (13, false)), false⟩,
 ⟨15, .ln false (.t 14), (some (13, false)), false⟩,
 ⟨16, .ar .neq false (.t 15) (.k (.sc (.int .i64 4))), (some (13, false)), false⟩,
 ⟨17, .pk (.t 13) (.k (.sc (.bool true))) (.t 16), none, false⟩])
 (.ite (.t 17)
 (.seq
 (.reg false [⟨18, .bd [(.sc (.int .i64 0)), (.sc (.int .i64 0)), (.sc (.int .i64 0)), (.sc (.int .i64 0))] [], none, false⟩,
 ⟨1, .so 4 (.t 2) (.t 18), none, true⟩,
 ⟨3, .mv (.k (.sc (.bool false))), none, false⟩])
 .ret)
 .skip))
 (.seq
 (.reg true [⟨19, .mv (.t 4), none, false⟩,
 ⟨20, .ia 1 (.t 19) (.k (.sc (.int .i64 0))), none, false⟩,
 ⟨21, .ld 1 false (.t 20), none, false⟩,
 ⟨22, .mv (.t 4), none, false⟩,
 ⟨23, .ia 1 (.t 22) (.k (.sc (.int .i64 1))), none, false⟩,
 ⟨24, .ld 1 false (.t 23), none, false⟩,
 ⟨25, .mv (.t 4), none, false⟩,
 ⟨26, .ia 1 (.t 25) (.k (.sc (.int .i64 2))), none, false⟩,
 ⟨27, .ld 1 false (.t 26), none, false⟩,
 ⟨28, .mv (.t 4), none, false⟩,
 ⟨29, .ia 1 (.t 28) (.k (.sc (.int .i64 3))), none, false⟩,
 ⟨30, .ld 1 false (.t 29), none, false⟩,
 ⟨31, .bd [(.sc (.int .i64 0)), (.sc (.int .i64 0)), (.sc (.int .i64 0)), (.sc (.int .i64 0))] [(0, 1, (.t 21)), (1, 1, (.t 24)), (2, 1, (.t 27)), (3, 1, (.t 30))], none, false⟩,
 ⟨1, .so 4 (.t 2) (.t 31), none, true⟩,
 ⟨3, .mv (.k (.sc (.bool true))), none, false⟩])
 .ret))))⟩
attribute [simp] i54
set_option maxRecDepth 1000000 in
theorem c54 : cFn Tryd.prog 54 [[]] = some i54 := by kernel_rfl
theorem e54 : enterOk Tryd.prog 54 = true := by kernel_rfl
def w55_1 : IC :=
(.seq
 (.seq
 (.reg false [⟨6, .mv (.t 5), none, false⟩,
 ⟨7, .mv (.t 0), none, false⟩,
 ⟨8, .ln false (.t 7), none, false⟩,
 ⟨9, .ar .lss false (.t 6) (.t 8), none, false⟩])
 (.ite (.t 9)
 .skip
 (.exit 0)))
 (.seq
 (.block 1
 (.seq
 (.reg false [⟨12, .mv (.t 0), none, false⟩,
 ⟨13, .mv (.t 5), none, false⟩,
 ⟨14, .mv (.t 1), none, false⟩,
 ⟨15, .ia 4 (.t 12) (.t 13), none, false⟩,
 ⟨16, .fa 0 (.t 15), none, false⟩,
 ⟨1, .so 1 (.t 16) (.t 14), none, true⟩])
 (.seq
 (.reg false [⟨17, .mv (.t 1), none, false⟩,
 ⟨18, .ar .add false (.t 17) (.k (.sc (.int .i64 1))), none, false⟩,
 ⟨1, .mv (.t 18), none, false⟩])
 (.seq
 (.reg false [⟨19, .mv (.t 0), none, false⟩,
 ⟨20, .mv (.t 5), none, false⟩,
 ⟨21, .mv (.t 1), none, false⟩,
 ⟨22, .ia 4 (.t 19) (.t 20), none, false⟩,
 ⟨23, .fa 1 (.t 22), none, false⟩,
 ⟨1, .so 1 (.t 23) (.t 21), none, true⟩])
 (.seq
 (.reg false [⟨24, .mv (.t 1), none, false⟩,
 ⟨25, .ar .add false (.t 24) (.k (.sc (.int .i64 1))), none, false⟩,
 ⟨1, .mv (.t 25), none, false⟩])
 (.seq
 (.reg false [⟨26, .mv (.t 0), none, false⟩,
 ⟨27, .mv (.t 5), none, false⟩,
 ⟨28, .mv (.t 1), none, false⟩,
 ⟨29, .ia 4 (.t 26) (.t 27), none, false⟩,
 ⟨30, .fa 2 (.t 29), none, false⟩,
 ⟨1, .so 1 (.t 30) (.t 28), none, true⟩])
 (.seq
 (.reg false [⟨31, .mv (.t 1), none, false⟩,
 ⟨32, .ar .add false (.t 31) (.k (.sc (.int .i64 1))), none, false⟩,
 ⟨1, .mv (.t 32), none, false⟩])
 (.seq
 (.reg false [⟨33, .mv (.t 0), none, false⟩,
 ⟨34, .mv (.t 5), none, false⟩,
 ⟨35, .mv (.t 1), none, false⟩,
 ⟨36, .ia 4 (.t 33) (.t 34), none, false⟩,
 ⟨37, .fa 3 (.t 36), none, false⟩,
 ⟨1, .so 1 (.t 37) (.t 35), none, true⟩])
 (.reg false [⟨38, .mv (.t 1), none, false⟩,
 ⟨39, .ar .add false (.t 38) (.k (.sc (.int .i64 1))), none, false⟩,
 ⟨1, .mv (.t 39), none, false⟩])))))))))
 (.reg false [⟨10, .mv (.t 5), none, false⟩,
 ⟨11, .ar .add false (.t 10) (.k (.sc (.int .i64 1))), none, false⟩,
 ⟨5, .mv (.t 11), none, false⟩])))
def b55_1 : IC := w55_1
theorem u55_1 (call : CallF) (st : St) : evC call b55_1 st = evC call w55_1 st := rfl
attribute [simp] u55_1 w55_1
def i55 : Ev.Fn := ⟨2, 41, [.tmp 4],
 (.seq
 (.reg false [⟨4, .mv (.k (.sc (.int .i64 0))), none, false⟩])
 (.seq
 (.seq
 (.reg false [⟨5, .mv (.k (.sc (.int .i64 0))), none, false⟩])
 (.cln [1, 100000] [4, 100000]
 (.block 0
 (.loop [0, 1, 5, 100000] b55_1))))
 (.seq
 (.reg false [⟨40, .mv (.t 1), none, false⟩,
 ⟨4, .mv (.t 40), none, false⟩])
 .ret)))⟩
attribute [simp] i55
set_option maxRecDepth 1000000 in
theorem c55 : cFn Tryd.prog 55 [[], [0, 1, 5, 100000], [1, 100000], [4, 100000]] = some i55 := by kernel_rfl
theorem e55 : enterOk Tryd.prog 55 = true := by kernel_rfl
def w56_1 : IC :=
(.seq
 (.seq
 (.reg false [⟨6, .mv (.t 5), none, false⟩,
 ⟨7, .mv (.t 0), none, false⟩,
 ⟨8, .ln false (.t 7), none, false⟩,
 ⟨9, .ar .lss false (.t 6) (.t 8), none, false⟩])
 (.ite (.t 9)
 .skip
 (.exit 0)))
 (.seq
 (.block 1
 (.seq
 (.seq
 (.reg false [⟨12, .mv (.t 0), none, false⟩,
 ⟨13, .mv (.t 5), none, false⟩,
 ⟨14, .ia 4 (.t 12) (.t 13), none, false⟩,
 ⟨15, .fa 0 (.t 14), none, false⟩,
 ⟨16, .ld 1 false (.t 15), none, false⟩,
 ⟨17, .mv (.t 1), none, false⟩,
 ⟨18, .ar .neq false (.t 16) (.t 17), none, false⟩])
 (.ite (.t 18)
 (.seq
 (.reg false [⟨4, .mv (.k (.sc (.int .i64 (-1)))), none, false⟩])
 .ret)
 .skip))
 (.seq
 (.reg false [⟨19, .mv (.t 1), none, false⟩,
 ⟨20, .ar .add false (.t 19) (.k (.sc (.int .i64 1))), none, false⟩,
 ⟨1, .mv (.t 20), none, false⟩])
 (.seq
 (.seq
 (.reg false [⟨21, .mv (.t 0), none, false⟩,
 ⟨22, .mv (.t 5), none, false⟩,
 ⟨23, .ia 4 (.t 21) (.t 22), none, false⟩,
 ⟨24, .fa 1 (.t 23), none, false⟩,
 ⟨25, .ld 1 false (.t 24), none, false⟩,
 ⟨26, .mv (.t 1), none, false⟩,
 ⟨27, .ar .neq false (.t 25) (.t 26), none, false⟩])
 (.ite (.t 27)
 (.seq
 (.reg false [⟨4, .mv (.k (.sc (.int .i64 (-1)))), none, false⟩])
 .ret)
 .skip))
 (.seq
 (.reg false [⟨28, .mv (.t 1), none, false⟩,
 ⟨29, .ar .add false (.t 28) (.k (.sc (.int .i64 1))), none, false⟩,
 ⟨1, .mv (.t 29), none, false⟩])
 (.seq
 (.seq
 (.reg false [⟨30, .mv (.t 0), none, false⟩,
 ⟨31, .mv (.t 5), none, false⟩,
 ⟨32, .ia 4 (.t 30) (.t 31), none, false⟩,
 ⟨33, .fa 2 (.t 32), none, false⟩,
 ⟨34, .ld 1 false (.t 33), none, false⟩,
 ⟨35, .mv (.t 1), none, false⟩,
 ⟨36, .ar .neq false (.t 34) (.t 35), none, false⟩])
 (.ite (.t 36)
 (.seq
 (.reg false [⟨4, .mv (.k (.sc (.int .i64 (-1)))), none, false⟩])
 .ret)
 .skip))
 (.seq
 (.reg false [⟨37, .mv (.t 1), none, false⟩,
 ⟨38, .ar .add false (.t 37) (.k (.sc (.int .i64 1))), none, false⟩,
 ⟨1, .mv (.t 38), none, false⟩])
 (.seq
 (.seq
 (.reg false [⟨39, .mv (.t 0), none, false⟩,
 ⟨40, .mv (.t 5), none, false⟩,
 ⟨41, .ia 4 (.t 39) (.t 40), none, false⟩,
 ⟨42, .fa 3 (.t 41), none, false⟩,
 ⟨43, .ld 1 false (.t 42), none, false⟩,
 ⟨44, .mv (.t 1), none, false⟩,
 ⟨45, .ar .neq false (.t 43) (.t 44), none, false⟩])
 (.ite (.t 45)
 (.seq
 (.reg false [⟨4, .mv (.k (.sc (.int .i64 (-1)))), none, false⟩])
 .ret)
 .skip))
 (.reg false [⟨46, .mv (.t 1), none, false⟩,
 ⟨47, .ar .add false (.t 46) (.k (.sc (.int .i64 1))), none, false⟩,
 ⟨1, .mv (.t 47), none, false⟩])))))))))
 (.reg false [⟨10, .mv (.t 5), none, false⟩,
 ⟨11, .ar .add false (.t 10) (.k (.sc (.int .i64 1))), none, false⟩,
 ⟨5, .mv (.t 11), none, false⟩])))
def b56_1 : IC := w56_1
theorem u56_1 (call : CallF) (st : St) : evC call b56_1 st = evC call w56_1 st := rfl
attribute [simp] u56_1 w56_1
def i56 : Ev.Fn := ⟨2, 49, [.tmp 4],
 (.seq
 (.reg false [⟨4, .mv (.k (.sc (.int .i64 0))), none, false⟩])
 (.seq
 (.seq
 (.reg false [⟨5, .mv (.k (.sc (.int .i64 0))), none, false⟩])
 (.cln [1] [4]
 (.block 0
 (.loop [0, 1, 5] b56_1))))
 (.seq
 (.reg false [⟨48, .mv (.t 1), none, false⟩,
 ⟨4, .mv (.t 48), none, false⟩])
 .ret)))⟩
attribute [simp] i56
set_option maxRecDepth 1000000 in
theorem c56 : cFn Tryd.prog 56 [[], [0, 1, 5], [1], [4]] = some i56 := by kernel_rfl
theorem e56 : enterOk Tryd.prog 56 = true := by kernel_rfl
def w57_1 : IC :=
(.seq
 (.seq
 (.reg false [⟨6, .mv (.t 4), none, false⟩,
 ⟨7, .mv (.t 3), none, false⟩,
 ⟨8, .ln false (.t 7), none, false⟩,
 ⟨9, .ar .lss false (.t 6) (.t 8), none, false⟩])
 (.ite (.t 9)
 .skip
 (.exit 0)))
 (.seq
 (.block 1
 (.seq
 (.reg false [⟨12, .mv (.t 3), none, false⟩,
 ⟨13, .mv (.t 4), none, false⟩,
 ⟨14, .ia 1 (.t 12) (.t 13), none, false⟩,
 ⟨15, .ld 1 false (.t 14), none, false⟩,
 ⟨16, .mv (.t 0), none, false⟩,
 ⟨17, .ar .eql false (.t 15) (.t 16), none, false⟩])
 (.ite (.t 17)
 (.seq
 (.reg false [⟨18, .mv (.t 4), none, false⟩,
 ⟨2, .mv (.t 18), none, false⟩])
 .ret)
 .skip)))
 (.reg false [⟨10, .mv (.t 4), none, false⟩,
 ⟨11, .ar .add false (.t 10) (.k (.sc (.int .i64 1))), none, false⟩,
 ⟨4, .mv (.t 11), none, false⟩])))
def b57_1 : IC := w57_1
theorem u57_1 (call : CallF) (st : St) : evC call b57_1 st = evC call w57_1 st := rfl
attribute [simp] u57_1 w57_1
def i57 : Ev.Fn := ⟨1, 19, [.tmp 2],
 (.seq
 (.reg false [⟨2, .mv (.k (.sc (.int .i64 0))), none, false⟩])
 (.seq
 (.reg false [⟨5, .ca (.k (.cl 84 [])) [], none, false⟩,
 ⟨3, .mv (.t 5), none, false⟩])
 (.seq
 (.seq
 (.reg false [⟨4, .mv (.k (.sc (.int .i64 0))), none, false⟩])
 (.cln [] [2]
 (.block 0
 (.loop [0, 3, 4] b57_1))))
 (.seq
 (.reg false [⟨2, .mv (.k (.sc (.int .i64 (-1)))), none, false⟩])
 .ret))))⟩
attribute [simp] i57
set_option maxRecDepth 1000000 in
theorem c57 : cFn Tryd.prog 57 [[], [0, 3, 4], [], [2]] = some i57 := by kernel_rfl
theorem e57 : enterOk Tryd.prog 57 = true := by kernel_rfl
def i58 : Ev.Fn := ⟨3, 15, [.tmp 6],
 (.seq
 (.reg false [⟨6, .mv (.k (.sc (.bool false))), none, false⟩])
 (.seq
 (.reg false [⟨7, .mv (.t 0), none, false⟩,
 ⟨8, .mv (.t 1), none, false⟩,
 ⟨9, .ar .geq false (.t 7) (.t 8), none, false⟩,
 ⟨10, .mv (.t 9), none, false⟩,
 ⟨11, .mv (.t 0), (some (10, true)), false⟩,
 ⟨12, .mv (.t 2), (some (10, true)), false⟩,
 ⟨13, .ar .leq false (.t 11) (.t 12), (some (10, true)), false⟩,
 ⟨14, .pk (.t 10) (.t 13) (.k (.sc (.bool false))), none, false⟩,
 ⟨6, .mv (.t 14), none, false⟩])
 .ret))⟩
attribute [simp] i58
set_option maxRecDepth 1000000 in
theorem c58 : cFn Tryd.prog 58 [[]] = some i58 := by kernel_rfl
theorem e58 : enterOk Tryd.prog 58 = true := by kernel_rfl
def i59 : Ev.Fn := ⟨0, 12, [.tmp 0],
 (.seq
 (.reg false [⟨0, .mv (.k .nl), none, false⟩])
 (.seq
 (.reg false [⟨1, .bs 2 1 [(.sc (.int .i64 0))] 3 [(0, (.k (.sc (.int .i64 20)))), (1, (.k (.sc (.int .i64 40)))), (2, (.k (.sc (.int .i64 310))))], none, false⟩,
 ⟨2, .bs 2 1 [(.sc (.int .i64 0))] 3 [(0, (.k (.sc (.int .i64 35)))), (1, (.k (.sc (.int .i64 45)))), (2, (.k (.sc (.int .i64 410))))], none, false⟩,
 ⟨3, .bs 2 1 [(.sc (.int .i64 0))] 3 [(0, (.k (.sc (.int .i64 15)))), (1, (.k (.sc (.int .i64 33)))), (2, (.k (.sc (.int .i64 280))))], none, false⟩,
 ⟨4, .bs 2 1 [(.sc (.int .i64 0))] 3 [(0, (.k (.sc (.int .i64 50)))), (1, (.k (.sc (.int .i64 36)))), (2, (.k (.sc (.int .i64 240))))], none, false⟩,
 ⟨5, .bs 2 1 [(.sc (.int .i64 0))] 3 [(0, (.k (.sc (.int .i64 95)))), (1, (.k (.sc (.int .i64 85)))), (2, (.k (.sc (.int .i64 270))))], none, false⟩,
 ⟨6, .bs 2 1 [(.sc (.int .i64 0))] 3 [(0, (.k (.sc (.int .i64 5)))), (1, (.k (.sc (.int .i64 35)))), (2, (.k (.sc (.int .i64 370))))], none, false⟩,
 ⟨7, .bs 2 1 [(.sc (.int .i64 0))] 3 [(0, (.k (.sc (.int .i64 10)))), (1, (.k (.sc (.int .i64 42)))), (2, (.k (.sc (.int .i64 290))))], none, false⟩,
 ⟨8, .bs 2 1 [(.sc (.int .i64 0))] 3 [(0, (.k (.sc (.int .i64 40)))), (1, (.k (.sc (.int .i64 40)))), (2, (.k (.sc (.int .i64 330))))], none, false⟩,
 ⟨9, .bs 2 1 [(.sc (.int .i64 0))] 3 [(0, (.k (.sc (.int .i64 80)))), (1, (.k (.sc (.int .i64 60)))), (2, (.k (.sc (.int .i64 220))))], none, false⟩,
 ⟨10, .bs 2 1 [(.sc (.int .i64 0))] 3 [(0, (.k (.sc (.int .i64 70)))), (1, (.k (.sc (.int .i64 38)))), (2, (.k (.sc (.int .i64 260))))], none, false⟩,
 ⟨11, .bw 66 1 [.nl] 10 [(0, (.t 1)), (1, (.t 2)), (2, (.t 3)), (3, (.t 4)), (4, (.t 5)), (5, (.t 6)), (6, (.t 7)), (7, (.t 8)), (8, (.t 9)), (9, (.t 10))], none, false⟩,
 ⟨0, .mv (.t 11), none, false⟩])
 .ret))⟩
attribute [simp] i59
set_option maxRecDepth 1000000 in
theorem c59 : cFn Tryd.prog 59 [[]] = some i59 := by kernel_rfl
theorem e59 : enterOk Tryd.prog 59 = true := by kernel_rfl
def i60 : Ev.Fn := ⟨1, 5, [.tmp 2],
 (.seq
 (.reg false [⟨2, .mv (.k (.sc (.bool false))), none, false⟩])
 (.seq
 (.reg false [⟨3, .mv (.t 0), none, false⟩,
 ⟨4, .ca (.k (.cl 58 [])) [(.t 3), (.k (.sc (.int .i64 0))), (.k (.sc (.int .i64 179)))], none, false⟩,
 ⟨2, .mv (.t 4), none, false⟩])
 .ret))⟩
attribute [simp] i60
set_option maxRecDepth 1000000 in
theorem c60 : cFn Tryd.prog 60 [[]] = some i60 := by kernel_rfl
theorem e60 : enterOk Tryd.prog 60 = true := by kernel_rfl
def i62 : Ev.Fn := ⟨1, 18, [.tmp 2, .tmp 3],
 (.seq
 (.reg false [⟨2, .mv (.k (.sc (.int .i64 0))), none, false⟩,
 ⟨3, .mv (.k (.sc (.bool false))), none, false⟩])
 (.seq
 (.reg false [⟨9, .mv (.t 0), none, false⟩,
 ⟨10, .ca (.k (.cl 85 [])) [(.t 9)], none, false⟩,
 ⟨8, .mv (.t 10), none, false⟩,
 ⟨11, .xt (.t 8) 0, none, false⟩,
 ⟨12, .xt (.t 8) 1, none, false⟩,
 ⟨13, .xt (.t 8) 2, none, false⟩,
 ⟨14, .xt (.t 8) 3, none, false⟩,
 ⟨4, .mv (.t 11), none, false⟩,
 ⟨5, .mv (.t 12), none, false⟩,
 ⟨6, .mv (.t 13), none, false⟩,
 ⟨7, .mv (.t 14), none, false⟩])
 (.seq
 (.reg false [⟨15, .mv (.t 4), none, false⟩,
 ⟨16, .mv (.t 7), none, false⟩,
 ⟨17, .ar .eql false (.t 16) (.k (.sc (.int .i64 0))), none, false⟩,
 ⟨2, .mv (.t 15), none, false⟩,
 ⟨3, .mv (.t 17), none, false⟩])
 .ret)))⟩
attribute [simp] i62
set_option maxRecDepth 1000000 in
theorem c62 : cFn Tryd.prog 62 [[]] = some i62 := by kernel_rfl
theorem e62 : enterOk Tryd.prog 62 = true := by kernel_rfl
def i63 : Ev.Fn := ⟨3, 15, [.tmp 6],
 (.seq
 (.reg false [⟨6, .mv (.k (.sc (.bool false))), none, false⟩])
 (.seq
 (.reg false [⟨7, .mv (.t 0), none, false⟩,
 ⟨8, .mv (.t 1), none, false⟩,
 ⟨9, .ar .geq false (.t 7) (.t 8), none, false⟩,
 ⟨10, .mv (.t 9), none, false⟩,
 ⟨11, .mv (.t 0), (some (10, true)), false⟩,
 ⟨12, .mv (.t 2), (some (10, true)), false⟩,
 ⟨13, .ar .leq false (.t 11) (.t 12), (some (10, true)), false⟩,
 ⟨14, .pk (.t 10) (.t 13) (.k (.sc (.bool false))), none, false⟩,
 ⟨6, .mv (.t 14), none, false⟩])
 .ret))⟩
attribute [simp] i63
set_option maxRecDepth 1000000 in
theorem c63 : cFn Tryd.prog 63 [[]] = some i63 := by kernel_rfl
theorem e63 : enterOk Tryd.prog 63 = true := by kernel_rfl
def w67_1 : IC :=
(.seq
 (.seq
 (.reg false [⟨17, .mv (.t 3), none, false⟩,
 ⟨18, .mv (.t 0), none, false⟩,
 ⟨19, .ln true (.t 18), none, false⟩,
 ⟨20, .ar .lss false (.t 17) (.t 19), none, false⟩])
 (.ite (.t 20)
 .skip
 (.exit 0)))
 (.seq
 (.block 1
 (.seq
 (.reg false [⟨23, .mv (.t 0), none, false⟩,
 ⟨24, .mv (.t 3), none, false⟩,
 ⟨25, .ix (.t 23) (.t 24), none, false⟩,
 ⟨26, .ca (.k (.cl 87 [])) [(.t 25)], none, false⟩,
 ⟨27, .nt (.t 26), none, false⟩,
 ⟨28, .mv (.t 27), none, false⟩,
 ⟨29, .mv (.t 0), (some (28, true)), false⟩,
 ⟨30, .mv (.t 3), (some (28, true)), false⟩,
 ⟨31, .ix (.t 29) (.t 30), (some (28, true)), false⟩,
 ⟨32, .ca (.k (.cl 88 [])) [(.t 31)], (some (28, true)), false⟩,
 ⟨33, .nt (.t 32), (some (28, true)), false⟩,
 ⟨34, .pk (.t 28) (.t 33) (.k (.sc (.bool false))), none, false⟩])
 (.ite (.t 34)
 (.seq
 (.reg false [⟨2, .mv (.k (.sc (.bool false))), none, false⟩])
 .ret)
 .skip)))
 (.reg false [⟨21, .mv (.t 3), none, false⟩,
 ⟨22, .ar .add false (.t 21) (.k (.sc (.int .i64 1))), none, false⟩,
 ⟨3, .mv (.t 22), none, false⟩])))
def b67_1 : IC := w67_1
theorem u67_1 (call : CallF) (st : St) : evC call b67_1 st = evC call w67_1 st := rfl
attribute [simp] u67_1 w67_1
def i67 : Ev.Fn := ⟨1, 35, [.tmp 2],
 (.seq
 (.reg false [⟨2, .mv (.k (.sc (.bool false))), none, false⟩])
 (.seq
 (.seq
 (.reg false [⟨4, .mv (.t 0), none, false⟩,
 ⟨5, .ar .eql false (.t 4) (.k (.sc (.string ⟨#[]⟩))), none, false⟩,
 ⟨6, .mv (.t 5), none, false⟩,
 ⟨7, .mv (.t 0), (some (6, false)), false⟩,
 ⟨8, .ln true (.t 7), (some (6, false)), false⟩,
 ⟨9, .ar .gtr false (.t 8) (.k (.sc (.int .i64 10))), (some (6, false)), false⟩,
 ⟨10, .pk (.t 6) (.k (.sc (.bool true))) (.t 9), none, false⟩,
 ⟨11, .mv (.t 10), none, false⟩,
 ⟨12, .mv (.t 0), (some (11, false)), false⟩,
 ⟨13, .ix (.t 12) (.k (.sc (.int .i64 0))), (some (11, false)), false⟩,
 ⟨14, .ca (.k (.cl 87 [])) [(.t 13)], (some (11, false)), false⟩,
 ⟨15, .nt (.t 14), (some (11, false)), false⟩,
 ⟨16, .pk (.t 11) (.k (.sc (.bool true))) (.t 15), none, false⟩])
 (.ite (.t 16)
 (.seq
 (.reg false [⟨2, .mv (.k (.sc (.bool false))), none, false⟩])
 .ret)
 .skip))
 (.seq
 (.seq
 (.reg false [⟨3, .mv (.k (.sc (.int .i64 0))), none, false⟩])
 (.cln [] [2]
 (.block 0
 (.loop [0, 3] b67_1))))
 (.seq
 (.reg false [⟨2, .mv (.k (.sc (.bool true))), none, false⟩])
 .ret))))⟩
attribute [simp] i67
set_option maxRecDepth 1000000 in
theorem c67 : cFn Tryd.prog 67 [[], [0, 3], [], [2]] = some i67 := by kernel_rfl
theorem e67 : enterOk Tryd.prog 67 = true := by kernel_rfl
def i68 : Ev.Fn := ⟨3, 47, [.tmp 6],
 (.seq
 (.reg false [⟨6, .mv (.k (.sc (.bool false))), none, false⟩])
 (.seq
 (.reg true [⟨7, .mv (.t 0), none, false⟩,
 ⟨8, .nc (.t 7), none, false⟩,
 ⟨9, .fa 0 (.t 8), none, false⟩,
 ⟨10, .ld 1 false (.t 9), none, false⟩,
 ⟨11, .mv (.t 1), none, false⟩,
 ⟨12, .ca (.k (.cl 58 [])) [(.t 10), (.k (.sc (.int .i64 0))), (.t 11)], none, false⟩,
 ⟨13, .mv (.t 12), none, false⟩,
 ⟨14, .mv (.t 0), (some (13, true)), false⟩,
 ⟨15, .nc (.t 14), (some (13, true)), false⟩,
 ⟨16, .fa 1 (.t 15), (some (13, true)), false⟩,
 ⟨17, .ld 1 false (.t 16), (some (13, true)), false⟩,
 ⟨18, .mv (.t 2), (some (13, true)), false⟩,
 ⟨19, .ca (.k (.cl 58 [])) [(.t 17), (.k (.sc (.int .i64 0))), (.t 18)], (some (13, true)), false⟩,
 ⟨20, .pk (.t 13) (.t 19) (.k (.sc (.bool false))), none, false⟩,
 ⟨21, .mv (.t 20), none, false⟩,
 ⟨22, .mv (.t 0), (some (21, true)), false⟩,
 ⟨23, .nc (.t 22), (some (21, true)), false⟩,
 ⟨24, .fa 2 (.t 23), (some (21, true)), false⟩,
 ⟨25, .ld 1 false (.t 24), (some (21, true)), false⟩,
 ⟨26, .mv (.t 1), (some (21, true)), false⟩,
 ⟨27, .mv (.t 0), (some (21, true)), false⟩,
 ⟨28, .nc (.t 27), (some (21, true)), false⟩,
 ⟨29, .fa 0 (.t 28), (some (21, true)), false⟩,
 ⟨30, .ld 1 false (.t 29), (some (21, true)), false⟩,
 ⟨31, .ar .sub false (.t 26) (.t 30), (some (21, true)), false⟩,
 ⟨32, .ca (.k (.cl 58 [])) [(.t 25), (.k (.sc (.int .i64 1))), (.t 31)], (some (21, true)), false⟩,
 ⟨33, .pk (.t 21) (.t 32) (.k (.sc (.bool false))), none, false⟩,
 ⟨34, .mv (.t 33), none, false⟩,
 ⟨35, .mv (.t 0), (some (34, true)), false⟩,
 ⟨36, .nc (.t 35), (some (34, true)), false⟩,
 ⟨37, .fa 3 (.t 36), (some (34, true)), false⟩,
 ⟨38, .ld 1 false (.t 37), (some (34, true)), false⟩,
 ⟨39, .mv (.t 2), (some (34, true)), false⟩,
 ⟨40, .mv (.t 0), (some (34, true)), false⟩,
 ⟨41, .nc (.t 40), (some (34, true)), false⟩,
 ⟨42, .fa 1 (.t 41), (some (34, true)), false⟩,
 ⟨43, .ld 1 false (.t 42), (some (34, true)), false⟩,
 ⟨44, .ar .sub false (.t 39) (.t 43), (some (34, true)), false⟩,
 ⟨45, .ca (.k (.cl 58 [])) [(.t 38), (.k (.sc (.int .i64 1))), (.t 44)], (some (34, true)), false⟩,
 ⟨46, .pk (.t 34) (.t 45) (.k (.sc (.bool false))), none, false⟩,
 ⟨6, .mv (.t 46), none, false⟩])
 .ret))⟩
attribute [simp] i68
set_option maxRecDepth 1000000 in
theorem c68 : cFn Tryd.prog 68 [[]] = some i68 := by kernel_rfl
theorem e68 : enterOk Tryd.prog 68 = true := by kernel_rfl
def w70_1 : IC :=
(.seq
 (.seq
 (.reg false [⟨22, .mv (.t 3), none, false⟩,
 ⟨23, .mv (.t 0), none, false⟩,
 ⟨24, .ln true (.t 23), none, false⟩,
 ⟨25, .ar .lss false (.t 22) (.t 24), none, false⟩])
 (.ite (.t 25)
 .skip
 (.exit 0)))
 (.seq
 (.block 1
 (.seq
 (.reg false [⟨28, .mv (.t 0), none, false⟩,
 ⟨29, .mv (.t 3), none, false⟩,
 ⟨30, .ix (.t 28) (.t 29), none, false⟩,
 ⟨31, .ar .lss false (.t 30) (.k (.sc (.int .u8 97))), none, false⟩,
 ⟨32, .mv (.t 31), none, false⟩,
 ⟨33, .mv (.t 0), (some (32, false)), false⟩,
 ⟨34, .mv (.t 3), (some (32, false)), false⟩,
 ⟨35, .ix (.t 33) (.t 34), (some (32, false)), false⟩,
 ⟨36, .ar .gtr false (.t 35) (.k (.sc (.int .u8 122))), (some (32, false)), false⟩,
 ⟨37, .pk (.t 32) (.k (.sc (.bool true))) (.t 36), none, false⟩,
 ⟨38, .mv (.t 37), none, false⟩,
 ⟨39, .mv (.t 0), (some (38, true)), false⟩,
 ⟨40, .mv (.t 3), (some (38, true)), false⟩,
 ⟨41, .ix (.t 39) (.t 40), (some (38, true)), false⟩,
 ⟨42, .ar .lss false (.t 41) (.k (.sc (.int .u8 48))), (some (38, true)), false⟩,
 ⟨43, .mv (.t 42), (some (38, true)), false⟩,
 ⟨44, .mv (.t 0), (some (43, false)), false⟩,
 ⟨45, .mv (.t 3), (some (43, false)), false⟩,
 ⟨46, .ix (.t 44) (.t 45), (some (43, false)), false⟩,
 ⟨47, .ar .gtr false (.t 46) (.k (.sc (.int .u8 57))), (some (43, false)), false⟩,
 ⟨48, .pk (.t 43) (.k (.sc (.bool true))) (.t 47), (some (38, true)), false⟩,
 ⟨49, .pk (.t 38) (.t 48) (.k (.sc (.bool false))), none, false⟩])
 (.ite (.t 49)
 (.seq
 (.reg false [⟨2, .mv (.k (.sc (.bool false))), none, false⟩])
 .ret)
 .skip)))
 (.reg false [⟨26, .mv (.t 3), none, false⟩,
 ⟨27, .ar .add false (.t 26) (.k (.sc (.int .i64 1))), none, false⟩,
 ⟨3, .mv (.t 27), none, false⟩])))
def b70_1 : IC := w70_1
theorem u70_1 (call : CallF) (st : St) : evC call b70_1 st = evC call w70_1 st := rfl
attribute [simp] u70_1 w70_1
def i70 : Ev.Fn := ⟨1, 50, [.tmp 2],
 (.seq
 (.reg false [⟨2, .mv (.k (.sc (.bool false))), none, false⟩])
 (.seq
 (.seq
 (.reg false [⟨4, .mv (.t 0), none, false⟩,
 ⟨5, .ln true (.t 4), none, false⟩,
 ⟨6, .ar .lss false (.t 5) (.k (.sc (.int .i64 1))), none, false⟩,
 ⟨7, .mv (.t 6), none, false⟩,
 ⟨8, .mv (.t 0), (some (7, false)), false⟩,
 ⟨9, .ln true (.t 8), (some (7, false)), false⟩,
 ⟨10, .ar .gtr false (.t 9) (.k (.sc (.int .i64 10))), (some (7, false)), false⟩,
 ⟨11, .pk (.t 7) (.k (.sc (.bool true))) (.t 10), none, false⟩,
 ⟨12, .mv (.t 11), none, false⟩,
 ⟨13, .mv (.t 0), (some (12, false)), false⟩,
 ⟨14, .ix (.t 13) (.k (.sc (.int .i64 0))), (some (12, false)), false⟩,
 ⟨15, .ar .lss false (.t 14) (.k (.sc (.int .u8 97))), (some (12, false)), false⟩,
 ⟨16, .pk (.t 12) (.k (.sc (.bool true))) (.t 15), none, false⟩,
 ⟨17, .mv (.t 16), none, false⟩,
 ⟨18, .mv (.t 0), (some (17, false)), false⟩,
 ⟨19, .ix (.t 18) (.k (.sc (.int .i64 0))), (some (17, false)), false⟩,
 ⟨20, .ar .gtr false (.t 19) (.k (.sc (.int .u8 122))), (some (17, false)), false⟩,
 ⟨21, .pk (.t 17) (.k (.sc (.bool true))) (.t 20), none, false⟩])
 (.ite (.t 21)
 (.seq
 (.reg false [⟨2, .mv (.k (.sc (.bool false))), none, false⟩])
 .ret)
 .skip))
 (.seq
 (.seq
 (.reg false [⟨3, .mv (.k (.sc (.int .i64 0))), none, false⟩])
 (.cln [] [2]
 (.block 0
 (.loop [0, 3] b70_1))))
 (.seq
 (.reg false [⟨2, .mv (.k (.sc (.bool true))), none, false⟩])
 .ret))))⟩
attribute [simp] i70
set_option maxRecDepth 1000000 in
theorem c70 : cFn Tryd.prog 70 [[], [0, 3], [], [2]] = some i70 := by kernel_rfl
theorem e70 : enterOk Tryd.prog 70 = true := by kernel_rfl
def i71 : Ev.Fn := ⟨2, 9, [.tmp 4],
 (.seq
 (.reg false [⟨4, .mv (.k (.sc (.bool false))), none, false⟩])
 (.seq
 (.reg false [⟨5, .mv (.t 0), none, false⟩,
 ⟨6, .mv (.t 1), none, false⟩,
 ⟨7, .ca (.k (.cl 89 [])) [(.t 5), (.t 6)], none, false⟩,
 ⟨8, .ar .geq false (.t 7) (.k (.sc (.int .i64 0))), none, false⟩,
 ⟨4, .mv (.t 8), none, false⟩])
 .ret))⟩
attribute [simp] i71
set_option maxRecDepth 1000000 in
theorem c71 : cFn Tryd.prog 71 [[]] = some i71 := by kernel_rfl
theorem e71 : enterOk Tryd.prog 71 = true := by kernel_rfl
def i72 : Ev.Fn := ⟨2, 11, [.tmp 3],
 (.seq
 (.reg false [⟨2, .bx (.t 0), none, false⟩,
 ⟨3, .mv (.k (.sc (.bool false))), none, false⟩])
 (.seq
 (.reg false [⟨4, .ld 4 true (.t 2), none, false⟩,
 ⟨5, .fa 6 (.t 1), none, false⟩,
 ⟨6, .ld 1 false (.t 5), none, false⟩,
 ⟨7, .fa 7 (.t 1), none, false⟩,
 ⟨8, .ld 1 false (.t 7), none, false⟩,
 ⟨9, .ca (.k (.cl 73 [])) [(.t 4), (.t 6), (.t 8)], none, false⟩,
 ⟨10, .nt (.t 9), none, false⟩,
 ⟨3, .mv (.t 10), none, false⟩])
 .ret))⟩
attribute [simp] i72
set_option maxRecDepth 1000000 in
theorem c72 : cFn Tryd.prog 72 [[]] = some i72 := by kernel_rfl
theorem e72 : enterOk Tryd.prog 72 = true := by kernel_rfl
def i73 : Ev.Fn := ⟨3, 35, [.tmp 6],
 (.seq
 (.reg false [⟨3, .bx (.t 0), none, false⟩,
 ⟨6, .mv (.k (.sc (.bool false))), none, false⟩])
 (.seq
 (.reg false [⟨7, .fa 0 (.t 3), none, false⟩,
 ⟨8, .ld 1 false (.t 7), none, false⟩,
 ⟨9, .mv (.t 1), none, false⟩,
 ⟨10, .ca (.k (.cl 63 [])) [(.t 8), (.k (.sc (.int .i64 0))), (.t 9)], none, false⟩,
 ⟨11, .mv (.t 10), none, false⟩,
 ⟨12, .fa 1 (.t 3), (some (11, true)), false⟩,
 ⟨13, .ld 1 false (.t 12), (some (11, true)), false⟩,
 ⟨14, .mv (.t 2), (some (11, true)), false⟩,
 ⟨15, .ca (.k (.cl 63 [])) [(.t 13), (.k (.sc (.int .i64 0))), (.t 14)], (some (11, true)), false⟩,
 ⟨16, .pk (.t 11) (.t 15) (.k (.sc (.bool false))), none, false⟩,
 ⟨17, .mv (.t 16), none, false⟩,
 ⟨18, .fa 2 (.t 3), (some (17, true)), false⟩,
 ⟨19, .ld 1 false (.t 18), (some (17, true)), false⟩,
 ⟨20, .mv (.t 1), (some (17, true)), false⟩,
 ⟨21, .fa 0 (.t 3), (some (17, true)), false⟩,
 ⟨22, .ld 1 false (.t 21), (some (17, true)), false⟩,
 ⟨23, .ar .sub false (.t 20) (.t 22), (some (17, true)), false⟩,
 ⟨24, .ca (.k (.cl 63 [])) [(.t 19), (.k (.sc (.int .i64 1))), (.t 23)], (some (17, true)), false⟩,
 ⟨25, .pk (.t 17) (.t 24) (.k (.sc (.bool false))), none, false⟩,
 ⟨26, .mv (.t 25), none, false⟩,
 ⟨27, .fa 3 (.t 3), (some (26, true)), false⟩,
 ⟨28, .ld 1 false (.t 27), (some (26, true)), false⟩,
 ⟨29, .mv (.t 2), (some (26, true)), false⟩,
 ⟨30, .fa 1 (.t 3), (some (26, true)), false⟩,
 ⟨31, .ld 1 false (.t 30), (some (26, true)), false⟩,
 ⟨32, .ar .sub false (.t 29) (.t 31), (some (26, true)), false⟩,
 ⟨33, .ca (.k (.cl 63 [])) [(.t 28), (.k (.sc (.int .i64 1))), (.t 32)], (some (26, true)), false⟩,
 ⟨34, .pk (.t 26) (.t 33) (.k (.sc (.bool false))), none, false⟩,
 ⟨6, .mv (.t 34), none, false⟩])
 .ret))⟩
attribute [simp] i73
set_option maxRecDepth 1000000 in
theorem c73 : cFn Tryd.prog 73 [[]] = some i73 := by kernel_rfl
theorem e73 : enterOk Tryd.prog 73 = true := by kernel_rfl
def i77 : Ev.Fn := ⟨2, 25, [.tmp 4],
 (.seq
 (.reg false [⟨2, .bx (.t 0), none, false⟩,
 ⟨3, .bx (.t 1), none, false⟩,
 ⟨4, .mv (.k (.sc (.bool false))), none, false⟩])
 (.seq
 (.seq
 (.reg false [⟨5, .fa 0 (.t 2), none, false⟩,
 ⟨6, .ld 1 false (.t 5), none, false⟩,
 ⟨7, .fa 0 (.t 3), none, false⟩,
 ⟨8, .ld 1 false (.t 7), none, false⟩,
 ⟨9, .ar .neq false (.t 6) (.t 8), none, false⟩])
 (.ite (.t 9)
 (.seq
 (.reg false [⟨4, .mv (.k (.sc (.bool false))), none, false⟩])
 .ret)
 .skip))
 (.seq
 (.seq
 (.reg false [⟨10, .fa 1 (.t 2), none, false⟩,
 ⟨11, .ld 1 false (.t 10), none, false⟩,
 ⟨12, .fa 1 (.t 3), none, false⟩,
 ⟨13, .ld 1 false (.t 12), none, false⟩,
 ⟨14, .ar .neq false (.t 11) (.t 13), none, false⟩])
 (.ite (.t 14)
 (.seq
 (.reg false [⟨4, .mv (.k (.sc (.bool false))), none, false⟩])
 .ret)
 .skip))
 (.seq
 (.seq
 (.reg false [⟨15, .fa 2 (.t 2), none, false⟩,
 ⟨16, .ld 1 false (.t 15), none, false⟩,
 ⟨17, .fa 2 (.t 3), none, false⟩,
 ⟨18, .ld 1 false (.t 17), none, false⟩,
 ⟨19, .ar .neq false (.t 16) (.t 18), none, false⟩])
 (.ite (.t 19)
 (.seq
 (.reg false [⟨4, .mv (.k (.sc (.bool false))), none, false⟩])
 .ret)
 .skip))
 (.seq
 (.seq
 (.reg false [⟨20, .fa 3 (.t 2), none, false⟩,
 ⟨21, .ld 1 false (.t 20), none, false⟩,
 ⟨22, .fa 3 (.t 3), none, false⟩,
 ⟨23, .ld 1 false (.t 22), none, false⟩,
 ⟨24, .ar .neq false (.t 21) (.t 23), none, false⟩])
 (.ite (.t 24)
 (.seq
 (.reg false [⟨4, .mv (.k (.sc (.bool false))), none, false⟩])
 .ret)
 .skip))
 (.seq
 (.reg false [⟨4, .mv (.k (.sc (.bool true))), none, false⟩])
 .ret))))))⟩
attribute [simp] i77
set_option maxRecDepth 1000000 in
theorem c77 : cFn Tryd.prog 77 [[]] = some i77 := by kernel_rfl
theorem e77 : enterOk Tryd.prog 77 = true := by kernel_rfl
def w78_1 : IC :=
(.seq
 (.seq
 (.reg false [⟨9, .mv (.t 7), none, false⟩,
 ⟨10, .mv (.t 0), none, false⟩,
 ⟨11, .ln true (.t 10), none, false⟩,
 ⟨12, .ar .lss false (.t 9) (.t 11), none, false⟩])
 (.ite (.t 12)
 .skip
 (.exit 0)))
 (.seq
 (.block 1
 (.seq
 (.reg false [⟨15, .mv (.t 0), none, false⟩,
 ⟨16, .mv (.t 7), none, false⟩,
 ⟨17, .ix (.t 15) (.t 16), none, false⟩,
 ⟨18, .mv (.t 1), none, false⟩,
 ⟨19, .ar .eql false (.t 17) (.t 18), none, false⟩])
 (.ite (.t 19)
 (.seq
 (.reg false [⟨20, .mv (.t 5), none, false⟩,
 ⟨21, .mv (.t 0), none, false⟩,
 ⟨22, .mv (.t 6), none, false⟩,
 ⟨23, .mv (.t 7), none, false⟩,
 ⟨24, .sl 0 (.t 21) (some (.t 22)) (some (.t 23)), none, false⟩,
 ⟨25, .bs 9 1 [(.sc (.string ⟨#[]⟩))] 1 [(0, (.t 24))], none, false⟩,
 ⟨26, .ap 9 1 false (.t 20) (.t 25), none, false⟩,
 ⟨5, .mv (.t 26), none, false⟩])
 (.reg false [⟨27, .mv (.t 7), none, false⟩,
 ⟨28, .ar .add false (.t 27) (.k (.sc (.int .i64 1))), none, false⟩,
 ⟨6, .mv (.t 28), none, false⟩]))
 .skip)))
 (.reg false [⟨13, .mv (.t 7), none, false⟩,
 ⟨14, .ar .add false (.t 13) (.k (.sc (.int .i64 1))), none, false⟩,
 ⟨7, .mv (.t 14), none, false⟩])))
def b78_1 : IC := w78_1
theorem u78_1 (call : CallF) (st : St) : evC call b78_1 st = evC call w78_1 st := rfl
attribute [simp] u78_1 w78_1
def i78 : Ev.Fn := ⟨2, 35, [.tmp 4],
 (.seq
 (.reg false [⟨4, .mv (.k .nl), none, false⟩])
 (.seq
 (.reg false [⟨8, .bs 9 1 [(.sc (.string ⟨#[]⟩))] 0 [], none, false⟩,
 ⟨5, .mv (.t 8), none, false⟩])
 (.seq
 (.reg false [⟨6, .mv (.k (.sc (.int .i64 0))), none, false⟩])
 (.seq
 (.seq
 (.reg false [⟨7, .mv (.k (.sc (.int .i64 0))), none, false⟩])
 (.cln [0, 5, 6] [4]
 (.block 0
 (.loop [0, 1, 5, 6, 7] b78_1))))
 (.seq
 (.reg false [⟨29, .mv (.t 5), none, false⟩,
 ⟨30, .mv (.t 0), none, false⟩,
 ⟨31, .mv (.t 6), none, false⟩,
 ⟨32, .sl 0 (.t 30) (some (.t 31)) none, none, false⟩,
 ⟨33, .bs 9 1 [(.sc (.string ⟨#[]⟩))] 1 [(0, (.t 32))], none, false⟩,
 ⟨34, .ap 9 1 false (.t 29) (.t 33), none, false⟩,
 ⟨4, .mv (.t 34), none, false⟩])
 .ret)))))⟩
attribute [simp] i78
set_option maxRecDepth 1000000 in
theorem c78 : cFn Tryd.prog 78 [[], [0, 1, 5, 6, 7], [0, 5, 6], [4]] = some i78 := by kernel_rfl
theorem e78 : enterOk Tryd.prog 78 = true := by kernel_rfl
def w79_1 : IC :=
(.seq
 (.seq
 (.reg false [⟨38, .mv (.t 6), none, false⟩,
 ⟨39, .mv (.t 0), none, false⟩,
 ⟨40, .ln true (.t 39), none, false⟩,
 ⟨41, .ar .lss false (.t 38) (.t 40), none, false⟩])
 (.ite (.t 41)
 .skip
 (.exit 0)))
 (.seq
 (.block 1
 (.seq
 (.seq
 (.reg false [⟨44, .mv (.t 0), none, false⟩,
 ⟨45, .mv (.t 6), none, false⟩,
 ⟨46, .ix (.t 44) (.t 45), none, false⟩,
 ⟨47, .ca (.k (.cl 88 [])) [(.t 46)], none, false⟩,
 ⟨48, .nt (.t 47), none, false⟩])
 (.ite (.t 48)
 (.seq
 (.reg false [⟨2, .mv (.k (.sc (.int .i64 0))), none, false⟩,
 ⟨3, .mv (.k (.sc (.bool false))), none, false⟩])
 .ret)
 .skip))
 (.reg false [⟨49, .mv (.t 5), none, false⟩,
 ⟨50, .ar .mul false (.k (.sc (.int .i64 10))) (.t 49), none, false⟩,
 ⟨51, .mv (.t 0), none, false⟩,
 ⟨52, .mv (.t 6), none, false⟩,
 ⟨53, .ix (.t 51) (.t 52), none, false⟩,
 ⟨54, .ar .sub false (.t 53) (.k (.sc (.int .u8 48))), none, false⟩,
 ⟨55, .cv .i64 (.t 54), none, false⟩,
 ⟨56, .ar .add false (.t 50) (.t 55), none, false⟩,
 ⟨5, .mv (.t 56), none, false⟩])))
 (.reg false [⟨42, .mv (.t 6), none, false⟩,
 ⟨43, .ar .add false (.t 42) (.k (.sc (.int .i64 1))), none, false⟩,
 ⟨6, .mv (.t 43), none, false⟩])))
def b79_1 : IC := w79_1
theorem u79_1 (call : CallF) (st : St) : evC call b79_1 st = evC call w79_1 st := rfl
attribute [simp] u79_1 w79_1
def i79 : Ev.Fn := ⟨1, 62, [.tmp 2, .tmp 3],
 (.seq
 (.reg false [⟨2, .mv (.k (.sc (.int .i64 0))), none, false⟩,
 ⟨3, .mv (.k (.sc (.bool false))), none, false⟩])
 (.seq
 (.reg false [⟨4, .mv (.k (.sc (.int .i64 0))), none, false⟩])
 (.seq
 (.seq
 (.reg false [⟨7, .mv (.t 0), none, false⟩,
 ⟨8, .ln true (.t 7), none, false⟩,
 ⟨9, .ar .gtr false (.t 8) (.k (.sc (.int .i64 0))), none, false⟩,
 ⟨10, .mv (.t 9), none, false⟩,
 ⟨11, .mv (.t 0), (some (10, true)), false⟩,
 ⟨12, .ix (.t 11) (.k (.sc (.int .i64 0))), (some (10, true)), false⟩,
 ⟨13, .ar .eql false (.t 12) (.k (.sc (.int .u8 45))), (some (10, true)), false⟩,
 ⟨14, .pk (.t 10) (.t 13) (.k (.sc (.bool false))), none, false⟩])
 (.ite (.t 14)
 (.reg false [⟨4, .mv (.k (.sc (.int .i64 1))), none, false⟩])
 .skip))
 (.seq
 (.seq
 (.reg false [⟨15, .mv (.t 0), none, false⟩,
 ⟨16, .ln true (.t 15), none, false⟩,
 ⟨17, .mv (.t 4), none, false⟩,
 ⟨18, .ar .eql false (.t 16) (.t 17), none, false⟩,
 ⟨19, .mv (.t 18), none, false⟩,
 ⟨20, .mv (.t 0), (some (19, false)), false⟩,
 ⟨21, .ln true (.t 20), (some (19, false)), false⟩,
 ⟨22, .mv (.t 4), (some (19, false)), false⟩,
 ⟨23, .ar .sub false (.t 21) (.t 22), (some (19, false)), false⟩,
 ⟨24, .ar .gtr false (.t 23) (.k (.sc (.int .i64 18))), (some (19, false)), false⟩,
 ⟨25, .pk (.t 19) (.k (.sc (.bool true))) (.t 24), none, false⟩,
 ⟨26, .mv (.t 25), none, false⟩,
 ⟨27, .mv (.t 0), (some (26, false)), false⟩,
 ⟨28, .mv (.t 4), (some (26, false)), false⟩,
 ⟨29, .ix (.t 27) (.t 28), (some (26, false)), false⟩,
 ⟨30, .ar .eql false (.t 29) (.k (.sc (.int .u8 48))), (some (26, false)), false⟩,
 ⟨31, .mv (.t 30), (some (26, false)), false⟩,
 ⟨32, .mv (.t 0), (some (31, true)), false⟩,
 ⟨33, .ln true (.t 32), (some (31, true)), false⟩,
 ⟨34, .ar .gtr false (.t 33) (.k (.sc (.int .i64 1))), (some (31, true)), false⟩,
 ⟨35, .pk (.t 31) (.t 34) (.k (.sc (.bool false))), (some (26, false)), false⟩,
 ⟨36, .pk (.t 26) (.k (.sc (.bool true))) (.t 35), none, false⟩])
 (.ite (.t 36)
 (.seq
 (.reg false [⟨2, .mv (.k (.sc (.int .i64 0))), none, false⟩,
 ⟨3, .mv (.k (.sc (.bool false))), none, false⟩])
 .ret)
 .skip))
 (.seq
 (.reg false [⟨5, .mv (.k (.sc (.int .i64 0))), none, false⟩])
 (.seq
 (.seq
 (.reg false [⟨37, .mv (.t 4), none, false⟩,
 ⟨6, .mv (.t 37), none, false⟩])
 (.cln [4, 5] [2, 3]
 (.block 0
 (.loop [0, 4, 5, 6] b79_1))))
 (.seq
 (.seq
 (.reg false [⟨57, .mv (.t 4), none, false⟩,
 ⟨58, .ar .eql false (.t 57) (.k (.sc (.int .i64 1))), none, false⟩])
 (.ite (.t 58)
 (.reg false [⟨59, .mv (.t 5), none, false⟩,
 ⟨60, .ng (.t 59), none, false⟩,
 ⟨5, .mv (.t 60), none, false⟩])
 .skip))
 (.seq
 (.reg false [⟨61, .mv (.t 5), none, false⟩,
 ⟨2, .mv (.t 61), none, false⟩,
 ⟨3, .mv (.k (.sc (.bool true))), none, false⟩])
 .ret))))))))⟩
attribute [simp] i79
set_option maxRecDepth 1000000 in
theorem c79 : cFn Tryd.prog 79 [[], [0, 4, 5, 6], [4, 5], [2, 3]] = some i79 := by kernel_rfl
theorem e79 : enterOk Tryd.prog 79 = true := by kernel_rfl
def i81 : Ev.Fn := ⟨2, 8, [.tmp 4],
 (.seq
 (.reg false [⟨4, .mv (.k (.sc (.bool false))), none, false⟩])
 (.seq
 (.reg false [⟨5, .mv (.t 0), none, false⟩,
 ⟨6, .mv (.t 1), none, false⟩,
 ⟨7, .ca (.k (.cl 95 [])) [(.t 5), (.t 6)], none, false⟩,
 ⟨4, .mv (.t 7), none, false⟩])
 .ret))⟩
attribute [simp] i81
set_option maxRecDepth 1000000 in
theorem c81 : cFn Tryd.prog 81 [[]] = some i81 := by kernel_rfl
theorem e81 : enterOk Tryd.prog 81 = true := by kernel_rfl
def i82 : Ev.Fn := ⟨1, 35, [.tmp 2, .tmp 3, .tmp 4],
 (.seq
 (.reg false [⟨2, .mv (.k (.sc (.int .i64 0))), none, false⟩,
 ⟨3, .mv (.k (.sc (.int .i64 0))), none, false⟩,
 ⟨4, .mv (.k (.sc (.bool false))), none, false⟩])
 (.seq
 (.reg false [⟨10, .mv (.t 0), none, false⟩,
 ⟨11, .ca (.k (.cl 78 [])) [(.t 10), (.k (.sc (.int .u8 120)))], none, false⟩,
 ⟨5, .mv (.t 11), none, false⟩])
 (.seq
 (.seq
 (.reg false [⟨12, .mv (.t 5), none, false⟩,
 ⟨13, .ln false (.t 12), none, false⟩,
 ⟨14, .ar .neq false (.t 13) (.k (.sc (.int .i64 2))), none, false⟩])
 (.ite (.t 14)
 (.seq
 (.reg false [⟨2, .mv (.k (.sc (.int .i64 0))), none, false⟩,
 ⟨3, .mv (.k (.sc (.int .i64 0))), none, false⟩,
 ⟨4, .mv (.k (.sc (.bool false))), none, false⟩])
 .ret)
 .skip))
 (.seq
 (.reg false [⟨16, .mv (.t 5), none, false⟩,
 ⟨17, .ia 1 (.t 16) (.k (.sc (.int .i64 0))), none, false⟩,
 ⟨18, .ld 1 false (.t 17), none, false⟩,
 ⟨19, .ca (.k (.cl 79 [])) [(.t 18)], none, false⟩,
 ⟨15, .mv (.t 19), none, false⟩,
 ⟨20, .xt (.t 15) 0, none, false⟩,
 ⟨21, .xt (.t 15) 1, none, false⟩,
 ⟨6, .mv (.t 20), none, false⟩,
 ⟨7, .mv (.t 21), none, false⟩])
 (.seq
 (.reg false [⟨23, .mv (.t 5), none, false⟩,
 ⟨24, .ia 1 (.t 23) (.k (.sc (.int .i64 1))), none, false⟩,
 ⟨25, .ld 1 false (.t 24), none, false⟩,
 ⟨26, .ca (.k (.cl 79 [])) [(.t 25)], none, false⟩,
 ⟨22, .mv (.t 26), none, false⟩,
 ⟨27, .xt (.t 22) 0, none, false⟩,
 ⟨28, .xt (.t 22) 1, none, false⟩,
 ⟨8, .mv (.t 27), none, false⟩,
 ⟨9, .mv (.t 28), none, false⟩])
 (.seq
 (.reg false [⟨29, .mv (.t 6), none, false⟩,
 ⟨30, .mv (.t 8), none, false⟩,
 ⟨31, .mv (.t 7), none, false⟩,
 ⟨32, .mv (.t 31), none, false⟩,
 ⟨33, .mv (.t 9), (some (32, true)), false⟩,
 ⟨34, .pk (.t 32) (.t 33) (.k (.sc (.bool false))), none, false⟩,
 ⟨2, .mv (.t 29), none, false⟩,
 ⟨3, .mv (.t 30), none, false⟩,
 ⟨4, .mv (.t 34), none, false⟩])
 .ret))))))⟩
attribute [simp] i82
set_option maxRecDepth 1000000 in
theorem c82 : cFn Tryd.prog 82 [[]] = some i82 := by kernel_rfl
theorem e82 : enterOk Tryd.prog 82 = true := by kernel_rfl
def i83 : Ev.Fn := ⟨2, 13, [.tmp 4, .tmp 5, .tmp 6],
 (.seq
 (.reg false [⟨4, .mv (.k (.sc (.string ⟨#[]⟩))), none, false⟩,
 ⟨5, .mv (.k (.sc (.string ⟨#[]⟩))), none, false⟩,
 ⟨6, .mv (.k (.sc (.bool false))), none, false⟩])
 (.seq
 (.reg false [⟨7, .mv (.t 0), none, false⟩,
 ⟨8, .mv (.t 1), none, false⟩,
 ⟨9, .ca (.k (.cl 96 [])) [(.t 7), (.t 8)], none, false⟩,
 ⟨10, .xt (.t 9) 0, none, false⟩,
 ⟨11, .xt (.t 9) 1, none, false⟩,
 ⟨12, .xt (.t 9) 2, none, false⟩,
 ⟨4, .mv (.t 10), none, false⟩,
 ⟨5, .mv (.t 11), none, false⟩,
 ⟨6, .mv (.t 12), none, false⟩])
 .ret))⟩
attribute [simp] i83
set_option maxRecDepth 1000000 in
theorem c83 : cFn Tryd.prog 83 [[]] = some i83 := by kernel_rfl
theorem e83 : enterOk Tryd.prog 83 = true := by kernel_rfl
def i84 : Ev.Fn := ⟨0, 2, [.tmp 0],
 (.seq
 (.reg false [⟨0, .mv (.k .nl), none, false⟩])
 (.seq
 (.reg false [⟨1, .bs 9 1 [(.sc (.string ⟨#[]⟩))] 10 [(0, (.k (.sc (.string ⟨#[97, 115, 104]⟩)))), (1, (.k (.sc (.string ⟨#[98, 101, 101, 99, 104]⟩)))), (2, (.k (.sc (.string ⟨#[98, 105, 114, 99, 104]⟩)))), (3, (.k (.sc (.string ⟨#[99, 104, 101, 114, 114, 121]⟩)))), (4, (.k (.sc (.string ⟨#[101, 98, 111, 110, 121]⟩)))), (5, (.k (.sc (.string ⟨#[104, 111, 108, 108, 121]⟩)))), (6, (.k (.sc (.string ⟨#[109, 97, 112, 108, 101]⟩)))), (7, (.k (.sc (.string ⟨#[111, 97, 107]⟩)))), (8, (.k (.sc (.string ⟨#[114, 111, 115, 101, 119, 111, 111, 100]⟩)))), (9, (.k (.sc (.string ⟨#[119, 97, 108, 110, 117, 116]⟩))))], none, false⟩,
 ⟨0, .mv (.t 1), none, false⟩])
 .ret))⟩
attribute [simp] i84
set_option maxRecDepth 1000000 in
theorem c84 : cFn Tryd.prog 84 [[]] = some i84 := by kernel_rfl
theorem e84 : enterOk Tryd.prog 84 = true := by kernel_rfl
def i85 : Ev.Fn := ⟨1, 27, [.tmp 2, .tmp 3, .tmp 4, .tmp 5],
 (.seq
 (.reg false [⟨2, .mv (.k (.sc (.int .i64 0))), none, false⟩,
 ⟨3, .mv (.k (.sc (.int .i64 0))), none, false⟩,
 ⟨4, .mv (.k (.sc (.int .i64 0))), none, false⟩,
 ⟨5, .mv (.k (.sc (.int .i64 0))), none, false⟩])
 (.seq
 (.seq
 (.reg false [⟨6, .mv (.t 0), none, false⟩])
 (.block 0
 (.seq
 (.reg false [⟨8, .ar .eql false (.t 6) (.k (.sc (.string ⟨#[97, 115, 104]⟩))), none, false⟩,
 ⟨7, .mv (.t 8), none, false⟩])
 (.ite (.t 7)
 (.seq
 (.reg false [⟨2, .mv (.k (.sc (.int .i64 20))), none, false⟩,
 ⟨3, .mv (.k (.sc (.int .i64 40))), none, false⟩,
 ⟨4, .mv (.k (.sc (.int .i64 310))), none, false⟩,
 ⟨5, .mv (.k (.sc (.int .i64 0))), none, false⟩])
 .ret)
 (.seq
 (.reg false [⟨10, .ar .eql false (.t 6) (.k (.sc (.string ⟨#[98, 101, 101, 99, 104]⟩))), none, false⟩,
 ⟨9, .mv (.t 10), none, false⟩])
 (.ite (.t 9)
 (.seq
 (.reg false [⟨2, .mv (.k (.sc (.int .i64 35))), none, false⟩,
 ⟨3, .mv (.k (.sc (.int .i64 45))), none, false⟩,
 ⟨4, .mv (.k (.sc (.int .i64 410))), none, false⟩,
 ⟨5, .mv (.k (.sc (.int .i64 0))), none, false⟩])
 .ret)
 (.seq
 (.reg false [⟨12, .ar .eql false (.t 6) (.k (.sc (.string ⟨#[98, 105, 114, 99, 104]⟩))), none, false⟩,
 ⟨11, .mv (.t 12), none, false⟩])
 (.ite (.t 11)
 (.seq
 (.reg false [⟨2, .mv (.k (.sc (.int .i64 15))), none, false⟩,
 ⟨3, .mv (.k (.sc (.int .i64 33))), none, false⟩,
 ⟨4, .mv (.k (.sc (.int .i64 280))), none, false⟩,
 ⟨5, .mv (.k (.sc (.int .i64 0))), none, false⟩])
 .ret)
 (.seq
 (.reg false [⟨14, .ar .eql false (.t 6) (.k (.sc (.string ⟨#[99, 104, 101, 114, 114, 121]⟩))), none, false⟩,
 ⟨13, .mv (.t 14), none, false⟩])
 (.ite (.t 13)
 (.seq
 (.reg false [⟨2, .mv (.k (.sc (.int .i64 50))), none, false⟩,
 ⟨3, .mv (.k (.sc (.int .i64 36))), none, false⟩,
 ⟨4, .mv (.k (.sc (.int .i64 240))), none, false⟩,
 ⟨5, .mv (.k (.sc (.int .i64 0))), none, false⟩])
 .ret)
 (.seq
 (.reg false [⟨16, .ar .eql false (.t 6) (.k (.sc (.string ⟨#[101, 98, 111, 110, 121]⟩))), none, false⟩,
 ⟨15, .mv (.t 16), none, false⟩])
 (.ite (.t 15)
 (.seq
 (.reg false [⟨2, .mv (.k (.sc (.int .i64 95))), none, false⟩,
 ⟨3, .mv (.k (.sc (.int .i64 85))), none, false⟩,
 ⟨4, .mv (.k (.sc (.int .i64 270))), none, false⟩,
 ⟨5, .mv (.k (.sc (.int .i64 0))), none, false⟩])
 .ret)
 (.seq
 (.reg false [⟨18, .ar .eql false (.t 6) (.k (.sc (.string ⟨#[104, 111, 108, 108, 121]⟩))), none, false⟩,
 ⟨17, .mv (.t 18), none, false⟩])
 (.ite (.t 17)
 (.seq
 (.reg false [⟨2, .mv (.k (.sc (.int .i64 5))), none, false⟩,
 ⟨3, .mv (.k (.sc (.int .i64 35))), none, false⟩,
 ⟨4, .mv (.k (.sc (.int .i64 370))), none, false⟩,
 ⟨5, .mv (.k (.sc (.int .i64 0))), none, false⟩])
 .ret)
 (.seq
 (.reg false [⟨20, .ar .eql false (.t 6) (.k (.sc (.string ⟨#[109, 97, 112, 108, 101]⟩))), none, false⟩,
 ⟨19, .mv (.t 20), none, false⟩])
 (.ite (.t 19)
 (.seq
 (.reg false [⟨2, .mv (.k (.sc (.int .i64 10))), none, false⟩,
 ⟨3, .mv (.k (.sc (.int .i64 42))), none, false⟩,
 ⟨4, .mv (.k (.sc (.int .i64 290))), none, false⟩,
 ⟨5, .mv (.k (.sc (.int .i64 0))), none, false⟩])
 .ret)
 (.seq
 (.reg false [⟨22, .ar .eql false (.t 6) (.k (.sc (.string ⟨#[111, 97, 107]⟩))), none, false⟩,
 ⟨21, .mv (.t 22), none, false⟩])
 (.ite (.t 21)
 (.seq
 (.reg false [⟨2, .mv (.k (.sc (.int .i64 40))), none, false⟩,
 ⟨3, .mv (.k (.sc (.int .i64 40))), none, false⟩,
 ⟨4, .mv (.k (.sc (.int .i64 330))), none, false⟩,
 ⟨5, .mv (.k (.sc (.int .i64 0))), none, false⟩])
 .ret)
 (.seq
 (.reg false [⟨24, .ar .eql false (.t 6) (.k (.sc (.string ⟨#[114, 111, 115, 101, 119, 111, 111, 100]⟩))), none, false⟩,
 ⟨23, .mv (.t 24), none, false⟩])
 (.ite (.t 23)
 (.seq
 (.reg false [⟨2, .mv (.k (.sc (.int .i64 80))), none, false⟩,
 ⟨3, .mv (.k (.sc (.int .i64 60))), none, false⟩,
 ⟨4, .mv (.k (.sc (.int .i64 220))), none, false⟩,
 ⟨5, .mv (.k (.sc (.int .i64 0))), none, false⟩])
 .ret)
 (.seq
 (.reg false [⟨26, .ar .eql false (.t 6) (.k (.sc (.string ⟨#[119, 97, 108, 110, 117, 116]⟩))), none, false⟩,
 ⟨25, .mv (.t 26), none, false⟩])
 (.ite (.t 25)
 (.seq
 (.reg false [⟨2, .mv (.k (.sc (.int .i64 70))), none, false⟩,
 ⟨3, .mv (.k (.sc (.int .i64 38))), none, false⟩,
 ⟨4, .mv (.k (.sc (.int .i64 260))), none, false⟩,
 ⟨5, .mv (.k (.sc (.int .i64 0))), none, false⟩])
 .ret)
 .skip))))))))))))))))))))))
 (.seq
 (.reg false [⟨2, .mv (.k (.sc (.int .i64 0))), none, false⟩,
 ⟨3, .mv (.k (.sc (.int .i64 0))), none, false⟩,
 ⟨4, .mv (.k (.sc (.int .i64 0))), none, false⟩,
 ⟨5, .mv (.k (.sc (.int .i64 3))), none, false⟩])
 .ret)))⟩
attribute [simp] i85
set_option maxRecDepth 1000000 in
theorem c85 : cFn Tryd.prog 85 [[]] = some i85 := by kernel_rfl
theorem e85 : enterOk Tryd.prog 85 = true := by kernel_rfl
def i87 : Ev.Fn := ⟨1, 9, [.tmp 2],
 (.seq
 (.reg false [⟨2, .mv (.k (.sc (.bool false))), none, false⟩])
 (.seq
 (.reg false [⟨3, .mv (.t 0), none, false⟩,
 ⟨4, .ar .geq false (.t 3) (.k (.sc (.int .u8 97))), none, false⟩,
 ⟨5, .mv (.t 4), none, false⟩,
 ⟨6, .mv (.t 0), (some (5, true)), false⟩,
 ⟨7, .ar .leq false (.t 6) (.k (.sc (.int .u8 122))), (some (5, true)), false⟩,
 ⟨8, .pk (.t 5) (.t 7) (.k (.sc (.bool false))), none, false⟩,
 ⟨2, .mv (.t 8), none, false⟩])
 .ret))⟩
attribute [simp] i87
set_option maxRecDepth 1000000 in
theorem c87 : cFn Tryd.prog 87 [[]] = some i87 := by kernel_rfl
theorem e87 : enterOk Tryd.prog 87 = true := by kernel_rfl
def i88 : Ev.Fn := ⟨1, 9, [.tmp 2],
 (.seq
 (.reg false [⟨2, .mv (.k (.sc (.bool false))), none, false⟩])
 (.seq
 (.reg false [⟨3, .mv (.t 0), none, false⟩,
 ⟨4, .ar .geq false (.t 3) (.k (.sc (.int .u8 48))), none, false⟩,
 ⟨5, .mv (.t 4), none, false⟩,
 ⟨6, .mv (.t 0), (some (5, true)), false⟩,
 ⟨7, .ar .leq false (.t 6) (.k (.sc (.int .u8 57))), (some (5, true)), false⟩,
 ⟨8, .pk (.t 5) (.t 7) (.k (.sc (.bool false))), none, false⟩,
 ⟨2, .mv (.t 8), none, false⟩])
 .ret))⟩
attribute [simp] i88
set_option maxRecDepth 1000000 in
theorem c88 : cFn Tryd.prog 88 [[]] = some i88 := by kernel_rfl
theorem e88 : enterOk Tryd.prog 88 = true := by kernel_rfl
end Go.Proofs.YthnkioafikmmaaaDoor.walkS
