/- The functions that some rows reach, turned; no conditions. -/
import Derived.Test.YtojjkjbffihppaaEv2
import Derived.KernelRfl
import Derived.Test.YtojjkjbffihppaaProg
namespace Go.Proofs.Ytojjkjbffihppaa.walkS
open Go Go.Proofs.Ytojjkjbffihppaa.Ev
def i12 : Ev.Fn := ⟨1, 96, [.tmp 2],
 (.seq
 (.reg false [⟨1, .bx (.t 0), none, false⟩,
 ⟨2, .mv (.k (.sc (.bool false))), none, false⟩])
 (.seq
 (.reg false [⟨3, .mv (.k (.sc (.int .i64 1048576))), none, false⟩])
 (.seq
 (.reg false [⟨14, .ld 4 true (.t 1), none, false⟩,
 ⟨15, .mv (.t 3), none, false⟩,
 ⟨16, .ca (.k (.cl 37 [])) [(.t 14), (.t 15)], none, false⟩,
 ⟨3, .mv (.t 16), none, false⟩])
 (.seq
 (.seq
 (.reg false [⟨17, .mv (.t 3), none, false⟩,
 ⟨18, .ar .lss false (.t 17) (.k (.sc (.int .i64 0))), none, false⟩])
 (.ite (.t 18)
 (.seq
 (.reg false [⟨2, .mv (.k (.sc (.bool true))), none, false⟩])
 .ret)
 .skip))
 (.seq
 (.reg false [⟨20, .ld 4 true (.t 1), none, false⟩,
 ⟨21, .ca (.k (.cl 39 [])) [(.t 20)], none, false⟩,
 ⟨22, .ca (.k (.cl 59 [])) [(.t 21)], none, false⟩,
 ⟨19, .mv (.t 22), none, false⟩,
 ⟨23, .xt (.t 19) 0, none, false⟩,
 ⟨24, .xt (.t 19) 1, none, false⟩,
 ⟨4, .al [(.sc (.int .i64 0)), (.sc (.int .i64 0)), .nl, .nl], none, false⟩,
 ⟨1, .so 4 (.t 4) (.t 23), none, true⟩,
 ⟨5, .mv (.t 24), none, false⟩])
 (.seq
 (.reg false [⟨25, .ld 4 true (.t 1), none, false⟩,
 ⟨26, .ca (.k (.cl 39 [])) [(.t 25)], none, false⟩,
 ⟨6, .al [(.sc (.int .i64 0)), (.sc (.int .i64 0)), .nl, .nl], none, false⟩,
 ⟨1, .so 4 (.t 6) (.t 26), none, true⟩])
 (.seq
 (.reg false [⟨28, .ld 4 true (.t 6), none, false⟩,
 ⟨29, .ca (.k (.cl 60 [])) [(.t 28)], none, false⟩,
 ⟨27, .mv (.t 29), none, false⟩,
 ⟨30, .xt (.t 27) 0, none, false⟩,
 ⟨31, .xt (.t 27) 1, none, false⟩,
 ⟨7, .al [(.sc (.int .i64 0)), (.sc (.int .i64 0)), .nl, .nl], none, false⟩,
 ⟨1, .so 4 (.t 7) (.t 30), none, true⟩,
 ⟨8, .mv (.t 31), none, false⟩])
 (.seq
 (.seq
 (.reg false [⟨32, .ld 4 true (.t 7), none, false⟩,
 ⟨33, .ld 4 true (.t 4), none, false⟩,
 ⟨34, .ca (.k (.cl 41 [])) [(.t 32), (.t 33)], none, false⟩,
 ⟨35, .nt (.t 34), none, false⟩,
 ⟨36, .mv (.t 35), none, false⟩,
 ⟨37, .mv (.t 8), (some (36, false)), false⟩,
 ⟨38, .mv (.t 5), (some (36, false)), false⟩,
 ⟨39, .ar .neq false (.t 37) (.t 38), (some (36, false)), false⟩,
 ⟨40, .pk (.t 36) (.k (.sc (.bool true))) (.t 39), none, false⟩])
 (.ite (.t 40)
 (.seq
 (.reg false [⟨2, .mv (.k (.sc (.bool false))), none, false⟩])
 .ret)
 .skip))
 (.seq
 (.seq
 (.reg true [⟨41, .ld 4 true (.t 6), none, false⟩,
 ⟨42, .ld 4 true (.t 1), none, false⟩,
 ⟨43, .ca (.k (.cl 39 [])) [(.t 42)], none, false⟩,
 ⟨44, .ca (.k (.cl 41 [])) [(.t 41), (.t 43)], none, false⟩,
 ⟨45, .nt (.t 44), none, false⟩])
 (.ite (.t 45)
 (.seq
 (.reg false [⟨2, .mv (.k (.sc (.bool false))), none, false⟩])
 .ret)
 .skip))
 (.seq
 (.reg false [⟨9, .mv (.k (.sc (.int .i64 1))), none, false⟩])
 (.seq
 (.rgw [⟨46, .ld 4 true (.t 6), none, false⟩,
 ⟨47, .mv (.t 9), none, false⟩,
 ⟨48, .cw 42 [] [(.t 46), (.t 47)], none, false⟩,
 ⟨9, .mv (.t 48), none, false⟩])
 (.seq
 (.seq
 (.reg false [⟨49, .mv (.t 9), none, false⟩,
 ⟨50, .ar .lss false (.t 49) (.k (.sc (.int .i64 0))), none, false⟩,
 ⟨51, .mv (.t 50), none, false⟩,
 ⟨52, .ld 4 true (.t 7), (some (51, false)), false⟩,
 ⟨53, .ld 4 true (.t 4), (some (51, false)), false⟩,
 ⟨54, .ca (.k (.cl 41 [])) [(.t 52), (.t 53)], (some (51, false)), false⟩,
 ⟨55, .nt (.t 54), (some (51, false)), false⟩,
 ⟨56, .pk (.t 51) (.k (.sc (.bool true))) (.t 55), none, false⟩,
 ⟨57, .mv (.t 56), none, false⟩,
 ⟨58, .mv (.t 8), (some (57, false)), false⟩,
 ⟨59, .mv (.t 5), (some (57, false)), false⟩,
 ⟨60, .ar .neq false (.t 58) (.t 59), (some (57, false)), false⟩,
 ⟨61, .pk (.t 57) (.k (.sc (.bool true))) (.t 60), none, false⟩])
 (.ite (.t 61)
 (.seq
 (.reg false [⟨2, .mv (.k (.sc (.bool false))), none, false⟩])
 .ret)
 .skip))
 (.seq
 (.reg false [⟨10, .mv (.k (.sc (.int .i64 1))), none, false⟩])
 (.seq
 (.rgw [⟨62, .ld 4 true (.t 7), none, false⟩,
 ⟨63, .mv (.t 10), none, false⟩,
 ⟨64, .cw 42 [] [(.t 62), (.t 63)], none, false⟩,
 ⟨10, .mv (.t 64), none, false⟩])
 (.seq
 (.reg false [⟨11, .mv (.k (.sc (.int .i64 1))), none, false⟩])
 (.seq
 (.reg false [⟨65, .ld 4 true (.t 7), none, false⟩,
 ⟨66, .mv (.t 11), none, false⟩,
 ⟨67, .ca (.k (.cl 58 [])) [(.t 65), (.t 66)], none, false⟩,
 ⟨11, .mv (.t 67), none, false⟩])
 (.seq
 (.seq
 (.reg false [⟨68, .mv (.t 11), none, false⟩,
 ⟨69, .ar .lss false (.t 68) (.k (.sc (.int .i64 0))), none, false⟩])
 (.ite (.t 69)
 (.seq
 (.reg false [⟨2, .mv (.k (.sc (.bool false))), none, false⟩])
 .ret)
 .skip))
 (.seq
 (.seq
 (.reg false [⟨70, .mv (.t 11), none, false⟩,
 ⟨71, .mv (.t 10), none, false⟩,
 ⟨72, .ar .neq false (.t 70) (.t 71), none, false⟩])
 (.ite (.t 72)
 (.seq
 (.reg false [⟨2, .mv (.k (.sc (.bool false))), none, false⟩])
 .ret)
 .skip))
 (.seq
 (.reg false [⟨74, .ld 4 true (.t 1), none, false⟩,
 ⟨75, .ca (.k (.cl 39 [])) [(.t 74)], none, false⟩,
 ⟨76, .ca (.k (.cl 60 [])) [(.t 75)], none, false⟩,
 ⟨73, .mv (.t 76), none, false⟩,
 ⟨77, .xt (.t 73) 0, none, false⟩,
 ⟨78, .xt (.t 73) 1, none, false⟩,
 ⟨12, .al [(.sc (.int .i64 0)), (.sc (.int .i64 0)), .nl, .nl], none, false⟩,
 ⟨1, .so 4 (.t 12) (.t 77), none, true⟩,
 ⟨13, .mv (.t 78), none, false⟩])
 (.seq
 (.seq
 (.reg false [⟨79, .ld 4 true (.t 12), none, false⟩,
 ⟨80, .ld 4 true (.t 4), none, false⟩,
 ⟨81, .ca (.k (.cl 41 [])) [(.t 79), (.t 80)], none, false⟩,
 ⟨82, .nt (.t 81), none, false⟩,
 ⟨83, .mv (.t 82), none, false⟩,
 ⟨84, .mv (.t 13), (some (83, false)), false⟩,
 ⟨85, .mv (.t 5), (some (83, false)), false⟩,
 ⟨86, .ar .neq false (.t 84) (.t 85), (some (83, false)), false⟩,
 ⟨87, .pk (.t 83) (.k (.sc (.bool true))) (.t 86), none, false⟩])
 (.ite (.t 87)
 (.seq
 (.reg false [⟨2, .mv (.k (.sc (.bool false))), none, false⟩])
 .ret)
 .skip))
 (.seq
 (.reg false [⟨11, .mv (.k (.sc (.int .i64 1))), none, false⟩])
 (.seq
 (.reg false [⟨88, .ld 4 true (.t 7), none, false⟩,
 ⟨89, .mv (.t 11), none, false⟩,
 ⟨90, .ca (.k (.cl 58 [])) [(.t 88), (.t 89)], none, false⟩,
 ⟨11, .mv (.t 90), none, false⟩])
 (.seq
 (.seq
 (.reg false [⟨91, .mv (.t 11), none, false⟩,
 ⟨92, .ar .lss false (.t 91) (.k (.sc (.int .i64 0))), none, false⟩])
 (.ite (.t 92)
 (.seq
 (.reg false [⟨2, .mv (.k (.sc (.bool false))), none, false⟩])
 .ret)
 .skip))
 (.seq
 (.seq
 (.reg false [⟨93, .mv (.t 11), none, false⟩,
 ⟨94, .mv (.t 10), none, false⟩,
 ⟨95, .ar .neq false (.t 93) (.t 94), none, false⟩])
 (.ite (.t 95)
 (.seq
 (.reg false [⟨2, .mv (.k (.sc (.bool false))), none, false⟩])
 .ret)
 .skip))
 (.seq
 (.reg false [⟨2, .mv (.k (.sc (.bool true))), none, false⟩])
 .ret)))))))))))))))))))))))))⟩
attribute [simp] i12
set_option maxRecDepth 1000000 in
theorem c12 : cFn Try.prog 12 [[42]] = some i12 := by kernel_rfl
theorem e12 : enterOk Try.prog 12 = true := by kernel_rfl
def w27_1 : IC :=
(.seq
 (.seq
 (.reg false [⟨11, .mv (.t 5), none, false⟩,
 ⟨12, .mv (.t 0), none, false⟩,
 ⟨13, .ln false (.t 12), none, false⟩,
 ⟨14, .ar .lss false (.t 11) (.t 13), none, false⟩])
 (.ite (.t 14)
 .skip
 (.exit 0)))
 (.seq
 (.block 1
 (.seq
 (.reg true [⟨17, .mv (.t 0), none, false⟩,
 ⟨18, .mv (.t 5), none, false⟩,
 ⟨19, .ia 1 (.t 17) (.t 18), none, false⟩,
 ⟨20, .ld 1 false (.t 19), none, false⟩,
 ⟨21, .mv (.t 1), none, false⟩,
 ⟨22, .mv (.t 5), none, false⟩,
 ⟨23, .ia 1 (.t 21) (.t 22), none, false⟩,
 ⟨24, .ld 1 false (.t 23), none, false⟩,
 ⟨25, .ar .neq false (.t 20) (.t 24), none, false⟩])
 (.ite (.t 25)
 (.seq
 (.reg false [⟨4, .mv (.k (.sc (.bool false))), none, false⟩])
 .ret)
 .skip)))
 (.reg false [⟨15, .mv (.t 5), none, false⟩,
 ⟨16, .ar .add false (.t 15) (.k (.sc (.int .i64 1))), none, false⟩,
 ⟨5, .mv (.t 16), none, false⟩])))
def b27_1 : IC := w27_1
theorem u27_1 (call : CallF) (st : St) : evC call b27_1 st = evC call w27_1 st := rfl
attribute [simp] u27_1 w27_1
def i27 : Ev.Fn := ⟨2, 26, [.tmp 4],
 (.seq
 (.reg false [⟨4, .mv (.k (.sc (.bool false))), none, false⟩])
 (.seq
 (.seq
 (.reg false [⟨6, .mv (.t 0), none, false⟩,
 ⟨7, .ln false (.t 6), none, false⟩,
 ⟨8, .mv (.t 1), none, false⟩,
 ⟨9, .ln false (.t 8), none, false⟩,
 ⟨10, .ar .neq false (.t 7) (.t 9), none, false⟩])
 (.ite (.t 10)
 (.seq
 (.reg false [⟨4, .mv (.k (.sc (.bool false))), none, false⟩])
 .ret)
 .skip))
 (.seq
 (.seq
 (.reg false [⟨5, .mv (.k (.sc (.int .i64 0))), none, false⟩])
 (.cln [] [4]
 (.block 0
 (.loop [0, 1, 5] b27_1))))
 (.seq
 (.reg false [⟨4, .mv (.k (.sc (.bool true))), none, false⟩])
 .ret))))⟩
attribute [simp] i27
set_option maxRecDepth 1000000 in
theorem c27 : cFn Try.prog 27 [[], [0, 1, 5], [], [4]] = some i27 := by kernel_rfl
theorem e27 : enterOk Try.prog 27 = true := by kernel_rfl
def w30_1 : IC :=
(.seq
 (.seq
 (.reg false [⟨6, .mv (.t 5), none, false⟩,
 ⟨7, .mv (.t 0), none, false⟩,
 ⟨8, .ln false (.t 7), none, false⟩,
 ⟨9, .ar .lss false (.t 6) (.t 8), none, false⟩])
 (.ite (.t 9)
 .skip
 (.exit 0)))
 (.seq
 (.block 1
 (.seq
 (.reg false [⟨12, .mv (.t 0), none, false⟩,
 ⟨13, .mv (.t 5), none, false⟩,
 ⟨14, .mv (.t 1), none, false⟩,
 ⟨15, .ia 1 (.t 12) (.t 13), none, false⟩,
 ⟨1, .so 1 (.t 15) (.t 14), none, true⟩])
 (.reg false [⟨16, .mv (.t 1), none, false⟩,
 ⟨17, .ar .add false (.t 16) (.k (.sc (.int .i64 1))), none, false⟩,
 ⟨1, .mv (.t 17), none, false⟩])))
 (.reg false [⟨10, .mv (.t 5), none, false⟩,
 ⟨11, .ar .add false (.t 10) (.k (.sc (.int .i64 1))), none, false⟩,
 ⟨5, .mv (.t 11), none, false⟩])))
def b30_1 : IC := w30_1
theorem u30_1 (call : CallF) (st : St) : evC call b30_1 st = evC call w30_1 st := rfl
attribute [simp] u30_1 w30_1
def i30 : Ev.Fn := ⟨2, 19, [.tmp 4],
 (.seq
 (.reg false [⟨4, .mv (.k (.sc (.int .i64 0))), none, false⟩])
 (.seq
 (.seq
 (.reg false [⟨5, .mv (.k (.sc (.int .i64 0))), none, false⟩])
 (.cln [1, 100000] [4, 100000]
 (.block 0
 (.loop [0, 1, 5, 100000] b30_1))))
 (.seq
 (.reg false [⟨18, .mv (.t 1), none, false⟩,
 ⟨4, .mv (.t 18), none, false⟩])
 .ret)))⟩
attribute [simp] i30
set_option maxRecDepth 1000000 in
theorem c30 : cFn Try.prog 30 [[], [0, 1, 5, 100000], [1, 100000], [4, 100000]] = some i30 := by kernel_rfl
theorem e30 : enterOk Try.prog 30 = true := by kernel_rfl
def w31_1 : IC :=
(.seq
 (.seq
 (.reg false [⟨6, .mv (.t 5), none, false⟩,
 ⟨7, .mv (.t 0), none, false⟩,
 ⟨8, .ln false (.t 7), none, false⟩,
 ⟨9, .ar .lss false (.t 6) (.t 8), none, false⟩])
 (.ite (.t 9)
 .skip
 (.exit 0)))
 (.seq
 (.block 1
 (.seq
 (.seq
 (.reg false [⟨12, .mv (.t 0), none, false⟩,
 ⟨13, .mv (.t 5), none, false⟩,
 ⟨14, .ia 1 (.t 12) (.t 13), none, false⟩,
 ⟨15, .ld 1 false (.t 14), none, false⟩,
 ⟨16, .mv (.t 1), none, false⟩,
 ⟨17, .ar .neq false (.t 15) (.t 16), none, false⟩])
 (.ite (.t 17)
 (.seq
 (.reg false [⟨4, .mv (.k (.sc (.int .i64 (-1)))), none, false⟩])
 .ret)
 .skip))
 (.reg false [⟨18, .mv (.t 1), none, false⟩,
 ⟨19, .ar .add false (.t 18) (.k (.sc (.int .i64 1))), none, false⟩,
 ⟨1, .mv (.t 19), none, false⟩])))
 (.reg false [⟨10, .mv (.t 5), none, false⟩,
 ⟨11, .ar .add false (.t 10) (.k (.sc (.int .i64 1))), none, false⟩,
 ⟨5, .mv (.t 11), none, false⟩])))
def b31_1 : IC := w31_1
theorem u31_1 (call : CallF) (st : St) : evC call b31_1 st = evC call w31_1 st := rfl
attribute [simp] u31_1 w31_1
def i31 : Ev.Fn := ⟨2, 21, [.tmp 4],
 (.seq
 (.reg false [⟨4, .mv (.k (.sc (.int .i64 0))), none, false⟩])
 (.seq
 (.seq
 (.reg false [⟨5, .mv (.k (.sc (.int .i64 0))), none, false⟩])
 (.cln [1] [4]
 (.block 0
 (.loop [0, 1, 5] b31_1))))
 (.seq
 (.reg false [⟨20, .mv (.t 1), none, false⟩,
 ⟨4, .mv (.t 20), none, false⟩])
 .ret)))⟩
attribute [simp] i31
set_option maxRecDepth 1000000 in
theorem c31 : cFn Try.prog 31 [[], [0, 1, 5], [1], [4]] = some i31 := by kernel_rfl
theorem e31 : enterOk Try.prog 31 = true := by kernel_rfl
def i37 : Ev.Fn := ⟨2, 18, [.tmp 4],
 (.seq
 (.reg false [⟨2, .bx (.t 0), none, false⟩,
 ⟨4, .mv (.k (.sc (.int .i64 0))), none, false⟩])
 (.seq
 (.reg false [⟨5, .fa 2 (.t 2), none, false⟩,
 ⟨6, .ld 1 false (.t 5), none, false⟩,
 ⟨7, .mv (.t 1), none, false⟩,
 ⟨8, .ca (.k (.cl 94 [])) [(.t 6), (.t 7)], none, false⟩,
 ⟨1, .mv (.t 8), none, false⟩])
 (.seq
 (.seq
 (.reg false [⟨9, .mv (.t 1), none, false⟩,
 ⟨10, .ar .lss false (.t 9) (.k (.sc (.int .i64 0))), none, false⟩])
 (.ite (.t 10)
 (.seq
 (.reg false [⟨4, .mv (.k (.sc (.int .i64 (-1)))), none, false⟩])
 .ret)
 .skip))
 (.seq
 (.reg false [⟨11, .fa 3 (.t 2), none, false⟩,
 ⟨12, .ld 1 false (.t 11), none, false⟩,
 ⟨13, .mv (.t 1), none, false⟩,
 ⟨14, .ca (.k (.cl 95 [])) [(.t 12), (.t 13)], none, false⟩,
 ⟨1, .mv (.t 14), none, false⟩])
 (.seq
 (.seq
 (.reg false [⟨15, .mv (.t 1), none, false⟩,
 ⟨16, .ar .lss false (.t 15) (.k (.sc (.int .i64 0))), none, false⟩])
 (.ite (.t 16)
 (.seq
 (.reg false [⟨4, .mv (.k (.sc (.int .i64 (-1)))), none, false⟩])
 .ret)
 .skip))
 (.seq
 (.reg false [⟨17, .mv (.t 1), none, false⟩,
 ⟨4, .mv (.t 17), none, false⟩])
 .ret))))))⟩
attribute [simp] i37
set_option maxRecDepth 1000000 in
theorem c37 : cFn Try.prog 37 [[]] = some i37 := by kernel_rfl
theorem e37 : enterOk Try.prog 37 = true := by kernel_rfl
def i39 : Ev.Fn := ⟨1, 19, [.cell 2 4 true],
 (.seq
 (.reg false [⟨1, .bx (.t 0), none, false⟩,
 ⟨2, .al [(.sc (.int .i64 0)), (.sc (.int .i64 0)), .nl, .nl], none, false⟩])
 (.seq
 (.reg false [⟨3, .al [(.sc (.int .i64 0)), (.sc (.int .i64 0)), .nl, .nl], none, false⟩])
 (.seq
 (.reg false [⟨4, .fa 0 (.t 1), none, false⟩,
 ⟨5, .ld 1 false (.t 4), none, false⟩,
 ⟨6, .fa 0 (.t 3), none, false⟩,
 ⟨1, .so 1 (.t 6) (.t 5), none, true⟩])
 (.seq
 (.reg false [⟨7, .fa 1 (.t 1), none, false⟩,
 ⟨8, .ld 1 false (.t 7), none, false⟩,
 ⟨9, .fa 1 (.t 3), none, false⟩,
 ⟨1, .so 1 (.t 9) (.t 8), none, true⟩])
 (.seq
 (.reg false [⟨10, .fa 2 (.t 1), none, false⟩,
 ⟨11, .ld 1 false (.t 10), none, false⟩,
 ⟨12, .ca (.k (.cl 102 [])) [(.t 11)], none, false⟩,
 ⟨13, .fa 2 (.t 3), none, false⟩,
 ⟨1, .so 1 (.t 13) (.t 12), none, true⟩])
 (.seq
 (.reg false [⟨14, .fa 3 (.t 1), none, false⟩,
 ⟨15, .ld 1 false (.t 14), none, false⟩,
 ⟨16, .ca (.k (.cl 103 [])) [(.t 15)], none, false⟩,
 ⟨17, .fa 3 (.t 3), none, false⟩,
 ⟨1, .so 1 (.t 17) (.t 16), none, true⟩])
 (.seq
 (.reg false [⟨18, .ld 4 true (.t 3), none, false⟩,
 ⟨1, .so 4 (.t 2) (.t 18), none, true⟩])
 .ret)))))))⟩
attribute [simp] i39
set_option maxRecDepth 1000000 in
theorem c39 : cFn Try.prog 39 [[]] = some i39 := by kernel_rfl
theorem e39 : enterOk Try.prog 39 = true := by kernel_rfl
def i41 : Ev.Fn := ⟨2, 27, [.tmp 4],
 (.seq
 (.reg false [⟨2, .bx (.t 0), none, false⟩,
 ⟨3, .bx (.t 1), none, false⟩,
 ⟨4, .mv (.k (.sc (.bool false))), none, false⟩])
 (.seq
 (.seq
 (.reg false [⟨5, .fa 0 (.t 2), none, false⟩,
 ⟨6, .ld 1 false (.t 5), none, false⟩,
 ⟨7, .fa 0 (.t 3), none, false⟩,
 ⟨8, .ld 1 false (.t 7), none, false⟩,
 ⟨9, .ar .neq false (.t 6) (.t 8), none, false⟩])
 (.ite (.t 9)
 (.seq
 (.reg false [⟨4, .mv (.k (.sc (.bool false))), none, false⟩])
 .ret)
 .skip))
 (.seq
 (.seq
 (.reg false [⟨10, .fa 1 (.t 2), none, false⟩,
 ⟨11, .ld 1 false (.t 10), none, false⟩,
 ⟨12, .fa 1 (.t 3), none, false⟩,
 ⟨13, .ld 1 false (.t 12), none, false⟩,
 ⟨14, .ar .neq false (.t 11) (.t 13), none, false⟩])
 (.ite (.t 14)
 (.seq
 (.reg false [⟨4, .mv (.k (.sc (.bool false))), none, false⟩])
 .ret)
 .skip))
 (.seq
 (.seq
 (.reg false [⟨15, .fa 2 (.t 2), none, false⟩,
 ⟨16, .ld 1 false (.t 15), none, false⟩,
 ⟨17, .fa 2 (.t 3), none, false⟩,
 ⟨18, .ld 1 false (.t 17), none, false⟩,
 ⟨19, .ca (.k (.cl 109 [])) [(.t 16), (.t 18)], none, false⟩,
 ⟨20, .nt (.t 19), none, false⟩])
 (.ite (.t 20)
 (.seq
 (.reg false [⟨4, .mv (.k (.sc (.bool false))), none, false⟩])
 .ret)
 .skip))
 (.seq
 (.seq
 (.reg false [⟨21, .fa 3 (.t 2), none, false⟩,
 ⟨22, .ld 1 false (.t 21), none, false⟩,
 ⟨23, .fa 3 (.t 3), none, false⟩,
 ⟨24, .ld 1 false (.t 23), none, false⟩,
 ⟨25, .ca (.k (.cl 110 [])) [(.t 22), (.t 24)], none, false⟩,
 ⟨26, .nt (.t 25), none, false⟩])
 (.ite (.t 26)
 (.seq
 (.reg false [⟨4, .mv (.k (.sc (.bool false))), none, false⟩])
 .ret)
 .skip))
 (.seq
 (.reg false [⟨4, .mv (.k (.sc (.bool true))), none, false⟩])
 .ret))))))⟩
attribute [simp] i41
set_option maxRecDepth 1000000 in
theorem c41 : cFn Try.prog 41 [[]] = some i41 := by kernel_rfl
theorem e41 : enterOk Try.prog 41 = true := by kernel_rfl
def i42 : Ev.Fn := ⟨2, 14, [.tmp 4],
 (.seq
 (.reg false [⟨2, .bx (.t 0), none, false⟩,
 ⟨4, .mv (.k (.sc (.int .i64 0))), none, false⟩])
 (.seq
 (.rgw [⟨5, .fa 2 (.t 2), none, false⟩,
 ⟨6, .ld 1 false (.t 5), none, false⟩,
 ⟨7, .mv (.t 1), none, false⟩,
 ⟨8, .cw 111 [] [(.t 6), (.t 7)], none, false⟩,
 ⟨1, .mv (.t 8), none, false⟩])
 (.seq
 (.rgw [⟨9, .fa 3 (.t 2), none, false⟩,
 ⟨10, .ld 1 false (.t 9), none, false⟩,
 ⟨11, .mv (.t 1), none, false⟩,
 ⟨12, .cw 112 [] [(.t 10), (.t 11)], none, false⟩,
 ⟨1, .mv (.t 12), none, false⟩])
 (.seq
 (.reg false [⟨13, .mv (.t 1), none, false⟩,
 ⟨4, .mv (.t 13), none, false⟩])
 .ret))))⟩
attribute [simp] i42
set_option maxRecDepth 1000000 in
theorem c42 : cFn Try.prog 42 [[111, 112]] = some i42 := by kernel_rfl
theorem e42 : enterOk Try.prog 42 = true := by kernel_rfl
def i58 : Ev.Fn := ⟨2, 18, [.tmp 4],
 (.seq
 (.reg false [⟨2, .bx (.t 0), none, false⟩,
 ⟨4, .mv (.k (.sc (.int .i64 0))), none, false⟩])
 (.seq
 (.reg false [⟨5, .fa 2 (.t 2), none, false⟩,
 ⟨6, .ld 1 false (.t 5), none, false⟩,
 ⟨7, .mv (.t 1), none, false⟩,
 ⟨8, .ca (.k (.cl 135 [])) [(.t 6), (.t 7)], none, false⟩,
 ⟨1, .mv (.t 8), none, false⟩])
 (.seq
 (.seq
 (.reg false [⟨9, .mv (.t 1), none, false⟩,
 ⟨10, .ar .lss false (.t 9) (.k (.sc (.int .i64 0))), none, false⟩])
 (.ite (.t 10)
 (.seq
 (.reg false [⟨4, .mv (.k (.sc (.int .i64 (-1)))), none, false⟩])
 .ret)
 .skip))
 (.seq
 (.reg false [⟨11, .fa 3 (.t 2), none, false⟩,
 ⟨12, .ld 1 false (.t 11), none, false⟩,
 ⟨13, .mv (.t 1), none, false⟩,
 ⟨14, .ca (.k (.cl 136 [])) [(.t 12), (.t 13)], none, false⟩,
 ⟨1, .mv (.t 14), none, false⟩])
 (.seq
 (.seq
 (.reg false [⟨15, .mv (.t 1), none, false⟩,
 ⟨16, .ar .lss false (.t 15) (.k (.sc (.int .i64 0))), none, false⟩])
 (.ite (.t 16)
 (.seq
 (.reg false [⟨4, .mv (.k (.sc (.int .i64 (-1)))), none, false⟩])
 .ret)
 .skip))
 (.seq
 (.reg false [⟨17, .mv (.t 1), none, false⟩,
 ⟨4, .mv (.t 17), none, false⟩])
 .ret))))))⟩
attribute [simp] i58
set_option maxRecDepth 1000000 in
theorem c58 : cFn Try.prog 58 [[]] = some i58 := by kernel_rfl
theorem e58 : enterOk Try.prog 58 = true := by kernel_rfl
def w59_1 : IC :=
(.seq
 (.seq
 (.reg false [⟨10, .mv (.t 5), none, false⟩,
 ⟨11, .fa 2 (.t 1), none, false⟩,
 ⟨12, .ld 1 false (.t 11), none, false⟩,
 ⟨13, .ln false (.t 12), none, false⟩,
 ⟨14, .ar .lss false (.t 10) (.t 13), none, false⟩])
 (.ite (.t 14)
 .skip
 (.exit 0)))
 (.seq
 (.block 1
 (.seq
 (.reg false [⟨17, .mv (.t 5), none, false⟩,
 ⟨18, .ca (.k (.cl 115 [])) [(.t 1), (.t 17), (.k (.sc (.int .i64 (-1))))], none, false⟩])
 (.ite (.t 18)
 (.reg false [⟨19, .mv (.t 4), none, false⟩,
 ⟨20, .mv (.t 5), none, false⟩,
 ⟨21, .bs 2 1 [(.sc (.int .i64 0))] 1 [(0, (.t 20))], none, false⟩,
 ⟨22, .ap 2 1 false (.t 19) (.t 21), none, false⟩,
 ⟨4, .mv (.t 22), none, false⟩])
 (.reg false [⟨23, .mv (.t 4), none, false⟩,
 ⟨24, .bs 2 1 [(.sc (.int .i64 0))] 1 [(0, (.k (.sc (.int .i64 (-1)))))], none, false⟩,
 ⟨25, .ap 2 1 false (.t 23) (.t 24), none, false⟩,
 ⟨4, .mv (.t 25), none, false⟩]))))
 (.reg false [⟨15, .mv (.t 5), none, false⟩,
 ⟨16, .ar .add false (.t 15) (.k (.sc (.int .i64 1))), none, false⟩,
 ⟨5, .mv (.t 16), none, false⟩])))
def b59_1 : IC := w59_1
theorem u59_1 (call : CallF) (st : St) : evC call b59_1 st = evC call w59_1 st := rfl
attribute [simp] u59_1 w59_1
def i59 : Ev.Fn := ⟨1, 28, [.cell 2 4 true, .tmp 3],
 (.seq
 (.reg false [⟨1, .bx (.t 0), none, false⟩,
 ⟨2, .al [(.sc (.int .i64 0)), (.sc (.int .i64 0)), .nl, .nl], none, false⟩,
 ⟨3, .mv (.k (.sc (.int .i64 0))), none, false⟩])
 (.seq
 (.seq
 (.reg false [⟨6, .ca (.k (.cl 96 [])) [(.t 1)], none, false⟩,
 ⟨7, .nt (.t 6), none, false⟩])
 (.ite (.t 7)
 (.seq
 (.reg false [⟨8, .bd [(.sc (.int .i64 0)), (.sc (.int .i64 0)), .nl, .nl] [], none, false⟩,
 ⟨1, .so 4 (.t 2) (.t 8), none, true⟩,
 ⟨3, .mv (.k (.sc (.int .i64 1))), none, false⟩])
 .ret)
 .skip))
 (.seq
 (.reg false [⟨9, .bs 2 1 [(.sc (.int .i64 0))] 0 [], none, false⟩,
 ⟨4, .mv (.t 9), none, false⟩])
 (.seq
 (.seq
 (.reg false [⟨5, .mv (.k (.sc (.int .i64 0))), none, false⟩])
 (.cln [1, 2, 4] [2, 3]
 (.block 0
 (.loop [1, 2, 4, 5] b59_1))))
 (.seq
 (.reg false [⟨26, .mv (.t 4), none, false⟩,
 ⟨27, .ca (.k (.cl 137 [])) [(.t 1), (.t 26)], none, false⟩,
 ⟨1, .so 4 (.t 2) (.t 27), none, true⟩,
 ⟨3, .mv (.k (.sc (.int .i64 0))), none, false⟩])
 .ret)))))⟩
attribute [simp] i59
set_option maxRecDepth 1000000 in
theorem c59 : cFn Try.prog 59 [[], [1, 2, 4, 5], [1, 2, 4], [2, 3]] = some i59 := by kernel_rfl
theorem e59 : enterOk Try.prog 59 = true := by kernel_rfl
def w60_1 : IC :=
(.seq
 (.reg false [⟨33, .ar .lss false (.t 32) (.t 31), none, false⟩])
 (.seq
 (.ite (.t 33)
 .skip
 (.exit 0))
 (.seq
 (.block 1
 (.seq
 (.reg false [⟨34, .mv (.t 32), none, false⟩,
 ⟨35, .ia 2 (.t 30) (.t 32), none, false⟩,
 ⟨36, .ld 2 true (.t 35), none, false⟩,
 ⟨8, .al [(.sc (.int .i64 0)), (.sc (.int .i64 0))], none, false⟩,
 ⟨7, .mv (.t 34), none, false⟩,
 ⟨1, .so 2 (.t 8) (.t 36), none, true⟩])
 (.seq
 (.reg false [⟨37, .mv (.t 4), none, false⟩,
 ⟨38, .mv (.t 7), none, false⟩,
 ⟨39, .ca (.k (.cl 138 [])) [(.t 37), (.t 38)], none, false⟩,
 ⟨40, .nt (.t 39), none, false⟩])
 (.ite (.t 40)
 (.seq
 (.reg false [⟨41, .mv (.t 5), none, false⟩,
 ⟨42, .mv (.t 7), none, false⟩,
 ⟨43, .fa 2 (.t 6), none, false⟩,
 ⟨44, .ld 1 false (.t 43), none, false⟩,
 ⟨45, .ln false (.t 44), none, false⟩,
 ⟨46, .ia 1 (.t 41) (.t 42), none, false⟩,
 ⟨1, .so 1 (.t 46) (.t 45), none, true⟩])
 (.reg false [⟨47, .fa 2 (.t 6), none, false⟩,
 ⟨48, .ld 1 false (.t 47), none, false⟩,
 ⟨49, .ld 2 true (.t 8), none, false⟩,
 ⟨50, .bs 127 2 [(.sc (.int .i64 0)), (.sc (.int .i64 0))] 1 [(0, (.t 49))], none, false⟩,
 ⟨51, .ap 127 2 false (.t 48) (.t 50), none, false⟩,
 ⟨52, .fa 2 (.t 6), none, false⟩,
 ⟨1, .so 1 (.t 52) (.t 51), none, true⟩]))
 .skip))))
 (.reg false [⟨53, .ar .add false (.t 32) (.k (.sc (.int .i64 1))), none, false⟩,
 ⟨32, .mv (.t 53), none, false⟩]))))
def b60_1 : IC := w60_1
theorem u60_1 (call : CallF) (st : St) : evC call b60_1 st = evC call w60_1 st := rfl
attribute [simp] u60_1 w60_1
def w60_3 : IC :=
(.seq
 (.reg false [⟨66, .ar .lss false (.t 65) (.t 64), none, false⟩])
 (.seq
 (.ite (.t 66)
 .skip
 (.exit 4))
 (.seq
 (.block 5
 (.seq
 (.reg false [⟨67, .ia 1 (.t 63) (.t 65), none, false⟩,
 ⟨68, .ld 1 false (.t 67), none, false⟩,
 ⟨13, .mv (.t 68), none, false⟩])
 (.reg false [⟨69, .mv (.t 11), none, false⟩,
 ⟨70, .mv (.t 5), none, false⟩,
 ⟨71, .mv (.t 13), none, false⟩,
 ⟨72, .ia 1 (.t 70) (.t 71), none, false⟩,
 ⟨73, .ld 1 false (.t 72), none, false⟩,
 ⟨74, .bs 2 1 [(.sc (.int .i64 0))] 1 [(0, (.t 73))], none, false⟩,
 ⟨75, .ap 2 1 false (.t 69) (.t 74), none, false⟩,
 ⟨11, .mv (.t 75), none, false⟩])))
 (.reg false [⟨76, .ar .add false (.t 65) (.k (.sc (.int .i64 1))), none, false⟩,
 ⟨65, .mv (.t 76), none, false⟩]))))
def b60_3 : IC := w60_3
theorem u60_3 (call : CallF) (st : St) : evC call b60_3 st = evC call w60_3 st := rfl
attribute [simp] u60_3 w60_3
def w60_2 : IC :=
(.seq
 (.reg false [⟨58, .ar .lss false (.t 57) (.t 56), none, false⟩])
 (.seq
 (.ite (.t 58)
 .skip
 (.exit 2))
 (.seq
 (.block 3
 (.seq
 (.reg false [⟨59, .ia 2 (.t 55) (.t 57), none, false⟩,
 ⟨60, .ld 2 true (.t 59), none, false⟩,
 ⟨10, .al [(.sc (.string ⟨#[]⟩)), .nl], none, false⟩,
 ⟨1, .so 2 (.t 10) (.t 60), none, true⟩])
 (.seq
 (.reg false [⟨61, .bs 2 1 [(.sc (.int .i64 0))] 0 [], none, false⟩,
 ⟨11, .mv (.t 61), none, false⟩])
 (.seq
 (.seq
 (.reg false [⟨62, .fa 1 (.t 10), none, false⟩,
 ⟨63, .ld 1 false (.t 62), none, false⟩,
 ⟨64, .ln false (.t 63), none, false⟩,
 ⟨65, .mv (.k (.sc (.int .i64 0))), none, false⟩])
 (.cln [2, 5, 6, 10, 11, 55, 56, 57] [2, 3]
 (.block 4
 (.loop [2, 5, 6, 10, 11, 55, 56, 57, 63, 64, 65] b60_3))))
 (.reg false [⟨77, .fa 3 (.t 6), none, false⟩,
 ⟨78, .ld 1 false (.t 77), none, false⟩,
 ⟨79, .fa 0 (.t 10), none, false⟩,
 ⟨80, .ld 1 false (.t 79), none, false⟩,
 ⟨81, .mv (.t 11), none, false⟩,
 ⟨82, .bd [(.sc (.string ⟨#[]⟩)), .nl] [(0, 1, (.t 80)), (1, 1, (.t 81))], none, false⟩,
 ⟨83, .bw 158 2 [(.sc (.string ⟨#[]⟩)), .nl] 1 [(0, (.t 82))], none, false⟩,
 ⟨84, .ap 158 2 false (.t 78) (.t 83), none, false⟩,
 ⟨85, .fa 3 (.t 6), none, false⟩,
 ⟨1, .so 1 (.t 85) (.t 84), none, true⟩])))))
 (.reg false [⟨86, .ar .add false (.t 57) (.k (.sc (.int .i64 1))), none, false⟩,
 ⟨57, .mv (.t 86), none, false⟩]))))
def b60_2 : IC := w60_2
theorem u60_2 (call : CallF) (st : St) : evC call b60_2 st = evC call w60_2 st := rfl
attribute [simp] u60_2 w60_2
def i60 : Ev.Fn := ⟨1, 91, [.cell 2 4 true, .tmp 3],
 (.seq
 (.reg false [⟨1, .bx (.t 0), none, false⟩,
 ⟨2, .al [(.sc (.int .i64 0)), (.sc (.int .i64 0)), .nl, .nl], none, false⟩,
 ⟨3, .mv (.k (.sc (.int .i64 0))), none, false⟩])
 (.seq
 (.seq
 (.reg false [⟨14, .ld 4 true (.t 1), none, false⟩,
 ⟨15, .ca (.k (.cl 104 [])) [(.t 14)], none, false⟩,
 ⟨16, .nt (.t 15), none, false⟩])
 (.ite (.t 16)
 (.seq
 (.reg false [⟨17, .bd [(.sc (.int .i64 0)), (.sc (.int .i64 0)), .nl, .nl] [], none, false⟩,
 ⟨1, .so 4 (.t 2) (.t 17), none, true⟩,
 ⟨3, .mv (.k (.sc (.int .i64 1))), none, false⟩])
 .ret)
 .skip))
 (.seq
 (.reg true [⟨18, .ld 4 true (.t 1), none, false⟩,
 ⟨19, .ca (.k (.cl 118 [])) [(.t 18)], none, false⟩,
 ⟨20, .fa 2 (.t 1), none, false⟩,
 ⟨21, .ld 1 false (.t 20), none, false⟩,
 ⟨22, .ln false (.t 21), none, false⟩,
 ⟨23, .ms 2 1 [(.sc (.int .i64 0))] (.t 22), none, false⟩,
 ⟨4, .mv (.t 19), none, false⟩,
 ⟨5, .mv (.t 23), none, false⟩])
 (.seq
 (.reg false [⟨24, .fa 0 (.t 1), none, false⟩,
 ⟨25, .ld 1 false (.t 24), none, false⟩,
 ⟨26, .fa 1 (.t 1), none, false⟩,
 ⟨27, .ld 1 false (.t 26), none, false⟩,
 ⟨28, .bd [(.sc (.int .i64 0)), (.sc (.int .i64 0)), .nl, .nl] [(0, 1, (.t 25)), (1, 1, (.t 27))], none, false⟩,
 ⟨6, .al [(.sc (.int .i64 0)), (.sc (.int .i64 0)), .nl, .nl], none, false⟩,
 ⟨1, .so 4 (.t 6) (.t 28), none, true⟩])
 (.seq
 (.seq
 (.reg false [⟨29, .fa 2 (.t 1), none, false⟩,
 ⟨30, .ld 1 false (.t 29), none, false⟩,
 ⟨31, .ln false (.t 30), none, false⟩,
 ⟨32, .mv (.k (.sc (.int .i64 0))), none, false⟩])
 (.cln [1, 2, 5, 6] [2, 3]
 (.block 0
 (.loop [1, 2, 4, 5, 6, 30, 31, 32] b60_1))))
 (.seq
 (.seq
 (.reg false [⟨54, .fa 3 (.t 1), none, false⟩,
 ⟨55, .ld 1 false (.t 54), none, false⟩,
 ⟨56, .ln false (.t 55), none, false⟩,
 ⟨57, .mv (.k (.sc (.int .i64 0))), none, false⟩])
 (.cln [2, 6] [2, 3]
 (.block 2
 (.loop [2, 5, 6, 55, 56, 57] b60_2))))
 (.seq
 (.rgw [⟨87, .ld 4 true (.t 6), none, false⟩,
 ⟨88, .cw 134 [true] [(.t 87)], none, false⟩,
 ⟨89, .xt (.t 88) 0, none, false⟩,
 ⟨90, .xt (.t 88) 1, none, false⟩,
 ⟨1, .so 4 (.t 2) (.t 89), none, true⟩,
 ⟨3, .mv (.t 90), none, false⟩])
 .ret)))))))⟩
attribute [simp] i60
set_option maxRecDepth 1000000 in
theorem c60 : cFn Try.prog 60 [[2000134], [1, 2, 4, 5, 6, 30, 31, 32], [1, 2, 5, 6], [2, 3], [2, 5, 6, 55, 56, 57], [2, 5, 6, 10, 11, 55, 56, 57, 63, 64, 65], [2, 5, 6, 10, 11, 55, 56, 57], [2, 3], [2, 6], [2, 3]] = some i60 := by kernel_rfl
theorem e60 : enterOk Try.prog 60 = true := by kernel_rfl
def w77_1 : IC :=
(.seq
 (.seq
 (.reg false [⟨6, .mv (.t 0), none, false⟩,
 ⟨7, .ar .gtr false (.t 6) (.k (.sc (.int .i64 0))), none, false⟩])
 (.ite (.t 7)
 .skip
 (.exit 0)))
 (.block 1
 (.seq
 (.reg false [⟨8, .mv (.t 0), none, false⟩,
 ⟨9, .ar .rem false (.t 8) (.k (.sc (.int .i64 10))), none, false⟩,
 ⟨10, .ar .add false (.k (.sc (.int .i64 48))) (.t 9), none, false⟩,
 ⟨11, .cv .u8 (.t 10), none, false⟩,
 ⟨12, .bs 5 1 [(.sc (.int .u8 0))] 1 [(0, (.t 11))], none, false⟩,
 ⟨13, .by (.t 12), none, false⟩,
 ⟨14, .mv (.t 3), none, false⟩,
 ⟨15, .ar .add false (.t 13) (.t 14), none, false⟩,
 ⟨3, .mv (.t 15), none, false⟩])
 (.reg false [⟨16, .mv (.t 0), none, false⟩,
 ⟨17, .ar .quo false (.t 16) (.k (.sc (.int .i64 10))), none, false⟩,
 ⟨0, .mv (.t 17), none, false⟩]))))
def b77_1 : IC := w77_1
theorem u77_1 (call : CallF) (st : St) : evC call b77_1 st = evC call w77_1 st := rfl
attribute [simp] u77_1 w77_1
def i77 : Ev.Fn := ⟨1, 20, [.tmp 2],
 (.seq
 (.reg false [⟨2, .mv (.k (.sc (.string ⟨#[]⟩))), none, false⟩])
 (.seq
 (.seq
 (.reg false [⟨4, .mv (.t 0), none, false⟩,
 ⟨5, .ar .leq false (.t 4) (.k (.sc (.int .i64 0))), none, false⟩])
 (.ite (.t 5)
 (.seq
 (.reg false [⟨2, .mv (.k (.sc (.string ⟨#[109, 48]⟩))), none, false⟩])
 .ret)
 .skip))
 (.seq
 (.reg false [⟨3, .mv (.k (.sc (.string ⟨#[]⟩))), none, false⟩])
 (.seq
 (.cln [3] [2]
 (.block 0
 (.loop [0, 3] b77_1)))
 (.seq
 (.reg false [⟨18, .mv (.t 3), none, false⟩,
 ⟨19, .ar .add false (.k (.sc (.string ⟨#[109]⟩))) (.t 18), none, false⟩,
 ⟨2, .mv (.t 19), none, false⟩])
 .ret)))))⟩
attribute [simp] i77
set_option maxRecDepth 1000000 in
theorem c77 : cFn Try.prog 77 [[], [0, 3], [3], [2]] = some i77 := by kernel_rfl
theorem e77 : enterOk Try.prog 77 = true := by kernel_rfl
def i87 : Ev.Fn := ⟨2, 12, [.tmp 4],
 (.seq
 (.reg false [⟨4, .mv (.k (.sc (.int .i64 0))), none, false⟩])
 (.seq
 (.reg false [⟨5, .mv (.t 1), none, false⟩,
 ⟨6, .mv (.t 0), none, false⟩,
 ⟨7, .ln false (.t 6), none, false⟩,
 ⟨8, .ar .sub false (.t 5) (.t 7), none, false⟩,
 ⟨1, .mv (.t 8), none, false⟩])
 (.seq
 (.seq
 (.reg false [⟨9, .mv (.t 1), none, false⟩,
 ⟨10, .ar .lss false (.t 9) (.k (.sc (.int .i64 0))), none, false⟩])
 (.ite (.t 10)
 (.seq
 (.reg false [⟨4, .mv (.k (.sc (.int .i64 (-1)))), none, false⟩])
 .ret)
 .skip))
 (.seq
 (.reg false [⟨11, .mv (.t 1), none, false⟩,
 ⟨4, .mv (.t 11), none, false⟩])
 .ret))))⟩
attribute [simp] i87
set_option maxRecDepth 1000000 in
theorem c87 : cFn Try.prog 87 [[]] = some i87 := by kernel_rfl
theorem e87 : enterOk Try.prog 87 = true := by kernel_rfl
def w91_1 : IC :=
(.seq
 (.seq
 (.reg false [⟨8, .mv (.t 4), none, false⟩,
 ⟨9, .mv (.t 0), none, false⟩,
 ⟨10, .ln false (.t 9), none, false⟩,
 ⟨11, .ar .lss false (.t 8) (.t 10), none, false⟩])
 (.ite (.t 11)
 .skip
 (.exit 0)))
 (.seq
 (.block 1
 (.reg false [⟨14, .mv (.t 3), none, false⟩,
 ⟨15, .mv (.t 4), none, false⟩,
 ⟨16, .mv (.t 0), none, false⟩,
 ⟨17, .mv (.t 4), none, false⟩,
 ⟨18, .ia 1 (.t 16) (.t 17), none, false⟩,
 ⟨19, .ld 1 false (.t 18), none, false⟩,
 ⟨20, .ia 1 (.t 14) (.t 15), none, false⟩,
 ⟨1, .so 1 (.t 20) (.t 19), none, true⟩]))
 (.reg false [⟨12, .mv (.t 4), none, false⟩,
 ⟨13, .ar .add false (.t 12) (.k (.sc (.int .i64 1))), none, false⟩,
 ⟨4, .mv (.t 13), none, false⟩])))
def b91_1 : IC := w91_1
theorem u91_1 (call : CallF) (st : St) : evC call b91_1 st = evC call w91_1 st := rfl
attribute [simp] u91_1 w91_1
def i91 : Ev.Fn := ⟨1, 22, [.tmp 2],
 (.seq
 (.reg false [⟨2, .mv (.k .nl), none, false⟩])
 (.seq
 (.reg false [⟨5, .mv (.t 0), none, false⟩,
 ⟨6, .ln false (.t 5), none, false⟩,
 ⟨7, .ms 2 1 [(.sc (.int .i64 0))] (.t 6), none, false⟩,
 ⟨3, .mv (.t 7), none, false⟩])
 (.seq
 (.seq
 (.reg false [⟨4, .mv (.k (.sc (.int .i64 0))), none, false⟩])
 (.cln [3] [2]
 (.block 0
 (.loop [0, 3, 4] b91_1))))
 (.seq
 (.reg false [⟨21, .mv (.t 3), none, false⟩,
 ⟨2, .mv (.t 21), none, false⟩])
 .ret))))⟩
attribute [simp] i91
set_option maxRecDepth 1000000 in
theorem c91 : cFn Try.prog 91 [[], [0, 3, 4], [3], [2]] = some i91 := by kernel_rfl
theorem e91 : enterOk Try.prog 91 = true := by kernel_rfl
def i94 : Ev.Fn := ⟨2, 12, [.tmp 4],
 (.seq
 (.reg false [⟨4, .mv (.k (.sc (.int .i64 0))), none, false⟩])
 (.seq
 (.reg false [⟨5, .mv (.t 1), none, false⟩,
 ⟨6, .mv (.t 0), none, false⟩,
 ⟨7, .ln false (.t 6), none, false⟩,
 ⟨8, .ar .sub false (.t 5) (.t 7), none, false⟩,
 ⟨1, .mv (.t 8), none, false⟩])
 (.seq
 (.seq
 (.reg false [⟨9, .mv (.t 1), none, false⟩,
 ⟨10, .ar .lss false (.t 9) (.k (.sc (.int .i64 0))), none, false⟩])
 (.ite (.t 10)
 (.seq
 (.reg false [⟨4, .mv (.k (.sc (.int .i64 (-1)))), none, false⟩])
 .ret)
 .skip))
 (.seq
 (.reg false [⟨11, .mv (.t 1), none, false⟩,
 ⟨4, .mv (.t 11), none, false⟩])
 .ret))))⟩
attribute [simp] i94
set_option maxRecDepth 1000000 in
theorem c94 : cFn Try.prog 94 [[]] = some i94 := by kernel_rfl
theorem e94 : enterOk Try.prog 94 = true := by kernel_rfl
def w95_1 : IC :=
(.seq
 (.seq
 (.reg false [⟨12, .mv (.t 5), none, false⟩,
 ⟨13, .mv (.t 0), none, false⟩,
 ⟨14, .ln false (.t 13), none, false⟩,
 ⟨15, .ar .lss false (.t 12) (.t 14), none, false⟩])
 (.ite (.t 15)
 .skip
 (.exit 0)))
 (.seq
 (.block 1
 (.seq
 (.reg false [⟨18, .mv (.t 0), none, false⟩,
 ⟨19, .mv (.t 5), none, false⟩,
 ⟨20, .ia 2 (.t 18) (.t 19), none, false⟩,
 ⟨21, .ld 2 true (.t 20), none, false⟩,
 ⟨22, .mv (.t 1), none, false⟩,
 ⟨23, .ca (.k (.cl 164 [])) [(.t 21), (.t 22)], none, false⟩,
 ⟨1, .mv (.t 23), none, false⟩])
 (.seq
 (.reg false [⟨24, .mv (.t 1), none, false⟩,
 ⟨25, .ar .lss false (.t 24) (.k (.sc (.int .i64 0))), none, false⟩])
 (.ite (.t 25)
 (.seq
 (.reg false [⟨4, .mv (.k (.sc (.int .i64 (-1)))), none, false⟩])
 .ret)
 .skip))))
 (.reg false [⟨16, .mv (.t 5), none, false⟩,
 ⟨17, .ar .add false (.t 16) (.k (.sc (.int .i64 1))), none, false⟩,
 ⟨5, .mv (.t 17), none, false⟩])))
def b95_1 : IC := w95_1
theorem u95_1 (call : CallF) (st : St) : evC call b95_1 st = evC call w95_1 st := rfl
attribute [simp] u95_1 w95_1
def i95 : Ev.Fn := ⟨2, 27, [.tmp 4],
 (.seq
 (.reg false [⟨4, .mv (.k (.sc (.int .i64 0))), none, false⟩])
 (.seq
 (.reg false [⟨6, .mv (.t 1), none, false⟩,
 ⟨7, .mv (.t 0), none, false⟩,
 ⟨8, .ln false (.t 7), none, false⟩,
 ⟨9, .ar .sub false (.t 6) (.t 8), none, false⟩,
 ⟨1, .mv (.t 9), none, false⟩])
 (.seq
 (.seq
 (.reg false [⟨10, .mv (.t 1), none, false⟩,
 ⟨11, .ar .lss false (.t 10) (.k (.sc (.int .i64 0))), none, false⟩])
 (.ite (.t 11)
 (.seq
 (.reg false [⟨4, .mv (.k (.sc (.int .i64 (-1)))), none, false⟩])
 .ret)
 .skip))
 (.seq
 (.seq
 (.reg false [⟨5, .mv (.k (.sc (.int .i64 0))), none, false⟩])
 (.cln [1] [4]
 (.block 0
 (.loop [0, 1, 5] b95_1))))
 (.seq
 (.reg false [⟨26, .mv (.t 1), none, false⟩,
 ⟨4, .mv (.t 26), none, false⟩])
 .ret)))))⟩
attribute [simp] i95
set_option maxRecDepth 1000000 in
theorem c95 : cFn Try.prog 95 [[], [0, 1, 5], [1], [4]] = some i95 := by kernel_rfl
theorem e95 : enterOk Try.prog 95 = true := by kernel_rfl
def w96_1 : IC :=
(.seq
 (.seq
 (.reg false [⟨33, .mv (.t 3), none, false⟩,
 ⟨34, .mv (.t 0), none, false⟩,
 ⟨35, .nc (.t 34), none, false⟩,
 ⟨36, .fa 3 (.t 35), none, false⟩,
 ⟨37, .ld 1 false (.t 36), none, false⟩,
 ⟨38, .ln false (.t 37), none, false⟩,
 ⟨39, .ar .lss false (.t 33) (.t 38), none, false⟩])
 (.ite (.t 39)
 .skip
 (.exit 0)))
 (.seq
 (.block 1
 (.seq
 (.seq
 (.reg true [⟨42, .mv (.t 0), none, false⟩,
 ⟨43, .nc (.t 42), none, false⟩,
 ⟨44, .fa 3 (.t 43), none, false⟩,
 ⟨45, .ld 1 false (.t 44), none, false⟩,
 ⟨46, .mv (.t 3), none, false⟩,
 ⟨47, .ia 2 (.t 45) (.t 46), none, false⟩,
 ⟨48, .fa 0 (.t 47), none, false⟩,
 ⟨49, .ld 1 false (.t 48), none, false⟩,
 ⟨50, .ca (.k (.cl 166 [])) [(.t 49)], none, false⟩,
 ⟨51, .nt (.t 50), none, false⟩,
 ⟨52, .mv (.t 51), none, false⟩,
 ⟨53, .mv (.t 3), (some (52, false)), false⟩,
 ⟨54, .ar .gtr false (.t 53) (.k (.sc (.int .i64 0))), (some (52, false)), false⟩,
 ⟨55, .mv (.t 54), (some (52, false)), false⟩,
 ⟨56, .mv (.t 0), (some (55, true)), false⟩,
 ⟨57, .nc (.t 56), (some (55, true)), false⟩,
 ⟨58, .fa 3 (.t 57), (some (55, true)), false⟩,
 ⟨59, .ld 1 false (.t 58), (some (55, true)), false⟩,
 ⟨60, .mv (.t 3), (some (55, true)), false⟩,
 ⟨61, .ar .sub false (.t 60) (.k (.sc (.int .i64 1))), (some (55, true)), false⟩,
 ⟨62, .ia 2 (.t 59) (.t 61), (some (55, true)), false⟩,
 ⟨63, .fa 0 (.t 62), (some (55, true)), false⟩,
 ⟨64, .ld 1 false (.t 63), (some (55, true)), false⟩,
 ⟨65, .mv (.t 0), (some (55, true)), false⟩,
 ⟨66, .nc (.t 65), (some (55, true)), false⟩,
 ⟨67, .fa 3 (.t 66), (some (55, true)), false⟩,
 ⟨68, .ld 1 false (.t 67), (some (55, true)), false⟩,
 ⟨69, .mv (.t 3), (some (55, true)), false⟩,
 ⟨70, .ia 2 (.t 68) (.t 69), (some (55, true)), false⟩,
 ⟨71, .fa 0 (.t 70), (some (55, true)), false⟩,
 ⟨72, .ld 1 false (.t 71), (some (55, true)), false⟩,
 ⟨73, .ar .geq false (.t 64) (.t 72), (some (55, true)), false⟩,
 ⟨74, .pk (.t 55) (.t 73) (.k (.sc (.bool false))), (some (52, false)), false⟩,
 ⟨75, .pk (.t 52) (.k (.sc (.bool true))) (.t 74), none, false⟩])
 (.ite (.t 75)
 (.seq
 (.reg false [⟨2, .mv (.k (.sc (.bool false))), none, false⟩])
 .ret)
 .skip))
 (.seq
 (.reg false [⟨77, .mv (.t 0), none, false⟩,
 ⟨78, .mv (.t 0), none, false⟩,
 ⟨79, .nc (.t 78), none, false⟩,
 ⟨80, .fa 3 (.t 79), none, false⟩,
 ⟨81, .ld 1 false (.t 80), none, false⟩,
 ⟨82, .mv (.t 3), none, false⟩,
 ⟨83, .ia 2 (.t 81) (.t 82), none, false⟩,
 ⟨84, .fa 1 (.t 83), none, false⟩,
 ⟨85, .ld 1 false (.t 84), none, false⟩,
 ⟨86, .ca (.k (.cl 167 [])) [(.t 77), (.t 85)], none, false⟩,
 ⟨76, .mv (.t 86), none, false⟩,
 ⟨87, .xt (.t 76) 0, none, false⟩,
 ⟨88, .xt (.t 76) 1, none, false⟩,
 ⟨4, .mv (.t 87), none, false⟩,
 ⟨5, .mv (.t 88), none, false⟩])
 (.seq
 (.reg false [⟨89, .mv (.t 5), none, false⟩,
 ⟨90, .nt (.t 89), none, false⟩,
 ⟨91, .mv (.t 90), none, false⟩,
 ⟨92, .mv (.t 4), (some (91, false)), false⟩,
 ⟨93, .ca (.k (.cl 168 [])) [(.t 92)], (some (91, false)), false⟩,
 ⟨94, .nt (.t 93), (some (91, false)), false⟩,
 ⟨95, .pk (.t 91) (.k (.sc (.bool true))) (.t 94), none, false⟩])
 (.ite (.t 95)
 (.seq
 (.reg false [⟨2, .mv (.k (.sc (.bool false))), none, false⟩])
 .ret)
 .skip)))))
 (.reg false [⟨40, .mv (.t 3), none, false⟩,
 ⟨41, .ar .add false (.t 40) (.k (.sc (.int .i64 1))), none, false⟩,
 ⟨3, .mv (.t 41), none, false⟩])))
def b96_1 : IC := w96_1
theorem u96_1 (call : CallF) (st : St) : evC call b96_1 st = evC call w96_1 st := rfl
attribute [simp] u96_1 w96_1
def i96 : Ev.Fn := ⟨1, 96, [.tmp 2],
 (.seq
 (.reg false [⟨2, .mv (.k (.sc (.bool false))), none, false⟩])
 (.seq
 (.seq
 (.reg false [⟨6, .mv (.t 0), none, false⟩,
 ⟨7, .nc (.t 6), none, false⟩,
 ⟨8, .fa 0 (.t 7), none, false⟩,
 ⟨9, .ld 1 false (.t 8), none, false⟩,
 ⟨10, .ca (.k (.cl 97 [])) [(.t 9), (.k (.sc (.int .i64 10))), (.k (.sc (.int .i64 20000)))], none, false⟩,
 ⟨11, .nt (.t 10), none, false⟩,
 ⟨12, .mv (.t 11), none, false⟩,
 ⟨13, .mv (.t 0), (some (12, false)), false⟩,
 ⟨14, .nc (.t 13), (some (12, false)), false⟩,
 ⟨15, .fa 1 (.t 14), (some (12, false)), false⟩,
 ⟨16, .ld 1 false (.t 15), (some (12, false)), false⟩,
 ⟨17, .ca (.k (.cl 97 [])) [(.t 16), (.k (.sc (.int .i64 10))), (.k (.sc (.int .i64 20000)))], (some (12, false)), false⟩,
 ⟨18, .nt (.t 17), (some (12, false)), false⟩,
 ⟨19, .pk (.t 12) (.k (.sc (.bool true))) (.t 18), none, false⟩,
 ⟨20, .mv (.t 19), none, false⟩,
 ⟨21, .mv (.t 0), (some (20, false)), false⟩,
 ⟨22, .ca (.k (.cl 165 [])) [(.t 21)], (some (20, false)), false⟩,
 ⟨23, .nt (.t 22), (some (20, false)), false⟩,
 ⟨24, .pk (.t 20) (.k (.sc (.bool true))) (.t 23), none, false⟩,
 ⟨25, .mv (.t 24), none, false⟩,
 ⟨26, .mv (.t 0), (some (25, false)), false⟩,
 ⟨27, .nc (.t 26), (some (25, false)), false⟩,
 ⟨28, .fa 3 (.t 27), (some (25, false)), false⟩,
 ⟨29, .ld 1 false (.t 28), (some (25, false)), false⟩,
 ⟨30, .ln false (.t 29), (some (25, false)), false⟩,
 ⟨31, .ar .gtr false (.t 30) (.k (.sc (.int .i64 24))), (some (25, false)), false⟩,
 ⟨32, .pk (.t 25) (.k (.sc (.bool true))) (.t 31), none, false⟩])
 (.ite (.t 32)
 (.seq
 (.reg false [⟨2, .mv (.k (.sc (.bool false))), none, false⟩])
 .ret)
 .skip))
 (.seq
 (.seq
 (.reg false [⟨3, .mv (.k (.sc (.int .i64 0))), none, false⟩])
 (.cln [] [2]
 (.block 0
 (.loop [0, 3] b96_1))))
 (.seq
 (.reg false [⟨2, .mv (.k (.sc (.bool true))), none, false⟩])
 .ret))))⟩
attribute [simp] i96
set_option maxRecDepth 1000000 in
theorem c96 : cFn Try.prog 96 [[], [0, 3], [], [2]] = some i96 := by kernel_rfl
theorem e96 : enterOk Try.prog 96 = true := by kernel_rfl
def i97 : Ev.Fn := ⟨3, 15, [.tmp 6],
 (.seq
 (.reg false [⟨6, .mv (.k (.sc (.bool false))), none, false⟩])
 (.seq
 (.reg false [⟨7, .mv (.t 0), none, false⟩,
 ⟨8, .mv (.t 1), none, false⟩,
 ⟨9, .ar .geq false (.t 7) (.t 8), none, false⟩,
 ⟨10, .mv (.t 9), none, false⟩,
 ⟨11, .mv (.t 0), (some (10, true)), false⟩,
 ⟨12, .mv (.t 2), (some (10, true)), false⟩,
 ⟨13, .ar .leq false (.t 11) (.t 12), (some (10, true)), false⟩,
 ⟨14, .pk (.t 10) (.t 13) (.k (.sc (.bool false))), none, false⟩,
 ⟨6, .mv (.t 14), none, false⟩])
 .ret))⟩
attribute [simp] i97
set_option maxRecDepth 1000000 in
theorem c97 : cFn Try.prog 97 [[]] = some i97 := by kernel_rfl
theorem e97 : enterOk Try.prog 97 = true := by kernel_rfl
def i99 : Ev.Fn := ⟨2, 10, [.tmp 4],
 (.seq
 (.reg false [⟨4, .mv (.k (.sc (.int .i64 0))), none, false⟩])
 (.seq
 (.seq
 (.reg false [⟨5, .mv (.t 0), none, false⟩,
 ⟨6, .mv (.t 1), none, false⟩,
 ⟨7, .ar .gtr false (.t 5) (.t 6), none, false⟩])
 (.ite (.t 7)
 (.seq
 (.reg false [⟨8, .mv (.t 0), none, false⟩,
 ⟨4, .mv (.t 8), none, false⟩])
 .ret)
 .skip))
 (.seq
 (.reg false [⟨9, .mv (.t 1), none, false⟩,
 ⟨4, .mv (.t 9), none, false⟩])
 .ret)))⟩
attribute [simp] i99
set_option maxRecDepth 1000000 in
theorem c99 : cFn Try.prog 99 [[]] = some i99 := by kernel_rfl
theorem e99 : enterOk Try.prog 99 = true := by kernel_rfl
def w101_1 : IC :=
(.seq
 (.seq
 (.reg false [⟨6, .mv (.t 4), none, false⟩,
 ⟨7, .mv (.t 0), none, false⟩,
 ⟨8, .ln false (.t 7), none, false⟩,
 ⟨9, .ar .lss false (.t 6) (.t 8), none, false⟩])
 (.ite (.t 9)
 .skip
 (.exit 0)))
 (.seq
 (.block 1
 (.seq
 (.reg false [⟨12, .mv (.t 0), none, false⟩,
 ⟨13, .mv (.t 4), none, false⟩,
 ⟨14, .ar .add false (.t 13) (.k (.sc (.int .i64 1))), none, false⟩,
 ⟨15, .mv (.t 0), none, false⟩,
 ⟨16, .ln false (.t 15), none, false⟩,
 ⟨17, .ar .rem false (.t 14) (.t 16), none, false⟩,
 ⟨18, .ia 2 (.t 12) (.t 17), none, false⟩,
 ⟨19, .ld 2 true (.t 18), none, false⟩,
 ⟨5, .al [(.sc (.int .i64 0)), (.sc (.int .i64 0))], none, false⟩,
 ⟨1, .so 2 (.t 5) (.t 19), none, true⟩])
 (.reg true [⟨20, .mv (.t 3), none, false⟩,
 ⟨21, .mv (.t 0), none, false⟩,
 ⟨22, .mv (.t 4), none, false⟩,
 ⟨23, .ia 2 (.t 21) (.t 22), none, false⟩,
 ⟨24, .fa 0 (.t 23), none, false⟩,
 ⟨25, .ld 1 false (.t 24), none, false⟩,
 ⟨26, .fa 1 (.t 5), none, false⟩,
 ⟨27, .ld 1 false (.t 26), none, false⟩,
 ⟨28, .ar .mul false (.t 25) (.t 27), none, false⟩,
 ⟨29, .mv (.t 0), none, false⟩,
 ⟨30, .mv (.t 4), none, false⟩,
 ⟨31, .ia 2 (.t 29) (.t 30), none, false⟩,
 ⟨32, .fa 1 (.t 31), none, false⟩,
 ⟨33, .ld 1 false (.t 32), none, false⟩,
 ⟨34, .fa 0 (.t 5), none, false⟩,
 ⟨35, .ld 1 false (.t 34), none, false⟩,
 ⟨36, .ar .mul false (.t 33) (.t 35), none, false⟩,
 ⟨37, .ar .sub false (.t 28) (.t 36), none, false⟩,
 ⟨38, .ar .add false (.t 20) (.t 37), none, false⟩,
 ⟨3, .mv (.t 38), none, false⟩])))
 (.reg false [⟨10, .mv (.t 4), none, false⟩,
 ⟨11, .ar .add false (.t 10) (.k (.sc (.int .i64 1))), none, false⟩,
 ⟨4, .mv (.t 11), none, false⟩])))
def b101_1 : IC := w101_1
theorem u101_1 (call : CallF) (st : St) : evC call b101_1 st = evC call w101_1 st := rfl
attribute [simp] u101_1 w101_1
def i101 : Ev.Fn := ⟨1, 40, [.tmp 2],
 (.seq
 (.reg false [⟨2, .mv (.k (.sc (.int .i64 0))), none, false⟩])
 (.seq
 (.reg false [⟨3, .mv (.k (.sc (.int .i64 0))), none, false⟩])
 (.seq
 (.seq
 (.reg false [⟨4, .mv (.k (.sc (.int .i64 0))), none, false⟩])
 (.cln [3] [2]
 (.block 0
 (.loop [0, 3, 4] b101_1))))
 (.seq
 (.reg false [⟨39, .mv (.t 3), none, false⟩,
 ⟨2, .mv (.t 39), none, false⟩])
 .ret))))⟩
attribute [simp] i101
set_option maxRecDepth 1000000 in
theorem c101 : cFn Try.prog 101 [[], [0, 3, 4], [3], [2]] = some i101 := by kernel_rfl
theorem e101 : enterOk Try.prog 101 = true := by kernel_rfl
def w102_1 : IC :=
(.seq
 (.seq
 (.reg false [⟨8, .mv (.t 4), none, false⟩,
 ⟨9, .mv (.t 0), none, false⟩,
 ⟨10, .ln false (.t 9), none, false⟩,
 ⟨11, .ar .lss false (.t 8) (.t 10), none, false⟩])
 (.ite (.t 11)
 .skip
 (.exit 0)))
 (.seq
 (.block 1
 (.reg false [⟨14, .mv (.t 3), none, false⟩,
 ⟨15, .mv (.t 4), none, false⟩,
 ⟨16, .mv (.t 0), none, false⟩,
 ⟨17, .mv (.t 4), none, false⟩,
 ⟨18, .ia 2 (.t 16) (.t 17), none, false⟩,
 ⟨19, .ld 2 true (.t 18), none, false⟩,
 ⟨20, .ca (.k (.cl 171 [])) [(.t 19)], none, false⟩,
 ⟨21, .ia 2 (.t 14) (.t 15), none, false⟩,
 ⟨1, .so 2 (.t 21) (.t 20), none, true⟩]))
 (.reg false [⟨12, .mv (.t 4), none, false⟩,
 ⟨13, .ar .add false (.t 12) (.k (.sc (.int .i64 1))), none, false⟩,
 ⟨4, .mv (.t 13), none, false⟩])))
def b102_1 : IC := w102_1
theorem u102_1 (call : CallF) (st : St) : evC call b102_1 st = evC call w102_1 st := rfl
attribute [simp] u102_1 w102_1
def i102 : Ev.Fn := ⟨1, 23, [.tmp 2],
 (.seq
 (.reg false [⟨2, .mv (.k .nl), none, false⟩])
 (.seq
 (.reg false [⟨5, .mv (.t 0), none, false⟩,
 ⟨6, .ln false (.t 5), none, false⟩,
 ⟨7, .ms 127 2 [(.sc (.int .i64 0)), (.sc (.int .i64 0))] (.t 6), none, false⟩,
 ⟨3, .mv (.t 7), none, false⟩])
 (.seq
 (.seq
 (.reg false [⟨4, .mv (.k (.sc (.int .i64 0))), none, false⟩])
 (.cln [3] [2]
 (.block 0
 (.loop [0, 3, 4] b102_1))))
 (.seq
 (.reg false [⟨22, .mv (.t 3), none, false⟩,
 ⟨2, .mv (.t 22), none, false⟩])
 .ret))))⟩
attribute [simp] i102
set_option maxRecDepth 1000000 in
theorem c102 : cFn Try.prog 102 [[], [0, 3, 4], [3], [2]] = some i102 := by kernel_rfl
theorem e102 : enterOk Try.prog 102 = true := by kernel_rfl
def w103_1 : IC :=
(.seq
 (.seq
 (.reg false [⟨8, .mv (.t 4), none, false⟩,
 ⟨9, .mv (.t 0), none, false⟩,
 ⟨10, .ln false (.t 9), none, false⟩,
 ⟨11, .ar .lss false (.t 8) (.t 10), none, false⟩])
 (.ite (.t 11)
 .skip
 (.exit 0)))
 (.seq
 (.block 1
 (.reg false [⟨14, .mv (.t 3), none, false⟩,
 ⟨15, .mv (.t 4), none, false⟩,
 ⟨16, .mv (.t 0), none, false⟩,
 ⟨17, .mv (.t 4), none, false⟩,
 ⟨18, .ia 2 (.t 16) (.t 17), none, false⟩,
 ⟨19, .ld 2 true (.t 18), none, false⟩,
 ⟨20, .ca (.k (.cl 172 [])) [(.t 19)], none, false⟩,
 ⟨21, .ia 2 (.t 14) (.t 15), none, false⟩,
 ⟨1, .so 2 (.t 21) (.t 20), none, true⟩]))
 (.reg false [⟨12, .mv (.t 4), none, false⟩,
 ⟨13, .ar .add false (.t 12) (.k (.sc (.int .i64 1))), none, false⟩,
 ⟨4, .mv (.t 13), none, false⟩])))
def b103_1 : IC := w103_1
theorem u103_1 (call : CallF) (st : St) : evC call b103_1 st = evC call w103_1 st := rfl
attribute [simp] u103_1 w103_1
def i103 : Ev.Fn := ⟨1, 23, [.tmp 2],
 (.seq
 (.reg false [⟨2, .mv (.k .nl), none, false⟩])
 (.seq
 (.reg false [⟨5, .mv (.t 0), none, false⟩,
 ⟨6, .ln false (.t 5), none, false⟩,
 ⟨7, .ms 158 2 [(.sc (.string ⟨#[]⟩)), .nl] (.t 6), none, false⟩,
 ⟨3, .mv (.t 7), none, false⟩])
 (.seq
 (.seq
 (.reg false [⟨4, .mv (.k (.sc (.int .i64 0))), none, false⟩])
 (.cln [3] [2]
 (.block 0
 (.loop [0, 3, 4] b103_1))))
 (.seq
 (.reg false [⟨22, .mv (.t 3), none, false⟩,
 ⟨2, .mv (.t 22), none, false⟩])
 .ret))))⟩
attribute [simp] i103
set_option maxRecDepth 1000000 in
theorem c103 : cFn Try.prog 103 [[], [0, 3, 4], [3], [2]] = some i103 := by kernel_rfl
theorem e103 : enterOk Try.prog 103 = true := by kernel_rfl
def w104_1 : IC :=
(.seq
 (.reg false [⟨35, .ar .lss false (.t 34) (.t 33), none, false⟩])
 (.seq
 (.ite (.t 35)
 .skip
 (.exit 0))
 (.seq
 (.block 1
 (.seq
 (.reg false [⟨36, .mv (.t 34), none, false⟩,
 ⟨37, .ia 2 (.t 32) (.t 34), none, false⟩,
 ⟨38, .ld 2 true (.t 37), none, false⟩,
 ⟨4, .al [(.sc (.int .i64 0)), (.sc (.int .i64 0))], none, false⟩,
 ⟨3, .mv (.t 36), none, false⟩,
 ⟨1, .so 2 (.t 4) (.t 38), none, true⟩])
 (.seq
 (.reg true [⟨39, .fa 0 (.t 4), none, false⟩,
 ⟨40, .ld 1 false (.t 39), none, false⟩,
 ⟨41, .fa 0 (.t 1), none, false⟩,
 ⟨42, .ld 1 false (.t 41), none, false⟩,
 ⟨43, .ca (.k (.cl 105 [])) [(.t 40), (.k (.sc (.int .i64 0))), (.t 42)], none, false⟩,
 ⟨44, .nt (.t 43), none, false⟩,
 ⟨45, .mv (.t 44), none, false⟩,
 ⟨46, .fa 1 (.t 4), (some (45, false)), false⟩,
 ⟨47, .ld 1 false (.t 46), (some (45, false)), false⟩,
 ⟨48, .fa 1 (.t 1), (some (45, false)), false⟩,
 ⟨49, .ld 1 false (.t 48), (some (45, false)), false⟩,
 ⟨50, .ca (.k (.cl 105 [])) [(.t 47), (.k (.sc (.int .i64 0))), (.t 49)], (some (45, false)), false⟩,
 ⟨51, .nt (.t 50), (some (45, false)), false⟩,
 ⟨52, .pk (.t 45) (.k (.sc (.bool true))) (.t 51), none, false⟩,
 ⟨53, .mv (.t 52), none, false⟩,
 ⟨54, .fa 2 (.t 1), (some (53, false)), false⟩,
 ⟨55, .ld 1 false (.t 54), (some (53, false)), false⟩,
 ⟨56, .mv (.t 3), (some (53, false)), false⟩,
 ⟨57, .sl 2 (.t 55) none (some (.t 56)), (some (53, false)), false⟩,
 ⟨58, .ld 2 true (.t 4), (some (53, false)), false⟩,
 ⟨59, .ca (.k (.cl 173 [])) [(.t 57), (.t 58)], (some (53, false)), false⟩,
 ⟨60, .pk (.t 53) (.k (.sc (.bool true))) (.t 59), none, false⟩])
 (.ite (.t 60)
 (.seq
 (.reg false [⟨2, .mv (.k (.sc (.bool false))), none, false⟩])
 .ret)
 .skip))))
 (.reg false [⟨61, .ar .add false (.t 34) (.k (.sc (.int .i64 1))), none, false⟩,
 ⟨34, .mv (.t 61), none, false⟩]))))
def b104_1 : IC := w104_1
theorem u104_1 (call : CallF) (st : St) : evC call b104_1 st = evC call w104_1 st := rfl
attribute [simp] u104_1 w104_1
def w104_2 : IC :=
(.seq
 (.reg false [⟨66, .ar .lss false (.t 65) (.t 64), none, false⟩])
 (.seq
 (.ite (.t 66)
 .skip
 (.exit 2))
 (.seq
 (.block 3
 (.seq
 (.reg false [⟨67, .mv (.t 65), none, false⟩,
 ⟨68, .ia 2 (.t 63) (.t 65), none, false⟩,
 ⟨69, .ld 2 true (.t 68), none, false⟩,
 ⟨6, .al [(.sc (.string ⟨#[]⟩)), .nl], none, false⟩,
 ⟨5, .mv (.t 67), none, false⟩,
 ⟨1, .so 2 (.t 6) (.t 69), none, true⟩])
 (.seq
 (.seq
 (.reg true [⟨70, .fa 0 (.t 6), none, false⟩,
 ⟨71, .ld 1 false (.t 70), none, false⟩,
 ⟨72, .ca (.k (.cl 174 [])) [(.t 71)], none, false⟩,
 ⟨73, .nt (.t 72), none, false⟩,
 ⟨74, .mv (.t 73), none, false⟩,
 ⟨75, .mv (.t 5), (some (74, false)), false⟩,
 ⟨76, .ar .gtr false (.t 75) (.k (.sc (.int .i64 0))), (some (74, false)), false⟩,
 ⟨77, .mv (.t 76), (some (74, false)), false⟩,
 ⟨78, .fa 3 (.t 1), (some (77, true)), false⟩,
 ⟨79, .ld 1 false (.t 78), (some (77, true)), false⟩,
 ⟨80, .mv (.t 5), (some (77, true)), false⟩,
 ⟨81, .ar .sub false (.t 80) (.k (.sc (.int .i64 1))), (some (77, true)), false⟩,
 ⟨82, .ia 2 (.t 79) (.t 81), (some (77, true)), false⟩,
 ⟨83, .fa 0 (.t 82), (some (77, true)), false⟩,
 ⟨84, .ld 1 false (.t 83), (some (77, true)), false⟩,
 ⟨85, .fa 0 (.t 6), (some (77, true)), false⟩,
 ⟨86, .ld 1 false (.t 85), (some (77, true)), false⟩,
 ⟨87, .ar .geq false (.t 84) (.t 86), (some (77, true)), false⟩,
 ⟨88, .pk (.t 77) (.t 87) (.k (.sc (.bool false))), (some (74, false)), false⟩,
 ⟨89, .pk (.t 74) (.k (.sc (.bool true))) (.t 88), none, false⟩])
 (.ite (.t 89)
 (.seq
 (.reg false [⟨2, .mv (.k (.sc (.bool false))), none, false⟩])
 .ret)
 .skip))
 (.seq
 (.reg false [⟨91, .fa 2 (.t 1), none, false⟩,
 ⟨92, .ld 1 false (.t 91), none, false⟩,
 ⟨93, .fa 1 (.t 6), none, false⟩,
 ⟨94, .ld 1 false (.t 93), none, false⟩,
 ⟨95, .ca (.k (.cl 175 [])) [(.t 92), (.t 94)], none, false⟩,
 ⟨90, .mv (.t 95), none, false⟩,
 ⟨96, .xt (.t 90) 0, none, false⟩,
 ⟨97, .xt (.t 90) 1, none, false⟩,
 ⟨7, .mv (.t 96), none, false⟩,
 ⟨8, .mv (.t 97), none, false⟩])
 (.seq
 (.reg false [⟨98, .mv (.t 8), none, false⟩,
 ⟨99, .nt (.t 98), none, false⟩,
 ⟨100, .mv (.t 99), none, false⟩,
 ⟨101, .mv (.t 7), (some (100, false)), false⟩,
 ⟨102, .ca (.k (.cl 176 [])) [(.t 101)], (some (100, false)), false⟩,
 ⟨103, .nt (.t 102), (some (100, false)), false⟩,
 ⟨104, .pk (.t 100) (.k (.sc (.bool true))) (.t 103), none, false⟩])
 (.ite (.t 104)
 (.seq
 (.reg false [⟨2, .mv (.k (.sc (.bool false))), none, false⟩])
 .ret)
 .skip))))))
 (.reg false [⟨105, .ar .add false (.t 65) (.k (.sc (.int .i64 1))), none, false⟩,
 ⟨65, .mv (.t 105), none, false⟩]))))
def b104_2 : IC := w104_2
theorem u104_2 (call : CallF) (st : St) : evC call b104_2 st = evC call w104_2 st := rfl
attribute [simp] u104_2 w104_2
def i104 : Ev.Fn := ⟨1, 106, [.tmp 2],
 (.seq
 (.reg false [⟨1, .bx (.t 0), none, false⟩,
 ⟨2, .mv (.k (.sc (.bool false))), none, false⟩])
 (.seq
 (.seq
 (.reg false [⟨9, .fa 0 (.t 1), none, false⟩,
 ⟨10, .ld 1 false (.t 9), none, false⟩,
 ⟨11, .ca (.k (.cl 105 [])) [(.t 10), (.k (.sc (.int .i64 10))), (.k (.sc (.int .i64 20000)))], none, false⟩,
 ⟨12, .nt (.t 11), none, false⟩,
 ⟨13, .mv (.t 12), none, false⟩,
 ⟨14, .fa 1 (.t 1), (some (13, false)), false⟩,
 ⟨15, .ld 1 false (.t 14), (some (13, false)), false⟩,
 ⟨16, .ca (.k (.cl 105 [])) [(.t 15), (.k (.sc (.int .i64 10))), (.k (.sc (.int .i64 20000)))], (some (13, false)), false⟩,
 ⟨17, .nt (.t 16), (some (13, false)), false⟩,
 ⟨18, .pk (.t 13) (.k (.sc (.bool true))) (.t 17), none, false⟩,
 ⟨19, .mv (.t 18), none, false⟩,
 ⟨20, .fa 2 (.t 1), (some (19, false)), false⟩,
 ⟨21, .ld 1 false (.t 20), (some (19, false)), false⟩,
 ⟨22, .ln false (.t 21), (some (19, false)), false⟩,
 ⟨23, .ar .gtr false (.t 22) (.k (.sc (.int .i64 48))), (some (19, false)), false⟩,
 ⟨24, .pk (.t 19) (.k (.sc (.bool true))) (.t 23), none, false⟩,
 ⟨25, .mv (.t 24), none, false⟩,
 ⟨26, .fa 3 (.t 1), (some (25, false)), false⟩,
 ⟨27, .ld 1 false (.t 26), (some (25, false)), false⟩,
 ⟨28, .ln false (.t 27), (some (25, false)), false⟩,
 ⟨29, .ar .gtr false (.t 28) (.k (.sc (.int .i64 24))), (some (25, false)), false⟩,
 ⟨30, .pk (.t 25) (.k (.sc (.bool true))) (.t 29), none, false⟩])
 (.ite (.t 30)
 (.seq
 (.reg false [⟨2, .mv (.k (.sc (.bool false))), none, false⟩])
 .ret)
 .skip))
 (.seq
 (.seq
 (.reg false [⟨31, .fa 2 (.t 1), none, false⟩,
 ⟨32, .ld 1 false (.t 31), none, false⟩,
 ⟨33, .ln false (.t 32), none, false⟩,
 ⟨34, .mv (.k (.sc (.int .i64 0))), none, false⟩])
 (.cln [1] [2]
 (.block 0
 (.loop [1, 32, 33, 34] b104_1))))
 (.seq
 (.seq
 (.reg false [⟨62, .fa 3 (.t 1), none, false⟩,
 ⟨63, .ld 1 false (.t 62), none, false⟩,
 ⟨64, .ln false (.t 63), none, false⟩,
 ⟨65, .mv (.k (.sc (.int .i64 0))), none, false⟩])
 (.cln [] [2]
 (.block 2
 (.loop [1, 63, 64, 65] b104_2))))
 (.seq
 (.reg false [⟨2, .mv (.k (.sc (.bool true))), none, false⟩])
 .ret)))))⟩
attribute [simp] i104
set_option maxRecDepth 1000000 in
theorem c104 : cFn Try.prog 104 [[], [1, 32, 33, 34], [1], [2], [1, 63, 64, 65], [], [2]] = some i104 := by kernel_rfl
theorem e104 : enterOk Try.prog 104 = true := by kernel_rfl
def i105 : Ev.Fn := ⟨3, 15, [.tmp 6],
 (.seq
 (.reg false [⟨6, .mv (.k (.sc (.bool false))), none, false⟩])
 (.seq
 (.reg false [⟨7, .mv (.t 0), none, false⟩,
 ⟨8, .mv (.t 1), none, false⟩,
 ⟨9, .ar .geq false (.t 7) (.t 8), none, false⟩,
 ⟨10, .mv (.t 9), none, false⟩,
 ⟨11, .mv (.t 0), (some (10, true)), false⟩,
 ⟨12, .mv (.t 2), (some (10, true)), false⟩,
 ⟨13, .ar .leq false (.t 11) (.t 12), (some (10, true)), false⟩,
 ⟨14, .pk (.t 10) (.t 13) (.k (.sc (.bool false))), none, false⟩,
 ⟨6, .mv (.t 14), none, false⟩])
 .ret))⟩
attribute [simp] i105
set_option maxRecDepth 1000000 in
theorem c105 : cFn Try.prog 105 [[]] = some i105 := by kernel_rfl
theorem e105 : enterOk Try.prog 105 = true := by kernel_rfl
def w108_1 : IC :=
(.seq
 (.reg false [⟨10, .ar .lss false (.t 9) (.t 8), none, false⟩])
 (.seq
 (.ite (.t 10)
 .skip
 (.exit 0))
 (.seq
 (.block 1
 (.seq
 (.reg false [⟨11, .mv (.t 9), none, false⟩,
 ⟨12, .ia 2 (.t 7) (.t 9), none, false⟩,
 ⟨13, .ld 2 true (.t 12), none, false⟩,
 ⟨5, .al [(.sc (.int .i64 0)), (.sc (.int .i64 0))], none, false⟩,
 ⟨4, .mv (.t 11), none, false⟩,
 ⟨1, .so 2 (.t 5) (.t 13), none, true⟩])
 (.seq
 (.reg false [⟨14, .mv (.t 0), none, false⟩,
 ⟨15, .mv (.t 4), none, false⟩,
 ⟨16, .ar .add false (.t 15) (.k (.sc (.int .i64 1))), none, false⟩,
 ⟨17, .mv (.t 0), none, false⟩,
 ⟨18, .ln false (.t 17), none, false⟩,
 ⟨19, .ar .rem false (.t 16) (.t 18), none, false⟩,
 ⟨20, .ia 2 (.t 14) (.t 19), none, false⟩,
 ⟨21, .ld 2 true (.t 20), none, false⟩,
 ⟨6, .al [(.sc (.int .i64 0)), (.sc (.int .i64 0))], none, false⟩,
 ⟨1, .so 2 (.t 6) (.t 21), none, true⟩])
 (.reg false [⟨22, .mv (.t 3), none, false⟩,
 ⟨23, .fa 0 (.t 5), none, false⟩,
 ⟨24, .ld 1 false (.t 23), none, false⟩,
 ⟨25, .fa 1 (.t 6), none, false⟩,
 ⟨26, .ld 1 false (.t 25), none, false⟩,
 ⟨27, .ar .mul false (.t 24) (.t 26), none, false⟩,
 ⟨28, .fa 1 (.t 5), none, false⟩,
 ⟨29, .ld 1 false (.t 28), none, false⟩,
 ⟨30, .fa 0 (.t 6), none, false⟩,
 ⟨31, .ld 1 false (.t 30), none, false⟩,
 ⟨32, .ar .mul false (.t 29) (.t 31), none, false⟩,
 ⟨33, .ar .sub false (.t 27) (.t 32), none, false⟩,
 ⟨34, .ar .add false (.t 22) (.t 33), none, false⟩,
 ⟨3, .mv (.t 34), none, false⟩]))))
 (.reg false [⟨35, .ar .add false (.t 9) (.k (.sc (.int .i64 1))), none, false⟩,
 ⟨9, .mv (.t 35), none, false⟩]))))
def b108_1 : IC := w108_1
theorem u108_1 (call : CallF) (st : St) : evC call b108_1 st = evC call w108_1 st := rfl
attribute [simp] u108_1 w108_1
def i108 : Ev.Fn := ⟨1, 37, [.tmp 2],
 (.seq
 (.reg false [⟨2, .mv (.k (.sc (.int .i64 0))), none, false⟩])
 (.seq
 (.reg false [⟨3, .mv (.k (.sc (.int .i64 0))), none, false⟩])
 (.seq
 (.seq
 (.reg false [⟨7, .mv (.t 0), none, false⟩,
 ⟨8, .ln false (.t 7), none, false⟩,
 ⟨9, .mv (.k (.sc (.int .i64 0))), none, false⟩])
 (.cln [3] [2]
 (.block 0
 (.loop [0, 3, 7, 8, 9] b108_1))))
 (.seq
 (.reg false [⟨36, .mv (.t 3), none, false⟩,
 ⟨2, .mv (.t 36), none, false⟩])
 .ret))))⟩
attribute [simp] i108
set_option maxRecDepth 1000000 in
theorem c108 : cFn Try.prog 108 [[], [0, 3, 7, 8, 9], [3], [2]] = some i108 := by kernel_rfl
theorem e108 : enterOk Try.prog 108 = true := by kernel_rfl
def w109_1 : IC :=
(.seq
 (.seq
 (.reg false [⟨11, .mv (.t 5), none, false⟩,
 ⟨12, .mv (.t 0), none, false⟩,
 ⟨13, .ln false (.t 12), none, false⟩,
 ⟨14, .ar .lss false (.t 11) (.t 13), none, false⟩])
 (.ite (.t 14)
 .skip
 (.exit 0)))
 (.seq
 (.block 1
 (.seq
 (.reg true [⟨17, .mv (.t 0), none, false⟩,
 ⟨18, .mv (.t 5), none, false⟩,
 ⟨19, .ia 2 (.t 17) (.t 18), none, false⟩,
 ⟨20, .ld 2 true (.t 19), none, false⟩,
 ⟨21, .mv (.t 1), none, false⟩,
 ⟨22, .mv (.t 5), none, false⟩,
 ⟨23, .ia 2 (.t 21) (.t 22), none, false⟩,
 ⟨24, .ld 2 true (.t 23), none, false⟩,
 ⟨25, .ca (.k (.cl 180 [])) [(.t 20), (.t 24)], none, false⟩,
 ⟨26, .nt (.t 25), none, false⟩])
 (.ite (.t 26)
 (.seq
 (.reg false [⟨4, .mv (.k (.sc (.bool false))), none, false⟩])
 .ret)
 .skip)))
 (.reg false [⟨15, .mv (.t 5), none, false⟩,
 ⟨16, .ar .add false (.t 15) (.k (.sc (.int .i64 1))), none, false⟩,
 ⟨5, .mv (.t 16), none, false⟩])))
def b109_1 : IC := w109_1
theorem u109_1 (call : CallF) (st : St) : evC call b109_1 st = evC call w109_1 st := rfl
attribute [simp] u109_1 w109_1
def i109 : Ev.Fn := ⟨2, 27, [.tmp 4],
 (.seq
 (.reg false [⟨4, .mv (.k (.sc (.bool false))), none, false⟩])
 (.seq
 (.seq
 (.reg false [⟨6, .mv (.t 0), none, false⟩,
 ⟨7, .ln false (.t 6), none, false⟩,
 ⟨8, .mv (.t 1), none, false⟩,
 ⟨9, .ln false (.t 8), none, false⟩,
 ⟨10, .ar .neq false (.t 7) (.t 9), none, false⟩])
 (.ite (.t 10)
 (.seq
 (.reg false [⟨4, .mv (.k (.sc (.bool false))), none, false⟩])
 .ret)
 .skip))
 (.seq
 (.seq
 (.reg false [⟨5, .mv (.k (.sc (.int .i64 0))), none, false⟩])
 (.cln [] [4]
 (.block 0
 (.loop [0, 1, 5] b109_1))))
 (.seq
 (.reg false [⟨4, .mv (.k (.sc (.bool true))), none, false⟩])
 .ret))))⟩
attribute [simp] i109
set_option maxRecDepth 1000000 in
theorem c109 : cFn Try.prog 109 [[], [0, 1, 5], [], [4]] = some i109 := by kernel_rfl
theorem e109 : enterOk Try.prog 109 = true := by kernel_rfl
def w110_1 : IC :=
(.seq
 (.seq
 (.reg false [⟨11, .mv (.t 5), none, false⟩,
 ⟨12, .mv (.t 0), none, false⟩,
 ⟨13, .ln false (.t 12), none, false⟩,
 ⟨14, .ar .lss false (.t 11) (.t 13), none, false⟩])
 (.ite (.t 14)
 .skip
 (.exit 0)))
 (.seq
 (.block 1
 (.seq
 (.reg true [⟨17, .mv (.t 0), none, false⟩,
 ⟨18, .mv (.t 5), none, false⟩,
 ⟨19, .ia 2 (.t 17) (.t 18), none, false⟩,
 ⟨20, .ld 2 true (.t 19), none, false⟩,
 ⟨21, .mv (.t 1), none, false⟩,
 ⟨22, .mv (.t 5), none, false⟩,
 ⟨23, .ia 2 (.t 21) (.t 22), none, false⟩,
 ⟨24, .ld 2 true (.t 23), none, false⟩,
 ⟨25, .ca (.k (.cl 181 [])) [(.t 20), (.t 24)], none, false⟩,
 ⟨26, .nt (.t 25), none, false⟩])
 (.ite (.t 26)
 (.seq
 (.reg false [⟨4, .mv (.k (.sc (.bool false))), none, false⟩])
 .ret)
 .skip)))
 (.reg false [⟨15, .mv (.t 5), none, false⟩,
 ⟨16, .ar .add false (.t 15) (.k (.sc (.int .i64 1))), none, false⟩,
 ⟨5, .mv (.t 16), none, false⟩])))
def b110_1 : IC := w110_1
theorem u110_1 (call : CallF) (st : St) : evC call b110_1 st = evC call w110_1 st := rfl
attribute [simp] u110_1 w110_1
def i110 : Ev.Fn := ⟨2, 27, [.tmp 4],
 (.seq
 (.reg false [⟨4, .mv (.k (.sc (.bool false))), none, false⟩])
 (.seq
 (.seq
 (.reg false [⟨6, .mv (.t 0), none, false⟩,
 ⟨7, .ln false (.t 6), none, false⟩,
 ⟨8, .mv (.t 1), none, false⟩,
 ⟨9, .ln false (.t 8), none, false⟩,
 ⟨10, .ar .neq false (.t 7) (.t 9), none, false⟩])
 (.ite (.t 10)
 (.seq
 (.reg false [⟨4, .mv (.k (.sc (.bool false))), none, false⟩])
 .ret)
 .skip))
 (.seq
 (.seq
 (.reg false [⟨5, .mv (.k (.sc (.int .i64 0))), none, false⟩])
 (.cln [] [4]
 (.block 0
 (.loop [0, 1, 5] b110_1))))
 (.seq
 (.reg false [⟨4, .mv (.k (.sc (.bool true))), none, false⟩])
 .ret))))⟩
attribute [simp] i110
set_option maxRecDepth 1000000 in
theorem c110 : cFn Try.prog 110 [[], [0, 1, 5], [], [4]] = some i110 := by kernel_rfl
theorem e110 : enterOk Try.prog 110 = true := by kernel_rfl
def w111_1 : IC :=
(.seq
 (.seq
 (.reg false [⟨6, .mv (.t 5), none, false⟩,
 ⟨7, .mv (.t 0), none, false⟩,
 ⟨8, .ln false (.t 7), none, false⟩,
 ⟨9, .ar .lss false (.t 6) (.t 8), none, false⟩])
 (.ite (.t 9)
 .skip
 (.exit 0)))
 (.seq
 (.block 1
 (.seq
 (.reg false [⟨12, .mv (.t 0), none, false⟩,
 ⟨13, .mv (.t 5), none, false⟩,
 ⟨14, .mv (.t 1), none, false⟩,
 ⟨15, .ia 2 (.t 12) (.t 13), none, false⟩,
 ⟨16, .fa 0 (.t 15), none, false⟩,
 ⟨1, .so 1 (.t 16) (.t 14), none, true⟩])
 (.seq
 (.reg false [⟨17, .mv (.t 1), none, false⟩,
 ⟨18, .ar .add false (.t 17) (.k (.sc (.int .i64 1))), none, false⟩,
 ⟨1, .mv (.t 18), none, false⟩])
 (.seq
 (.reg false [⟨19, .mv (.t 0), none, false⟩,
 ⟨20, .mv (.t 5), none, false⟩,
 ⟨21, .mv (.t 1), none, false⟩,
 ⟨22, .ia 2 (.t 19) (.t 20), none, false⟩,
 ⟨23, .fa 1 (.t 22), none, false⟩,
 ⟨1, .so 1 (.t 23) (.t 21), none, true⟩])
 (.reg false [⟨24, .mv (.t 1), none, false⟩,
 ⟨25, .ar .add false (.t 24) (.k (.sc (.int .i64 1))), none, false⟩,
 ⟨1, .mv (.t 25), none, false⟩])))))
 (.reg false [⟨10, .mv (.t 5), none, false⟩,
 ⟨11, .ar .add false (.t 10) (.k (.sc (.int .i64 1))), none, false⟩,
 ⟨5, .mv (.t 11), none, false⟩])))
def b111_1 : IC := w111_1
theorem u111_1 (call : CallF) (st : St) : evC call b111_1 st = evC call w111_1 st := rfl
attribute [simp] u111_1 w111_1
def i111 : Ev.Fn := ⟨2, 27, [.tmp 4],
 (.seq
 (.reg false [⟨4, .mv (.k (.sc (.int .i64 0))), none, false⟩])
 (.seq
 (.seq
 (.reg false [⟨5, .mv (.k (.sc (.int .i64 0))), none, false⟩])
 (.cln [1, 100000] [4, 100000]
 (.block 0
 (.loop [0, 1, 5, 100000] b111_1))))
 (.seq
 (.reg false [⟨26, .mv (.t 1), none, false⟩,
 ⟨4, .mv (.t 26), none, false⟩])
 .ret)))⟩
attribute [simp] i111
set_option maxRecDepth 1000000 in
theorem c111 : cFn Try.prog 111 [[], [0, 1, 5, 100000], [1, 100000], [4, 100000]] = some i111 := by kernel_rfl
theorem e111 : enterOk Try.prog 111 = true := by kernel_rfl
def w112_1 : IC :=
(.seq
 (.seq
 (.reg false [⟨6, .mv (.t 5), none, false⟩,
 ⟨7, .mv (.t 0), none, false⟩,
 ⟨8, .ln false (.t 7), none, false⟩,
 ⟨9, .ar .lss false (.t 6) (.t 8), none, false⟩])
 (.ite (.t 9)
 .skip
 (.exit 0)))
 (.seq
 (.block 1
 (.seq
 (.reg false [⟨12, .mv (.t 0), none, false⟩,
 ⟨13, .mv (.t 5), none, false⟩,
 ⟨14, .mv (.t 1), none, false⟩,
 ⟨15, .ca (.k (.cl 77 [])) [(.t 14)], none, false⟩,
 ⟨16, .ia 2 (.t 12) (.t 13), none, false⟩,
 ⟨17, .fa 0 (.t 16), none, false⟩,
 ⟨1, .so 1 (.t 17) (.t 15), none, true⟩])
 (.seq
 (.reg false [⟨18, .mv (.t 1), none, false⟩,
 ⟨19, .ar .add false (.t 18) (.k (.sc (.int .i64 1))), none, false⟩,
 ⟨1, .mv (.t 19), none, false⟩])
 (.rgw [⟨20, .mv (.t 0), none, false⟩,
 ⟨21, .mv (.t 5), none, false⟩,
 ⟨22, .ia 2 (.t 20) (.t 21), none, false⟩,
 ⟨23, .fa 1 (.t 22), none, false⟩,
 ⟨24, .ld 1 false (.t 23), none, false⟩,
 ⟨25, .mv (.t 1), none, false⟩,
 ⟨26, .cw 30 [] [(.t 24), (.t 25)], none, false⟩,
 ⟨1, .mv (.t 26), none, false⟩]))))
 (.reg false [⟨10, .mv (.t 5), none, false⟩,
 ⟨11, .ar .add false (.t 10) (.k (.sc (.int .i64 1))), none, false⟩,
 ⟨5, .mv (.t 11), none, false⟩])))
def b112_1 : IC := w112_1
theorem u112_1 (call : CallF) (st : St) : evC call b112_1 st = evC call w112_1 st := rfl
attribute [simp] u112_1 w112_1
def i112 : Ev.Fn := ⟨2, 28, [.tmp 4],
 (.seq
 (.reg false [⟨4, .mv (.k (.sc (.int .i64 0))), none, false⟩])
 (.seq
 (.seq
 (.reg false [⟨5, .mv (.k (.sc (.int .i64 0))), none, false⟩])
 (.cln [1, 100000] [4, 100000]
 (.block 0
 (.loop [0, 1, 5, 100000] b112_1))))
 (.seq
 (.reg false [⟨27, .mv (.t 1), none, false⟩,
 ⟨4, .mv (.t 27), none, false⟩])
 .ret)))⟩
attribute [simp] i112
set_option maxRecDepth 1000000 in
theorem c112 : cFn Try.prog 112 [[30], [0, 1, 5, 100000], [1, 100000], [4, 100000]] = some i112 := by kernel_rfl
theorem e112 : enterOk Try.prog 112 = true := by kernel_rfl
def w115_1 : IC :=
(.seq
 (.seq
 (.reg false [⟨8, .mv (.t 7), none, false⟩,
 ⟨9, .mv (.t 0), none, false⟩,
 ⟨10, .nc (.t 9), none, false⟩,
 ⟨11, .fa 3 (.t 10), none, false⟩,
 ⟨12, .ld 1 false (.t 11), none, false⟩,
 ⟨13, .ln false (.t 12), none, false⟩,
 ⟨14, .ar .lss false (.t 8) (.t 13), none, false⟩])
 (.ite (.t 14)
 .skip
 (.exit 0)))
 (.seq
 (.block 1
 (.seq
 (.reg false [⟨17, .mv (.t 7), none, false⟩,
 ⟨18, .mv (.t 2), none, false⟩,
 ⟨19, .ar .neq false (.t 17) (.t 18), none, false⟩,
 ⟨20, .mv (.t 19), none, false⟩,
 ⟨21, .mv (.t 0), (some (20, true)), false⟩,
 ⟨22, .nc (.t 21), (some (20, true)), false⟩,
 ⟨23, .fa 3 (.t 22), (some (20, true)), false⟩,
 ⟨24, .ld 1 false (.t 23), (some (20, true)), false⟩,
 ⟨25, .mv (.t 7), (some (20, true)), false⟩,
 ⟨26, .ia 2 (.t 24) (.t 25), (some (20, true)), false⟩,
 ⟨27, .fa 1 (.t 26), (some (20, true)), false⟩,
 ⟨28, .ld 1 false (.t 27), (some (20, true)), false⟩,
 ⟨29, .mv (.t 1), (some (20, true)), false⟩,
 ⟨30, .ca (.k (.cl 158 [])) [(.t 28), (.t 29)], (some (20, true)), false⟩,
 ⟨31, .pk (.t 20) (.t 30) (.k (.sc (.bool false))), none, false⟩])
 (.ite (.t 31)
 (.seq
 (.reg false [⟨6, .mv (.k (.sc (.bool true))), none, false⟩])
 .ret)
 .skip)))
 (.reg false [⟨15, .mv (.t 7), none, false⟩,
 ⟨16, .ar .add false (.t 15) (.k (.sc (.int .i64 1))), none, false⟩,
 ⟨7, .mv (.t 16), none, false⟩])))
def b115_1 : IC := w115_1
theorem u115_1 (call : CallF) (st : St) : evC call b115_1 st = evC call w115_1 st := rfl
attribute [simp] u115_1 w115_1
def i115 : Ev.Fn := ⟨3, 32, [.tmp 6],
 (.seq
 (.reg false [⟨6, .mv (.k (.sc (.bool false))), none, false⟩])
 (.seq
 (.seq
 (.reg false [⟨7, .mv (.k (.sc (.int .i64 0))), none, false⟩])
 (.cln [] [6]
 (.block 0
 (.loop [0, 1, 2, 7] b115_1))))
 (.seq
 (.reg false [⟨6, .mv (.k (.sc (.bool false))), none, false⟩])
 .ret)))⟩
attribute [simp] i115
set_option maxRecDepth 1000000 in
theorem c115 : cFn Try.prog 115 [[], [0, 1, 2, 7], [], [6]] = some i115 := by kernel_rfl
theorem e115 : enterOk Try.prog 115 = true := by kernel_rfl
def w118_1 : IC :=
(.seq
 (.reg false [⟨10, .ar .lss false (.t 9) (.t 8), none, false⟩])
 (.seq
 (.ite (.t 10)
 .skip
 (.exit 0))
 (.seq
 (.block 1
 (.seq
 (.reg false [⟨11, .mv (.t 9), none, false⟩,
 ⟨4, .al [(.sc (.int .i64 0))], none, false⟩,
 ⟨1, .so 1 (.t 4) (.t 11), none, true⟩])
 (.seq
 (.reg false [⟨12, .fa 3 (.t 1), none, false⟩,
 ⟨13, .ld 1 false (.t 12), none, false⟩,
 ⟨14, .mf 187 [(.t 4)], none, false⟩,
 ⟨15, .ca (.k (.cl 186 [])) [(.t 13), (.t 14)], none, false⟩,
 ⟨16, .nt (.t 15), none, false⟩])
 (.ite (.t 16)
 (.reg false [⟨17, .mv (.t 3), none, false⟩,
 ⟨18, .ld 1 false (.t 4), none, false⟩,
 ⟨19, .bs 2 1 [(.sc (.int .i64 0))] 1 [(0, (.t 18))], none, false⟩,
 ⟨20, .ap 2 1 false (.t 17) (.t 19), none, false⟩,
 ⟨3, .mv (.t 20), none, false⟩])
 .skip))))
 (.reg false [⟨21, .ar .add false (.t 9) (.k (.sc (.int .i64 1))), none, false⟩,
 ⟨9, .mv (.t 21), none, false⟩]))))
def b118_1 : IC := w118_1
theorem u118_1 (call : CallF) (st : St) : evC call b118_1 st = evC call w118_1 st := rfl
attribute [simp] u118_1 w118_1
def i118 : Ev.Fn := ⟨1, 23, [.tmp 2],
 (.seq
 (.reg false [⟨1, .bx (.t 0), none, false⟩,
 ⟨2, .mv (.k .nl), none, false⟩])
 (.seq
 (.reg false [⟨5, .bs 2 1 [(.sc (.int .i64 0))] 0 [], none, false⟩,
 ⟨3, .mv (.t 5), none, false⟩])
 (.seq
 (.seq
 (.reg false [⟨6, .fa 2 (.t 1), none, false⟩,
 ⟨7, .ld 1 false (.t 6), none, false⟩,
 ⟨8, .ln false (.t 7), none, false⟩,
 ⟨9, .mv (.k (.sc (.int .i64 0))), none, false⟩])
 (.cln [3] [2]
 (.block 0
 (.loop [1, 3, 8, 9] b118_1))))
 (.seq
 (.reg false [⟨22, .mv (.t 3), none, false⟩,
 ⟨2, .mv (.t 22), none, false⟩])
 .ret))))⟩
attribute [simp] i118
set_option maxRecDepth 1000000 in
theorem c118 : cFn Try.prog 118 [[], [1, 3, 8, 9], [3], [2]] = some i118 := by kernel_rfl
theorem e118 : enterOk Try.prog 118 = true := by kernel_rfl
def i134 : Ev.Fn := ⟨1, 9, [.cell 2 4 true, .tmp 3],
 (.seq
 (.reg false [⟨1, .bx (.t 0), none, false⟩,
 ⟨2, .al [(.sc (.int .i64 0)), (.sc (.int .i64 0)), .nl, .nl], none, false⟩,
 ⟨3, .mv (.k (.sc (.int .i64 0))), none, false⟩])
 (.seq
 (.seq
 (.reg false [⟨4, .ld 4 true (.t 1), none, false⟩,
 ⟨5, .ca (.k (.cl 104 [])) [(.t 4)], none, false⟩,
 ⟨6, .nt (.t 5), none, false⟩])
 (.ite (.t 6)
 (.seq
 (.reg false [⟨7, .bd [(.sc (.int .i64 0)), (.sc (.int .i64 0)), .nl, .nl] [], none, false⟩,
 ⟨1, .so 4 (.t 2) (.t 7), none, true⟩,
 ⟨3, .mv (.k (.sc (.int .i64 6))), none, false⟩])
 .ret)
 .skip))
 (.seq
 (.reg false [⟨8, .ld 4 true (.t 1), none, false⟩,
 ⟨1, .so 4 (.t 2) (.t 8), none, true⟩,
 ⟨3, .mv (.k (.sc (.int .i64 0))), none, false⟩])
 .ret)))⟩
attribute [simp] i134
set_option maxRecDepth 1000000 in
theorem c134 : cFn Try.prog 134 [[]] = some i134 := by kernel_rfl
theorem e134 : enterOk Try.prog 134 = true := by kernel_rfl
def w135_1 : IC :=
(.seq
 (.seq
 (.reg false [⟨6, .mv (.t 5), none, false⟩,
 ⟨7, .mv (.t 0), none, false⟩,
 ⟨8, .ln false (.t 7), none, false⟩,
 ⟨9, .ar .lss false (.t 6) (.t 8), none, false⟩])
 (.ite (.t 9)
 .skip
 (.exit 0)))
 (.seq
 (.block 1
 (.seq
 (.seq
 (.reg false [⟨12, .mv (.t 0), none, false⟩,
 ⟨13, .mv (.t 5), none, false⟩,
 ⟨14, .ia 2 (.t 12) (.t 13), none, false⟩,
 ⟨15, .fa 0 (.t 14), none, false⟩,
 ⟨16, .ld 1 false (.t 15), none, false⟩,
 ⟨17, .mv (.t 1), none, false⟩,
 ⟨18, .ar .neq false (.t 16) (.t 17), none, false⟩])
 (.ite (.t 18)
 (.seq
 (.reg false [⟨4, .mv (.k (.sc (.int .i64 (-1)))), none, false⟩])
 .ret)
 .skip))
 (.seq
 (.reg false [⟨19, .mv (.t 1), none, false⟩,
 ⟨20, .ar .add false (.t 19) (.k (.sc (.int .i64 1))), none, false⟩,
 ⟨1, .mv (.t 20), none, false⟩])
 (.seq
 (.seq
 (.reg false [⟨21, .mv (.t 0), none, false⟩,
 ⟨22, .mv (.t 5), none, false⟩,
 ⟨23, .ia 2 (.t 21) (.t 22), none, false⟩,
 ⟨24, .fa 1 (.t 23), none, false⟩,
 ⟨25, .ld 1 false (.t 24), none, false⟩,
 ⟨26, .mv (.t 1), none, false⟩,
 ⟨27, .ar .neq false (.t 25) (.t 26), none, false⟩])
 (.ite (.t 27)
 (.seq
 (.reg false [⟨4, .mv (.k (.sc (.int .i64 (-1)))), none, false⟩])
 .ret)
 .skip))
 (.reg false [⟨28, .mv (.t 1), none, false⟩,
 ⟨29, .ar .add false (.t 28) (.k (.sc (.int .i64 1))), none, false⟩,
 ⟨1, .mv (.t 29), none, false⟩])))))
 (.reg false [⟨10, .mv (.t 5), none, false⟩,
 ⟨11, .ar .add false (.t 10) (.k (.sc (.int .i64 1))), none, false⟩,
 ⟨5, .mv (.t 11), none, false⟩])))
def b135_1 : IC := w135_1
theorem u135_1 (call : CallF) (st : St) : evC call b135_1 st = evC call w135_1 st := rfl
attribute [simp] u135_1 w135_1
def i135 : Ev.Fn := ⟨2, 31, [.tmp 4],
 (.seq
 (.reg false [⟨4, .mv (.k (.sc (.int .i64 0))), none, false⟩])
 (.seq
 (.seq
 (.reg false [⟨5, .mv (.k (.sc (.int .i64 0))), none, false⟩])
 (.cln [1] [4]
 (.block 0
 (.loop [0, 1, 5] b135_1))))
 (.seq
 (.reg false [⟨30, .mv (.t 1), none, false⟩,
 ⟨4, .mv (.t 30), none, false⟩])
 .ret)))⟩
attribute [simp] i135
set_option maxRecDepth 1000000 in
theorem c135 : cFn Try.prog 135 [[], [0, 1, 5], [1], [4]] = some i135 := by kernel_rfl
theorem e135 : enterOk Try.prog 135 = true := by kernel_rfl
def w136_1 : IC :=
(.seq
 (.seq
 (.reg false [⟨6, .mv (.t 5), none, false⟩,
 ⟨7, .mv (.t 0), none, false⟩,
 ⟨8, .ln false (.t 7), none, false⟩,
 ⟨9, .ar .lss false (.t 6) (.t 8), none, false⟩])
 (.ite (.t 9)
 .skip
 (.exit 0)))
 (.seq
 (.block 1
 (.seq
 (.seq
 (.reg true [⟨12, .mv (.t 0), none, false⟩,
 ⟨13, .mv (.t 5), none, false⟩,
 ⟨14, .ia 2 (.t 12) (.t 13), none, false⟩,
 ⟨15, .fa 0 (.t 14), none, false⟩,
 ⟨16, .ld 1 false (.t 15), none, false⟩,
 ⟨17, .mv (.t 1), none, false⟩,
 ⟨18, .ca (.k (.cl 77 [])) [(.t 17)], none, false⟩,
 ⟨19, .ar .neq false (.t 16) (.t 18), none, false⟩])
 (.ite (.t 19)
 (.seq
 (.reg false [⟨4, .mv (.k (.sc (.int .i64 (-1)))), none, false⟩])
 .ret)
 .skip))
 (.seq
 (.reg false [⟨20, .mv (.t 1), none, false⟩,
 ⟨21, .ar .add false (.t 20) (.k (.sc (.int .i64 1))), none, false⟩,
 ⟨1, .mv (.t 21), none, false⟩])
 (.seq
 (.reg false [⟨22, .mv (.t 0), none, false⟩,
 ⟨23, .mv (.t 5), none, false⟩,
 ⟨24, .ia 2 (.t 22) (.t 23), none, false⟩,
 ⟨25, .fa 1 (.t 24), none, false⟩,
 ⟨26, .ld 1 false (.t 25), none, false⟩,
 ⟨27, .mv (.t 1), none, false⟩,
 ⟨28, .ca (.k (.cl 31 [])) [(.t 26), (.t 27)], none, false⟩,
 ⟨1, .mv (.t 28), none, false⟩])
 (.seq
 (.reg false [⟨29, .mv (.t 1), none, false⟩,
 ⟨30, .ar .lss false (.t 29) (.k (.sc (.int .i64 0))), none, false⟩])
 (.ite (.t 30)
 (.seq
 (.reg false [⟨4, .mv (.k (.sc (.int .i64 (-1)))), none, false⟩])
 .ret)
 .skip))))))
 (.reg false [⟨10, .mv (.t 5), none, false⟩,
 ⟨11, .ar .add false (.t 10) (.k (.sc (.int .i64 1))), none, false⟩,
 ⟨5, .mv (.t 11), none, false⟩])))
def b136_1 : IC := w136_1
theorem u136_1 (call : CallF) (st : St) : evC call b136_1 st = evC call w136_1 st := rfl
attribute [simp] u136_1 w136_1
def i136 : Ev.Fn := ⟨2, 32, [.tmp 4],
 (.seq
 (.reg false [⟨4, .mv (.k (.sc (.int .i64 0))), none, false⟩])
 (.seq
 (.seq
 (.reg false [⟨5, .mv (.k (.sc (.int .i64 0))), none, false⟩])
 (.cln [1] [4]
 (.block 0
 (.loop [0, 1, 5] b136_1))))
 (.seq
 (.reg false [⟨31, .mv (.t 1), none, false⟩,
 ⟨4, .mv (.t 31), none, false⟩])
 .ret)))⟩
attribute [simp] i136
set_option maxRecDepth 1000000 in
theorem c136 : cFn Try.prog 136 [[], [0, 1, 5], [1], [4]] = some i136 := by kernel_rfl
theorem e136 : enterOk Try.prog 136 = true := by kernel_rfl
def w137_1 : IC :=
(.seq
 (.seq
 (.reg false [⟨26, .mv (.t 7), none, false⟩,
 ⟨27, .mv (.t 0), none, false⟩,
 ⟨28, .nc (.t 27), none, false⟩,
 ⟨29, .fa 2 (.t 28), none, false⟩,
 ⟨30, .ld 1 false (.t 29), none, false⟩,
 ⟨31, .ln false (.t 30), none, false⟩,
 ⟨32, .ar .lss false (.t 26) (.t 31), none, false⟩])
 (.ite (.t 32)
 .skip
 (.exit 0)))
 (.seq
 (.block 1
 (.seq
 (.reg false [⟨35, .mv (.t 1), none, false⟩,
 ⟨36, .mv (.t 7), none, false⟩,
 ⟨37, .ia 1 (.t 35) (.t 36), none, false⟩,
 ⟨38, .ld 1 false (.t 37), none, false⟩,
 ⟨39, .mv (.t 7), none, false⟩,
 ⟨40, .ar .eql false (.t 38) (.t 39), none, false⟩])
 (.ite (.t 40)
 (.seq
 (.reg false [⟨41, .mv (.t 6), none, false⟩,
 ⟨42, .mv (.t 7), none, false⟩,
 ⟨43, .fa 2 (.t 5), none, false⟩,
 ⟨44, .ld 1 false (.t 43), none, false⟩,
 ⟨45, .ln false (.t 44), none, false⟩,
 ⟨46, .ia 1 (.t 41) (.t 42), none, false⟩,
 ⟨1, .so 1 (.t 46) (.t 45), none, true⟩])
 (.reg true [⟨47, .fa 2 (.t 5), none, false⟩,
 ⟨48, .ld 1 false (.t 47), none, false⟩,
 ⟨49, .mv (.t 0), none, false⟩,
 ⟨50, .nc (.t 49), none, false⟩,
 ⟨51, .fa 2 (.t 50), none, false⟩,
 ⟨52, .ld 1 false (.t 51), none, false⟩,
 ⟨53, .mv (.t 7), none, false⟩,
 ⟨54, .ia 2 (.t 52) (.t 53), none, false⟩,
 ⟨55, .ld 2 true (.t 54), none, false⟩,
 ⟨56, .bs 127 2 [(.sc (.int .i64 0)), (.sc (.int .i64 0))] 1 [(0, (.t 55))], none, false⟩,
 ⟨57, .ap 127 2 false (.t 48) (.t 56), none, false⟩,
 ⟨58, .fa 2 (.t 5), none, false⟩,
 ⟨1, .so 1 (.t 58) (.t 57), none, true⟩]))
 .skip)))
 (.reg false [⟨33, .mv (.t 7), none, false⟩,
 ⟨34, .ar .add false (.t 33) (.k (.sc (.int .i64 1))), none, false⟩,
 ⟨7, .mv (.t 34), none, false⟩])))
def b137_1 : IC := w137_1
theorem u137_1 (call : CallF) (st : St) : evC call b137_1 st = evC call w137_1 st := rfl
attribute [simp] u137_1 w137_1
def w137_3 : IC :=
(.seq
 (.seq
 (.reg false [⟨69, .mv (.t 10), none, false⟩,
 ⟨70, .mv (.t 0), none, false⟩,
 ⟨71, .nc (.t 70), none, false⟩,
 ⟨72, .fa 3 (.t 71), none, false⟩,
 ⟨73, .ld 1 false (.t 72), none, false⟩,
 ⟨74, .mv (.t 8), none, false⟩,
 ⟨75, .ia 2 (.t 73) (.t 74), none, false⟩,
 ⟨76, .fa 1 (.t 75), none, false⟩,
 ⟨77, .ld 1 false (.t 76), none, false⟩,
 ⟨78, .ln false (.t 77), none, false⟩,
 ⟨79, .ar .lss false (.t 69) (.t 78), none, false⟩])
 (.ite (.t 79)
 .skip
 (.exit 4)))
 (.seq
 (.block 5
 (.reg false [⟨82, .mv (.t 9), none, false⟩,
 ⟨83, .mv (.t 6), none, false⟩,
 ⟨84, .mv (.t 1), none, false⟩,
 ⟨85, .mv (.t 0), none, false⟩,
 ⟨86, .nc (.t 85), none, false⟩,
 ⟨87, .fa 3 (.t 86), none, false⟩,
 ⟨88, .ld 1 false (.t 87), none, false⟩,
 ⟨89, .mv (.t 8), none, false⟩,
 ⟨90, .ia 2 (.t 88) (.t 89), none, false⟩,
 ⟨91, .fa 1 (.t 90), none, false⟩,
 ⟨92, .ld 1 false (.t 91), none, false⟩,
 ⟨93, .mv (.t 10), none, false⟩,
 ⟨94, .ia 1 (.t 92) (.t 93), none, false⟩,
 ⟨95, .ld 1 false (.t 94), none, false⟩,
 ⟨96, .ia 1 (.t 84) (.t 95), none, false⟩,
 ⟨97, .ld 1 false (.t 96), none, false⟩,
 ⟨98, .ia 1 (.t 83) (.t 97), none, false⟩,
 ⟨99, .ld 1 false (.t 98), none, false⟩,
 ⟨100, .bs 2 1 [(.sc (.int .i64 0))] 1 [(0, (.t 99))], none, false⟩,
 ⟨101, .ap 2 1 false (.t 82) (.t 100), none, false⟩,
 ⟨9, .mv (.t 101), none, false⟩]))
 (.reg false [⟨80, .mv (.t 10), none, false⟩,
 ⟨81, .ar .add false (.t 80) (.k (.sc (.int .i64 1))), none, false⟩,
 ⟨10, .mv (.t 81), none, false⟩])))
def b137_3 : IC := w137_3
theorem u137_3 (call : CallF) (st : St) : evC call b137_3 st = evC call w137_3 st := rfl
attribute [simp] u137_3 w137_3
def w137_2 : IC :=
(.seq
 (.seq
 (.reg false [⟨59, .mv (.t 8), none, false⟩,
 ⟨60, .mv (.t 0), none, false⟩,
 ⟨61, .nc (.t 60), none, false⟩,
 ⟨62, .fa 3 (.t 61), none, false⟩,
 ⟨63, .ld 1 false (.t 62), none, false⟩,
 ⟨64, .ln false (.t 63), none, false⟩,
 ⟨65, .ar .lss false (.t 59) (.t 64), none, false⟩])
 (.ite (.t 65)
 .skip
 (.exit 2)))
 (.seq
 (.block 3
 (.seq
 (.reg false [⟨68, .bs 2 1 [(.sc (.int .i64 0))] 0 [], none, false⟩,
 ⟨9, .mv (.t 68), none, false⟩])
 (.seq
 (.seq
 (.reg false [⟨10, .mv (.k (.sc (.int .i64 0))), none, false⟩])
 (.cln [0, 1, 4, 5, 6, 8, 9] [4]
 (.block 4
 (.loop [0, 1, 4, 5, 6, 8, 9, 10] b137_3))))
 (.rgc [.nx 114 5, .nx 114 102] [⟨102, .fa 3 (.t 5), none, false⟩,
 ⟨103, .ld 1 false (.t 102), none, false⟩,
 ⟨104, .mv (.t 0), none, false⟩,
 ⟨105, .nc (.t 104), none, false⟩,
 ⟨106, .fa 3 (.t 105), none, false⟩,
 ⟨107, .ld 1 false (.t 106), none, false⟩,
 ⟨108, .mv (.t 8), none, false⟩,
 ⟨109, .ia 2 (.t 107) (.t 108), none, false⟩,
 ⟨110, .fa 0 (.t 109), none, false⟩,
 ⟨111, .ld 1 false (.t 110), none, false⟩,
 ⟨112, .mv (.t 9), none, false⟩,
 ⟨113, .ca (.k (.cl 196 [])) [(.t 112)], none, false⟩,
 ⟨114, .bd [(.sc (.string ⟨#[]⟩)), .nl] [(0, 1, (.t 111)), (1, 1, (.t 113))], none, false⟩,
 ⟨115, .bw 158 2 [(.sc (.string ⟨#[]⟩)), .nl] 1 [(0, (.t 114))], none, false⟩,
 ⟨116, .ap 158 2 false (.t 103) (.t 115), none, false⟩,
 ⟨117, .fa 3 (.t 5), none, false⟩,
 ⟨0, .so 1 (.t 117) (.t 116), none, true⟩]))))
 (.reg false [⟨66, .mv (.t 8), none, false⟩,
 ⟨67, .ar .add false (.t 66) (.k (.sc (.int .i64 1))), none, false⟩,
 ⟨8, .mv (.t 67), none, false⟩])))
def b137_2 : IC := w137_2
theorem u137_2 (call : CallF) (st : St) : evC call b137_2 st = evC call w137_2 st := rfl
attribute [simp] u137_2 w137_2
def i137 : Ev.Fn := ⟨2, 119, [.cell 4 4 true],
 (.seq
 (.reg false [⟨4, .al [(.sc (.int .i64 0)), (.sc (.int .i64 0)), .nl, .nl], none, false⟩])
 (.seq
 (.reg true [⟨11, .mv (.t 0), none, false⟩,
 ⟨12, .nc (.t 11), none, false⟩,
 ⟨13, .fa 0 (.t 12), none, false⟩,
 ⟨14, .ld 1 false (.t 13), none, false⟩,
 ⟨15, .mv (.t 0), none, false⟩,
 ⟨16, .nc (.t 15), none, false⟩,
 ⟨17, .fa 1 (.t 16), none, false⟩,
 ⟨18, .ld 1 false (.t 17), none, false⟩,
 ⟨19, .bd [(.sc (.int .i64 0)), (.sc (.int .i64 0)), .nl, .nl] [(0, 1, (.t 14)), (1, 1, (.t 18))], none, false⟩,
 ⟨5, .al [(.sc (.int .i64 0)), (.sc (.int .i64 0)), .nl, .nl], none, false⟩,
 ⟨1, .so 4 (.t 5) (.t 19), none, true⟩])
 (.seq
 (.reg false [⟨20, .mv (.t 0), none, false⟩,
 ⟨21, .nc (.t 20), none, false⟩,
 ⟨22, .fa 2 (.t 21), none, false⟩,
 ⟨23, .ld 1 false (.t 22), none, false⟩,
 ⟨24, .ln false (.t 23), none, false⟩,
 ⟨25, .ms 2 1 [(.sc (.int .i64 0))] (.t 24), none, false⟩,
 ⟨6, .mv (.t 25), none, false⟩])
 (.seq
 (.seq
 (.reg false [⟨7, .mv (.k (.sc (.int .i64 0))), none, false⟩])
 (.cln [0, 1, 4, 5, 6] [4]
 (.block 0
 (.loop [0, 1, 4, 5, 6, 7] b137_1))))
 (.seq
 (.seq
 (.reg false [⟨8, .mv (.k (.sc (.int .i64 0))), none, false⟩])
 (.cln [4, 5] [4]
 (.block 2
 (.loop [0, 1, 4, 5, 6, 8] b137_2))))
 (.seq
 (.reg false [⟨118, .ld 4 true (.t 5), none, false⟩,
 ⟨1, .so 4 (.t 4) (.t 118), none, true⟩])
 .ret))))))⟩
attribute [simp] i137
set_option maxRecDepth 1000000 in
theorem c137 : cFn Try.prog 137 [[], [0, 1, 4, 5, 6, 7], [0, 1, 4, 5, 6], [4], [0, 1, 4, 5, 6, 8], [0, 1, 4, 5, 6, 8, 9, 10], [0, 1, 4, 5, 6, 8, 9], [4], [4, 5], [4]] = some i137 := by kernel_rfl
theorem e137 : enterOk Try.prog 137 = true := by kernel_rfl
def i138 : Ev.Fn := ⟨2, 9, [.tmp 4],
 (.seq
 (.reg false [⟨4, .mv (.k (.sc (.bool false))), none, false⟩])
 (.seq
 (.reg false [⟨5, .mv (.t 0), none, false⟩,
 ⟨6, .mv (.t 1), none, false⟩,
 ⟨7, .ca (.k (.cl 139 [])) [(.t 5), (.t 6)], none, false⟩,
 ⟨8, .ar .geq false (.t 7) (.k (.sc (.int .i64 0))), none, false⟩,
 ⟨4, .mv (.t 8), none, false⟩])
 .ret))⟩
attribute [simp] i138
set_option maxRecDepth 1000000 in
theorem c138 : cFn Try.prog 138 [[]] = some i138 := by kernel_rfl
theorem e138 : enterOk Try.prog 138 = true := by kernel_rfl
def w139_1 : IC :=
(.seq
 (.reg false [⟨9, .ar .lss false (.t 8) (.t 7), none, false⟩])
 (.seq
 (.ite (.t 9)
 .skip
 (.exit 0))
 (.seq
 (.block 1
 (.seq
 (.reg false [⟨10, .mv (.t 8), none, false⟩,
 ⟨5, .mv (.t 10), none, false⟩])
 (.seq
 (.reg false [⟨11, .mv (.t 1), none, false⟩,
 ⟨12, .mv (.t 0), none, false⟩,
 ⟨13, .mv (.t 5), none, false⟩,
 ⟨14, .ia 1 (.t 12) (.t 13), none, false⟩,
 ⟨15, .ld 1 false (.t 14), none, false⟩,
 ⟨16, .ar .eql false (.t 11) (.t 15), none, false⟩])
 (.ite (.t 16)
 (.seq
 (.reg false [⟨17, .mv (.t 5), none, false⟩,
 ⟨4, .mv (.t 17), none, false⟩])
 .ret)
 .skip))))
 (.reg false [⟨18, .ar .add false (.t 8) (.k (.sc (.int .i64 1))), none, false⟩,
 ⟨8, .mv (.t 18), none, false⟩]))))
def b139_1 : IC := w139_1
theorem u139_1 (call : CallF) (st : St) : evC call b139_1 st = evC call w139_1 st := rfl
attribute [simp] u139_1 w139_1
def i139 : Ev.Fn := ⟨2, 19, [.tmp 4],
 (.seq
 (.reg false [⟨4, .mv (.k (.sc (.int .i64 0))), none, false⟩])
 (.seq
 (.seq
 (.reg false [⟨6, .mv (.t 0), none, false⟩,
 ⟨7, .ln false (.t 6), none, false⟩,
 ⟨8, .mv (.k (.sc (.int .i64 0))), none, false⟩])
 (.cln [] [4]
 (.block 0
 (.loop [0, 1, 7, 8] b139_1))))
 (.seq
 (.reg false [⟨4, .mv (.k (.sc (.int .i64 (-1)))), none, false⟩])
 .ret)))⟩
attribute [simp] i139
set_option maxRecDepth 1000000 in
theorem c139 : cFn Try.prog 139 [[], [0, 1, 7, 8], [], [4]] = some i139 := by kernel_rfl
theorem e139 : enterOk Try.prog 139 = true := by kernel_rfl
def w158_1 : IC :=
(.seq
 (.seq
 (.reg false [⟨6, .mv (.t 5), none, false⟩,
 ⟨7, .mv (.t 0), none, false⟩,
 ⟨8, .ln false (.t 7), none, false⟩,
 ⟨9, .ar .lss false (.t 6) (.t 8), none, false⟩])
 (.ite (.t 9)
 .skip
 (.exit 0)))
 (.seq
 (.block 1
 (.seq
 (.reg false [⟨12, .mv (.t 0), none, false⟩,
 ⟨13, .mv (.t 5), none, false⟩,
 ⟨14, .ia 1 (.t 12) (.t 13), none, false⟩,
 ⟨15, .ld 1 false (.t 14), none, false⟩,
 ⟨16, .mv (.t 1), none, false⟩,
 ⟨17, .ar .eql false (.t 15) (.t 16), none, false⟩])
 (.ite (.t 17)
 (.seq
 (.reg false [⟨4, .mv (.k (.sc (.bool true))), none, false⟩])
 .ret)
 .skip)))
 (.reg false [⟨10, .mv (.t 5), none, false⟩,
 ⟨11, .ar .add false (.t 10) (.k (.sc (.int .i64 1))), none, false⟩,
 ⟨5, .mv (.t 11), none, false⟩])))
def b158_1 : IC := w158_1
theorem u158_1 (call : CallF) (st : St) : evC call b158_1 st = evC call w158_1 st := rfl
attribute [simp] u158_1 w158_1
def i158 : Ev.Fn := ⟨2, 18, [.tmp 4],
 (.seq
 (.reg false [⟨4, .mv (.k (.sc (.bool false))), none, false⟩])
 (.seq
 (.seq
 (.reg false [⟨5, .mv (.k (.sc (.int .i64 0))), none, false⟩])
 (.cln [] [4]
 (.block 0
 (.loop [0, 1, 5] b158_1))))
 (.seq
 (.reg false [⟨4, .mv (.k (.sc (.bool false))), none, false⟩])
 .ret)))⟩
attribute [simp] i158
set_option maxRecDepth 1000000 in
theorem c158 : cFn Try.prog 158 [[], [0, 1, 5], [], [4]] = some i158 := by kernel_rfl
theorem e158 : enterOk Try.prog 158 = true := by kernel_rfl
def i160 : Ev.Fn := ⟨2, 10, [.tmp 4],
 (.seq
 (.reg false [⟨4, .mv (.k (.sc (.int .i64 0))), none, false⟩])
 (.seq
 (.seq
 (.reg false [⟨5, .mv (.t 0), none, false⟩,
 ⟨6, .mv (.t 1), none, false⟩,
 ⟨7, .ar .lss false (.t 5) (.t 6), none, false⟩])
 (.ite (.t 7)
 (.seq
 (.reg false [⟨8, .mv (.t 0), none, false⟩,
 ⟨4, .mv (.t 8), none, false⟩])
 .ret)
 .skip))
 (.seq
 (.reg false [⟨9, .mv (.t 1), none, false⟩,
 ⟨4, .mv (.t 9), none, false⟩])
 .ret)))⟩
attribute [simp] i160
set_option maxRecDepth 1000000 in
theorem c160 : cFn Try.prog 160 [[]] = some i160 := by kernel_rfl
theorem e160 : enterOk Try.prog 160 = true := by kernel_rfl
def i164 : Ev.Fn := ⟨2, 19, [.tmp 4],
 (.seq
 (.reg false [⟨2, .bx (.t 0), none, false⟩,
 ⟨4, .mv (.k (.sc (.int .i64 0))), none, false⟩])
 (.seq
 (.reg false [⟨5, .mv (.t 1), none, false⟩,
 ⟨6, .fa 0 (.t 2), none, false⟩,
 ⟨7, .ld 1 false (.t 6), none, false⟩,
 ⟨8, .ln true (.t 7), none, false⟩,
 ⟨9, .ar .sub false (.t 5) (.t 8), none, false⟩,
 ⟨1, .mv (.t 9), none, false⟩])
 (.seq
 (.seq
 (.reg false [⟨10, .mv (.t 1), none, false⟩,
 ⟨11, .ar .lss false (.t 10) (.k (.sc (.int .i64 0))), none, false⟩])
 (.ite (.t 11)
 (.seq
 (.reg false [⟨4, .mv (.k (.sc (.int .i64 (-1)))), none, false⟩])
 .ret)
 .skip))
 (.seq
 (.reg false [⟨12, .fa 1 (.t 2), none, false⟩,
 ⟨13, .ld 1 false (.t 12), none, false⟩,
 ⟨14, .mv (.t 1), none, false⟩,
 ⟨15, .ca (.k (.cl 87 [])) [(.t 13), (.t 14)], none, false⟩,
 ⟨1, .mv (.t 15), none, false⟩])
 (.seq
 (.seq
 (.reg false [⟨16, .mv (.t 1), none, false⟩,
 ⟨17, .ar .lss false (.t 16) (.k (.sc (.int .i64 0))), none, false⟩])
 (.ite (.t 17)
 (.seq
 (.reg false [⟨4, .mv (.k (.sc (.int .i64 (-1)))), none, false⟩])
 .ret)
 .skip))
 (.seq
 (.reg false [⟨18, .mv (.t 1), none, false⟩,
 ⟨4, .mv (.t 18), none, false⟩])
 .ret))))))⟩
attribute [simp] i164
set_option maxRecDepth 1000000 in
theorem c164 : cFn Try.prog 164 [[]] = some i164 := by kernel_rfl
theorem e164 : enterOk Try.prog 164 = true := by kernel_rfl
def w165_2 : IC :=
(.seq
 (.seq
 (.reg false [⟨50, .mv (.t 4), none, false⟩,
 ⟨51, .mv (.t 3), none, false⟩,
 ⟨52, .ar .lss false (.t 50) (.t 51), none, false⟩])
 (.ite (.t 52)
 .skip
 (.exit 2)))
 (.seq
 (.block 3
 (.seq
 (.reg true [⟨55, .mv (.t 0), none, false⟩,
 ⟨56, .nc (.t 55), none, false⟩,
 ⟨57, .fa 2 (.t 56), none, false⟩,
 ⟨58, .ld 1 false (.t 57), none, false⟩,
 ⟨59, .mv (.t 3), none, false⟩,
 ⟨60, .ia 2 (.t 58) (.t 59), none, false⟩,
 ⟨61, .ld 2 true (.t 60), none, false⟩,
 ⟨62, .mv (.t 0), none, false⟩,
 ⟨63, .nc (.t 62), none, false⟩,
 ⟨64, .fa 2 (.t 63), none, false⟩,
 ⟨65, .ld 1 false (.t 64), none, false⟩,
 ⟨66, .mv (.t 4), none, false⟩,
 ⟨67, .ia 2 (.t 65) (.t 66), none, false⟩,
 ⟨68, .ld 2 true (.t 67), none, false⟩,
 ⟨69, .eq false [1, 1] (.t 61) (.t 68), none, false⟩])
 (.ite (.t 69)
 (.seq
 (.reg false [⟨2, .mv (.k (.sc (.bool false))), none, false⟩])
 .ret)
 .skip)))
 (.reg false [⟨53, .mv (.t 4), none, false⟩,
 ⟨54, .ar .add false (.t 53) (.k (.sc (.int .i64 1))), none, false⟩,
 ⟨4, .mv (.t 54), none, false⟩])))
def b165_2 : IC := w165_2
theorem u165_2 (call : CallF) (st : St) : evC call b165_2 st = evC call w165_2 st := rfl
attribute [simp] u165_2 w165_2
def w165_1 : IC :=
(.seq
 (.seq
 (.reg false [⟨11, .mv (.t 3), none, false⟩,
 ⟨12, .mv (.t 0), none, false⟩,
 ⟨13, .nc (.t 12), none, false⟩,
 ⟨14, .fa 2 (.t 13), none, false⟩,
 ⟨15, .ld 1 false (.t 14), none, false⟩,
 ⟨16, .ln false (.t 15), none, false⟩,
 ⟨17, .ar .lss false (.t 11) (.t 16), none, false⟩])
 (.ite (.t 17)
 .skip
 (.exit 0)))
 (.seq
 (.block 1
 (.seq
 (.seq
 (.reg true [⟨20, .mv (.t 0), none, false⟩,
 ⟨21, .nc (.t 20), none, false⟩,
 ⟨22, .fa 2 (.t 21), none, false⟩,
 ⟨23, .ld 1 false (.t 22), none, false⟩,
 ⟨24, .mv (.t 3), none, false⟩,
 ⟨25, .ia 2 (.t 23) (.t 24), none, false⟩,
 ⟨26, .fa 0 (.t 25), none, false⟩,
 ⟨27, .ld 1 false (.t 26), none, false⟩,
 ⟨28, .mv (.t 0), none, false⟩,
 ⟨29, .nc (.t 28), none, false⟩,
 ⟨30, .fa 0 (.t 29), none, false⟩,
 ⟨31, .ld 1 false (.t 30), none, false⟩,
 ⟨32, .ca (.k (.cl 97 [])) [(.t 27), (.k (.sc (.int .i64 0))), (.t 31)], none, false⟩,
 ⟨33, .nt (.t 32), none, false⟩,
 ⟨34, .mv (.t 33), none, false⟩,
 ⟨35, .mv (.t 0), (some (34, false)), false⟩,
 ⟨36, .nc (.t 35), (some (34, false)), false⟩,
 ⟨37, .fa 2 (.t 36), (some (34, false)), false⟩,
 ⟨38, .ld 1 false (.t 37), (some (34, false)), false⟩,
 ⟨39, .mv (.t 3), (some (34, false)), false⟩,
 ⟨40, .ia 2 (.t 38) (.t 39), (some (34, false)), false⟩,
 ⟨41, .fa 1 (.t 40), (some (34, false)), false⟩,
 ⟨42, .ld 1 false (.t 41), (some (34, false)), false⟩,
 ⟨43, .mv (.t 0), (some (34, false)), false⟩,
 ⟨44, .nc (.t 43), (some (34, false)), false⟩,
 ⟨45, .fa 1 (.t 44), (some (34, false)), false⟩,
 ⟨46, .ld 1 false (.t 45), (some (34, false)), false⟩,
 ⟨47, .ca (.k (.cl 97 [])) [(.t 42), (.k (.sc (.int .i64 0))), (.t 46)], (some (34, false)), false⟩,
 ⟨48, .nt (.t 47), (some (34, false)), false⟩,
 ⟨49, .pk (.t 34) (.k (.sc (.bool true))) (.t 48), none, false⟩])
 (.ite (.t 49)
 (.seq
 (.reg false [⟨2, .mv (.k (.sc (.bool false))), none, false⟩])
 .ret)
 .skip))
 (.seq
 (.reg false [⟨4, .mv (.k (.sc (.int .i64 0))), none, false⟩])
 (.cln [0, 3] [2]
 (.block 2
 (.loop [0, 3, 4] b165_2))))))
 (.reg false [⟨18, .mv (.t 3), none, false⟩,
 ⟨19, .ar .add false (.t 18) (.k (.sc (.int .i64 1))), none, false⟩,
 ⟨3, .mv (.t 19), none, false⟩])))
def b165_1 : IC := w165_1
theorem u165_1 (call : CallF) (st : St) : evC call b165_1 st = evC call w165_1 st := rfl
attribute [simp] u165_1 w165_1
def i165 : Ev.Fn := ⟨1, 70, [.tmp 2],
 (.seq
 (.reg false [⟨2, .mv (.k (.sc (.bool false))), none, false⟩])
 (.seq
 (.seq
 (.reg false [⟨5, .mv (.t 0), none, false⟩,
 ⟨6, .nc (.t 5), none, false⟩,
 ⟨7, .fa 2 (.t 6), none, false⟩,
 ⟨8, .ld 1 false (.t 7), none, false⟩,
 ⟨9, .ln false (.t 8), none, false⟩,
 ⟨10, .ar .gtr false (.t 9) (.k (.sc (.int .i64 48))), none, false⟩])
 (.ite (.t 10)
 (.seq
 (.reg false [⟨2, .mv (.k (.sc (.bool false))), none, false⟩])
 .ret)
 .skip))
 (.seq
 (.seq
 (.reg false [⟨3, .mv (.k (.sc (.int .i64 0))), none, false⟩])
 (.cln [] [2]
 (.block 0
 (.loop [0, 3] b165_1))))
 (.seq
 (.reg false [⟨2, .mv (.k (.sc (.bool true))), none, false⟩])
 .ret))))⟩
attribute [simp] i165
set_option maxRecDepth 1000000 in
theorem c165 : cFn Try.prog 165 [[], [0, 3], [0, 3, 4], [0, 3], [2], [], [2]] = some i165 := by kernel_rfl
theorem e165 : enterOk Try.prog 165 = true := by kernel_rfl
def w166_1 : IC :=
(.seq
 (.seq
 (.reg false [⟨17, .mv (.t 3), none, false⟩,
 ⟨18, .mv (.t 0), none, false⟩,
 ⟨19, .ln true (.t 18), none, false⟩,
 ⟨20, .ar .lss false (.t 17) (.t 19), none, false⟩])
 (.ite (.t 20)
 .skip
 (.exit 0)))
 (.seq
 (.block 1
 (.seq
 (.reg false [⟨23, .mv (.t 0), none, false⟩,
 ⟨24, .mv (.t 3), none, false⟩,
 ⟨25, .ix (.t 23) (.t 24), none, false⟩,
 ⟨26, .ca (.k (.cl 219 [])) [(.t 25)], none, false⟩,
 ⟨27, .nt (.t 26), none, false⟩,
 ⟨28, .mv (.t 27), none, false⟩,
 ⟨29, .mv (.t 0), (some (28, true)), false⟩,
 ⟨30, .mv (.t 3), (some (28, true)), false⟩,
 ⟨31, .ix (.t 29) (.t 30), (some (28, true)), false⟩,
 ⟨32, .ca (.k (.cl 220 [])) [(.t 31)], (some (28, true)), false⟩,
 ⟨33, .nt (.t 32), (some (28, true)), false⟩,
 ⟨34, .pk (.t 28) (.t 33) (.k (.sc (.bool false))), none, false⟩])
 (.ite (.t 34)
 (.seq
 (.reg false [⟨2, .mv (.k (.sc (.bool false))), none, false⟩])
 .ret)
 .skip)))
 (.reg false [⟨21, .mv (.t 3), none, false⟩,
 ⟨22, .ar .add false (.t 21) (.k (.sc (.int .i64 1))), none, false⟩,
 ⟨3, .mv (.t 22), none, false⟩])))
def b166_1 : IC := w166_1
theorem u166_1 (call : CallF) (st : St) : evC call b166_1 st = evC call w166_1 st := rfl
attribute [simp] u166_1 w166_1
def i166 : Ev.Fn := ⟨1, 35, [.tmp 2],
 (.seq
 (.reg false [⟨2, .mv (.k (.sc (.bool false))), none, false⟩])
 (.seq
 (.seq
 (.reg false [⟨4, .mv (.t 0), none, false⟩,
 ⟨5, .ar .eql false (.t 4) (.k (.sc (.string ⟨#[]⟩))), none, false⟩,
 ⟨6, .mv (.t 5), none, false⟩,
 ⟨7, .mv (.t 0), (some (6, false)), false⟩,
 ⟨8, .ln true (.t 7), (some (6, false)), false⟩,
 ⟨9, .ar .gtr false (.t 8) (.k (.sc (.int .i64 10))), (some (6, false)), false⟩,
 ⟨10, .pk (.t 6) (.k (.sc (.bool true))) (.t 9), none, false⟩,
 ⟨11, .mv (.t 10), none, false⟩,
 ⟨12, .mv (.t 0), (some (11, false)), false⟩,
 ⟨13, .ix (.t 12) (.k (.sc (.int .i64 0))), (some (11, false)), false⟩,
 ⟨14, .ca (.k (.cl 219 [])) [(.t 13)], (some (11, false)), false⟩,
 ⟨15, .nt (.t 14), (some (11, false)), false⟩,
 ⟨16, .pk (.t 11) (.k (.sc (.bool true))) (.t 15), none, false⟩])
 (.ite (.t 16)
 (.seq
 (.reg false [⟨2, .mv (.k (.sc (.bool false))), none, false⟩])
 .ret)
 .skip))
 (.seq
 (.seq
 (.reg false [⟨3, .mv (.k (.sc (.int .i64 0))), none, false⟩])
 (.cln [] [2]
 (.block 0
 (.loop [0, 3] b166_1))))
 (.seq
 (.reg false [⟨2, .mv (.k (.sc (.bool true))), none, false⟩])
 .ret))))⟩
attribute [simp] i166
set_option maxRecDepth 1000000 in
theorem c166 : cFn Try.prog 166 [[], [0, 3], [], [2]] = some i166 := by kernel_rfl
theorem e166 : enterOk Try.prog 166 = true := by kernel_rfl
def w167_1 : IC :=
(.seq
 (.seq
 (.reg false [⟨9, .mv (.t 7), none, false⟩,
 ⟨10, .mv (.t 1), none, false⟩,
 ⟨11, .ln false (.t 10), none, false⟩,
 ⟨12, .ar .lss false (.t 9) (.t 11), none, false⟩])
 (.ite (.t 12)
 .skip
 (.exit 0)))
 (.seq
 (.block 1
 (.seq
 (.seq
 (.reg true [⟨15, .mv (.t 1), none, false⟩,
 ⟨16, .mv (.t 7), none, false⟩,
 ⟨17, .ia 1 (.t 15) (.t 16), none, false⟩,
 ⟨18, .ld 1 false (.t 17), none, false⟩,
 ⟨19, .mv (.t 0), none, false⟩,
 ⟨20, .nc (.t 19), none, false⟩,
 ⟨21, .fa 2 (.t 20), none, false⟩,
 ⟨22, .ld 1 false (.t 21), none, false⟩,
 ⟨23, .ln false (.t 22), none, false⟩,
 ⟨24, .ar .sub false (.t 23) (.k (.sc (.int .i64 1))), none, false⟩,
 ⟨25, .ca (.k (.cl 97 [])) [(.t 18), (.k (.sc (.int .i64 0))), (.t 24)], none, false⟩,
 ⟨26, .nt (.t 25), none, false⟩])
 (.ite (.t 26)
 (.seq
 (.reg false [⟨4, .mv (.k .nl), none, false⟩,
 ⟨5, .mv (.k (.sc (.bool false))), none, false⟩])
 .ret)
 .skip))
 (.reg true [⟨27, .mv (.t 6), none, false⟩,
 ⟨28, .mv (.t 0), none, false⟩,
 ⟨29, .nc (.t 28), none, false⟩,
 ⟨30, .fa 2 (.t 29), none, false⟩,
 ⟨31, .ld 1 false (.t 30), none, false⟩,
 ⟨32, .mv (.t 1), none, false⟩,
 ⟨33, .mv (.t 7), none, false⟩,
 ⟨34, .ia 1 (.t 32) (.t 33), none, false⟩,
 ⟨35, .ld 1 false (.t 34), none, false⟩,
 ⟨36, .ia 2 (.t 31) (.t 35), none, false⟩,
 ⟨37, .ld 2 true (.t 36), none, false⟩,
 ⟨38, .bs 127 2 [(.sc (.int .i64 0)), (.sc (.int .i64 0))] 1 [(0, (.t 37))], none, false⟩,
 ⟨39, .ap 127 2 false (.t 27) (.t 38), none, false⟩,
 ⟨6, .mv (.t 39), none, false⟩])))
 (.reg false [⟨13, .mv (.t 7), none, false⟩,
 ⟨14, .ar .add false (.t 13) (.k (.sc (.int .i64 1))), none, false⟩,
 ⟨7, .mv (.t 14), none, false⟩])))
def b167_1 : IC := w167_1
theorem u167_1 (call : CallF) (st : St) : evC call b167_1 st = evC call w167_1 st := rfl
attribute [simp] u167_1 w167_1
def i167 : Ev.Fn := ⟨2, 41, [.tmp 4, .tmp 5],
 (.seq
 (.reg false [⟨4, .mv (.k .nl), none, false⟩,
 ⟨5, .mv (.k (.sc (.bool false))), none, false⟩])
 (.seq
 (.reg false [⟨8, .bs 127 2 [(.sc (.int .i64 0)), (.sc (.int .i64 0))] 0 [], none, false⟩,
 ⟨6, .mv (.t 8), none, false⟩])
 (.seq
 (.seq
 (.reg false [⟨7, .mv (.k (.sc (.int .i64 0))), none, false⟩])
 (.cln [6] [4, 5]
 (.block 0
 (.loop [0, 1, 6, 7] b167_1))))
 (.seq
 (.reg false [⟨40, .mv (.t 6), none, false⟩,
 ⟨4, .mv (.t 40), none, false⟩,
 ⟨5, .mv (.k (.sc (.bool true))), none, false⟩])
 .ret))))⟩
attribute [simp] i167
set_option maxRecDepth 1000000 in
theorem c167 : cFn Try.prog 167 [[], [0, 1, 6, 7], [6], [4, 5]] = some i167 := by kernel_rfl
theorem e167 : enterOk Try.prog 167 = true := by kernel_rfl
def w168_1 : IC :=
(.seq
 (.seq
 (.reg false [⟨18, .mv (.t 4), none, false⟩,
 ⟨19, .mv (.t 3), none, false⟩,
 ⟨20, .ar .lss false (.t 18) (.t 19), none, false⟩])
 (.ite (.t 20)
 .skip
 (.exit 0)))
 (.seq
 (.block 1
 (.seq
 (.reg false [⟨23, .mv (.t 0), none, false⟩,
 ⟨24, .mv (.t 4), none, false⟩,
 ⟨25, .ia 2 (.t 23) (.t 24), none, false⟩,
 ⟨26, .ld 2 true (.t 25), none, false⟩,
 ⟨27, .ca (.k (.cl 221 [])) [(.t 26)], none, false⟩,
 ⟨28, .nt (.t 27), none, false⟩])
 (.ite (.t 28)
 (.seq
 (.reg false [⟨2, .mv (.k (.sc (.bool false))), none, false⟩])
 .ret)
 .skip)))
 (.reg false [⟨21, .mv (.t 4), none, false⟩,
 ⟨22, .ar .add false (.t 21) (.k (.sc (.int .i64 1))), none, false⟩,
 ⟨4, .mv (.t 22), none, false⟩])))
def b168_1 : IC := w168_1
theorem u168_1 (call : CallF) (st : St) : evC call b168_1 st = evC call w168_1 st := rfl
attribute [simp] u168_1 w168_1
def w168_3 : IC :=
(.seq
 (.seq
 (.reg false [⟨69, .mv (.t 9), none, false⟩,
 ⟨70, .mv (.t 3), none, false⟩,
 ⟨71, .ar .lss false (.t 69) (.t 70), none, false⟩])
 (.ite (.t 71)
 .skip
 (.exit 4)))
 (.seq
 (.block 5
 (.seq
 (.reg true [⟨74, .mv (.t 9), none, false⟩,
 ⟨75, .ar .add false (.t 74) (.k (.sc (.int .i64 1))), none, false⟩,
 ⟨76, .mv (.t 3), none, false⟩,
 ⟨77, .ar .rem false (.t 75) (.t 76), none, false⟩,
 ⟨78, .mv (.t 5), none, false⟩,
 ⟨79, .ar .neq false (.t 77) (.t 78), none, false⟩,
 ⟨80, .mv (.t 79), none, false⟩,
 ⟨81, .ld 2 true (.t 6), (some (80, true)), false⟩,
 ⟨82, .ld 2 true (.t 7), (some (80, true)), false⟩,
 ⟨83, .mv (.t 0), (some (80, true)), false⟩,
 ⟨84, .mv (.t 9), (some (80, true)), false⟩,
 ⟨85, .ia 2 (.t 83) (.t 84), (some (80, true)), false⟩,
 ⟨86, .ld 2 true (.t 85), (some (80, true)), false⟩,
 ⟨87, .mv (.t 0), (some (80, true)), false⟩,
 ⟨88, .mv (.t 9), (some (80, true)), false⟩,
 ⟨89, .ar .add false (.t 88) (.k (.sc (.int .i64 1))), (some (80, true)), false⟩,
 ⟨90, .mv (.t 3), (some (80, true)), false⟩,
 ⟨91, .ar .rem false (.t 89) (.t 90), (some (80, true)), false⟩,
 ⟨92, .ia 2 (.t 87) (.t 91), (some (80, true)), false⟩,
 ⟨93, .ld 2 true (.t 92), (some (80, true)), false⟩,
 ⟨94, .ca (.k (.cl 223 [])) [(.t 81), (.t 82), (.t 86), (.t 93)], (some (80, true)), false⟩,
 ⟨95, .pk (.t 80) (.t 94) (.k (.sc (.bool false))), none, false⟩])
 (.ite (.t 95)
 (.seq
 (.reg false [⟨2, .mv (.k (.sc (.bool false))), none, false⟩])
 .ret)
 .skip)))
 (.reg false [⟨72, .mv (.t 9), none, false⟩,
 ⟨73, .ar .add false (.t 72) (.k (.sc (.int .i64 1))), none, false⟩,
 ⟨9, .mv (.t 73), none, false⟩])))
def b168_3 : IC := w168_3
theorem u168_3 (call : CallF) (st : St) : evC call b168_3 st = evC call w168_3 st := rfl
attribute [simp] u168_3 w168_3
def w168_2 : IC :=
(.seq
 (.seq
 (.reg false [⟨29, .mv (.t 5), none, false⟩,
 ⟨30, .mv (.t 3), none, false⟩,
 ⟨31, .ar .lss false (.t 29) (.t 30), none, false⟩])
 (.ite (.t 31)
 .skip
 (.exit 2)))
 (.seq
 (.block 3
 (.seq
 (.reg false [⟨34, .mv (.t 0), none, false⟩,
 ⟨35, .mv (.t 5), none, false⟩,
 ⟨36, .ia 2 (.t 34) (.t 35), none, false⟩,
 ⟨37, .ld 2 true (.t 36), none, false⟩,
 ⟨6, .al [(.sc (.int .i64 0)), (.sc (.int .i64 0))], none, false⟩,
 ⟨1, .so 2 (.t 6) (.t 37), none, true⟩])
 (.seq
 (.reg false [⟨38, .mv (.t 0), none, false⟩,
 ⟨39, .mv (.t 5), none, false⟩,
 ⟨40, .ar .add false (.t 39) (.k (.sc (.int .i64 1))), none, false⟩,
 ⟨41, .mv (.t 3), none, false⟩,
 ⟨42, .ar .rem false (.t 40) (.t 41), none, false⟩,
 ⟨43, .ia 2 (.t 38) (.t 42), none, false⟩,
 ⟨44, .ld 2 true (.t 43), none, false⟩,
 ⟨7, .al [(.sc (.int .i64 0)), (.sc (.int .i64 0))], none, false⟩,
 ⟨1, .so 2 (.t 7) (.t 44), none, true⟩])
 (.seq
 (.reg false [⟨45, .mv (.t 0), none, false⟩,
 ⟨46, .mv (.t 5), none, false⟩,
 ⟨47, .ar .add false (.t 46) (.k (.sc (.int .i64 2))), none, false⟩,
 ⟨48, .mv (.t 3), none, false⟩,
 ⟨49, .ar .rem false (.t 47) (.t 48), none, false⟩,
 ⟨50, .ia 2 (.t 45) (.t 49), none, false⟩,
 ⟨51, .ld 2 true (.t 50), none, false⟩,
 ⟨8, .al [(.sc (.int .i64 0)), (.sc (.int .i64 0))], none, false⟩,
 ⟨1, .so 2 (.t 8) (.t 51), none, true⟩])
 (.seq
 (.seq
 (.reg false [⟨52, .ld 2 true (.t 6), none, false⟩,
 ⟨53, .ld 2 true (.t 7), none, false⟩,
 ⟨54, .eq false [1, 1] (.t 52) (.t 53), none, false⟩,
 ⟨55, .mv (.t 54), none, false⟩,
 ⟨56, .ld 2 true (.t 6), (some (55, false)), false⟩,
 ⟨57, .ld 2 true (.t 7), (some (55, false)), false⟩,
 ⟨58, .ld 2 true (.t 8), (some (55, false)), false⟩,
 ⟨59, .ca (.k (.cl 222 [])) [(.t 56), (.t 57), (.t 58)], (some (55, false)), false⟩,
 ⟨60, .pk (.t 55) (.k (.sc (.bool true))) (.t 59), none, false⟩,
 ⟨61, .mv (.t 60), none, false⟩,
 ⟨62, .ld 2 true (.t 7), (some (61, false)), false⟩,
 ⟨63, .ld 2 true (.t 8), (some (61, false)), false⟩,
 ⟨64, .ld 2 true (.t 6), (some (61, false)), false⟩,
 ⟨65, .ca (.k (.cl 222 [])) [(.t 62), (.t 63), (.t 64)], (some (61, false)), false⟩,
 ⟨66, .pk (.t 61) (.k (.sc (.bool true))) (.t 65), none, false⟩])
 (.ite (.t 66)
 (.seq
 (.reg false [⟨2, .mv (.k (.sc (.bool false))), none, false⟩])
 .ret)
 .skip))
 (.seq
 (.reg false [⟨67, .mv (.t 5), none, false⟩,
 ⟨68, .ar .add false (.t 67) (.k (.sc (.int .i64 2))), none, false⟩,
 ⟨9, .mv (.t 68), none, false⟩])
 (.cln [0, 3, 5] [2]
 (.block 4
 (.loop [0, 3, 5, 6, 7, 9] b168_3)))))))))
 (.reg false [⟨32, .mv (.t 5), none, false⟩,
 ⟨33, .ar .add false (.t 32) (.k (.sc (.int .i64 1))), none, false⟩,
 ⟨5, .mv (.t 33), none, false⟩])))
def b168_2 : IC := w168_2
theorem u168_2 (call : CallF) (st : St) : evC call b168_2 st = evC call w168_2 st := rfl
attribute [simp] u168_2 w168_2
def i168 : Ev.Fn := ⟨1, 99, [.tmp 2],
 (.seq
 (.reg false [⟨2, .mv (.k (.sc (.bool false))), none, false⟩])
 (.seq
 (.reg false [⟨10, .mv (.t 0), none, false⟩,
 ⟨11, .ln false (.t 10), none, false⟩,
 ⟨3, .mv (.t 11), none, false⟩])
 (.seq
 (.seq
 (.reg false [⟨12, .mv (.t 3), none, false⟩,
 ⟨13, .ar .lss false (.t 12) (.k (.sc (.int .i64 3))), none, false⟩,
 ⟨14, .mv (.t 13), none, false⟩,
 ⟨15, .mv (.t 3), (some (14, false)), false⟩,
 ⟨16, .ar .gtr false (.t 15) (.k (.sc (.int .i64 24))), (some (14, false)), false⟩,
 ⟨17, .pk (.t 14) (.k (.sc (.bool true))) (.t 16), none, false⟩])
 (.ite (.t 17)
 (.seq
 (.reg false [⟨2, .mv (.k (.sc (.bool false))), none, false⟩])
 .ret)
 .skip))
 (.seq
 (.seq
 (.reg false [⟨4, .mv (.k (.sc (.int .i64 0))), none, false⟩])
 (.cln [0, 3] [2]
 (.block 0
 (.loop [0, 3, 4] b168_1))))
 (.seq
 (.seq
 (.reg false [⟨5, .mv (.k (.sc (.int .i64 0))), none, false⟩])
 (.cln [0] [2]
 (.block 2
 (.loop [0, 3, 5] b168_2))))
 (.seq
 (.reg false [⟨96, .mv (.t 0), none, false⟩,
 ⟨97, .ca (.k (.cl 101 [])) [(.t 96)], none, false⟩,
 ⟨98, .ar .gtr false (.t 97) (.k (.sc (.int .i64 0))), none, false⟩,
 ⟨2, .mv (.t 98), none, false⟩])
 .ret))))))⟩
attribute [simp] i168
set_option maxRecDepth 1000000 in
theorem c168 : cFn Try.prog 168 [[], [0, 3, 4], [0, 3], [2], [0, 3, 5], [0, 3, 5, 6, 7, 9], [0, 3, 5], [2], [0], [2]] = some i168 := by kernel_rfl
theorem e168 : enterOk Try.prog 168 = true := by kernel_rfl
def i171 : Ev.Fn := ⟨1, 11, [.cell 2 2 true],
 (.seq
 (.reg false [⟨1, .bx (.t 0), none, false⟩,
 ⟨2, .al [(.sc (.int .i64 0)), (.sc (.int .i64 0))], none, false⟩])
 (.seq
 (.reg false [⟨3, .al [(.sc (.int .i64 0)), (.sc (.int .i64 0))], none, false⟩])
 (.seq
 (.reg false [⟨4, .fa 0 (.t 1), none, false⟩,
 ⟨5, .ld 1 false (.t 4), none, false⟩,
 ⟨6, .fa 0 (.t 3), none, false⟩,
 ⟨1, .so 1 (.t 6) (.t 5), none, true⟩])
 (.seq
 (.reg false [⟨7, .fa 1 (.t 1), none, false⟩,
 ⟨8, .ld 1 false (.t 7), none, false⟩,
 ⟨9, .fa 1 (.t 3), none, false⟩,
 ⟨1, .so 1 (.t 9) (.t 8), none, true⟩])
 (.seq
 (.reg false [⟨10, .ld 2 true (.t 3), none, false⟩,
 ⟨1, .so 2 (.t 2) (.t 10), none, true⟩])
 .ret)))))⟩
attribute [simp] i171
set_option maxRecDepth 1000000 in
theorem c171 : cFn Try.prog 171 [[]] = some i171 := by kernel_rfl
theorem e171 : enterOk Try.prog 171 = true := by kernel_rfl
def i172 : Ev.Fn := ⟨1, 12, [.cell 2 2 true],
 (.seq
 (.reg false [⟨1, .bx (.t 0), none, false⟩,
 ⟨2, .al [(.sc (.string ⟨#[]⟩)), .nl], none, false⟩])
 (.seq
 (.reg false [⟨3, .al [(.sc (.string ⟨#[]⟩)), .nl], none, false⟩])
 (.seq
 (.reg false [⟨4, .fa 0 (.t 1), none, false⟩,
 ⟨5, .ld 1 false (.t 4), none, false⟩,
 ⟨6, .fa 0 (.t 3), none, false⟩,
 ⟨1, .so 1 (.t 6) (.t 5), none, true⟩])
 (.seq
 (.reg false [⟨7, .fa 1 (.t 1), none, false⟩,
 ⟨8, .ld 1 false (.t 7), none, false⟩,
 ⟨9, .ca (.k (.cl 91 [])) [(.t 8)], none, false⟩,
 ⟨10, .fa 1 (.t 3), none, false⟩,
 ⟨1, .so 1 (.t 10) (.t 9), none, true⟩])
 (.seq
 (.reg false [⟨11, .ld 2 true (.t 3), none, false⟩,
 ⟨1, .so 2 (.t 2) (.t 11), none, true⟩])
 .ret)))))⟩
attribute [simp] i172
set_option maxRecDepth 1000000 in
theorem c172 : cFn Try.prog 172 [[]] = some i172 := by kernel_rfl
theorem e172 : enterOk Try.prog 172 = true := by kernel_rfl
def i173 : Ev.Fn := ⟨2, 9, [.tmp 4],
 (.seq
 (.reg false [⟨3, .bx (.t 1), none, false⟩,
 ⟨4, .mv (.k (.sc (.bool false))), none, false⟩])
 (.seq
 (.reg false [⟨5, .mv (.t 0), none, false⟩,
 ⟨6, .ld 2 true (.t 3), none, false⟩,
 ⟨7, .ca (.k (.cl 224 [])) [(.t 5), (.t 6)], none, false⟩,
 ⟨8, .ar .geq false (.t 7) (.k (.sc (.int .i64 0))), none, false⟩,
 ⟨4, .mv (.t 8), none, false⟩])
 .ret))⟩
attribute [simp] i173
set_option maxRecDepth 1000000 in
theorem c173 : cFn Try.prog 173 [[]] = some i173 := by kernel_rfl
theorem e173 : enterOk Try.prog 173 = true := by kernel_rfl
def w174_1 : IC :=
(.seq
 (.seq
 (.reg false [⟨22, .mv (.t 3), none, false⟩,
 ⟨23, .mv (.t 0), none, false⟩,
 ⟨24, .ln true (.t 23), none, false⟩,
 ⟨25, .ar .lss false (.t 22) (.t 24), none, false⟩])
 (.ite (.t 25)
 .skip
 (.exit 0)))
 (.seq
 (.block 1
 (.seq
 (.reg false [⟨28, .mv (.t 0), none, false⟩,
 ⟨29, .mv (.t 3), none, false⟩,
 ⟨30, .ix (.t 28) (.t 29), none, false⟩,
 ⟨31, .ar .lss false (.t 30) (.k (.sc (.int .u8 97))), none, false⟩,
 ⟨32, .mv (.t 31), none, false⟩,
 ⟨33, .mv (.t 0), (some (32, false)), false⟩,
 ⟨34, .mv (.t 3), (some (32, false)), false⟩,
 ⟨35, .ix (.t 33) (.t 34), (some (32, false)), false⟩,
 ⟨36, .ar .gtr false (.t 35) (.k (.sc (.int .u8 122))), (some (32, false)), false⟩,
 ⟨37, .pk (.t 32) (.k (.sc (.bool true))) (.t 36), none, false⟩,
 ⟨38, .mv (.t 37), none, false⟩,
 ⟨39, .mv (.t 0), (some (38, true)), false⟩,
 ⟨40, .mv (.t 3), (some (38, true)), false⟩,
 ⟨41, .ix (.t 39) (.t 40), (some (38, true)), false⟩,
 ⟨42, .ar .lss false (.t 41) (.k (.sc (.int .u8 48))), (some (38, true)), false⟩,
 ⟨43, .mv (.t 42), (some (38, true)), false⟩,
 ⟨44, .mv (.t 0), (some (43, false)), false⟩,
 ⟨45, .mv (.t 3), (some (43, false)), false⟩,
 ⟨46, .ix (.t 44) (.t 45), (some (43, false)), false⟩,
 ⟨47, .ar .gtr false (.t 46) (.k (.sc (.int .u8 57))), (some (43, false)), false⟩,
 ⟨48, .pk (.t 43) (.k (.sc (.bool true))) (.t 47), (some (38, true)), false⟩,
 ⟨49, .pk (.t 38) (.t 48) (.k (.sc (.bool false))), none, false⟩])
 (.ite (.t 49)
 (.seq
 (.reg false [⟨2, .mv (.k (.sc (.bool false))), none, false⟩])
 .ret)
 .skip)))
 (.reg false [⟨26, .mv (.t 3), none, false⟩,
 ⟨27, .ar .add false (.t 26) (.k (.sc (.int .i64 1))), none, false⟩,
 ⟨3, .mv (.t 27), none, false⟩])))
def b174_1 : IC := w174_1
theorem u174_1 (call : CallF) (st : St) : evC call b174_1 st = evC call w174_1 st := rfl
attribute [simp] u174_1 w174_1
def i174 : Ev.Fn := ⟨1, 50, [.tmp 2],
 (.seq
 (.reg false [⟨2, .mv (.k (.sc (.bool false))), none, false⟩])
 (.seq
 (.seq
 (.reg false [⟨4, .mv (.t 0), none, false⟩,
 ⟨5, .ln true (.t 4), none, false⟩,
 ⟨6, .ar .lss false (.t 5) (.k (.sc (.int .i64 1))), none, false⟩,
 ⟨7, .mv (.t 6), none, false⟩,
 ⟨8, .mv (.t 0), (some (7, false)), false⟩,
 ⟨9, .ln true (.t 8), (some (7, false)), false⟩,
 ⟨10, .ar .gtr false (.t 9) (.k (.sc (.int .i64 10))), (some (7, false)), false⟩,
 ⟨11, .pk (.t 7) (.k (.sc (.bool true))) (.t 10), none, false⟩,
 ⟨12, .mv (.t 11), none, false⟩,
 ⟨13, .mv (.t 0), (some (12, false)), false⟩,
 ⟨14, .ix (.t 13) (.k (.sc (.int .i64 0))), (some (12, false)), false⟩,
 ⟨15, .ar .lss false (.t 14) (.k (.sc (.int .u8 97))), (some (12, false)), false⟩,
 ⟨16, .pk (.t 12) (.k (.sc (.bool true))) (.t 15), none, false⟩,
 ⟨17, .mv (.t 16), none, false⟩,
 ⟨18, .mv (.t 0), (some (17, false)), false⟩,
 ⟨19, .ix (.t 18) (.k (.sc (.int .i64 0))), (some (17, false)), false⟩,
 ⟨20, .ar .gtr false (.t 19) (.k (.sc (.int .u8 122))), (some (17, false)), false⟩,
 ⟨21, .pk (.t 17) (.k (.sc (.bool true))) (.t 20), none, false⟩])
 (.ite (.t 21)
 (.seq
 (.reg false [⟨2, .mv (.k (.sc (.bool false))), none, false⟩])
 .ret)
 .skip))
 (.seq
 (.seq
 (.reg false [⟨3, .mv (.k (.sc (.int .i64 0))), none, false⟩])
 (.cln [] [2]
 (.block 0
 (.loop [0, 3] b174_1))))
 (.seq
 (.reg false [⟨2, .mv (.k (.sc (.bool true))), none, false⟩])
 .ret))))⟩
attribute [simp] i174
set_option maxRecDepth 1000000 in
theorem c174 : cFn Try.prog 174 [[], [0, 3], [], [2]] = some i174 := by kernel_rfl
theorem e174 : enterOk Try.prog 174 = true := by kernel_rfl
def w175_1 : IC :=
(.seq
 (.reg false [⟨13, .ar .lss false (.t 12) (.t 11), none, false⟩])
 (.seq
 (.ite (.t 13)
 .skip
 (.exit 0))
 (.seq
 (.block 1
 (.seq
 (.reg false [⟨14, .ia 1 (.t 10) (.t 12), none, false⟩,
 ⟨15, .ld 1 false (.t 14), none, false⟩,
 ⟨8, .mv (.t 15), none, false⟩])
 (.seq
 (.seq
 (.reg false [⟨16, .mv (.t 8), none, false⟩,
 ⟨17, .mv (.t 0), none, false⟩,
 ⟨18, .ln false (.t 17), none, false⟩,
 ⟨19, .ar .sub false (.t 18) (.k (.sc (.int .i64 1))), none, false⟩,
 ⟨20, .ca (.k (.cl 105 [])) [(.t 16), (.k (.sc (.int .i64 0))), (.t 19)], none, false⟩,
 ⟨21, .nt (.t 20), none, false⟩])
 (.ite (.t 21)
 (.seq
 (.reg false [⟨4, .mv (.k .nl), none, false⟩,
 ⟨5, .mv (.k (.sc (.bool false))), none, false⟩])
 .ret)
 .skip))
 (.reg false [⟨22, .mv (.t 6), none, false⟩,
 ⟨23, .mv (.t 0), none, false⟩,
 ⟨24, .mv (.t 8), none, false⟩,
 ⟨25, .ia 2 (.t 23) (.t 24), none, false⟩,
 ⟨26, .ld 2 true (.t 25), none, false⟩,
 ⟨27, .bs 127 2 [(.sc (.int .i64 0)), (.sc (.int .i64 0))] 1 [(0, (.t 26))], none, false⟩,
 ⟨28, .ap 127 2 false (.t 22) (.t 27), none, false⟩,
 ⟨6, .mv (.t 28), none, false⟩]))))
 (.reg false [⟨29, .ar .add false (.t 12) (.k (.sc (.int .i64 1))), none, false⟩,
 ⟨12, .mv (.t 29), none, false⟩]))))
def b175_1 : IC := w175_1
theorem u175_1 (call : CallF) (st : St) : evC call b175_1 st = evC call w175_1 st := rfl
attribute [simp] u175_1 w175_1
def i175 : Ev.Fn := ⟨2, 31, [.tmp 4, .tmp 5],
 (.seq
 (.reg false [⟨4, .mv (.k .nl), none, false⟩,
 ⟨5, .mv (.k (.sc (.bool false))), none, false⟩])
 (.seq
 (.reg false [⟨9, .bs 127 2 [(.sc (.int .i64 0)), (.sc (.int .i64 0))] 0 [], none, false⟩,
 ⟨6, .mv (.t 9), none, false⟩])
 (.seq
 (.seq
 (.reg false [⟨10, .mv (.t 1), none, false⟩,
 ⟨11, .ln false (.t 10), none, false⟩,
 ⟨12, .mv (.k (.sc (.int .i64 0))), none, false⟩])
 (.cln [6] [4, 5]
 (.block 0
 (.loop [0, 6, 10, 11, 12] b175_1))))
 (.seq
 (.reg false [⟨30, .mv (.t 6), none, false⟩,
 ⟨4, .mv (.t 30), none, false⟩,
 ⟨5, .mv (.k (.sc (.bool true))), none, false⟩])
 .ret))))⟩
attribute [simp] i175
set_option maxRecDepth 1000000 in
theorem c175 : cFn Try.prog 175 [[], [0, 6, 10, 11, 12], [6], [4, 5]] = some i175 := by kernel_rfl
theorem e175 : enterOk Try.prog 175 = true := by kernel_rfl
end Go.Proofs.Ytojjkjbffihppaa.walkS
