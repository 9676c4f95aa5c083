/- The functions that some rows reach, turned; no conditions. -/
import Derived.Test.YtejffoibihbnnaaPr
import Derived.KernelRfl
import Derived.Test.YtejffoibihbnnaaProg
namespace Go.Proofs.Ytejffoibihbnnaa.walkS
open Go Go.Proofs.Ytejffoibihbnnaa.Ev
def i7 : Ev.Fn := ⟨1, 96, [.tmp 2],
 (.seq
 (.reg false [⟨2, .mv (.k (.sc (.bool false))), none, false⟩])
 (.seq
 (.reg false [⟨3, .mv (.k (.sc (.int .i64 1048576))), none, false⟩])
 (.seq
 (.reg false [⟨14, .mv (.t 0), none, false⟩,
 ⟨15, .mv (.t 3), none, false⟩,
 ⟨16, .ca (.k (.cl 38 [])) [(.t 14), (.t 15)], none, false⟩,
 ⟨3, .mv (.t 16), none, false⟩])
 (.seq
 (.seq
 (.reg false [⟨17, .mv (.t 3), none, false⟩,
 ⟨18, .ar .lss false (.t 17) (.k (.sc (.int .i64 0))), none, false⟩])
 (.ite (.t 18)
 (.seq
 (.reg false [⟨2, .mv (.k (.sc (.bool true))), none, false⟩])
 .ret)
 .skip))
 (.seq
 (.reg false [⟨20, .mv (.t 0), none, false⟩,
 ⟨21, .ca (.k (.cl 40 [])) [(.t 20)], none, false⟩,
 ⟨22, .ca (.k (.cl 39 [])) [(.t 21)], none, false⟩,
 ⟨19, .mv (.t 22), none, false⟩,
 ⟨23, .xt (.t 19) 0, none, false⟩,
 ⟨24, .xt (.t 19) 1, none, false⟩,
 ⟨4, .mv (.t 23), none, false⟩,
 ⟨5, .mv (.t 24), none, false⟩])
 (.seq
 (.reg false [⟨25, .mv (.t 0), none, false⟩,
 ⟨26, .ca (.k (.cl 40 [])) [(.t 25)], none, false⟩,
 ⟨6, .mv (.t 26), none, false⟩])
 (.seq
 (.reg false [⟨28, .mv (.t 6), none, false⟩,
 ⟨29, .ca (.k (.cl 41 [])) [(.t 28)], none, false⟩,
 ⟨27, .mv (.t 29), none, false⟩,
 ⟨30, .xt (.t 27) 0, none, false⟩,
 ⟨31, .xt (.t 27) 1, none, false⟩,
 ⟨7, .mv (.t 30), none, false⟩,
 ⟨8, .mv (.t 31), none, false⟩])
 (.seq
 (.seq
 (.reg false [⟨32, .mv (.t 7), none, false⟩,
 ⟨33, .mv (.t 4), none, false⟩,
 ⟨34, .ca (.k (.cl 42 [])) [(.t 32), (.t 33)], none, false⟩,
 ⟨35, .nt (.t 34), none, false⟩,
 ⟨36, .mv (.t 35), none, false⟩,
 ⟨37, .mv (.t 8), (some (36, false)), false⟩,
 ⟨38, .mv (.t 5), (some (36, false)), false⟩,
 ⟨39, .ar .neq false (.t 37) (.t 38), (some (36, false)), false⟩,
 ⟨40, .pk (.t 36) (.k (.sc (.bool true))) (.t 39), none, false⟩])
 (.ite (.t 40)
 (.seq
 (.reg false [⟨2, .mv (.k (.sc (.bool false))), none, false⟩])
 .ret)
 .skip))
 (.seq
 (.seq
 (.reg false [⟨41, .mv (.t 6), none, false⟩,
 ⟨42, .mv (.t 0), none, false⟩,
 ⟨43, .ca (.k (.cl 40 [])) [(.t 42)], none, false⟩,
 ⟨44, .ca (.k (.cl 43 [])) [(.t 41), (.t 43)], none, false⟩,
 ⟨45, .nt (.t 44), none, false⟩])
 (.ite (.t 45)
 (.seq
 (.reg false [⟨2, .mv (.k (.sc (.bool false))), none, false⟩])
 .ret)
 .skip))
 (.seq
 (.reg false [⟨9, .mv (.k (.sc (.int .i64 1))), none, false⟩])
 (.seq
 (.rgw [⟨46, .mv (.t 6), none, false⟩,
 ⟨47, .mv (.t 9), none, false⟩,
 ⟨48, .cw 44 [] [(.t 46), (.t 47)], none, false⟩,
 ⟨9, .mv (.t 48), none, false⟩])
 (.seq
 (.seq
 (.reg false [⟨49, .mv (.t 9), none, false⟩,
 ⟨50, .ar .lss false (.t 49) (.k (.sc (.int .i64 0))), none, false⟩,
 ⟨51, .mv (.t 50), none, false⟩,
 ⟨52, .mv (.t 7), (some (51, false)), false⟩,
 ⟨53, .mv (.t 4), (some (51, false)), false⟩,
 ⟨54, .ca (.k (.cl 42 [])) [(.t 52), (.t 53)], (some (51, false)), false⟩,
 ⟨55, .nt (.t 54), (some (51, false)), false⟩,
 ⟨56, .pk (.t 51) (.k (.sc (.bool true))) (.t 55), none, false⟩,
 ⟨57, .mv (.t 56), none, false⟩,
 ⟨58, .mv (.t 8), (some (57, false)), false⟩,
 ⟨59, .mv (.t 5), (some (57, false)), false⟩,
 ⟨60, .ar .neq false (.t 58) (.t 59), (some (57, false)), false⟩,
 ⟨61, .pk (.t 57) (.k (.sc (.bool true))) (.t 60), none, false⟩])
 (.ite (.t 61)
 (.seq
 (.reg false [⟨2, .mv (.k (.sc (.bool false))), none, false⟩])
 .ret)
 .skip))
 (.seq
 (.reg false [⟨10, .mv (.k (.sc (.int .i64 1))), none, false⟩])
 (.seq
 (.rgw [⟨62, .mv (.t 7), none, false⟩,
 ⟨63, .mv (.t 10), none, false⟩,
 ⟨64, .cw 45 [] [(.t 62), (.t 63)], none, false⟩,
 ⟨10, .mv (.t 64), none, false⟩])
 (.seq
 (.reg false [⟨11, .mv (.k (.sc (.int .i64 1))), none, false⟩])
 (.seq
 (.reg false [⟨65, .mv (.t 7), none, false⟩,
 ⟨66, .mv (.t 11), none, false⟩,
 ⟨67, .ca (.k (.cl 46 [])) [(.t 65), (.t 66)], none, false⟩,
 ⟨11, .mv (.t 67), none, false⟩])
 (.seq
 (.seq
 (.reg false [⟨68, .mv (.t 11), none, false⟩,
 ⟨69, .ar .lss false (.t 68) (.k (.sc (.int .i64 0))), none, false⟩])
 (.ite (.t 69)
 (.seq
 (.reg false [⟨2, .mv (.k (.sc (.bool false))), none, false⟩])
 .ret)
 .skip))
 (.seq
 (.seq
 (.reg false [⟨70, .mv (.t 11), none, false⟩,
 ⟨71, .mv (.t 10), none, false⟩,
 ⟨72, .ar .neq false (.t 70) (.t 71), none, false⟩])
 (.ite (.t 72)
 (.seq
 (.reg false [⟨2, .mv (.k (.sc (.bool false))), none, false⟩])
 .ret)
 .skip))
 (.seq
 (.reg false [⟨74, .mv (.t 0), none, false⟩,
 ⟨75, .ca (.k (.cl 40 [])) [(.t 74)], none, false⟩,
 ⟨76, .ca (.k (.cl 41 [])) [(.t 75)], none, false⟩,
 ⟨73, .mv (.t 76), none, false⟩,
 ⟨77, .xt (.t 73) 0, none, false⟩,
 ⟨78, .xt (.t 73) 1, none, false⟩,
 ⟨12, .mv (.t 77), none, false⟩,
 ⟨13, .mv (.t 78), none, false⟩])
 (.seq
 (.seq
 (.reg false [⟨79, .mv (.t 12), none, false⟩,
 ⟨80, .mv (.t 4), none, false⟩,
 ⟨81, .ca (.k (.cl 42 [])) [(.t 79), (.t 80)], none, false⟩,
 ⟨82, .nt (.t 81), none, false⟩,
 ⟨83, .mv (.t 82), none, false⟩,
 ⟨84, .mv (.t 13), (some (83, false)), false⟩,
 ⟨85, .mv (.t 5), (some (83, false)), false⟩,
 ⟨86, .ar .neq false (.t 84) (.t 85), (some (83, false)), false⟩,
 ⟨87, .pk (.t 83) (.k (.sc (.bool true))) (.t 86), none, false⟩])
 (.ite (.t 87)
 (.seq
 (.reg false [⟨2, .mv (.k (.sc (.bool false))), none, false⟩])
 .ret)
 .skip))
 (.seq
 (.reg false [⟨11, .mv (.k (.sc (.int .i64 1))), none, false⟩])
 (.seq
 (.reg false [⟨88, .mv (.t 7), none, false⟩,
 ⟨89, .mv (.t 11), none, false⟩,
 ⟨90, .ca (.k (.cl 46 [])) [(.t 88), (.t 89)], none, false⟩,
 ⟨11, .mv (.t 90), none, false⟩])
 (.seq
 (.seq
 (.reg false [⟨91, .mv (.t 11), none, false⟩,
 ⟨92, .ar .lss false (.t 91) (.k (.sc (.int .i64 0))), none, false⟩])
 (.ite (.t 92)
 (.seq
 (.reg false [⟨2, .mv (.k (.sc (.bool false))), none, false⟩])
 .ret)
 .skip))
 (.seq
 (.seq
 (.reg false [⟨93, .mv (.t 11), none, false⟩,
 ⟨94, .mv (.t 10), none, false⟩,
 ⟨95, .ar .neq false (.t 93) (.t 94), none, false⟩])
 (.ite (.t 95)
 (.seq
 (.reg false [⟨2, .mv (.k (.sc (.bool false))), none, false⟩])
 .ret)
 .skip))
 (.seq
 (.reg false [⟨2, .mv (.k (.sc (.bool true))), none, false⟩])
 .ret)))))))))))))))))))))))))⟩
attribute [simp] i7
set_option maxRecDepth 1000000 in
theorem c7 : cFn Try.prog 7 [[44, 45]] = some i7 := by kernel_rfl
theorem e7 : enterOk Try.prog 7 = true := by kernel_rfl
def i38 : Ev.Fn := ⟨2, 12, [.tmp 4],
 (.seq
 (.reg false [⟨4, .mv (.k (.sc (.int .i64 0))), none, false⟩])
 (.seq
 (.reg false [⟨5, .mv (.t 1), none, false⟩,
 ⟨6, .mv (.t 0), none, false⟩,
 ⟨7, .ln false (.t 6), none, false⟩,
 ⟨8, .ar .sub false (.t 5) (.t 7), none, false⟩,
 ⟨1, .mv (.t 8), none, false⟩])
 (.seq
 (.seq
 (.reg false [⟨9, .mv (.t 1), none, false⟩,
 ⟨10, .ar .lss false (.t 9) (.k (.sc (.int .i64 0))), none, false⟩])
 (.ite (.t 10)
 (.seq
 (.reg false [⟨4, .mv (.k (.sc (.int .i64 (-1)))), none, false⟩])
 .ret)
 .skip))
 (.seq
 (.reg false [⟨11, .mv (.t 1), none, false⟩,
 ⟨4, .mv (.t 11), none, false⟩])
 .ret))))⟩
attribute [simp] i38
set_option maxRecDepth 1000000 in
theorem c38 : cFn Try.prog 38 [[]] = some i38 := by kernel_rfl
theorem e38 : enterOk Try.prog 38 = true := by kernel_rfl
def w39_1 : IC :=
(.seq
 (.seq
 (.reg false [⟨10, .mv (.t 5), none, false⟩,
 ⟨11, .mv (.t 0), none, false⟩,
 ⟨12, .ln false (.t 11), none, false⟩,
 ⟨13, .ar .lss false (.t 10) (.t 12), none, false⟩])
 (.ite (.t 13)
 .skip
 (.exit 0)))
 (.seq
 (.block 1
 (.reg false [⟨16, .mv (.t 4), none, false⟩,
 ⟨17, .mv (.t 0), none, false⟩,
 ⟨18, .mv (.t 5), none, false⟩,
 ⟨19, .ia 5 (.t 17) (.t 18), none, false⟩,
 ⟨20, .fa 1 (.t 19), none, false⟩,
 ⟨21, .ld 1 false (.t 20), none, false⟩,
 ⟨22, .ca (.k (.cl 115 [])) [(.t 16), (.t 21)], none, false⟩,
 ⟨4, .mv (.t 22), none, false⟩]))
 (.reg false [⟨14, .mv (.t 5), none, false⟩,
 ⟨15, .ar .add false (.t 14) (.k (.sc (.int .i64 1))), none, false⟩,
 ⟨5, .mv (.t 15), none, false⟩])))
def b39_1 : IC := w39_1
theorem u39_1 (call : CallF) (st : St) : evC call b39_1 st = evC call w39_1 st := rfl
attribute [simp] u39_1 w39_1
def i39 : Ev.Fn := ⟨1, 24, [.tmp 2, .tmp 3],
 (.seq
 (.reg false [⟨2, .mv (.k .nl), none, false⟩,
 ⟨3, .mv (.k (.sc (.int .i64 0))), none, false⟩])
 (.seq
 (.seq
 (.reg false [⟨6, .mv (.t 0), none, false⟩,
 ⟨7, .ca (.k (.cl 114 [])) [(.t 6)], none, false⟩,
 ⟨8, .nt (.t 7), none, false⟩])
 (.ite (.t 8)
 (.seq
 (.reg false [⟨2, .mv (.k .nl), none, false⟩,
 ⟨3, .mv (.k (.sc (.int .i64 1))), none, false⟩])
 .ret)
 .skip))
 (.seq
 (.reg false [⟨9, .bs 2 1 [(.sc (.int .i64 0))] 0 [], none, false⟩,
 ⟨4, .mv (.t 9), none, false⟩])
 (.seq
 (.seq
 (.reg false [⟨5, .mv (.k (.sc (.int .i64 0))), none, false⟩])
 (.cln [4] [2, 3]
 (.block 0
 (.loop [0, 4, 5] b39_1))))
 (.seq
 (.reg false [⟨23, .mv (.t 4), none, false⟩,
 ⟨2, .mv (.t 23), none, false⟩,
 ⟨3, .mv (.k (.sc (.int .i64 0))), none, false⟩])
 .ret)))))⟩
attribute [simp] i39
set_option maxRecDepth 1000000 in
theorem c39 : cFn Try.prog 39 [[], [0, 4, 5], [4], [2, 3]] = some i39 := by kernel_rfl
theorem e39 : enterOk Try.prog 39 = true := by kernel_rfl
def w40_1 : IC :=
(.seq
 (.seq
 (.reg false [⟨8, .mv (.t 4), none, false⟩,
 ⟨9, .mv (.t 0), none, false⟩,
 ⟨10, .ln false (.t 9), none, false⟩,
 ⟨11, .ar .lss false (.t 8) (.t 10), none, false⟩])
 (.ite (.t 11)
 .skip
 (.exit 0)))
 (.seq
 (.block 1
 (.reg false [⟨14, .mv (.t 3), none, false⟩,
 ⟨15, .mv (.t 4), none, false⟩,
 ⟨16, .mv (.t 0), none, false⟩,
 ⟨17, .mv (.t 4), none, false⟩,
 ⟨18, .ia 5 (.t 16) (.t 17), none, false⟩,
 ⟨19, .ld 5 true (.t 18), none, false⟩,
 ⟨20, .ca (.k (.cl 116 [])) [(.t 19)], none, false⟩,
 ⟨21, .ia 5 (.t 14) (.t 15), none, false⟩,
 ⟨1, .so 5 (.t 21) (.t 20), none, true⟩]))
 (.reg false [⟨12, .mv (.t 4), none, false⟩,
 ⟨13, .ar .add false (.t 12) (.k (.sc (.int .i64 1))), none, false⟩,
 ⟨4, .mv (.t 13), none, false⟩])))
def b40_1 : IC := w40_1
theorem u40_1 (call : CallF) (st : St) : evC call b40_1 st = evC call w40_1 st := rfl
attribute [simp] u40_1 w40_1
def i40 : Ev.Fn := ⟨1, 23, [.tmp 2],
 (.seq
 (.reg false [⟨2, .mv (.k .nl), none, false⟩])
 (.seq
 (.reg false [⟨5, .mv (.t 0), none, false⟩,
 ⟨6, .ln false (.t 5), none, false⟩,
 ⟨7, .ms 151 5 [(.sc (.int .i64 0)), (.sc (.int .i64 0)), (.sc (.int .i64 0)), (.sc (.int .i64 0)), (.sc (.int .i64 0))] (.t 6), none, false⟩,
 ⟨3, .mv (.t 7), none, false⟩])
 (.seq
 (.seq
 (.reg false [⟨4, .mv (.k (.sc (.int .i64 0))), none, false⟩])
 (.cln [3] [2]
 (.block 0
 (.loop [0, 3, 4] b40_1))))
 (.seq
 (.reg false [⟨22, .mv (.t 3), none, false⟩,
 ⟨2, .mv (.t 22), none, false⟩])
 .ret))))⟩
attribute [simp] i40
set_option maxRecDepth 1000000 in
theorem c40 : cFn Try.prog 40 [[], [0, 3, 4], [3], [2]] = some i40 := by kernel_rfl
theorem e40 : enterOk Try.prog 40 = true := by kernel_rfl
def w41_1 : IC :=
(.seq
 (.reg false [⟨14, .ar .lss false (.t 13) (.t 12), none, false⟩])
 (.seq
 (.ite (.t 14)
 .skip
 (.exit 0))
 (.seq
 (.block 1
 (.seq
 (.reg false [⟨15, .ia 5 (.t 11) (.t 13), none, false⟩,
 ⟨16, .ld 5 true (.t 15), none, false⟩,
 ⟨6, .al [(.sc (.int .i64 0)), (.sc (.int .i64 0)), (.sc (.int .i64 0)), (.sc (.int .i64 0)), (.sc (.int .i64 0))], none, false⟩,
 ⟨1, .so 5 (.t 6) (.t 16), none, true⟩])
 (.reg false [⟨17, .mv (.t 4), none, false⟩,
 ⟨18, .fa 1 (.t 6), none, false⟩,
 ⟨19, .ld 1 false (.t 18), none, false⟩,
 ⟨20, .bs 2 1 [(.sc (.int .i64 0))] 1 [(0, (.t 19))], none, false⟩,
 ⟨21, .ap 2 1 false (.t 17) (.t 20), none, false⟩,
 ⟨4, .mv (.t 21), none, false⟩])))
 (.reg false [⟨22, .ar .add false (.t 13) (.k (.sc (.int .i64 1))), none, false⟩,
 ⟨13, .mv (.t 22), none, false⟩]))))
def b41_1 : IC := w41_1
theorem u41_1 (call : CallF) (st : St) : evC call b41_1 st = evC call w41_1 st := rfl
attribute [simp] u41_1 w41_1
def i41 : Ev.Fn := ⟨1, 27, [.tmp 2, .tmp 3],
 (.seq
 (.reg false [⟨2, .mv (.k .nl), none, false⟩,
 ⟨3, .mv (.k (.sc (.int .i64 0))), none, false⟩])
 (.seq
 (.seq
 (.reg false [⟨7, .mv (.t 0), none, false⟩,
 ⟨8, .ca (.k (.cl 117 [])) [(.t 7)], none, false⟩,
 ⟨9, .nt (.t 8), none, false⟩])
 (.ite (.t 9)
 (.seq
 (.reg false [⟨2, .mv (.k .nl), none, false⟩,
 ⟨3, .mv (.k (.sc (.int .i64 1))), none, false⟩])
 .ret)
 .skip))
 (.seq
 (.reg false [⟨10, .bs 2 1 [(.sc (.int .i64 0))] 0 [], none, false⟩,
 ⟨4, .mv (.t 10), none, false⟩])
 (.seq
 (.seq
 (.reg false [⟨11, .mv (.t 0), none, false⟩,
 ⟨12, .ln false (.t 11), none, false⟩,
 ⟨13, .mv (.k (.sc (.int .i64 0))), none, false⟩])
 (.cln [4] [2, 3]
 (.block 0
 (.loop [4, 11, 12, 13] b41_1))))
 (.seq
 (.rgw [⟨23, .mv (.t 4), none, false⟩,
 ⟨24, .cw 118 [] [(.t 23)], none, false⟩])
 (.seq
 (.rgw [⟨25, .mv (.t 4), none, false⟩,
 ⟨26, .cw 119 [true] [(.t 25)], none, false⟩,
 ⟨2, .mv (.t 26), none, false⟩,
 ⟨3, .mv (.k (.sc (.int .i64 0))), none, false⟩])
 .ret))))))⟩
attribute [simp] i41
set_option maxRecDepth 1000000 in
theorem c41 : cFn Try.prog 41 [[118, 2000119], [4, 11, 12, 13], [4], [2, 3]] = some i41 := by kernel_rfl
theorem e41 : enterOk Try.prog 41 = true := by kernel_rfl
def w42_1 : IC :=
(.seq
 (.seq
 (.reg false [⟨11, .mv (.t 5), none, false⟩,
 ⟨12, .mv (.t 0), none, false⟩,
 ⟨13, .ln false (.t 12), none, false⟩,
 ⟨14, .ar .lss false (.t 11) (.t 13), none, false⟩])
 (.ite (.t 14)
 .skip
 (.exit 0)))
 (.seq
 (.block 1
 (.seq
 (.reg true [⟨17, .mv (.t 0), none, false⟩,
 ⟨18, .mv (.t 5), none, false⟩,
 ⟨19, .ia 1 (.t 17) (.t 18), none, false⟩,
 ⟨20, .ld 1 false (.t 19), none, false⟩,
 ⟨21, .mv (.t 1), none, false⟩,
 ⟨22, .mv (.t 5), none, false⟩,
 ⟨23, .ia 1 (.t 21) (.t 22), none, false⟩,
 ⟨24, .ld 1 false (.t 23), none, false⟩,
 ⟨25, .ar .neq false (.t 20) (.t 24), none, false⟩])
 (.ite (.t 25)
 (.seq
 (.reg false [⟨4, .mv (.k (.sc (.bool false))), none, false⟩])
 .ret)
 .skip)))
 (.reg false [⟨15, .mv (.t 5), none, false⟩,
 ⟨16, .ar .add false (.t 15) (.k (.sc (.int .i64 1))), none, false⟩,
 ⟨5, .mv (.t 16), none, false⟩])))
def b42_1 : IC := w42_1
theorem u42_1 (call : CallF) (st : St) : evC call b42_1 st = evC call w42_1 st := rfl
attribute [simp] u42_1 w42_1
def i42 : Ev.Fn := ⟨2, 26, [.tmp 4],
 (.seq
 (.reg false [⟨4, .mv (.k (.sc (.bool false))), none, false⟩])
 (.seq
 (.seq
 (.reg false [⟨6, .mv (.t 0), none, false⟩,
 ⟨7, .ln false (.t 6), none, false⟩,
 ⟨8, .mv (.t 1), none, false⟩,
 ⟨9, .ln false (.t 8), none, false⟩,
 ⟨10, .ar .neq false (.t 7) (.t 9), none, false⟩])
 (.ite (.t 10)
 (.seq
 (.reg false [⟨4, .mv (.k (.sc (.bool false))), none, false⟩])
 .ret)
 .skip))
 (.seq
 (.seq
 (.reg false [⟨5, .mv (.k (.sc (.int .i64 0))), none, false⟩])
 (.cln [] [4]
 (.block 0
 (.loop [0, 1, 5] b42_1))))
 (.seq
 (.reg false [⟨4, .mv (.k (.sc (.bool true))), none, false⟩])
 .ret))))⟩
attribute [simp] i42
set_option maxRecDepth 1000000 in
theorem c42 : cFn Try.prog 42 [[], [0, 1, 5], [], [4]] = some i42 := by kernel_rfl
theorem e42 : enterOk Try.prog 42 = true := by kernel_rfl
def w43_1 : IC :=
(.seq
 (.seq
 (.reg false [⟨11, .mv (.t 5), none, false⟩,
 ⟨12, .mv (.t 0), none, false⟩,
 ⟨13, .ln false (.t 12), none, false⟩,
 ⟨14, .ar .lss false (.t 11) (.t 13), none, false⟩])
 (.ite (.t 14)
 .skip
 (.exit 0)))
 (.seq
 (.block 1
 (.seq
 (.reg true [⟨17, .mv (.t 0), none, false⟩,
 ⟨18, .mv (.t 5), none, false⟩,
 ⟨19, .ia 5 (.t 17) (.t 18), none, false⟩,
 ⟨20, .ld 5 true (.t 19), none, false⟩,
 ⟨21, .mv (.t 1), none, false⟩,
 ⟨22, .mv (.t 5), none, false⟩,
 ⟨23, .ia 5 (.t 21) (.t 22), none, false⟩,
 ⟨24, .ld 5 true (.t 23), none, false⟩,
 ⟨25, .ca (.k (.cl 120 [])) [(.t 20), (.t 24)], none, false⟩,
 ⟨26, .nt (.t 25), none, false⟩])
 (.ite (.t 26)
 (.seq
 (.reg false [⟨4, .mv (.k (.sc (.bool false))), none, false⟩])
 .ret)
 .skip)))
 (.reg false [⟨15, .mv (.t 5), none, false⟩,
 ⟨16, .ar .add false (.t 15) (.k (.sc (.int .i64 1))), none, false⟩,
 ⟨5, .mv (.t 16), none, false⟩])))
def b43_1 : IC := w43_1
theorem u43_1 (call : CallF) (st : St) : evC call b43_1 st = evC call w43_1 st := rfl
attribute [simp] u43_1 w43_1
def i43 : Ev.Fn := ⟨2, 27, [.tmp 4],
 (.seq
 (.reg false [⟨4, .mv (.k (.sc (.bool false))), none, false⟩])
 (.seq
 (.seq
 (.reg false [⟨6, .mv (.t 0), none, false⟩,
 ⟨7, .ln false (.t 6), none, false⟩,
 ⟨8, .mv (.t 1), none, false⟩,
 ⟨9, .ln false (.t 8), none, false⟩,
 ⟨10, .ar .neq false (.t 7) (.t 9), none, false⟩])
 (.ite (.t 10)
 (.seq
 (.reg false [⟨4, .mv (.k (.sc (.bool false))), none, false⟩])
 .ret)
 .skip))
 (.seq
 (.seq
 (.reg false [⟨5, .mv (.k (.sc (.int .i64 0))), none, false⟩])
 (.cln [] [4]
 (.block 0
 (.loop [0, 1, 5] b43_1))))
 (.seq
 (.reg false [⟨4, .mv (.k (.sc (.bool true))), none, false⟩])
 .ret))))⟩
attribute [simp] i43
set_option maxRecDepth 1000000 in
theorem c43 : cFn Try.prog 43 [[], [0, 1, 5], [], [4]] = some i43 := by kernel_rfl
theorem e43 : enterOk Try.prog 43 = true := by kernel_rfl
def w44_1 : IC :=
(.seq
 (.seq
 (.reg false [⟨6, .mv (.t 5), none, false⟩,
 ⟨7, .mv (.t 0), none, false⟩,
 ⟨8, .ln false (.t 7), none, false⟩,
 ⟨9, .ar .lss false (.t 6) (.t 8), none, false⟩])
 (.ite (.t 9)
 .skip
 (.exit 0)))
 (.seq
 (.block 1
 (.seq
 (.reg false [⟨12, .mv (.t 0), none, false⟩,
 ⟨13, .mv (.t 5), none, false⟩,
 ⟨14, .mv (.t 1), none, false⟩,
 ⟨15, .ia 5 (.t 12) (.t 13), none, false⟩,
 ⟨16, .fa 0 (.t 15), none, false⟩,
 ⟨1, .so 1 (.t 16) (.t 14), none, true⟩])
 (.seq
 (.reg false [⟨17, .mv (.t 1), none, false⟩,
 ⟨18, .ar .add false (.t 17) (.k (.sc (.int .i64 1))), none, false⟩,
 ⟨1, .mv (.t 18), none, false⟩])
 (.seq
 (.reg false [⟨19, .mv (.t 0), none, false⟩,
 ⟨20, .mv (.t 5), none, false⟩,
 ⟨21, .mv (.t 1), none, false⟩,
 ⟨22, .ia 5 (.t 19) (.t 20), none, false⟩,
 ⟨23, .fa 1 (.t 22), none, false⟩,
 ⟨1, .so 1 (.t 23) (.t 21), none, true⟩])
 (.seq
 (.reg false [⟨24, .mv (.t 1), none, false⟩,
 ⟨25, .ar .add false (.t 24) (.k (.sc (.int .i64 1))), none, false⟩,
 ⟨1, .mv (.t 25), none, false⟩])
 (.seq
 (.reg false [⟨26, .mv (.t 0), none, false⟩,
 ⟨27, .mv (.t 5), none, false⟩,
 ⟨28, .mv (.t 1), none, false⟩,
 ⟨29, .ia 5 (.t 26) (.t 27), none, false⟩,
 ⟨30, .fa 2 (.t 29), none, false⟩,
 ⟨1, .so 1 (.t 30) (.t 28), none, true⟩])
 (.seq
 (.reg false [⟨31, .mv (.t 1), none, false⟩,
 ⟨32, .ar .add false (.t 31) (.k (.sc (.int .i64 1))), none, false⟩,
 ⟨1, .mv (.t 32), none, false⟩])
 (.seq
 (.reg false [⟨33, .mv (.t 0), none, false⟩,
 ⟨34, .mv (.t 5), none, false⟩,
 ⟨35, .mv (.t 1), none, false⟩,
 ⟨36, .ia 5 (.t 33) (.t 34), none, false⟩,
 ⟨37, .fa 3 (.t 36), none, false⟩,
 ⟨1, .so 1 (.t 37) (.t 35), none, true⟩])
 (.seq
 (.reg false [⟨38, .mv (.t 1), none, false⟩,
 ⟨39, .ar .add false (.t 38) (.k (.sc (.int .i64 1))), none, false⟩,
 ⟨1, .mv (.t 39), none, false⟩])
 (.seq
 (.reg false [⟨40, .mv (.t 0), none, false⟩,
 ⟨41, .mv (.t 5), none, false⟩,
 ⟨42, .mv (.t 1), none, false⟩,
 ⟨43, .ia 5 (.t 40) (.t 41), none, false⟩,
 ⟨44, .fa 4 (.t 43), none, false⟩,
 ⟨1, .so 1 (.t 44) (.t 42), none, true⟩])
 (.reg false [⟨45, .mv (.t 1), none, false⟩,
 ⟨46, .ar .add false (.t 45) (.k (.sc (.int .i64 1))), none, false⟩,
 ⟨1, .mv (.t 46), none, false⟩])))))))))))
 (.reg false [⟨10, .mv (.t 5), none, false⟩,
 ⟨11, .ar .add false (.t 10) (.k (.sc (.int .i64 1))), none, false⟩,
 ⟨5, .mv (.t 11), none, false⟩])))
def b44_1 : IC := w44_1
theorem u44_1 (call : CallF) (st : St) : evC call b44_1 st = evC call w44_1 st := rfl
attribute [simp] u44_1 w44_1
def i44 : Ev.Fn := ⟨2, 48, [.tmp 4],
 (.seq
 (.reg false [⟨4, .mv (.k (.sc (.int .i64 0))), none, false⟩])
 (.seq
 (.seq
 (.reg false [⟨5, .mv (.k (.sc (.int .i64 0))), none, false⟩])
 (.cln [1, 100000] [4, 100000]
 (.block 0
 (.loop [0, 1, 5, 100000] b44_1))))
 (.seq
 (.reg false [⟨47, .mv (.t 1), none, false⟩,
 ⟨4, .mv (.t 47), none, false⟩])
 .ret)))⟩
attribute [simp] i44
set_option maxRecDepth 1000000 in
theorem c44 : cFn Try.prog 44 [[], [0, 1, 5, 100000], [1, 100000], [4, 100000]] = some i44 := by kernel_rfl
theorem e44 : enterOk Try.prog 44 = true := by kernel_rfl
def w45_1 : IC :=
(.seq
 (.seq
 (.reg false [⟨6, .mv (.t 5), none, false⟩,
 ⟨7, .mv (.t 0), none, false⟩,
 ⟨8, .ln false (.t 7), none, false⟩,
 ⟨9, .ar .lss false (.t 6) (.t 8), none, false⟩])
 (.ite (.t 9)
 .skip
 (.exit 0)))
 (.seq
 (.block 1
 (.seq
 (.reg false [⟨12, .mv (.t 0), none, false⟩,
 ⟨13, .mv (.t 5), none, false⟩,
 ⟨14, .mv (.t 1), none, false⟩,
 ⟨15, .ia 1 (.t 12) (.t 13), none, false⟩,
 ⟨1, .so 1 (.t 15) (.t 14), none, true⟩])
 (.reg false [⟨16, .mv (.t 1), none, false⟩,
 ⟨17, .ar .add false (.t 16) (.k (.sc (.int .i64 1))), none, false⟩,
 ⟨1, .mv (.t 17), none, false⟩])))
 (.reg false [⟨10, .mv (.t 5), none, false⟩,
 ⟨11, .ar .add false (.t 10) (.k (.sc (.int .i64 1))), none, false⟩,
 ⟨5, .mv (.t 11), none, false⟩])))
def b45_1 : IC := w45_1
theorem u45_1 (call : CallF) (st : St) : evC call b45_1 st = evC call w45_1 st := rfl
attribute [simp] u45_1 w45_1
def i45 : Ev.Fn := ⟨2, 19, [.tmp 4],
 (.seq
 (.reg false [⟨4, .mv (.k (.sc (.int .i64 0))), none, false⟩])
 (.seq
 (.seq
 (.reg false [⟨5, .mv (.k (.sc (.int .i64 0))), none, false⟩])
 (.cln [1, 100000] [4, 100000]
 (.block 0
 (.loop [0, 1, 5, 100000] b45_1))))
 (.seq
 (.reg false [⟨18, .mv (.t 1), none, false⟩,
 ⟨4, .mv (.t 18), none, false⟩])
 .ret)))⟩
attribute [simp] i45
set_option maxRecDepth 1000000 in
theorem c45 : cFn Try.prog 45 [[], [0, 1, 5, 100000], [1, 100000], [4, 100000]] = some i45 := by kernel_rfl
theorem e45 : enterOk Try.prog 45 = true := by kernel_rfl
def w46_1 : IC :=
(.seq
 (.seq
 (.reg false [⟨6, .mv (.t 5), none, false⟩,
 ⟨7, .mv (.t 0), none, false⟩,
 ⟨8, .ln false (.t 7), none, false⟩,
 ⟨9, .ar .lss false (.t 6) (.t 8), none, false⟩])
 (.ite (.t 9)
 .skip
 (.exit 0)))
 (.seq
 (.block 1
 (.seq
 (.seq
 (.reg false [⟨12, .mv (.t 0), none, false⟩,
 ⟨13, .mv (.t 5), none, false⟩,
 ⟨14, .ia 1 (.t 12) (.t 13), none, false⟩,
 ⟨15, .ld 1 false (.t 14), none, false⟩,
 ⟨16, .mv (.t 1), none, false⟩,
 ⟨17, .ar .neq false (.t 15) (.t 16), none, false⟩])
 (.ite (.t 17)
 (.seq
 (.reg false [⟨4, .mv (.k (.sc (.int .i64 (-1)))), none, false⟩])
 .ret)
 .skip))
 (.reg false [⟨18, .mv (.t 1), none, false⟩,
 ⟨19, .ar .add false (.t 18) (.k (.sc (.int .i64 1))), none, false⟩,
 ⟨1, .mv (.t 19), none, false⟩])))
 (.reg false [⟨10, .mv (.t 5), none, false⟩,
 ⟨11, .ar .add false (.t 10) (.k (.sc (.int .i64 1))), none, false⟩,
 ⟨5, .mv (.t 11), none, false⟩])))
def b46_1 : IC := w46_1
theorem u46_1 (call : CallF) (st : St) : evC call b46_1 st = evC call w46_1 st := rfl
attribute [simp] u46_1 w46_1
def i46 : Ev.Fn := ⟨2, 21, [.tmp 4],
 (.seq
 (.reg false [⟨4, .mv (.k (.sc (.int .i64 0))), none, false⟩])
 (.seq
 (.seq
 (.reg false [⟨5, .mv (.k (.sc (.int .i64 0))), none, false⟩])
 (.cln [1] [4]
 (.block 0
 (.loop [0, 1, 5] b46_1))))
 (.seq
 (.reg false [⟨20, .mv (.t 1), none, false⟩,
 ⟨4, .mv (.t 20), none, false⟩])
 .ret)))⟩
attribute [simp] i46
set_option maxRecDepth 1000000 in
theorem c46 : cFn Try.prog 46 [[], [0, 1, 5], [1], [4]] = some i46 := by kernel_rfl
theorem e46 : enterOk Try.prog 46 = true := by kernel_rfl
def w114_1 : IC :=
(.seq
 (.seq
 (.reg false [⟨4, .mv (.t 3), none, false⟩,
 ⟨5, .mv (.t 0), none, false⟩,
 ⟨6, .ln false (.t 5), none, false⟩,
 ⟨7, .ar .lss false (.t 4) (.t 6), none, false⟩])
 (.ite (.t 7)
 .skip
 (.exit 0)))
 (.seq
 (.block 1
 (.seq
 (.reg true [⟨10, .mv (.t 0), none, false⟩,
 ⟨11, .mv (.t 3), none, false⟩,
 ⟨12, .ia 5 (.t 10) (.t 11), none, false⟩,
 ⟨13, .ca (.k (.cl 198 [])) [(.t 12)], none, false⟩,
 ⟨14, .nt (.t 13), none, false⟩,
 ⟨15, .mv (.t 14), none, false⟩,
 ⟨16, .mv (.t 3), (some (15, false)), false⟩,
 ⟨17, .ar .gtr false (.t 16) (.k (.sc (.int .i64 0))), (some (15, false)), false⟩,
 ⟨18, .mv (.t 17), (some (15, false)), false⟩,
 ⟨19, .mv (.t 0), (some (18, true)), false⟩,
 ⟨20, .mv (.t 3), (some (18, true)), false⟩,
 ⟨21, .ar .sub false (.t 20) (.k (.sc (.int .i64 1))), (some (18, true)), false⟩,
 ⟨22, .ia 5 (.t 19) (.t 21), (some (18, true)), false⟩,
 ⟨23, .fa 0 (.t 22), (some (18, true)), false⟩,
 ⟨24, .ld 1 false (.t 23), (some (18, true)), false⟩,
 ⟨25, .mv (.t 0), (some (18, true)), false⟩,
 ⟨26, .mv (.t 3), (some (18, true)), false⟩,
 ⟨27, .ia 5 (.t 25) (.t 26), (some (18, true)), false⟩,
 ⟨28, .fa 0 (.t 27), (some (18, true)), false⟩,
 ⟨29, .ld 1 false (.t 28), (some (18, true)), false⟩,
 ⟨30, .ar .geq false (.t 24) (.t 29), (some (18, true)), false⟩,
 ⟨31, .pk (.t 18) (.t 30) (.k (.sc (.bool false))), (some (15, false)), false⟩,
 ⟨32, .pk (.t 15) (.k (.sc (.bool true))) (.t 31), none, false⟩])
 (.ite (.t 32)
 (.seq
 (.reg false [⟨2, .mv (.k (.sc (.bool false))), none, false⟩])
 .ret)
 .skip)))
 (.reg false [⟨8, .mv (.t 3), none, false⟩,
 ⟨9, .ar .add false (.t 8) (.k (.sc (.int .i64 1))), none, false⟩,
 ⟨3, .mv (.t 9), none, false⟩])))
def b114_1 : IC := w114_1
theorem u114_1 (call : CallF) (st : St) : evC call b114_1 st = evC call w114_1 st := rfl
attribute [simp] u114_1 w114_1
def i114 : Ev.Fn := ⟨1, 36, [.tmp 2],
 (.seq
 (.reg false [⟨2, .mv (.k (.sc (.bool false))), none, false⟩])
 (.seq
 (.seq
 (.reg false [⟨3, .mv (.k (.sc (.int .i64 0))), none, false⟩])
 (.cln [0] [2]
 (.block 0
 (.loop [0, 3] b114_1))))
 (.seq
 (.reg false [⟨33, .mv (.t 0), none, false⟩,
 ⟨34, .ln false (.t 33), none, false⟩,
 ⟨35, .ar .leq false (.t 34) (.k (.sc (.int .i64 24))), none, false⟩,
 ⟨2, .mv (.t 35), none, false⟩])
 .ret)))⟩
attribute [simp] i114
set_option maxRecDepth 1000000 in
theorem c114 : cFn Try.prog 114 [[], [0, 3], [0], [2]] = some i114 := by kernel_rfl
theorem e114 : enterOk Try.prog 114 = true := by kernel_rfl
def w115_1 : IC :=
(.seq
 (.seq
 (.reg false [⟨9, .mv (.t 7), none, false⟩,
 ⟨10, .mv (.t 0), none, false⟩,
 ⟨11, .ln false (.t 10), none, false⟩,
 ⟨12, .ar .lss false (.t 9) (.t 11), none, false⟩])
 (.ite (.t 12)
 .skip
 (.exit 0)))
 (.seq
 (.block 1
 (.seq
 (.seq
 (.reg false [⟨15, .mv (.t 6), none, false⟩,
 ⟨16, .nt (.t 15), none, false⟩,
 ⟨17, .mv (.t 16), none, false⟩,
 ⟨18, .mv (.t 0), (some (17, true)), false⟩,
 ⟨19, .mv (.t 7), (some (17, true)), false⟩,
 ⟨20, .ia 1 (.t 18) (.t 19), (some (17, true)), false⟩,
 ⟨21, .ld 1 false (.t 20), (some (17, true)), false⟩,
 ⟨22, .mv (.t 1), (some (17, true)), false⟩,
 ⟨23, .ar .geq false (.t 21) (.t 22), (some (17, true)), false⟩,
 ⟨24, .pk (.t 17) (.t 23) (.k (.sc (.bool false))), none, false⟩])
 (.ite (.t 24)
 (.seq
 (.reg false [⟨6, .mv (.k (.sc (.bool true))), none, false⟩])
 (.seq
 (.reg false [⟨25, .mv (.t 0), none, false⟩,
 ⟨26, .mv (.t 7), none, false⟩,
 ⟨27, .ia 1 (.t 25) (.t 26), none, false⟩,
 ⟨28, .ld 1 false (.t 27), none, false⟩,
 ⟨29, .mv (.t 1), none, false⟩,
 ⟨30, .ar .gtr false (.t 28) (.t 29), none, false⟩])
 (.ite (.t 30)
 (.reg false [⟨31, .mv (.t 5), none, false⟩,
 ⟨32, .mv (.t 1), none, false⟩,
 ⟨33, .bs 2 1 [(.sc (.int .i64 0))] 1 [(0, (.t 32))], none, false⟩,
 ⟨34, .ap 2 1 false (.t 31) (.t 33), none, false⟩,
 ⟨5, .mv (.t 34), none, false⟩])
 .skip)))
 .skip))
 (.reg false [⟨35, .mv (.t 5), none, false⟩,
 ⟨36, .mv (.t 0), none, false⟩,
 ⟨37, .mv (.t 7), none, false⟩,
 ⟨38, .ia 1 (.t 36) (.t 37), none, false⟩,
 ⟨39, .ld 1 false (.t 38), none, false⟩,
 ⟨40, .bs 2 1 [(.sc (.int .i64 0))] 1 [(0, (.t 39))], none, false⟩,
 ⟨41, .ap 2 1 false (.t 35) (.t 40), none, false⟩,
 ⟨5, .mv (.t 41), none, false⟩])))
 (.reg false [⟨13, .mv (.t 7), none, false⟩,
 ⟨14, .ar .add false (.t 13) (.k (.sc (.int .i64 1))), none, false⟩,
 ⟨7, .mv (.t 14), none, false⟩])))
def b115_1 : IC := w115_1
theorem u115_1 (call : CallF) (st : St) : evC call b115_1 st = evC call w115_1 st := rfl
attribute [simp] u115_1 w115_1
def i115 : Ev.Fn := ⟨2, 49, [.tmp 4],
 (.seq
 (.reg false [⟨4, .mv (.k .nl), none, false⟩])
 (.seq
 (.reg false [⟨8, .bs 2 1 [(.sc (.int .i64 0))] 0 [], none, false⟩,
 ⟨5, .mv (.t 8), none, false⟩])
 (.seq
 (.reg false [⟨6, .mv (.k (.sc (.bool false))), none, false⟩])
 (.seq
 (.seq
 (.reg false [⟨7, .mv (.k (.sc (.int .i64 0))), none, false⟩])
 (.cln [1, 5, 6] [4]
 (.block 0
 (.loop [0, 1, 5, 6, 7] b115_1))))
 (.seq
 (.seq
 (.reg false [⟨42, .mv (.t 6), none, false⟩,
 ⟨43, .nt (.t 42), none, false⟩])
 (.ite (.t 43)
 (.reg false [⟨44, .mv (.t 5), none, false⟩,
 ⟨45, .mv (.t 1), none, false⟩,
 ⟨46, .bs 2 1 [(.sc (.int .i64 0))] 1 [(0, (.t 45))], none, false⟩,
 ⟨47, .ap 2 1 false (.t 44) (.t 46), none, false⟩,
 ⟨5, .mv (.t 47), none, false⟩])
 .skip))
 (.seq
 (.reg false [⟨48, .mv (.t 5), none, false⟩,
 ⟨4, .mv (.t 48), none, false⟩])
 .ret))))))⟩
attribute [simp] i115
set_option maxRecDepth 1000000 in
theorem c115 : cFn Try.prog 115 [[], [0, 1, 5, 6, 7], [1, 5, 6], [4]] = some i115 := by kernel_rfl
theorem e115 : enterOk Try.prog 115 = true := by kernel_rfl
def i116 : Ev.Fn := ⟨1, 20, [.cell 2 5 true],
 (.seq
 (.reg false [⟨1, .bx (.t 0), none, false⟩,
 ⟨2, .al [(.sc (.int .i64 0)), (.sc (.int .i64 0)), (.sc (.int .i64 0)), (.sc (.int .i64 0)), (.sc (.int .i64 0))], none, false⟩])
 (.seq
 (.reg false [⟨3, .al [(.sc (.int .i64 0)), (.sc (.int .i64 0)), (.sc (.int .i64 0)), (.sc (.int .i64 0)), (.sc (.int .i64 0))], none, false⟩])
 (.seq
 (.reg false [⟨4, .fa 0 (.t 1), none, false⟩,
 ⟨5, .ld 1 false (.t 4), none, false⟩,
 ⟨6, .fa 0 (.t 3), none, false⟩,
 ⟨1, .so 1 (.t 6) (.t 5), none, true⟩])
 (.seq
 (.reg false [⟨7, .fa 1 (.t 1), none, false⟩,
 ⟨8, .ld 1 false (.t 7), none, false⟩,
 ⟨9, .fa 1 (.t 3), none, false⟩,
 ⟨1, .so 1 (.t 9) (.t 8), none, true⟩])
 (.seq
 (.reg false [⟨10, .fa 2 (.t 1), none, false⟩,
 ⟨11, .ld 1 false (.t 10), none, false⟩,
 ⟨12, .fa 2 (.t 3), none, false⟩,
 ⟨1, .so 1 (.t 12) (.t 11), none, true⟩])
 (.seq
 (.reg false [⟨13, .fa 3 (.t 1), none, false⟩,
 ⟨14, .ld 1 false (.t 13), none, false⟩,
 ⟨15, .fa 3 (.t 3), none, false⟩,
 ⟨1, .so 1 (.t 15) (.t 14), none, true⟩])
 (.seq
 (.reg false [⟨16, .fa 4 (.t 1), none, false⟩,
 ⟨17, .ld 1 false (.t 16), none, false⟩,
 ⟨18, .fa 4 (.t 3), none, false⟩,
 ⟨1, .so 1 (.t 18) (.t 17), none, true⟩])
 (.seq
 (.reg false [⟨19, .ld 5 true (.t 3), none, false⟩,
 ⟨1, .so 5 (.t 2) (.t 19), none, true⟩])
 .ret))))))))⟩
attribute [simp] i116
set_option maxRecDepth 1000000 in
theorem c116 : cFn Try.prog 116 [[]] = some i116 := by kernel_rfl
theorem e116 : enterOk Try.prog 116 = true := by kernel_rfl
def w117_1 : IC :=
(.seq
 (.reg false [⟨8, .ar .lss false (.t 7) (.t 6), none, false⟩])
 (.seq
 (.ite (.t 8)
 .skip
 (.exit 0))
 (.seq
 (.block 1
 (.seq
 (.reg false [⟨9, .mv (.t 7), none, false⟩,
 ⟨10, .ia 5 (.t 5) (.t 7), none, false⟩,
 ⟨11, .ld 5 true (.t 10), none, false⟩,
 ⟨4, .al [(.sc (.int .i64 0)), (.sc (.int .i64 0)), (.sc (.int .i64 0)), (.sc (.int .i64 0)), (.sc (.int .i64 0))], none, false⟩,
 ⟨3, .mv (.t 9), none, false⟩,
 ⟨1, .so 5 (.t 4) (.t 11), none, true⟩])
 (.seq
 (.reg true [⟨12, .ld 5 true (.t 4), none, false⟩,
 ⟨13, .ca (.k (.cl 199 [])) [(.t 12)], none, false⟩,
 ⟨14, .nt (.t 13), none, false⟩,
 ⟨15, .mv (.t 14), none, false⟩,
 ⟨16, .mv (.t 3), (some (15, false)), false⟩,
 ⟨17, .ar .gtr false (.t 16) (.k (.sc (.int .i64 0))), (some (15, false)), false⟩,
 ⟨18, .mv (.t 17), (some (15, false)), false⟩,
 ⟨19, .mv (.t 0), (some (18, true)), false⟩,
 ⟨20, .mv (.t 3), (some (18, true)), false⟩,
 ⟨21, .ar .sub false (.t 20) (.k (.sc (.int .i64 1))), (some (18, true)), false⟩,
 ⟨22, .ia 5 (.t 19) (.t 21), (some (18, true)), false⟩,
 ⟨23, .fa 0 (.t 22), (some (18, true)), false⟩,
 ⟨24, .ld 1 false (.t 23), (some (18, true)), false⟩,
 ⟨25, .fa 0 (.t 4), (some (18, true)), false⟩,
 ⟨26, .ld 1 false (.t 25), (some (18, true)), false⟩,
 ⟨27, .ar .geq false (.t 24) (.t 26), (some (18, true)), false⟩,
 ⟨28, .pk (.t 18) (.t 27) (.k (.sc (.bool false))), (some (15, false)), false⟩,
 ⟨29, .pk (.t 15) (.k (.sc (.bool true))) (.t 28), none, false⟩])
 (.ite (.t 29)
 (.seq
 (.reg false [⟨2, .mv (.k (.sc (.bool false))), none, false⟩])
 .ret)
 .skip))))
 (.reg false [⟨30, .ar .add false (.t 7) (.k (.sc (.int .i64 1))), none, false⟩,
 ⟨7, .mv (.t 30), none, false⟩]))))
def b117_1 : IC := w117_1
theorem u117_1 (call : CallF) (st : St) : evC call b117_1 st = evC call w117_1 st := rfl
attribute [simp] u117_1 w117_1
def i117 : Ev.Fn := ⟨1, 34, [.tmp 2],
 (.seq
 (.reg false [⟨2, .mv (.k (.sc (.bool false))), none, false⟩])
 (.seq
 (.seq
 (.reg false [⟨5, .mv (.t 0), none, false⟩,
 ⟨6, .ln false (.t 5), none, false⟩,
 ⟨7, .mv (.k (.sc (.int .i64 0))), none, false⟩])
 (.cln [0] [2]
 (.block 0
 (.loop [0, 5, 6, 7] b117_1))))
 (.seq
 (.reg false [⟨31, .mv (.t 0), none, false⟩,
 ⟨32, .ln false (.t 31), none, false⟩,
 ⟨33, .ar .leq false (.t 32) (.k (.sc (.int .i64 24))), none, false⟩,
 ⟨2, .mv (.t 33), none, false⟩])
 .ret)))⟩
attribute [simp] i117
set_option maxRecDepth 1000000 in
theorem c117 : cFn Try.prog 117 [[], [0, 5, 6, 7], [0], [2]] = some i117 := by kernel_rfl
theorem e117 : enterOk Try.prog 117 = true := by kernel_rfl
def i120 : Ev.Fn := ⟨2, 30, [.tmp 4],
 (.seq
 (.reg false [⟨2, .bx (.t 0), none, false⟩,
 ⟨3, .bx (.t 1), none, false⟩,
 ⟨4, .mv (.k (.sc (.bool false))), none, false⟩])
 (.seq
 (.seq
 (.reg false [⟨5, .fa 0 (.t 2), none, false⟩,
 ⟨6, .ld 1 false (.t 5), none, false⟩,
 ⟨7, .fa 0 (.t 3), none, false⟩,
 ⟨8, .ld 1 false (.t 7), none, false⟩,
 ⟨9, .ar .neq false (.t 6) (.t 8), none, false⟩])
 (.ite (.t 9)
 (.seq
 (.reg false [⟨4, .mv (.k (.sc (.bool false))), none, false⟩])
 .ret)
 .skip))
 (.seq
 (.seq
 (.reg false [⟨10, .fa 1 (.t 2), none, false⟩,
 ⟨11, .ld 1 false (.t 10), none, false⟩,
 ⟨12, .fa 1 (.t 3), none, false⟩,
 ⟨13, .ld 1 false (.t 12), none, false⟩,
 ⟨14, .ar .neq false (.t 11) (.t 13), none, false⟩])
 (.ite (.t 14)
 (.seq
 (.reg false [⟨4, .mv (.k (.sc (.bool false))), none, false⟩])
 .ret)
 .skip))
 (.seq
 (.seq
 (.reg false [⟨15, .fa 2 (.t 2), none, false⟩,
 ⟨16, .ld 1 false (.t 15), none, false⟩,
 ⟨17, .fa 2 (.t 3), none, false⟩,
 ⟨18, .ld 1 false (.t 17), none, false⟩,
 ⟨19, .ar .neq false (.t 16) (.t 18), none, false⟩])
 (.ite (.t 19)
 (.seq
 (.reg false [⟨4, .mv (.k (.sc (.bool false))), none, false⟩])
 .ret)
 .skip))
 (.seq
 (.seq
 (.reg false [⟨20, .fa 3 (.t 2), none, false⟩,
 ⟨21, .ld 1 false (.t 20), none, false⟩,
 ⟨22, .fa 3 (.t 3), none, false⟩,
 ⟨23, .ld 1 false (.t 22), none, false⟩,
 ⟨24, .ar .neq false (.t 21) (.t 23), none, false⟩])
 (.ite (.t 24)
 (.seq
 (.reg false [⟨4, .mv (.k (.sc (.bool false))), none, false⟩])
 .ret)
 .skip))
 (.seq
 (.seq
 (.reg false [⟨25, .fa 4 (.t 2), none, false⟩,
 ⟨26, .ld 1 false (.t 25), none, false⟩,
 ⟨27, .fa 4 (.t 3), none, false⟩,
 ⟨28, .ld 1 false (.t 27), none, false⟩,
 ⟨29, .ar .neq false (.t 26) (.t 28), none, false⟩])
 (.ite (.t 29)
 (.seq
 (.reg false [⟨4, .mv (.k (.sc (.bool false))), none, false⟩])
 .ret)
 .skip))
 (.seq
 (.reg false [⟨4, .mv (.k (.sc (.bool true))), none, false⟩])
 .ret)))))))⟩
attribute [simp] i120
set_option maxRecDepth 1000000 in
theorem c120 : cFn Try.prog 120 [[]] = some i120 := by kernel_rfl
theorem e120 : enterOk Try.prog 120 = true := by kernel_rfl
def i162 : Ev.Fn := ⟨3, 15, [.tmp 6],
 (.seq
 (.reg false [⟨6, .mv (.k (.sc (.bool false))), none, false⟩])
 (.seq
 (.reg false [⟨7, .mv (.t 0), none, false⟩,
 ⟨8, .mv (.t 1), none, false⟩,
 ⟨9, .ar .geq false (.t 7) (.t 8), none, false⟩,
 ⟨10, .mv (.t 9), none, false⟩,
 ⟨11, .mv (.t 0), (some (10, true)), false⟩,
 ⟨12, .mv (.t 2), (some (10, true)), false⟩,
 ⟨13, .ar .leq false (.t 11) (.t 12), (some (10, true)), false⟩,
 ⟨14, .pk (.t 10) (.t 13) (.k (.sc (.bool false))), none, false⟩,
 ⟨6, .mv (.t 14), none, false⟩])
 .ret))⟩
attribute [simp] i162
set_option maxRecDepth 1000000 in
theorem c162 : cFn Try.prog 162 [[]] = some i162 := by kernel_rfl
theorem e162 : enterOk Try.prog 162 = true := by kernel_rfl
def i165 : Ev.Fn := ⟨3, 15, [.tmp 6],
 (.seq
 (.reg false [⟨6, .mv (.k (.sc (.bool false))), none, false⟩])
 (.seq
 (.reg false [⟨7, .mv (.t 0), none, false⟩,
 ⟨8, .mv (.t 1), none, false⟩,
 ⟨9, .ar .geq false (.t 7) (.t 8), none, false⟩,
 ⟨10, .mv (.t 9), none, false⟩,
 ⟨11, .mv (.t 0), (some (10, true)), false⟩,
 ⟨12, .mv (.t 2), (some (10, true)), false⟩,
 ⟨13, .ar .leq false (.t 11) (.t 12), (some (10, true)), false⟩,
 ⟨14, .pk (.t 10) (.t 13) (.k (.sc (.bool false))), none, false⟩,
 ⟨6, .mv (.t 14), none, false⟩])
 .ret))⟩
attribute [simp] i165
set_option maxRecDepth 1000000 in
theorem c165 : cFn Try.prog 165 [[]] = some i165 := by kernel_rfl
theorem e165 : enterOk Try.prog 165 = true := by kernel_rfl
def i198 : Ev.Fn := ⟨1, 36, [.tmp 2],
 (.seq
 (.reg false [⟨2, .mv (.k (.sc (.bool false))), none, false⟩])
 (.seq
 (.reg false [⟨3, .mv (.t 0), none, false⟩,
 ⟨4, .nc (.t 3), none, false⟩,
 ⟨5, .fa 0 (.t 4), none, false⟩,
 ⟨6, .ld 1 false (.t 5), none, false⟩,
 ⟨7, .ca (.k (.cl 162 [])) [(.t 6), (.k (.sc (.int .i64 0))), (.k (.sc (.int .i64 23)))], none, false⟩,
 ⟨8, .mv (.t 7), none, false⟩,
 ⟨9, .mv (.t 0), (some (8, true)), false⟩,
 ⟨10, .nc (.t 9), (some (8, true)), false⟩,
 ⟨11, .fa 1 (.t 10), (some (8, true)), false⟩,
 ⟨12, .ld 1 false (.t 11), (some (8, true)), false⟩,
 ⟨13, .ca (.k (.cl 162 [])) [(.t 12), (.k (.sc (.int .i64 0))), (.k (.sc (.int .i64 15)))], (some (8, true)), false⟩,
 ⟨14, .pk (.t 8) (.t 13) (.k (.sc (.bool false))), none, false⟩,
 ⟨15, .mv (.t 14), none, false⟩,
 ⟨16, .mv (.t 0), (some (15, true)), false⟩,
 ⟨17, .nc (.t 16), (some (15, true)), false⟩,
 ⟨18, .fa 2 (.t 17), (some (15, true)), false⟩,
 ⟨19, .ld 1 false (.t 18), (some (15, true)), false⟩,
 ⟨20, .ca (.k (.cl 162 [])) [(.t 19), (.k (.sc (.int .i64 0))), (.k (.sc (.int .i64 20000)))], (some (15, true)), false⟩,
 ⟨21, .pk (.t 15) (.t 20) (.k (.sc (.bool false))), none, false⟩,
 ⟨22, .mv (.t 21), none, false⟩,
 ⟨23, .mv (.t 0), (some (22, true)), false⟩,
 ⟨24, .nc (.t 23), (some (22, true)), false⟩,
 ⟨25, .fa 3 (.t 24), (some (22, true)), false⟩,
 ⟨26, .ld 1 false (.t 25), (some (22, true)), false⟩,
 ⟨27, .ca (.k (.cl 162 [])) [(.t 26), (.k (.sc (.int .i64 0))), (.k (.sc (.int .i64 20000)))], (some (22, true)), false⟩,
 ⟨28, .pk (.t 22) (.t 27) (.k (.sc (.bool false))), none, false⟩,
 ⟨29, .mv (.t 28), none, false⟩,
 ⟨30, .mv (.t 0), (some (29, true)), false⟩,
 ⟨31, .nc (.t 30), (some (29, true)), false⟩,
 ⟨32, .fa 4 (.t 31), (some (29, true)), false⟩,
 ⟨33, .ld 1 false (.t 32), (some (29, true)), false⟩,
 ⟨34, .ca (.k (.cl 257 [])) [(.t 33)], (some (29, true)), false⟩,
 ⟨35, .pk (.t 29) (.t 34) (.k (.sc (.bool false))), none, false⟩,
 ⟨2, .mv (.t 35), none, false⟩])
 .ret))⟩
attribute [simp] i198
set_option maxRecDepth 1000000 in
theorem c198 : cFn Try.prog 198 [[]] = some i198 := by kernel_rfl
theorem e198 : enterOk Try.prog 198 = true := by kernel_rfl
def i199 : Ev.Fn := ⟨1, 26, [.tmp 2],
 (.seq
 (.reg false [⟨1, .bx (.t 0), none, false⟩,
 ⟨2, .mv (.k (.sc (.bool false))), none, false⟩])
 (.seq
 (.reg false [⟨3, .fa 0 (.t 1), none, false⟩,
 ⟨4, .ld 1 false (.t 3), none, false⟩,
 ⟨5, .ca (.k (.cl 165 [])) [(.t 4), (.k (.sc (.int .i64 0))), (.k (.sc (.int .i64 23)))], none, false⟩,
 ⟨6, .mv (.t 5), none, false⟩,
 ⟨7, .fa 1 (.t 1), (some (6, true)), false⟩,
 ⟨8, .ld 1 false (.t 7), (some (6, true)), false⟩,
 ⟨9, .ca (.k (.cl 165 [])) [(.t 8), (.k (.sc (.int .i64 0))), (.k (.sc (.int .i64 15)))], (some (6, true)), false⟩,
 ⟨10, .pk (.t 6) (.t 9) (.k (.sc (.bool false))), none, false⟩,
 ⟨11, .mv (.t 10), none, false⟩,
 ⟨12, .fa 2 (.t 1), (some (11, true)), false⟩,
 ⟨13, .ld 1 false (.t 12), (some (11, true)), false⟩,
 ⟨14, .ca (.k (.cl 165 [])) [(.t 13), (.k (.sc (.int .i64 0))), (.k (.sc (.int .i64 20000)))], (some (11, true)), false⟩,
 ⟨15, .pk (.t 11) (.t 14) (.k (.sc (.bool false))), none, false⟩,
 ⟨16, .mv (.t 15), none, false⟩,
 ⟨17, .fa 3 (.t 1), (some (16, true)), false⟩,
 ⟨18, .ld 1 false (.t 17), (some (16, true)), false⟩,
 ⟨19, .ca (.k (.cl 165 [])) [(.t 18), (.k (.sc (.int .i64 0))), (.k (.sc (.int .i64 20000)))], (some (16, true)), false⟩,
 ⟨20, .pk (.t 16) (.t 19) (.k (.sc (.bool false))), none, false⟩,
 ⟨21, .mv (.t 20), none, false⟩,
 ⟨22, .fa 4 (.t 1), (some (21, true)), false⟩,
 ⟨23, .ld 1 false (.t 22), (some (21, true)), false⟩,
 ⟨24, .ca (.k (.cl 165 [])) [(.t 23), (.k (.sc (.int .i64 0))), (.k (.sc (.int .i64 7)))], (some (21, true)), false⟩,
 ⟨25, .pk (.t 21) (.t 24) (.k (.sc (.bool false))), none, false⟩,
 ⟨2, .mv (.t 25), none, false⟩])
 .ret))⟩
attribute [simp] i199
set_option maxRecDepth 1000000 in
theorem c199 : cFn Try.prog 199 [[]] = some i199 := by kernel_rfl
theorem e199 : enterOk Try.prog 199 = true := by kernel_rfl
def i257 : Ev.Fn := ⟨1, 5, [.tmp 2],
 (.seq
 (.reg false [⟨2, .mv (.k (.sc (.bool false))), none, false⟩])
 (.seq
 (.reg false [⟨3, .mv (.t 0), none, false⟩,
 ⟨4, .ca (.k (.cl 162 [])) [(.t 3), (.k (.sc (.int .i64 0))), (.k (.sc (.int .i64 7)))], none, false⟩,
 ⟨2, .mv (.t 4), none, false⟩])
 .ret))⟩
attribute [simp] i257
set_option maxRecDepth 1000000 in
theorem c257 : cFn Try.prog 257 [[]] = some i257 := by kernel_rfl
theorem e257 : enterOk Try.prog 257 = true := by kernel_rfl
theorem mixed : Try.prog.follows .mixedOrders = true := by kernel_rfl
def Ft : List (Nat × Ev.Fn) := [(7, i7), (38, i38), (39, i39), (40, i40), (41, i41), (42, i42), (43, i43), (44, i44), (45, i45), (46, i46), (114, i114), (115, i115), (116, i116), (117, i117), (120, i120), (162, i162), (165, i165), (198, i198), (199, i199), (257, i257)]
def F : Nat → Option Ev.Fn := getF Ft
noncomputable def ev (d : Nat) : CallF := evF F prim d
theorem ev_fn {f : Nat} {fn : Ev.Fn} (h : F f = some fn) (d : Nat) (args : List LV) (hl : args.length = fn.nargs) : ev (d + 1) f args = Ev.finish fn.res (evC (ev d) fn.body (Ev.start args)) := evF_fn h d args hl
set_option maxRecDepth 1000000 in
theorem tab : ∀ f fn, F f = some fn → enterOk Try.prog f = true ∧ ∃ ks, cFn Try.prog f ks = some fn :=
  tabF (L := Ft) ⟨⟨e7, _, c7⟩, ⟨e38, _, c38⟩, ⟨e39, _, c39⟩, ⟨e40, _, c40⟩, ⟨e41, _, c41⟩, ⟨e42, _, c42⟩, ⟨e43, _, c43⟩, ⟨e44, _, c44⟩, ⟨e45, _, c45⟩, ⟨e46, _, c46⟩, ⟨e114, _, c114⟩, ⟨e115, _, c115⟩, ⟨e116, _, c116⟩, ⟨e117, _, c117⟩, ⟨e120, _, c120⟩, ⟨e162, _, c162⟩, ⟨e165, _, c165⟩, ⟨e198, _, c198⟩, ⟨e199, _, c199⟩, ⟨e257, _, c257⟩, trivial⟩
theorem tabn : ∀ f fn, F f = some fn → f < wrN := tabN (L := Ft) (by kernel_rfl)
theorem callOk (d : Nat) : CallOk [] Try.prog (ev d) := (evF_ok2 mixed tab tabn prim_ok prim_okW d).1
abbrev I (n : Int) : LV := .sc (.int .i64 n)
abbrev B (b : Bool) : LV := .sc (.bool b)
abbrev T (s : ByteArray) : LV := .sc (.string s)
theorem s7 (d : Nat) (args : List LV) (hl : args.length = i7.nargs) : ev (d + 1) 7 args = Ev.finish i7.res (evC (ev d) i7.body (Ev.start args)) := ev_fn (by kernel_rfl) d args hl
theorem s38 (d : Nat) (args : List LV) (hl : args.length = i38.nargs) : ev (d + 1) 38 args = Ev.finish i38.res (evC (ev d) i38.body (Ev.start args)) := ev_fn (by kernel_rfl) d args hl
theorem s39 (d : Nat) (args : List LV) (hl : args.length = i39.nargs) : ev (d + 1) 39 args = Ev.finish i39.res (evC (ev d) i39.body (Ev.start args)) := ev_fn (by kernel_rfl) d args hl
theorem s40 (d : Nat) (args : List LV) (hl : args.length = i40.nargs) : ev (d + 1) 40 args = Ev.finish i40.res (evC (ev d) i40.body (Ev.start args)) := ev_fn (by kernel_rfl) d args hl
theorem s41 (d : Nat) (args : List LV) (hl : args.length = i41.nargs) : ev (d + 1) 41 args = Ev.finish i41.res (evC (ev d) i41.body (Ev.start args)) := ev_fn (by kernel_rfl) d args hl
theorem s42 (d : Nat) (args : List LV) (hl : args.length = i42.nargs) : ev (d + 1) 42 args = Ev.finish i42.res (evC (ev d) i42.body (Ev.start args)) := ev_fn (by kernel_rfl) d args hl
theorem s43 (d : Nat) (args : List LV) (hl : args.length = i43.nargs) : ev (d + 1) 43 args = Ev.finish i43.res (evC (ev d) i43.body (Ev.start args)) := ev_fn (by kernel_rfl) d args hl
theorem s44 (d : Nat) (args : List LV) (hl : args.length = i44.nargs) : ev (d + 1) 44 args = Ev.finish i44.res (evC (ev d) i44.body (Ev.start args)) := ev_fn (by kernel_rfl) d args hl
theorem s45 (d : Nat) (args : List LV) (hl : args.length = i45.nargs) : ev (d + 1) 45 args = Ev.finish i45.res (evC (ev d) i45.body (Ev.start args)) := ev_fn (by kernel_rfl) d args hl
theorem s46 (d : Nat) (args : List LV) (hl : args.length = i46.nargs) : ev (d + 1) 46 args = Ev.finish i46.res (evC (ev d) i46.body (Ev.start args)) := ev_fn (by kernel_rfl) d args hl
theorem s114 (d : Nat) (args : List LV) (hl : args.length = i114.nargs) : ev (d + 1) 114 args = Ev.finish i114.res (evC (ev d) i114.body (Ev.start args)) := ev_fn (by kernel_rfl) d args hl
theorem s115 (d : Nat) (args : List LV) (hl : args.length = i115.nargs) : ev (d + 1) 115 args = Ev.finish i115.res (evC (ev d) i115.body (Ev.start args)) := ev_fn (by kernel_rfl) d args hl
theorem s116 (d : Nat) (args : List LV) (hl : args.length = i116.nargs) : ev (d + 1) 116 args = Ev.finish i116.res (evC (ev d) i116.body (Ev.start args)) := ev_fn (by kernel_rfl) d args hl
theorem s117 (d : Nat) (args : List LV) (hl : args.length = i117.nargs) : ev (d + 1) 117 args = Ev.finish i117.res (evC (ev d) i117.body (Ev.start args)) := ev_fn (by kernel_rfl) d args hl
theorem s120 (d : Nat) (args : List LV) (hl : args.length = i120.nargs) : ev (d + 1) 120 args = Ev.finish i120.res (evC (ev d) i120.body (Ev.start args)) := ev_fn (by kernel_rfl) d args hl
theorem s162 (d : Nat) (args : List LV) (hl : args.length = i162.nargs) : ev (d + 1) 162 args = Ev.finish i162.res (evC (ev d) i162.body (Ev.start args)) := ev_fn (by kernel_rfl) d args hl
theorem s165 (d : Nat) (args : List LV) (hl : args.length = i165.nargs) : ev (d + 1) 165 args = Ev.finish i165.res (evC (ev d) i165.body (Ev.start args)) := ev_fn (by kernel_rfl) d args hl
theorem s198 (d : Nat) (args : List LV) (hl : args.length = i198.nargs) : ev (d + 1) 198 args = Ev.finish i198.res (evC (ev d) i198.body (Ev.start args)) := ev_fn (by kernel_rfl) d args hl
theorem s199 (d : Nat) (args : List LV) (hl : args.length = i199.nargs) : ev (d + 1) 199 args = Ev.finish i199.res (evC (ev d) i199.body (Ev.start args)) := ev_fn (by kernel_rfl) d args hl
theorem s257 (d : Nat) (args : List LV) (hl : args.length = i257.nargs) : ev (d + 1) 257 args = Ev.finish i257.res (evC (ev d) i257.body (Ev.start args)) := ev_fn (by kernel_rfl) d args hl
theorem v44 (d : Nat) {args bs : List LV} {st : St} (hs : startW args = some (bs, st)) (hl : bs.length = i44.nargs) : ev (d + 1) (wrN + 44) args = finishW bs i44.res (evC (ev d) i44.body st) := evF_fnW (by kernel_rfl) tabn d hs hl
theorem v45 (d : Nat) {args bs : List LV} {st : St} (hs : startW args = some (bs, st)) (hl : bs.length = i45.nargs) : ev (d + 1) (wrN + 45) args = finishW bs i45.res (evC (ev d) i45.body st) := evF_fnW (by kernel_rfl) tabn d hs hl
theorem q118R (d : Nat) (args : List LV) : ev d 118 args = prim 118 args := evF_prim (by kernel_rfl) (by decide) d args
theorem q118W (d : Nat) (args : List LV) : ev d (wrN + 118) args = prim (wrN + 118) args := evF_primW (by kernel_rfl) tabn (by decide) d args
theorem q118M (d : Nat) (args : List LV) : ev d (mvN + 118) args = prim (mvN + 118) args := evF_primM (by kernel_rfl) tabn (by decide) d args
theorem q119R (d : Nat) (args : List LV) : ev d 119 args = prim 119 args := evF_prim (by kernel_rfl) (by decide) d args
theorem q119W (d : Nat) (args : List LV) : ev d (wrN + 119) args = prim (wrN + 119) args := evF_primW (by kernel_rfl) tabn (by decide) d args
theorem q119M (d : Nat) (args : List LV) : ev d (mvN + 119) args = prim (mvN + 119) args := evF_primM (by kernel_rfl) tabn (by decide) d args
end Go.Proofs.Ytejffoibihbnnaa.walkS
