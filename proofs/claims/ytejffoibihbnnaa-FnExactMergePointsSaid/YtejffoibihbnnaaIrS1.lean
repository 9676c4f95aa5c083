/- The functions that some rows reach, turned; no conditions. -/
import Derived.Test.YtejffoibihbnnaaEv2
import Derived.KernelRfl
import Derived.Test.YtejffoibihbnnaaProg
namespace Go.Proofs.Ytejffoibihbnnaa.walkS
open Go Go.Proofs.Ytejffoibihbnnaa.Ev
def i9 : Ev.Fn := ⟨2, 101, [.tmp 4],
 (.seq
 (.reg false [⟨2, .bx (.t 0), none, false⟩,
 ⟨4, .mv (.k (.sc (.bool false))), none, false⟩])
 (.seq
 (.reg false [⟨5, .mv (.k (.sc (.int .i64 1048576))), none, false⟩])
 (.seq
 (.reg false [⟨16, .ld 4 true (.t 2), none, false⟩,
 ⟨17, .mv (.t 5), none, false⟩,
 ⟨18, .ca (.k (.cl 21 [])) [(.t 16), (.t 17)], none, false⟩,
 ⟨5, .mv (.t 18), none, false⟩])
 (.seq
 (.seq
 (.reg false [⟨19, .mv (.t 5), none, false⟩,
 ⟨20, .ar .lss false (.t 19) (.k (.sc (.int .i64 0))), none, false⟩])
 (.ite (.t 20)
 (.seq
 (.reg false [⟨4, .mv (.k (.sc (.bool true))), none, false⟩])
 .ret)
 .skip))
 (.seq
 (.reg false [⟨22, .ld 4 true (.t 2), none, false⟩,
 ⟨23, .ca (.k (.cl 23 [])) [(.t 22)], none, false⟩,
 ⟨24, .mv (.t 1), none, false⟩,
 ⟨25, .ca (.k (.cl 49 [])) [(.t 23), (.t 24)], none, false⟩,
 ⟨21, .mv (.t 25), none, false⟩,
 ⟨26, .xt (.t 21) 0, none, false⟩,
 ⟨27, .xt (.t 21) 1, none, false⟩,
 ⟨6, .al [(.sc (.int .i64 0)), (.sc (.int .i64 0)), .nl, .nl], none, false⟩,
 ⟨1, .so 4 (.t 6) (.t 26), none, true⟩,
 ⟨7, .mv (.t 27), none, false⟩])
 (.seq
 (.reg false [⟨28, .ld 4 true (.t 2), none, false⟩,
 ⟨29, .ca (.k (.cl 23 [])) [(.t 28)], none, false⟩,
 ⟨8, .al [(.sc (.int .i64 0)), (.sc (.int .i64 0)), .nl, .nl], none, false⟩,
 ⟨1, .so 4 (.t 8) (.t 29), none, true⟩])
 (.seq
 (.reg false [⟨31, .ld 4 true (.t 8), none, false⟩,
 ⟨32, .mv (.t 1), none, false⟩,
 ⟨33, .ca (.k (.cl 50 [])) [(.t 31), (.t 32)], none, false⟩,
 ⟨30, .mv (.t 33), none, false⟩,
 ⟨34, .xt (.t 30) 0, none, false⟩,
 ⟨35, .xt (.t 30) 1, none, false⟩,
 ⟨9, .al [(.sc (.int .i64 0)), (.sc (.int .i64 0)), .nl, .nl], none, false⟩,
 ⟨1, .so 4 (.t 9) (.t 34), none, true⟩,
 ⟨10, .mv (.t 35), none, false⟩])
 (.seq
 (.seq
 (.reg false [⟨36, .ld 4 true (.t 9), none, false⟩,
 ⟨37, .ld 4 true (.t 6), none, false⟩,
 ⟨38, .ca (.k (.cl 25 [])) [(.t 36), (.t 37)], none, false⟩,
 ⟨39, .nt (.t 38), none, false⟩,
 ⟨40, .mv (.t 39), none, false⟩,
 ⟨41, .mv (.t 10), (some (40, false)), false⟩,
 ⟨42, .mv (.t 7), (some (40, false)), false⟩,
 ⟨43, .ar .neq false (.t 41) (.t 42), (some (40, false)), false⟩,
 ⟨44, .pk (.t 40) (.k (.sc (.bool true))) (.t 43), none, false⟩])
 (.ite (.t 44)
 (.seq
 (.reg false [⟨4, .mv (.k (.sc (.bool false))), none, false⟩])
 .ret)
 .skip))
 (.seq
 (.seq
 (.reg true [⟨45, .ld 4 true (.t 8), none, false⟩,
 ⟨46, .ld 4 true (.t 2), none, false⟩,
 ⟨47, .ca (.k (.cl 23 [])) [(.t 46)], none, false⟩,
 ⟨48, .ca (.k (.cl 25 [])) [(.t 45), (.t 47)], none, false⟩,
 ⟨49, .nt (.t 48), none, false⟩])
 (.ite (.t 49)
 (.seq
 (.reg false [⟨4, .mv (.k (.sc (.bool false))), none, false⟩])
 .ret)
 .skip))
 (.seq
 (.reg false [⟨11, .mv (.k (.sc (.int .i64 1))), none, false⟩])
 (.seq
 (.rgw [⟨50, .ld 4 true (.t 8), none, false⟩,
 ⟨51, .mv (.t 11), none, false⟩,
 ⟨52, .cw 26 [] [(.t 50), (.t 51)], none, false⟩,
 ⟨11, .mv (.t 52), none, false⟩])
 (.seq
 (.seq
 (.reg false [⟨53, .mv (.t 11), none, false⟩,
 ⟨54, .ar .lss false (.t 53) (.k (.sc (.int .i64 0))), none, false⟩,
 ⟨55, .mv (.t 54), none, false⟩,
 ⟨56, .ld 4 true (.t 9), (some (55, false)), false⟩,
 ⟨57, .ld 4 true (.t 6), (some (55, false)), false⟩,
 ⟨58, .ca (.k (.cl 25 [])) [(.t 56), (.t 57)], (some (55, false)), false⟩,
 ⟨59, .nt (.t 58), (some (55, false)), false⟩,
 ⟨60, .pk (.t 55) (.k (.sc (.bool true))) (.t 59), none, false⟩,
 ⟨61, .mv (.t 60), none, false⟩,
 ⟨62, .mv (.t 10), (some (61, false)), false⟩,
 ⟨63, .mv (.t 7), (some (61, false)), false⟩,
 ⟨64, .ar .neq false (.t 62) (.t 63), (some (61, false)), false⟩,
 ⟨65, .pk (.t 61) (.k (.sc (.bool true))) (.t 64), none, false⟩])
 (.ite (.t 65)
 (.seq
 (.reg false [⟨4, .mv (.k (.sc (.bool false))), none, false⟩])
 .ret)
 .skip))
 (.seq
 (.reg false [⟨12, .mv (.k (.sc (.int .i64 1))), none, false⟩])
 (.seq
 (.rgw [⟨66, .ld 4 true (.t 9), none, false⟩,
 ⟨67, .mv (.t 12), none, false⟩,
 ⟨68, .cw 26 [] [(.t 66), (.t 67)], none, false⟩,
 ⟨12, .mv (.t 68), none, false⟩])
 (.seq
 (.reg false [⟨13, .mv (.k (.sc (.int .i64 1))), none, false⟩])
 (.seq
 (.reg false [⟨69, .ld 4 true (.t 9), none, false⟩,
 ⟨70, .mv (.t 13), none, false⟩,
 ⟨71, .ca (.k (.cl 27 [])) [(.t 69), (.t 70)], none, false⟩,
 ⟨13, .mv (.t 71), none, false⟩])
 (.seq
 (.seq
 (.reg false [⟨72, .mv (.t 13), none, false⟩,
 ⟨73, .ar .lss false (.t 72) (.k (.sc (.int .i64 0))), none, false⟩])
 (.ite (.t 73)
 (.seq
 (.reg false [⟨4, .mv (.k (.sc (.bool false))), none, false⟩])
 .ret)
 .skip))
 (.seq
 (.seq
 (.reg false [⟨74, .mv (.t 13), none, false⟩,
 ⟨75, .mv (.t 12), none, false⟩,
 ⟨76, .ar .neq false (.t 74) (.t 75), none, false⟩])
 (.ite (.t 76)
 (.seq
 (.reg false [⟨4, .mv (.k (.sc (.bool false))), none, false⟩])
 .ret)
 .skip))
 (.seq
 (.reg false [⟨78, .ld 4 true (.t 2), none, false⟩,
 ⟨79, .ca (.k (.cl 23 [])) [(.t 78)], none, false⟩,
 ⟨80, .mv (.t 1), none, false⟩,
 ⟨81, .ca (.k (.cl 50 [])) [(.t 79), (.t 80)], none, false⟩,
 ⟨77, .mv (.t 81), none, false⟩,
 ⟨82, .xt (.t 77) 0, none, false⟩,
 ⟨83, .xt (.t 77) 1, none, false⟩,
 ⟨14, .al [(.sc (.int .i64 0)), (.sc (.int .i64 0)), .nl, .nl], none, false⟩,
 ⟨1, .so 4 (.t 14) (.t 82), none, true⟩,
 ⟨15, .mv (.t 83), none, false⟩])
 (.seq
 (.seq
 (.reg false [⟨84, .ld 4 true (.t 14), none, false⟩,
 ⟨85, .ld 4 true (.t 6), none, false⟩,
 ⟨86, .ca (.k (.cl 25 [])) [(.t 84), (.t 85)], none, false⟩,
 ⟨87, .nt (.t 86), none, false⟩,
 ⟨88, .mv (.t 87), none, false⟩,
 ⟨89, .mv (.t 15), (some (88, false)), false⟩,
 ⟨90, .mv (.t 7), (some (88, false)), false⟩,
 ⟨91, .ar .neq false (.t 89) (.t 90), (some (88, false)), false⟩,
 ⟨92, .pk (.t 88) (.k (.sc (.bool true))) (.t 91), none, false⟩])
 (.ite (.t 92)
 (.seq
 (.reg false [⟨4, .mv (.k (.sc (.bool false))), none, false⟩])
 .ret)
 .skip))
 (.seq
 (.reg false [⟨13, .mv (.k (.sc (.int .i64 1))), none, false⟩])
 (.seq
 (.reg false [⟨93, .ld 4 true (.t 9), none, false⟩,
 ⟨94, .mv (.t 13), none, false⟩,
 ⟨95, .ca (.k (.cl 27 [])) [(.t 93), (.t 94)], none, false⟩,
 ⟨13, .mv (.t 95), none, false⟩])
 (.seq
 (.seq
 (.reg false [⟨96, .mv (.t 13), none, false⟩,
 ⟨97, .ar .lss false (.t 96) (.k (.sc (.int .i64 0))), none, false⟩])
 (.ite (.t 97)
 (.seq
 (.reg false [⟨4, .mv (.k (.sc (.bool false))), none, false⟩])
 .ret)
 .skip))
 (.seq
 (.seq
 (.reg false [⟨98, .mv (.t 13), none, false⟩,
 ⟨99, .mv (.t 12), none, false⟩,
 ⟨100, .ar .neq false (.t 98) (.t 99), none, false⟩])
 (.ite (.t 100)
 (.seq
 (.reg false [⟨4, .mv (.k (.sc (.bool false))), none, false⟩])
 .ret)
 .skip))
 (.seq
 (.reg false [⟨4, .mv (.k (.sc (.bool true))), none, false⟩])
 .ret)))))))))))))))))))))))))⟩
attribute [simp] i9
set_option maxRecDepth 1000000 in
theorem c9 : cFn Try.prog 9 [[26]] = some i9 := by kernel_rfl
theorem e9 : enterOk Try.prog 9 = true := by kernel_rfl
def i21 : Ev.Fn := ⟨2, 18, [.tmp 4],
 (.seq
 (.reg false [⟨2, .bx (.t 0), none, false⟩,
 ⟨4, .mv (.k (.sc (.int .i64 0))), none, false⟩])
 (.seq
 (.reg false [⟨5, .fa 2 (.t 2), none, false⟩,
 ⟨6, .ld 1 false (.t 5), none, false⟩,
 ⟨7, .mv (.t 1), none, false⟩,
 ⟨8, .ca (.k (.cl 58 [])) [(.t 6), (.t 7)], none, false⟩,
 ⟨1, .mv (.t 8), none, false⟩])
 (.seq
 (.seq
 (.reg false [⟨9, .mv (.t 1), none, false⟩,
 ⟨10, .ar .lss false (.t 9) (.k (.sc (.int .i64 0))), none, false⟩])
 (.ite (.t 10)
 (.seq
 (.reg false [⟨4, .mv (.k (.sc (.int .i64 (-1)))), none, false⟩])
 .ret)
 .skip))
 (.seq
 (.reg false [⟨11, .fa 3 (.t 2), none, false⟩,
 ⟨12, .ld 1 false (.t 11), none, false⟩,
 ⟨13, .mv (.t 1), none, false⟩,
 ⟨14, .ca (.k (.cl 85 [])) [(.t 12), (.t 13)], none, false⟩,
 ⟨1, .mv (.t 14), none, false⟩])
 (.seq
 (.seq
 (.reg false [⟨15, .mv (.t 1), none, false⟩,
 ⟨16, .ar .lss false (.t 15) (.k (.sc (.int .i64 0))), none, false⟩])
 (.ite (.t 16)
 (.seq
 (.reg false [⟨4, .mv (.k (.sc (.int .i64 (-1)))), none, false⟩])
 .ret)
 .skip))
 (.seq
 (.reg false [⟨17, .mv (.t 1), none, false⟩,
 ⟨4, .mv (.t 17), none, false⟩])
 .ret))))))⟩
attribute [simp] i21
set_option maxRecDepth 1000000 in
theorem c21 : cFn Try.prog 21 [[]] = some i21 := by kernel_rfl
theorem e21 : enterOk Try.prog 21 = true := by kernel_rfl
def i23 : Ev.Fn := ⟨1, 19, [.cell 2 4 true],
 (.seq
 (.reg false [⟨1, .bx (.t 0), none, false⟩,
 ⟨2, .al [(.sc (.int .i64 0)), (.sc (.int .i64 0)), .nl, .nl], none, false⟩])
 (.seq
 (.reg false [⟨3, .al [(.sc (.int .i64 0)), (.sc (.int .i64 0)), .nl, .nl], none, false⟩])
 (.seq
 (.reg false [⟨4, .fa 0 (.t 1), none, false⟩,
 ⟨5, .ld 1 false (.t 4), none, false⟩,
 ⟨6, .fa 0 (.t 3), none, false⟩,
 ⟨1, .so 1 (.t 6) (.t 5), none, true⟩])
 (.seq
 (.reg false [⟨7, .fa 1 (.t 1), none, false⟩,
 ⟨8, .ld 1 false (.t 7), none, false⟩,
 ⟨9, .fa 1 (.t 3), none, false⟩,
 ⟨1, .so 1 (.t 9) (.t 8), none, true⟩])
 (.seq
 (.reg false [⟨10, .fa 2 (.t 1), none, false⟩,
 ⟨11, .ld 1 false (.t 10), none, false⟩,
 ⟨12, .ca (.k (.cl 60 [])) [(.t 11)], none, false⟩,
 ⟨13, .fa 2 (.t 3), none, false⟩,
 ⟨1, .so 1 (.t 13) (.t 12), none, true⟩])
 (.seq
 (.reg false [⟨14, .fa 3 (.t 1), none, false⟩,
 ⟨15, .ld 1 false (.t 14), none, false⟩,
 ⟨16, .ca (.k (.cl 89 [])) [(.t 15)], none, false⟩,
 ⟨17, .fa 3 (.t 3), none, false⟩,
 ⟨1, .so 1 (.t 17) (.t 16), none, true⟩])
 (.seq
 (.reg false [⟨18, .ld 4 true (.t 3), none, false⟩,
 ⟨1, .so 4 (.t 2) (.t 18), none, true⟩])
 .ret)))))))⟩
attribute [simp] i23
set_option maxRecDepth 1000000 in
theorem c23 : cFn Try.prog 23 [[]] = some i23 := by kernel_rfl
theorem e23 : enterOk Try.prog 23 = true := by kernel_rfl
def i25 : Ev.Fn := ⟨2, 27, [.tmp 4],
 (.seq
 (.reg false [⟨2, .bx (.t 0), none, false⟩,
 ⟨3, .bx (.t 1), none, false⟩,
 ⟨4, .mv (.k (.sc (.bool false))), none, false⟩])
 (.seq
 (.seq
 (.reg false [⟨5, .fa 0 (.t 2), none, false⟩,
 ⟨6, .ld 1 false (.t 5), none, false⟩,
 ⟨7, .fa 0 (.t 3), none, false⟩,
 ⟨8, .ld 1 false (.t 7), none, false⟩,
 ⟨9, .ar .neq false (.t 6) (.t 8), none, false⟩])
 (.ite (.t 9)
 (.seq
 (.reg false [⟨4, .mv (.k (.sc (.bool false))), none, false⟩])
 .ret)
 .skip))
 (.seq
 (.seq
 (.reg false [⟨10, .fa 1 (.t 2), none, false⟩,
 ⟨11, .ld 1 false (.t 10), none, false⟩,
 ⟨12, .fa 1 (.t 3), none, false⟩,
 ⟨13, .ld 1 false (.t 12), none, false⟩,
 ⟨14, .ar .neq false (.t 11) (.t 13), none, false⟩])
 (.ite (.t 14)
 (.seq
 (.reg false [⟨4, .mv (.k (.sc (.bool false))), none, false⟩])
 .ret)
 .skip))
 (.seq
 (.seq
 (.reg false [⟨15, .fa 2 (.t 2), none, false⟩,
 ⟨16, .ld 1 false (.t 15), none, false⟩,
 ⟨17, .fa 2 (.t 3), none, false⟩,
 ⟨18, .ld 1 false (.t 17), none, false⟩,
 ⟨19, .ca (.k (.cl 63 [])) [(.t 16), (.t 18)], none, false⟩,
 ⟨20, .nt (.t 19), none, false⟩])
 (.ite (.t 20)
 (.seq
 (.reg false [⟨4, .mv (.k (.sc (.bool false))), none, false⟩])
 .ret)
 .skip))
 (.seq
 (.seq
 (.reg false [⟨21, .fa 3 (.t 2), none, false⟩,
 ⟨22, .ld 1 false (.t 21), none, false⟩,
 ⟨23, .fa 3 (.t 3), none, false⟩,
 ⟨24, .ld 1 false (.t 23), none, false⟩,
 ⟨25, .ca (.k (.cl 96 [])) [(.t 22), (.t 24)], none, false⟩,
 ⟨26, .nt (.t 25), none, false⟩])
 (.ite (.t 26)
 (.seq
 (.reg false [⟨4, .mv (.k (.sc (.bool false))), none, false⟩])
 .ret)
 .skip))
 (.seq
 (.reg false [⟨4, .mv (.k (.sc (.bool true))), none, false⟩])
 .ret))))))⟩
attribute [simp] i25
set_option maxRecDepth 1000000 in
theorem c25 : cFn Try.prog 25 [[]] = some i25 := by kernel_rfl
theorem e25 : enterOk Try.prog 25 = true := by kernel_rfl
def i26 : Ev.Fn := ⟨2, 14, [.tmp 4],
 (.seq
 (.reg false [⟨2, .bx (.t 0), none, false⟩,
 ⟨4, .mv (.k (.sc (.int .i64 0))), none, false⟩])
 (.seq
 (.rgw [⟨5, .fa 2 (.t 2), none, false⟩,
 ⟨6, .ld 1 false (.t 5), none, false⟩,
 ⟨7, .mv (.t 1), none, false⟩,
 ⟨8, .cw 97 [] [(.t 6), (.t 7)], none, false⟩,
 ⟨1, .mv (.t 8), none, false⟩])
 (.seq
 (.rgw [⟨9, .fa 3 (.t 2), none, false⟩,
 ⟨10, .ld 1 false (.t 9), none, false⟩,
 ⟨11, .mv (.t 1), none, false⟩,
 ⟨12, .cw 98 [] [(.t 10), (.t 11)], none, false⟩,
 ⟨1, .mv (.t 12), none, false⟩])
 (.seq
 (.reg false [⟨13, .mv (.t 1), none, false⟩,
 ⟨4, .mv (.t 13), none, false⟩])
 .ret))))⟩
attribute [simp] i26
set_option maxRecDepth 1000000 in
theorem c26 : cFn Try.prog 26 [[97, 98]] = some i26 := by kernel_rfl
theorem e26 : enterOk Try.prog 26 = true := by kernel_rfl
def i27 : Ev.Fn := ⟨2, 18, [.tmp 4],
 (.seq
 (.reg false [⟨2, .bx (.t 0), none, false⟩,
 ⟨4, .mv (.k (.sc (.int .i64 0))), none, false⟩])
 (.seq
 (.reg false [⟨5, .fa 2 (.t 2), none, false⟩,
 ⟨6, .ld 1 false (.t 5), none, false⟩,
 ⟨7, .mv (.t 1), none, false⟩,
 ⟨8, .ca (.k (.cl 99 [])) [(.t 6), (.t 7)], none, false⟩,
 ⟨1, .mv (.t 8), none, false⟩])
 (.seq
 (.seq
 (.reg false [⟨9, .mv (.t 1), none, false⟩,
 ⟨10, .ar .lss false (.t 9) (.k (.sc (.int .i64 0))), none, false⟩])
 (.ite (.t 10)
 (.seq
 (.reg false [⟨4, .mv (.k (.sc (.int .i64 (-1)))), none, false⟩])
 .ret)
 .skip))
 (.seq
 (.reg false [⟨11, .fa 3 (.t 2), none, false⟩,
 ⟨12, .ld 1 false (.t 11), none, false⟩,
 ⟨13, .mv (.t 1), none, false⟩,
 ⟨14, .ca (.k (.cl 100 [])) [(.t 12), (.t 13)], none, false⟩,
 ⟨1, .mv (.t 14), none, false⟩])
 (.seq
 (.seq
 (.reg false [⟨15, .mv (.t 1), none, false⟩,
 ⟨16, .ar .lss false (.t 15) (.k (.sc (.int .i64 0))), none, false⟩])
 (.ite (.t 16)
 (.seq
 (.reg false [⟨4, .mv (.k (.sc (.int .i64 (-1)))), none, false⟩])
 .ret)
 .skip))
 (.seq
 (.reg false [⟨17, .mv (.t 1), none, false⟩,
 ⟨4, .mv (.t 17), none, false⟩])
 .ret))))))⟩
attribute [simp] i27
set_option maxRecDepth 1000000 in
theorem c27 : cFn Try.prog 27 [[]] = some i27 := by kernel_rfl
theorem e27 : enterOk Try.prog 27 = true := by kernel_rfl
def w42_1 : IC :=
(.seq
 (.seq
 (.reg false [⟨11, .mv (.t 5), none, false⟩,
 ⟨12, .mv (.t 0), none, false⟩,
 ⟨13, .ln false (.t 12), none, false⟩,
 ⟨14, .ar .lss false (.t 11) (.t 13), none, false⟩])
 (.ite (.t 14)
 .skip
 (.exit 0)))
 (.seq
 (.block 1
 (.seq
 (.reg true [⟨17, .mv (.t 0), none, false⟩,
 ⟨18, .mv (.t 5), none, false⟩,
 ⟨19, .ia 1 (.t 17) (.t 18), none, false⟩,
 ⟨20, .ld 1 false (.t 19), none, false⟩,
 ⟨21, .mv (.t 1), none, false⟩,
 ⟨22, .mv (.t 5), none, false⟩,
 ⟨23, .ia 1 (.t 21) (.t 22), none, false⟩,
 ⟨24, .ld 1 false (.t 23), none, false⟩,
 ⟨25, .ar .neq false (.t 20) (.t 24), none, false⟩])
 (.ite (.t 25)
 (.seq
 (.reg false [⟨4, .mv (.k (.sc (.bool false))), none, false⟩])
 .ret)
 .skip)))
 (.reg false [⟨15, .mv (.t 5), none, false⟩,
 ⟨16, .ar .add false (.t 15) (.k (.sc (.int .i64 1))), none, false⟩,
 ⟨5, .mv (.t 16), none, false⟩])))
def b42_1 : IC := w42_1
theorem u42_1 (call : CallF) (st : St) : evC call b42_1 st = evC call w42_1 st := rfl
attribute [simp] u42_1 w42_1
def i42 : Ev.Fn := ⟨2, 26, [.tmp 4],
 (.seq
 (.reg false [⟨4, .mv (.k (.sc (.bool false))), none, false⟩])
 (.seq
 (.seq
 (.reg false [⟨6, .mv (.t 0), none, false⟩,
 ⟨7, .ln false (.t 6), none, false⟩,
 ⟨8, .mv (.t 1), none, false⟩,
 ⟨9, .ln false (.t 8), none, false⟩,
 ⟨10, .ar .neq false (.t 7) (.t 9), none, false⟩])
 (.ite (.t 10)
 (.seq
 (.reg false [⟨4, .mv (.k (.sc (.bool false))), none, false⟩])
 .ret)
 .skip))
 (.seq
 (.seq
 (.reg false [⟨5, .mv (.k (.sc (.int .i64 0))), none, false⟩])
 (.cln [] [4]
 (.block 0
 (.loop [0, 1, 5] b42_1))))
 (.seq
 (.reg false [⟨4, .mv (.k (.sc (.bool true))), none, false⟩])
 .ret))))⟩
attribute [simp] i42
set_option maxRecDepth 1000000 in
theorem c42 : cFn Try.prog 42 [[], [0, 1, 5], [], [4]] = some i42 := by kernel_rfl
theorem e42 : enterOk Try.prog 42 = true := by kernel_rfl
def w45_1 : IC :=
(.seq
 (.seq
 (.reg false [⟨6, .mv (.t 5), none, false⟩,
 ⟨7, .mv (.t 0), none, false⟩,
 ⟨8, .ln false (.t 7), none, false⟩,
 ⟨9, .ar .lss false (.t 6) (.t 8), none, false⟩])
 (.ite (.t 9)
 .skip
 (.exit 0)))
 (.seq
 (.block 1
 (.seq
 (.reg false [⟨12, .mv (.t 0), none, false⟩,
 ⟨13, .mv (.t 5), none, false⟩,
 ⟨14, .mv (.t 1), none, false⟩,
 ⟨15, .ia 1 (.t 12) (.t 13), none, false⟩,
 ⟨1, .so 1 (.t 15) (.t 14), none, true⟩])
 (.reg false [⟨16, .mv (.t 1), none, false⟩,
 ⟨17, .ar .add false (.t 16) (.k (.sc (.int .i64 1))), none, false⟩,
 ⟨1, .mv (.t 17), none, false⟩])))
 (.reg false [⟨10, .mv (.t 5), none, false⟩,
 ⟨11, .ar .add false (.t 10) (.k (.sc (.int .i64 1))), none, false⟩,
 ⟨5, .mv (.t 11), none, false⟩])))
def b45_1 : IC := w45_1
theorem u45_1 (call : CallF) (st : St) : evC call b45_1 st = evC call w45_1 st := rfl
attribute [simp] u45_1 w45_1
def i45 : Ev.Fn := ⟨2, 19, [.tmp 4],
 (.seq
 (.reg false [⟨4, .mv (.k (.sc (.int .i64 0))), none, false⟩])
 (.seq
 (.seq
 (.reg false [⟨5, .mv (.k (.sc (.int .i64 0))), none, false⟩])
 (.cln [1, 100000] [4, 100000]
 (.block 0
 (.loop [0, 1, 5, 100000] b45_1))))
 (.seq
 (.reg false [⟨18, .mv (.t 1), none, false⟩,
 ⟨4, .mv (.t 18), none, false⟩])
 .ret)))⟩
attribute [simp] i45
set_option maxRecDepth 1000000 in
theorem c45 : cFn Try.prog 45 [[], [0, 1, 5, 100000], [1, 100000], [4, 100000]] = some i45 := by kernel_rfl
theorem e45 : enterOk Try.prog 45 = true := by kernel_rfl
def w46_1 : IC :=
(.seq
 (.seq
 (.reg false [⟨6, .mv (.t 5), none, false⟩,
 ⟨7, .mv (.t 0), none, false⟩,
 ⟨8, .ln false (.t 7), none, false⟩,
 ⟨9, .ar .lss false (.t 6) (.t 8), none, false⟩])
 (.ite (.t 9)
 .skip
 (.exit 0)))
 (.seq
 (.block 1
 (.seq
 (.seq
 (.reg false [⟨12, .mv (.t 0), none, false⟩,
 ⟨13, .mv (.t 5), none, false⟩,
 ⟨14, .ia 1 (.t 12) (.t 13), none, false⟩,
 ⟨15, .ld 1 false (.t 14), none, false⟩,
 ⟨16, .mv (.t 1), none, false⟩,
 ⟨17, .ar .neq false (.t 15) (.t 16), none, false⟩])
 (.ite (.t 17)
 (.seq
 (.reg false [⟨4, .mv (.k (.sc (.int .i64 (-1)))), none, false⟩])
 .ret)
 .skip))
 (.reg false [⟨18, .mv (.t 1), none, false⟩,
 ⟨19, .ar .add false (.t 18) (.k (.sc (.int .i64 1))), none, false⟩,
 ⟨1, .mv (.t 19), none, false⟩])))
 (.reg false [⟨10, .mv (.t 5), none, false⟩,
 ⟨11, .ar .add false (.t 10) (.k (.sc (.int .i64 1))), none, false⟩,
 ⟨5, .mv (.t 11), none, false⟩])))
def b46_1 : IC := w46_1
theorem u46_1 (call : CallF) (st : St) : evC call b46_1 st = evC call w46_1 st := rfl
attribute [simp] u46_1 w46_1
def i46 : Ev.Fn := ⟨2, 21, [.tmp 4],
 (.seq
 (.reg false [⟨4, .mv (.k (.sc (.int .i64 0))), none, false⟩])
 (.seq
 (.seq
 (.reg false [⟨5, .mv (.k (.sc (.int .i64 0))), none, false⟩])
 (.cln [1] [4]
 (.block 0
 (.loop [0, 1, 5] b46_1))))
 (.seq
 (.reg false [⟨20, .mv (.t 1), none, false⟩,
 ⟨4, .mv (.t 20), none, false⟩])
 .ret)))⟩
attribute [simp] i46
set_option maxRecDepth 1000000 in
theorem c46 : cFn Try.prog 46 [[], [0, 1, 5], [1], [4]] = some i46 := by kernel_rfl
theorem e46 : enterOk Try.prog 46 = true := by kernel_rfl
def w49_2 : IC :=
(.seq
 (.seq
 (.reg false [⟨28, .mv (.t 10), none, false⟩,
 ⟨29, .ar .geq false (.t 28) (.k (.sc (.int .i64 0))), none, false⟩])
 (.ite (.t 29)
 .skip
 (.exit 2)))
 (.seq
 (.block 3
 (.seq
 (.reg true [⟨32, .mv (.t 7), none, false⟩,
 ⟨33, .mv (.t 10), none, false⟩,
 ⟨34, .ia 1 (.t 32) (.t 33), none, false⟩,
 ⟨35, .ld 1 false (.t 34), none, false⟩,
 ⟨36, .mv (.t 10), none, false⟩,
 ⟨37, .ar .eql false (.t 35) (.t 36), none, false⟩,
 ⟨38, .mv (.t 37), none, false⟩,
 ⟨39, .fa 2 (.t 2), (some (38, true)), false⟩,
 ⟨40, .ld 1 false (.t 39), (some (38, true)), false⟩,
 ⟨41, .mv (.t 10), (some (38, true)), false⟩,
 ⟨42, .ia 2 (.t 40) (.t 41), (some (38, true)), false⟩,
 ⟨43, .ld 2 true (.t 42), (some (38, true)), false⟩,
 ⟨44, .fa 2 (.t 2), (some (38, true)), false⟩,
 ⟨45, .ld 1 false (.t 44), (some (38, true)), false⟩,
 ⟨46, .mv (.t 8), (some (38, true)), false⟩,
 ⟨47, .ia 2 (.t 45) (.t 46), (some (38, true)), false⟩,
 ⟨48, .ld 2 true (.t 47), (some (38, true)), false⟩,
 ⟨49, .ca (.k (.cl 129 [])) [(.t 43), (.t 48)], (some (38, true)), false⟩,
 ⟨50, .mv (.t 1), (some (38, true)), false⟩,
 ⟨51, .ar .leq false (.t 49) (.t 50), (some (38, true)), false⟩,
 ⟨52, .pk (.t 38) (.t 51) (.k (.sc (.bool false))), none, false⟩])
 (.ite (.t 52)
 (.reg false [⟨53, .mv (.t 10), none, false⟩,
 ⟨9, .mv (.t 53), none, false⟩])
 .skip)))
 (.reg false [⟨30, .mv (.t 10), none, false⟩,
 ⟨31, .ar .sub false (.t 30) (.k (.sc (.int .i64 1))), none, false⟩,
 ⟨10, .mv (.t 31), none, false⟩])))
def b49_2 : IC := w49_2
theorem u49_2 (call : CallF) (st : St) : evC call b49_2 st = evC call w49_2 st := rfl
attribute [simp] u49_2 w49_2
def w49_1 : IC :=
(.seq
 (.seq
 (.reg false [⟨18, .mv (.t 8), none, false⟩,
 ⟨19, .fa 2 (.t 2), none, false⟩,
 ⟨20, .ld 1 false (.t 19), none, false⟩,
 ⟨21, .ln false (.t 20), none, false⟩,
 ⟨22, .ar .lss false (.t 18) (.t 21), none, false⟩])
 (.ite (.t 22)
 .skip
 (.exit 0)))
 (.seq
 (.block 1
 (.seq
 (.reg false [⟨25, .mv (.t 8), none, false⟩,
 ⟨9, .mv (.t 25), none, false⟩])
 (.seq
 (.seq
 (.reg false [⟨26, .mv (.t 8), none, false⟩,
 ⟨27, .ar .sub false (.t 26) (.k (.sc (.int .i64 1))), none, false⟩,
 ⟨10, .mv (.t 27), none, false⟩])
 (.cln [1, 2, 4, 7, 8, 9] [4, 5]
 (.block 2
 (.loop [1, 2, 4, 7, 8, 9, 10] b49_2))))
 (.reg false [⟨54, .mv (.t 7), none, false⟩,
 ⟨55, .mv (.t 9), none, false⟩,
 ⟨56, .bs 2 1 [(.sc (.int .i64 0))] 1 [(0, (.t 55))], none, false⟩,
 ⟨57, .ap 2 1 false (.t 54) (.t 56), none, false⟩,
 ⟨7, .mv (.t 57), none, false⟩]))))
 (.reg false [⟨23, .mv (.t 8), none, false⟩,
 ⟨24, .ar .add false (.t 23) (.k (.sc (.int .i64 1))), none, false⟩,
 ⟨8, .mv (.t 24), none, false⟩])))
def b49_1 : IC := w49_1
theorem u49_1 (call : CallF) (st : St) : evC call b49_1 st = evC call w49_1 st := rfl
attribute [simp] u49_1 w49_1
def i49 : Ev.Fn := ⟨2, 63, [.cell 4 4 true, .tmp 5],
 (.seq
 (.reg false [⟨2, .bx (.t 0), none, false⟩,
 ⟨4, .al [(.sc (.int .i64 0)), (.sc (.int .i64 0)), .nl, .nl], none, false⟩,
 ⟨5, .mv (.k (.sc (.int .i64 0))), none, false⟩])
 (.seq
 (.reg false [⟨11, .mv (.t 1), none, false⟩,
 ⟨12, .ca (.k (.cl 128 [])) [(.t 2), (.t 11)], none, false⟩,
 ⟨6, .mv (.t 12), none, false⟩])
 (.seq
 (.seq
 (.reg false [⟨13, .mv (.t 6), none, false⟩,
 ⟨14, .ar .neq false (.t 13) (.k (.sc (.int .i64 0))), none, false⟩])
 (.ite (.t 14)
 (.seq
 (.reg false [⟨15, .bd [(.sc (.int .i64 0)), (.sc (.int .i64 0)), .nl, .nl] [], none, false⟩,
 ⟨16, .mv (.t 6), none, false⟩,
 ⟨1, .so 4 (.t 4) (.t 15), none, true⟩,
 ⟨5, .mv (.t 16), none, false⟩])
 .ret)
 .skip))
 (.seq
 (.reg false [⟨17, .bs 2 1 [(.sc (.int .i64 0))] 0 [], none, false⟩,
 ⟨7, .mv (.t 17), none, false⟩])
 (.seq
 (.seq
 (.reg false [⟨8, .mv (.k (.sc (.int .i64 0))), none, false⟩])
 (.cln [2, 4, 7] [4, 5]
 (.block 0
 (.loop [1, 2, 4, 7, 8] b49_1))))
 (.seq
 (.rgw [⟨58, .mv (.t 7), none, false⟩,
 ⟨59, .ca (.k (.cl 130 [])) [(.t 2), (.t 58)], none, false⟩,
 ⟨60, .cw 124 [true] [(.t 59)], none, false⟩,
 ⟨61, .xt (.t 60) 0, none, false⟩,
 ⟨62, .xt (.t 60) 1, none, false⟩,
 ⟨1, .so 4 (.t 4) (.t 61), none, true⟩,
 ⟨5, .mv (.t 62), none, false⟩])
 .ret))))))⟩
attribute [simp] i49
set_option maxRecDepth 1000000 in
theorem c49 : cFn Try.prog 49 [[2000124], [1, 2, 4, 7, 8], [1, 2, 4, 7, 8, 9, 10], [1, 2, 4, 7, 8, 9], [4, 5], [2, 4, 7], [4, 5]] = some i49 := by kernel_rfl
theorem e49 : enterOk Try.prog 49 = true := by kernel_rfl
def w50_1 : IC :=
(.seq
 (.reg false [⟨34, .ar .lss false (.t 33) (.t 32), none, false⟩])
 (.seq
 (.ite (.t 34)
 .skip
 (.exit 0))
 (.seq
 (.block 1
 (.seq
 (.reg false [⟨35, .ia 2 (.t 31) (.t 33), none, false⟩,
 ⟨36, .ld 2 true (.t 35), none, false⟩,
 ⟨10, .al [(.sc (.int .i64 0)), (.sc (.int .i64 0))], none, false⟩,
 ⟨1, .so 2 (.t 10) (.t 36), none, true⟩])
 (.seq
 (.reg false [⟨37, .fa 2 (.t 7), none, false⟩,
 ⟨38, .ld 1 false (.t 37), none, false⟩,
 ⟨39, .mf 133 [(.t 10), (.t 3)], none, false⟩,
 ⟨40, .ca (.k (.cl 132 [])) [(.t 38), (.t 39)], none, false⟩,
 ⟨11, .mv (.t 40), none, false⟩])
 (.seq
 (.seq
 (.reg false [⟨41, .mv (.t 11), none, false⟩,
 ⟨42, .ar .lss false (.t 41) (.k (.sc (.int .i64 0))), none, false⟩])
 (.ite (.t 42)
 (.seq
 (.reg false [⟨43, .fa 2 (.t 7), none, false⟩,
 ⟨44, .ld 1 false (.t 43), none, false⟩,
 ⟨45, .ln false (.t 44), none, false⟩,
 ⟨11, .mv (.t 45), none, false⟩])
 (.reg false [⟨46, .fa 2 (.t 7), none, false⟩,
 ⟨47, .ld 1 false (.t 46), none, false⟩,
 ⟨48, .ld 2 true (.t 10), none, false⟩,
 ⟨49, .bs 159 2 [(.sc (.int .i64 0)), (.sc (.int .i64 0))] 1 [(0, (.t 48))], none, false⟩,
 ⟨50, .ap 159 2 false (.t 47) (.t 49), none, false⟩,
 ⟨51, .fa 2 (.t 7), none, false⟩,
 ⟨1, .so 1 (.t 51) (.t 50), none, true⟩]))
 .skip))
 (.reg false [⟨52, .mv (.t 8), none, false⟩,
 ⟨53, .mv (.t 11), none, false⟩,
 ⟨54, .bs 2 1 [(.sc (.int .i64 0))] 1 [(0, (.t 53))], none, false⟩,
 ⟨55, .ap 2 1 false (.t 52) (.t 54), none, false⟩,
 ⟨8, .mv (.t 55), none, false⟩])))))
 (.reg false [⟨56, .ar .add false (.t 33) (.k (.sc (.int .i64 1))), none, false⟩,
 ⟨33, .mv (.t 56), none, false⟩]))))
def b50_1 : IC := w50_1
theorem u50_1 (call : CallF) (st : St) : evC call b50_1 st = evC call w50_1 st := rfl
attribute [simp] u50_1 w50_1
def w50_3 : IC :=
(.seq
 (.reg false [⟨69, .ar .lss false (.t 68) (.t 67), none, false⟩])
 (.seq
 (.ite (.t 69)
 .skip
 (.exit 4))
 (.seq
 (.block 5
 (.seq
 (.reg false [⟨70, .ia 1 (.t 66) (.t 68), none, false⟩,
 ⟨71, .ld 1 false (.t 70), none, false⟩,
 ⟨16, .mv (.t 71), none, false⟩])
 (.seq
 (.reg true [⟨72, .mv (.t 14), none, false⟩,
 ⟨73, .ln false (.t 72), none, false⟩,
 ⟨74, .ar .eql false (.t 73) (.k (.sc (.int .i64 0))), none, false⟩,
 ⟨75, .mv (.t 74), none, false⟩,
 ⟨76, .mv (.t 14), (some (75, false)), false⟩,
 ⟨77, .mv (.t 14), (some (75, false)), false⟩,
 ⟨78, .ln false (.t 77), (some (75, false)), false⟩,
 ⟨79, .ar .sub false (.t 78) (.k (.sc (.int .i64 1))), (some (75, false)), false⟩,
 ⟨80, .ia 1 (.t 76) (.t 79), (some (75, false)), false⟩,
 ⟨81, .ld 1 false (.t 80), (some (75, false)), false⟩,
 ⟨82, .mv (.t 8), (some (75, false)), false⟩,
 ⟨83, .mv (.t 16), (some (75, false)), false⟩,
 ⟨84, .ia 1 (.t 82) (.t 83), (some (75, false)), false⟩,
 ⟨85, .ld 1 false (.t 84), (some (75, false)), false⟩,
 ⟨86, .ar .neq false (.t 81) (.t 85), (some (75, false)), false⟩,
 ⟨87, .pk (.t 75) (.k (.sc (.bool true))) (.t 86), none, false⟩])
 (.ite (.t 87)
 (.reg false [⟨88, .mv (.t 14), none, false⟩,
 ⟨89, .mv (.t 8), none, false⟩,
 ⟨90, .mv (.t 16), none, false⟩,
 ⟨91, .ia 1 (.t 89) (.t 90), none, false⟩,
 ⟨92, .ld 1 false (.t 91), none, false⟩,
 ⟨93, .bs 2 1 [(.sc (.int .i64 0))] 1 [(0, (.t 92))], none, false⟩,
 ⟨94, .ap 2 1 false (.t 88) (.t 93), none, false⟩,
 ⟨14, .mv (.t 94), none, false⟩])
 .skip))))
 (.reg false [⟨95, .ar .add false (.t 68) (.k (.sc (.int .i64 1))), none, false⟩,
 ⟨68, .mv (.t 95), none, false⟩]))))
def b50_3 : IC := w50_3
theorem u50_3 (call : CallF) (st : St) : evC call b50_3 st = evC call w50_3 st := rfl
attribute [simp] u50_3 w50_3
def w50_4 : IC :=
(.seq
 (.seq
 (.reg true [⟨96, .mv (.t 14), none, false⟩,
 ⟨97, .ln false (.t 96), none, false⟩,
 ⟨98, .ar .gtr false (.t 97) (.k (.sc (.int .i64 1))), none, false⟩,
 ⟨99, .mv (.t 98), none, false⟩,
 ⟨100, .mv (.t 14), (some (99, true)), false⟩,
 ⟨101, .mv (.t 14), (some (99, true)), false⟩,
 ⟨102, .ln false (.t 101), (some (99, true)), false⟩,
 ⟨103, .ar .sub false (.t 102) (.k (.sc (.int .i64 1))), (some (99, true)), false⟩,
 ⟨104, .ia 1 (.t 100) (.t 103), (some (99, true)), false⟩,
 ⟨105, .ld 1 false (.t 104), (some (99, true)), false⟩,
 ⟨106, .mv (.t 14), (some (99, true)), false⟩,
 ⟨107, .ia 1 (.t 106) (.k (.sc (.int .i64 0))), (some (99, true)), false⟩,
 ⟨108, .ld 1 false (.t 107), (some (99, true)), false⟩,
 ⟨109, .ar .eql false (.t 105) (.t 108), (some (99, true)), false⟩,
 ⟨110, .pk (.t 99) (.t 109) (.k (.sc (.bool false))), none, false⟩])
 (.ite (.t 110)
 .skip
 (.exit 6)))
 (.block 7
 (.seq
 (.reg false [⟨111, .mv (.t 14), none, false⟩,
 ⟨112, .mv (.t 14), none, false⟩,
 ⟨113, .ln false (.t 112), none, false⟩,
 ⟨114, .ar .sub false (.t 113) (.k (.sc (.int .i64 1))), none, false⟩,
 ⟨115, .sl 1 (.t 111) none (some (.t 114)), none, false⟩,
 ⟨14, .mv (.t 115), none, false⟩])
 (.trm 14))))
def b50_4 : IC := w50_4
theorem u50_4 (call : CallF) (st : St) : evC call b50_4 st = evC call w50_4 st := rfl
attribute [simp] u50_4 w50_4
def w50_2 : IC :=
(.seq
 (.reg false [⟨61, .ar .lss false (.t 60) (.t 59), none, false⟩])
 (.seq
 (.ite (.t 61)
 .skip
 (.exit 2))
 (.seq
 (.block 3
 (.seq
 (.reg false [⟨62, .ia 2 (.t 58) (.t 60), none, false⟩,
 ⟨63, .ld 2 true (.t 62), none, false⟩,
 ⟨13, .al [(.sc (.string ⟨#[]⟩)), .nl], none, false⟩,
 ⟨1, .so 2 (.t 13) (.t 63), none, true⟩])
 (.seq
 (.reg false [⟨64, .bs 2 1 [(.sc (.int .i64 0))] 0 [], none, false⟩,
 ⟨14, .mv (.t 64), none, false⟩])
 (.seq
 (.seq
 (.reg false [⟨65, .fa 1 (.t 13), none, false⟩,
 ⟨66, .ld 1 false (.t 65), none, false⟩,
 ⟨67, .ln false (.t 66), none, false⟩,
 ⟨68, .mv (.k (.sc (.int .i64 0))), none, false⟩])
 (.cln [4, 7, 8, 13, 14, 58, 59, 60] [4, 5]
 (.block 4
 (.loop [4, 7, 8, 13, 14, 58, 59, 60, 66, 67, 68] b50_3))))
 (.seq
 (.cln [4, 7, 8, 13, 14, 58, 59, 60] [4, 5]
 (.block 6
 (.loop [4, 7, 8, 13, 14, 58, 59, 60] b50_4)))
 (.reg false [⟨116, .fa 3 (.t 7), none, false⟩,
 ⟨117, .ld 1 false (.t 116), none, false⟩,
 ⟨118, .fa 0 (.t 13), none, false⟩,
 ⟨119, .ld 1 false (.t 118), none, false⟩,
 ⟨120, .mv (.t 14), none, false⟩,
 ⟨121, .bd [(.sc (.string ⟨#[]⟩)), .nl] [(0, 1, (.t 119)), (1, 1, (.t 120))], none, false⟩,
 ⟨122, .bw 127 2 [(.sc (.string ⟨#[]⟩)), .nl] 1 [(0, (.t 121))], none, false⟩,
 ⟨123, .ap 127 2 false (.t 117) (.t 122), none, false⟩,
 ⟨124, .fa 3 (.t 7), none, false⟩,
 ⟨1, .so 1 (.t 124) (.t 123), none, true⟩]))))))
 (.reg false [⟨125, .ar .add false (.t 60) (.k (.sc (.int .i64 1))), none, false⟩,
 ⟨60, .mv (.t 125), none, false⟩]))))
def b50_2 : IC := w50_2
theorem u50_2 (call : CallF) (st : St) : evC call b50_2 st = evC call w50_2 st := rfl
attribute [simp] u50_2 w50_2
def i50 : Ev.Fn := ⟨2, 130, [.cell 4 4 true, .tmp 5],
 (.seq
 (.reg false [⟨2, .bx (.t 0), none, false⟩,
 ⟨3, .bx (.t 1), none, false⟩,
 ⟨4, .al [(.sc (.int .i64 0)), (.sc (.int .i64 0)), .nl, .nl], none, false⟩,
 ⟨5, .mv (.k (.sc (.int .i64 0))), none, false⟩])
 (.seq
 (.seq
 (.reg false [⟨17, .ld 4 true (.t 2), none, false⟩,
 ⟨18, .ld 1 false (.t 3), none, false⟩,
 ⟨19, .ca (.k (.cl 131 [])) [(.t 17), (.t 18)], none, false⟩,
 ⟨6, .mv (.t 19), none, false⟩])
 (.seq
 (.reg false [⟨20, .mv (.t 6), none, false⟩,
 ⟨21, .ar .neq false (.t 20) (.k (.sc (.int .i64 0))), none, false⟩])
 (.ite (.t 21)
 (.seq
 (.reg false [⟨22, .bd [(.sc (.int .i64 0)), (.sc (.int .i64 0)), .nl, .nl] [], none, false⟩,
 ⟨23, .mv (.t 6), none, false⟩,
 ⟨1, .so 4 (.t 4) (.t 22), none, true⟩,
 ⟨5, .mv (.t 23), none, false⟩])
 .ret)
 .skip)))
 (.seq
 (.reg false [⟨24, .fa 0 (.t 2), none, false⟩,
 ⟨25, .ld 1 false (.t 24), none, false⟩,
 ⟨26, .fa 1 (.t 2), none, false⟩,
 ⟨27, .ld 1 false (.t 26), none, false⟩,
 ⟨28, .bd [(.sc (.int .i64 0)), (.sc (.int .i64 0)), .nl, .nl] [(0, 1, (.t 25)), (1, 1, (.t 27))], none, false⟩,
 ⟨29, .bs 2 1 [(.sc (.int .i64 0))] 0 [], none, false⟩,
 ⟨7, .al [(.sc (.int .i64 0)), (.sc (.int .i64 0)), .nl, .nl], none, false⟩,
 ⟨1, .so 4 (.t 7) (.t 28), none, true⟩,
 ⟨8, .mv (.t 29), none, false⟩])
 (.seq
 (.seq
 (.reg false [⟨30, .fa 2 (.t 2), none, false⟩,
 ⟨31, .ld 1 false (.t 30), none, false⟩,
 ⟨32, .ln false (.t 31), none, false⟩,
 ⟨33, .mv (.k (.sc (.int .i64 0))), none, false⟩])
 (.cln [2, 4, 7, 8] [4, 5]
 (.block 0
 (.loop [2, 3, 4, 7, 8, 31, 32, 33] b50_1))))
 (.seq
 (.seq
 (.reg false [⟨57, .fa 3 (.t 2), none, false⟩,
 ⟨58, .ld 1 false (.t 57), none, false⟩,
 ⟨59, .ln false (.t 58), none, false⟩,
 ⟨60, .mv (.k (.sc (.int .i64 0))), none, false⟩])
 (.cln [4, 7] [4, 5]
 (.block 2
 (.loop [4, 7, 8, 58, 59, 60] b50_2))))
 (.seq
 (.rgw [⟨126, .ld 4 true (.t 7), none, false⟩,
 ⟨127, .cw 93 [true] [(.t 126)], none, false⟩,
 ⟨128, .xt (.t 127) 0, none, false⟩,
 ⟨129, .xt (.t 127) 1, none, false⟩,
 ⟨1, .so 4 (.t 4) (.t 128), none, true⟩,
 ⟨5, .mv (.t 129), none, false⟩])
 .ret))))))⟩
attribute [simp] i50
set_option maxRecDepth 1000000 in
theorem c50 : cFn Try.prog 50 [[2000093], [2, 3, 4, 7, 8, 31, 32, 33], [2, 4, 7, 8], [4, 5], [4, 7, 8, 58, 59, 60], [4, 7, 8, 13, 14, 58, 59, 60, 66, 67, 68], [4, 7, 8, 13, 14, 58, 59, 60], [4, 5], [4, 7, 8, 13, 14, 58, 59, 60], [4, 7, 8, 13, 14, 58, 59, 60], [4, 5], [4, 7], [4, 5]] = some i50 := by kernel_rfl
theorem e50 : enterOk Try.prog 50 = true := by kernel_rfl
def i58 : Ev.Fn := ⟨2, 12, [.tmp 4],
 (.seq
 (.reg false [⟨4, .mv (.k (.sc (.int .i64 0))), none, false⟩])
 (.seq
 (.reg false [⟨5, .mv (.t 1), none, false⟩,
 ⟨6, .mv (.t 0), none, false⟩,
 ⟨7, .ln false (.t 6), none, false⟩,
 ⟨8, .ar .sub false (.t 5) (.t 7), none, false⟩,
 ⟨1, .mv (.t 8), none, false⟩])
 (.seq
 (.seq
 (.reg false [⟨9, .mv (.t 1), none, false⟩,
 ⟨10, .ar .lss false (.t 9) (.k (.sc (.int .i64 0))), none, false⟩])
 (.ite (.t 10)
 (.seq
 (.reg false [⟨4, .mv (.k (.sc (.int .i64 (-1)))), none, false⟩])
 .ret)
 .skip))
 (.seq
 (.reg false [⟨11, .mv (.t 1), none, false⟩,
 ⟨4, .mv (.t 11), none, false⟩])
 .ret))))⟩
attribute [simp] i58
set_option maxRecDepth 1000000 in
theorem c58 : cFn Try.prog 58 [[]] = some i58 := by kernel_rfl
theorem e58 : enterOk Try.prog 58 = true := by kernel_rfl
def w60_1 : IC :=
(.seq
 (.seq
 (.reg false [⟨8, .mv (.t 4), none, false⟩,
 ⟨9, .mv (.t 0), none, false⟩,
 ⟨10, .ln false (.t 9), none, false⟩,
 ⟨11, .ar .lss false (.t 8) (.t 10), none, false⟩])
 (.ite (.t 11)
 .skip
 (.exit 0)))
 (.seq
 (.block 1
 (.reg false [⟨14, .mv (.t 3), none, false⟩,
 ⟨15, .mv (.t 4), none, false⟩,
 ⟨16, .mv (.t 0), none, false⟩,
 ⟨17, .mv (.t 4), none, false⟩,
 ⟨18, .ia 2 (.t 16) (.t 17), none, false⟩,
 ⟨19, .ld 2 true (.t 18), none, false⟩,
 ⟨20, .ca (.k (.cl 154 [])) [(.t 19)], none, false⟩,
 ⟨21, .ia 2 (.t 14) (.t 15), none, false⟩,
 ⟨1, .so 2 (.t 21) (.t 20), none, true⟩]))
 (.reg false [⟨12, .mv (.t 4), none, false⟩,
 ⟨13, .ar .add false (.t 12) (.k (.sc (.int .i64 1))), none, false⟩,
 ⟨4, .mv (.t 13), none, false⟩])))
def b60_1 : IC := w60_1
theorem u60_1 (call : CallF) (st : St) : evC call b60_1 st = evC call w60_1 st := rfl
attribute [simp] u60_1 w60_1
def i60 : Ev.Fn := ⟨1, 23, [.tmp 2],
 (.seq
 (.reg false [⟨2, .mv (.k .nl), none, false⟩])
 (.seq
 (.reg false [⟨5, .mv (.t 0), none, false⟩,
 ⟨6, .ln false (.t 5), none, false⟩,
 ⟨7, .ms 159 2 [(.sc (.int .i64 0)), (.sc (.int .i64 0))] (.t 6), none, false⟩,
 ⟨3, .mv (.t 7), none, false⟩])
 (.seq
 (.seq
 (.reg false [⟨4, .mv (.k (.sc (.int .i64 0))), none, false⟩])
 (.cln [3] [2]
 (.block 0
 (.loop [0, 3, 4] b60_1))))
 (.seq
 (.reg false [⟨22, .mv (.t 3), none, false⟩,
 ⟨2, .mv (.t 22), none, false⟩])
 .ret))))⟩
attribute [simp] i60
set_option maxRecDepth 1000000 in
theorem c60 : cFn Try.prog 60 [[], [0, 3, 4], [3], [2]] = some i60 := by kernel_rfl
theorem e60 : enterOk Try.prog 60 = true := by kernel_rfl
def w63_1 : IC :=
(.seq
 (.seq
 (.reg false [⟨11, .mv (.t 5), none, false⟩,
 ⟨12, .mv (.t 0), none, false⟩,
 ⟨13, .ln false (.t 12), none, false⟩,
 ⟨14, .ar .lss false (.t 11) (.t 13), none, false⟩])
 (.ite (.t 14)
 .skip
 (.exit 0)))
 (.seq
 (.block 1
 (.seq
 (.reg true [⟨17, .mv (.t 0), none, false⟩,
 ⟨18, .mv (.t 5), none, false⟩,
 ⟨19, .ia 2 (.t 17) (.t 18), none, false⟩,
 ⟨20, .ld 2 true (.t 19), none, false⟩,
 ⟨21, .mv (.t 1), none, false⟩,
 ⟨22, .mv (.t 5), none, false⟩,
 ⟨23, .ia 2 (.t 21) (.t 22), none, false⟩,
 ⟨24, .ld 2 true (.t 23), none, false⟩,
 ⟨25, .ca (.k (.cl 158 [])) [(.t 20), (.t 24)], none, false⟩,
 ⟨26, .nt (.t 25), none, false⟩])
 (.ite (.t 26)
 (.seq
 (.reg false [⟨4, .mv (.k (.sc (.bool false))), none, false⟩])
 .ret)
 .skip)))
 (.reg false [⟨15, .mv (.t 5), none, false⟩,
 ⟨16, .ar .add false (.t 15) (.k (.sc (.int .i64 1))), none, false⟩,
 ⟨5, .mv (.t 16), none, false⟩])))
def b63_1 : IC := w63_1
theorem u63_1 (call : CallF) (st : St) : evC call b63_1 st = evC call w63_1 st := rfl
attribute [simp] u63_1 w63_1
def i63 : Ev.Fn := ⟨2, 27, [.tmp 4],
 (.seq
 (.reg false [⟨4, .mv (.k (.sc (.bool false))), none, false⟩])
 (.seq
 (.seq
 (.reg false [⟨6, .mv (.t 0), none, false⟩,
 ⟨7, .ln false (.t 6), none, false⟩,
 ⟨8, .mv (.t 1), none, false⟩,
 ⟨9, .ln false (.t 8), none, false⟩,
 ⟨10, .ar .neq false (.t 7) (.t 9), none, false⟩])
 (.ite (.t 10)
 (.seq
 (.reg false [⟨4, .mv (.k (.sc (.bool false))), none, false⟩])
 .ret)
 .skip))
 (.seq
 (.seq
 (.reg false [⟨5, .mv (.k (.sc (.int .i64 0))), none, false⟩])
 (.cln [] [4]
 (.block 0
 (.loop [0, 1, 5] b63_1))))
 (.seq
 (.reg false [⟨4, .mv (.k (.sc (.bool true))), none, false⟩])
 .ret))))⟩
attribute [simp] i63
set_option maxRecDepth 1000000 in
theorem c63 : cFn Try.prog 63 [[], [0, 1, 5], [], [4]] = some i63 := by kernel_rfl
theorem e63 : enterOk Try.prog 63 = true := by kernel_rfl
def w69_1 : IC :=
(.seq
 (.seq
 (.reg false [⟨8, .mv (.t 4), none, false⟩,
 ⟨9, .mv (.t 0), none, false⟩,
 ⟨10, .ln false (.t 9), none, false⟩,
 ⟨11, .ar .lss false (.t 8) (.t 10), none, false⟩])
 (.ite (.t 11)
 .skip
 (.exit 0)))
 (.seq
 (.block 1
 (.reg false [⟨14, .mv (.t 3), none, false⟩,
 ⟨15, .mv (.t 4), none, false⟩,
 ⟨16, .mv (.t 0), none, false⟩,
 ⟨17, .mv (.t 4), none, false⟩,
 ⟨18, .ia 1 (.t 16) (.t 17), none, false⟩,
 ⟨19, .ld 1 false (.t 18), none, false⟩,
 ⟨20, .ia 1 (.t 14) (.t 15), none, false⟩,
 ⟨1, .so 1 (.t 20) (.t 19), none, true⟩]))
 (.reg false [⟨12, .mv (.t 4), none, false⟩,
 ⟨13, .ar .add false (.t 12) (.k (.sc (.int .i64 1))), none, false⟩,
 ⟨4, .mv (.t 13), none, false⟩])))
def b69_1 : IC := w69_1
theorem u69_1 (call : CallF) (st : St) : evC call b69_1 st = evC call w69_1 st := rfl
attribute [simp] u69_1 w69_1
def i69 : Ev.Fn := ⟨1, 22, [.tmp 2],
 (.seq
 (.reg false [⟨2, .mv (.k .nl), none, false⟩])
 (.seq
 (.reg false [⟨5, .mv (.t 0), none, false⟩,
 ⟨6, .ln false (.t 5), none, false⟩,
 ⟨7, .ms 2 1 [(.sc (.int .i64 0))] (.t 6), none, false⟩,
 ⟨3, .mv (.t 7), none, false⟩])
 (.seq
 (.seq
 (.reg false [⟨4, .mv (.k (.sc (.int .i64 0))), none, false⟩])
 (.cln [3] [2]
 (.block 0
 (.loop [0, 3, 4] b69_1))))
 (.seq
 (.reg false [⟨21, .mv (.t 3), none, false⟩,
 ⟨2, .mv (.t 21), none, false⟩])
 .ret))))⟩
attribute [simp] i69
set_option maxRecDepth 1000000 in
theorem c69 : cFn Try.prog 69 [[], [0, 3, 4], [3], [2]] = some i69 := by kernel_rfl
theorem e69 : enterOk Try.prog 69 = true := by kernel_rfl
def w85_1 : IC :=
(.seq
 (.seq
 (.reg false [⟨12, .mv (.t 5), none, false⟩,
 ⟨13, .mv (.t 0), none, false⟩,
 ⟨14, .ln false (.t 13), none, false⟩,
 ⟨15, .ar .lss false (.t 12) (.t 14), none, false⟩])
 (.ite (.t 15)
 .skip
 (.exit 0)))
 (.seq
 (.block 1
 (.seq
 (.reg false [⟨18, .mv (.t 0), none, false⟩,
 ⟨19, .mv (.t 5), none, false⟩,
 ⟨20, .ia 2 (.t 18) (.t 19), none, false⟩,
 ⟨21, .ld 2 true (.t 20), none, false⟩,
 ⟨22, .mv (.t 1), none, false⟩,
 ⟨23, .ca (.k (.cl 181 [])) [(.t 21), (.t 22)], none, false⟩,
 ⟨1, .mv (.t 23), none, false⟩])
 (.seq
 (.reg false [⟨24, .mv (.t 1), none, false⟩,
 ⟨25, .ar .lss false (.t 24) (.k (.sc (.int .i64 0))), none, false⟩])
 (.ite (.t 25)
 (.seq
 (.reg false [⟨4, .mv (.k (.sc (.int .i64 (-1)))), none, false⟩])
 .ret)
 .skip))))
 (.reg false [⟨16, .mv (.t 5), none, false⟩,
 ⟨17, .ar .add false (.t 16) (.k (.sc (.int .i64 1))), none, false⟩,
 ⟨5, .mv (.t 17), none, false⟩])))
def b85_1 : IC := w85_1
theorem u85_1 (call : CallF) (st : St) : evC call b85_1 st = evC call w85_1 st := rfl
attribute [simp] u85_1 w85_1
def i85 : Ev.Fn := ⟨2, 27, [.tmp 4],
 (.seq
 (.reg false [⟨4, .mv (.k (.sc (.int .i64 0))), none, false⟩])
 (.seq
 (.reg false [⟨6, .mv (.t 1), none, false⟩,
 ⟨7, .mv (.t 0), none, false⟩,
 ⟨8, .ln false (.t 7), none, false⟩,
 ⟨9, .ar .sub false (.t 6) (.t 8), none, false⟩,
 ⟨1, .mv (.t 9), none, false⟩])
 (.seq
 (.seq
 (.reg false [⟨10, .mv (.t 1), none, false⟩,
 ⟨11, .ar .lss false (.t 10) (.k (.sc (.int .i64 0))), none, false⟩])
 (.ite (.t 11)
 (.seq
 (.reg false [⟨4, .mv (.k (.sc (.int .i64 (-1)))), none, false⟩])
 .ret)
 .skip))
 (.seq
 (.seq
 (.reg false [⟨5, .mv (.k (.sc (.int .i64 0))), none, false⟩])
 (.cln [1] [4]
 (.block 0
 (.loop [0, 1, 5] b85_1))))
 (.seq
 (.reg false [⟨26, .mv (.t 1), none, false⟩,
 ⟨4, .mv (.t 26), none, false⟩])
 .ret)))))⟩
attribute [simp] i85
set_option maxRecDepth 1000000 in
theorem c85 : cFn Try.prog 85 [[], [0, 1, 5], [1], [4]] = some i85 := by kernel_rfl
theorem e85 : enterOk Try.prog 85 = true := by kernel_rfl
def w86_1 : IC :=
(.seq
 (.seq
 (.reg false [⟨33, .mv (.t 3), none, false⟩,
 ⟨34, .mv (.t 0), none, false⟩,
 ⟨35, .nc (.t 34), none, false⟩,
 ⟨36, .fa 3 (.t 35), none, false⟩,
 ⟨37, .ld 1 false (.t 36), none, false⟩,
 ⟨38, .ln false (.t 37), none, false⟩,
 ⟨39, .ar .lss false (.t 33) (.t 38), none, false⟩])
 (.ite (.t 39)
 .skip
 (.exit 0)))
 (.seq
 (.block 1
 (.seq
 (.seq
 (.reg true [⟨42, .mv (.t 0), none, false⟩,
 ⟨43, .nc (.t 42), none, false⟩,
 ⟨44, .fa 3 (.t 43), none, false⟩,
 ⟨45, .ld 1 false (.t 44), none, false⟩,
 ⟨46, .mv (.t 3), none, false⟩,
 ⟨47, .ia 2 (.t 45) (.t 46), none, false⟩,
 ⟨48, .fa 0 (.t 47), none, false⟩,
 ⟨49, .ld 1 false (.t 48), none, false⟩,
 ⟨50, .ca (.k (.cl 168 [])) [(.t 49)], none, false⟩,
 ⟨51, .nt (.t 50), none, false⟩,
 ⟨52, .mv (.t 51), none, false⟩,
 ⟨53, .mv (.t 3), (some (52, false)), false⟩,
 ⟨54, .ar .gtr false (.t 53) (.k (.sc (.int .i64 0))), (some (52, false)), false⟩,
 ⟨55, .mv (.t 54), (some (52, false)), false⟩,
 ⟨56, .mv (.t 0), (some (55, true)), false⟩,
 ⟨57, .nc (.t 56), (some (55, true)), false⟩,
 ⟨58, .fa 3 (.t 57), (some (55, true)), false⟩,
 ⟨59, .ld 1 false (.t 58), (some (55, true)), false⟩,
 ⟨60, .mv (.t 3), (some (55, true)), false⟩,
 ⟨61, .ar .sub false (.t 60) (.k (.sc (.int .i64 1))), (some (55, true)), false⟩,
 ⟨62, .ia 2 (.t 59) (.t 61), (some (55, true)), false⟩,
 ⟨63, .fa 0 (.t 62), (some (55, true)), false⟩,
 ⟨64, .ld 1 false (.t 63), (some (55, true)), false⟩,
 ⟨65, .mv (.t 0), (some (55, true)), false⟩,
 ⟨66, .nc (.t 65), (some (55, true)), false⟩,
 ⟨67, .fa 3 (.t 66), (some (55, true)), false⟩,
 ⟨68, .ld 1 false (.t 67), (some (55, true)), false⟩,
 ⟨69, .mv (.t 3), (some (55, true)), false⟩,
 ⟨70, .ia 2 (.t 68) (.t 69), (some (55, true)), false⟩,
 ⟨71, .fa 0 (.t 70), (some (55, true)), false⟩,
 ⟨72, .ld 1 false (.t 71), (some (55, true)), false⟩,
 ⟨73, .ar .geq false (.t 64) (.t 72), (some (55, true)), false⟩,
 ⟨74, .pk (.t 55) (.t 73) (.k (.sc (.bool false))), (some (52, false)), false⟩,
 ⟨75, .pk (.t 52) (.k (.sc (.bool true))) (.t 74), none, false⟩])
 (.ite (.t 75)
 (.seq
 (.reg false [⟨2, .mv (.k (.sc (.bool false))), none, false⟩])
 .ret)
 .skip))
 (.seq
 (.reg false [⟨77, .mv (.t 0), none, false⟩,
 ⟨78, .mv (.t 0), none, false⟩,
 ⟨79, .nc (.t 78), none, false⟩,
 ⟨80, .fa 3 (.t 79), none, false⟩,
 ⟨81, .ld 1 false (.t 80), none, false⟩,
 ⟨82, .mv (.t 3), none, false⟩,
 ⟨83, .ia 2 (.t 81) (.t 82), none, false⟩,
 ⟨84, .fa 1 (.t 83), none, false⟩,
 ⟨85, .ld 1 false (.t 84), none, false⟩,
 ⟨86, .ca (.k (.cl 183 [])) [(.t 77), (.t 85)], none, false⟩,
 ⟨76, .mv (.t 86), none, false⟩,
 ⟨87, .xt (.t 76) 0, none, false⟩,
 ⟨88, .xt (.t 76) 1, none, false⟩,
 ⟨4, .mv (.t 87), none, false⟩,
 ⟨5, .mv (.t 88), none, false⟩])
 (.seq
 (.reg false [⟨89, .mv (.t 5), none, false⟩,
 ⟨90, .nt (.t 89), none, false⟩,
 ⟨91, .mv (.t 90), none, false⟩,
 ⟨92, .mv (.t 4), (some (91, false)), false⟩,
 ⟨93, .ca (.k (.cl 151 [])) [(.t 92)], (some (91, false)), false⟩,
 ⟨94, .nt (.t 93), (some (91, false)), false⟩,
 ⟨95, .pk (.t 91) (.k (.sc (.bool true))) (.t 94), none, false⟩])
 (.ite (.t 95)
 (.seq
 (.reg false [⟨2, .mv (.k (.sc (.bool false))), none, false⟩])
 .ret)
 .skip)))))
 (.reg false [⟨40, .mv (.t 3), none, false⟩,
 ⟨41, .ar .add false (.t 40) (.k (.sc (.int .i64 1))), none, false⟩,
 ⟨3, .mv (.t 41), none, false⟩])))
def b86_1 : IC := w86_1
theorem u86_1 (call : CallF) (st : St) : evC call b86_1 st = evC call w86_1 st := rfl
attribute [simp] u86_1 w86_1
def i86 : Ev.Fn := ⟨1, 96, [.tmp 2],
 (.seq
 (.reg false [⟨2, .mv (.k (.sc (.bool false))), none, false⟩])
 (.seq
 (.seq
 (.reg false [⟨6, .mv (.t 0), none, false⟩,
 ⟨7, .nc (.t 6), none, false⟩,
 ⟨8, .fa 0 (.t 7), none, false⟩,
 ⟨9, .ld 1 false (.t 8), none, false⟩,
 ⟨10, .ca (.k (.cl 162 [])) [(.t 9), (.k (.sc (.int .i64 10))), (.k (.sc (.int .i64 20000)))], none, false⟩,
 ⟨11, .nt (.t 10), none, false⟩,
 ⟨12, .mv (.t 11), none, false⟩,
 ⟨13, .mv (.t 0), (some (12, false)), false⟩,
 ⟨14, .nc (.t 13), (some (12, false)), false⟩,
 ⟨15, .fa 1 (.t 14), (some (12, false)), false⟩,
 ⟨16, .ld 1 false (.t 15), (some (12, false)), false⟩,
 ⟨17, .ca (.k (.cl 162 [])) [(.t 16), (.k (.sc (.int .i64 10))), (.k (.sc (.int .i64 20000)))], (some (12, false)), false⟩,
 ⟨18, .nt (.t 17), (some (12, false)), false⟩,
 ⟨19, .pk (.t 12) (.k (.sc (.bool true))) (.t 18), none, false⟩,
 ⟨20, .mv (.t 19), none, false⟩,
 ⟨21, .mv (.t 0), (some (20, false)), false⟩,
 ⟨22, .ca (.k (.cl 182 [])) [(.t 21)], (some (20, false)), false⟩,
 ⟨23, .nt (.t 22), (some (20, false)), false⟩,
 ⟨24, .pk (.t 20) (.k (.sc (.bool true))) (.t 23), none, false⟩,
 ⟨25, .mv (.t 24), none, false⟩,
 ⟨26, .mv (.t 0), (some (25, false)), false⟩,
 ⟨27, .nc (.t 26), (some (25, false)), false⟩,
 ⟨28, .fa 3 (.t 27), (some (25, false)), false⟩,
 ⟨29, .ld 1 false (.t 28), (some (25, false)), false⟩,
 ⟨30, .ln false (.t 29), (some (25, false)), false⟩,
 ⟨31, .ar .gtr false (.t 30) (.k (.sc (.int .i64 24))), (some (25, false)), false⟩,
 ⟨32, .pk (.t 25) (.k (.sc (.bool true))) (.t 31), none, false⟩])
 (.ite (.t 32)
 (.seq
 (.reg false [⟨2, .mv (.k (.sc (.bool false))), none, false⟩])
 .ret)
 .skip))
 (.seq
 (.seq
 (.reg false [⟨3, .mv (.k (.sc (.int .i64 0))), none, false⟩])
 (.cln [] [2]
 (.block 0
 (.loop [0, 3] b86_1))))
 (.seq
 (.reg false [⟨2, .mv (.k (.sc (.bool true))), none, false⟩])
 .ret))))⟩
attribute [simp] i86
set_option maxRecDepth 1000000 in
theorem c86 : cFn Try.prog 86 [[], [0, 3], [], [2]] = some i86 := by kernel_rfl
theorem e86 : enterOk Try.prog 86 = true := by kernel_rfl
def w89_1 : IC :=
(.seq
 (.seq
 (.reg false [⟨8, .mv (.t 4), none, false⟩,
 ⟨9, .mv (.t 0), none, false⟩,
 ⟨10, .ln false (.t 9), none, false⟩,
 ⟨11, .ar .lss false (.t 8) (.t 10), none, false⟩])
 (.ite (.t 11)
 .skip
 (.exit 0)))
 (.seq
 (.block 1
 (.reg false [⟨14, .mv (.t 3), none, false⟩,
 ⟨15, .mv (.t 4), none, false⟩,
 ⟨16, .mv (.t 0), none, false⟩,
 ⟨17, .mv (.t 4), none, false⟩,
 ⟨18, .ia 2 (.t 16) (.t 17), none, false⟩,
 ⟨19, .ld 2 true (.t 18), none, false⟩,
 ⟨20, .ca (.k (.cl 185 [])) [(.t 19)], none, false⟩,
 ⟨21, .ia 2 (.t 14) (.t 15), none, false⟩,
 ⟨1, .so 2 (.t 21) (.t 20), none, true⟩]))
 (.reg false [⟨12, .mv (.t 4), none, false⟩,
 ⟨13, .ar .add false (.t 12) (.k (.sc (.int .i64 1))), none, false⟩,
 ⟨4, .mv (.t 13), none, false⟩])))
def b89_1 : IC := w89_1
theorem u89_1 (call : CallF) (st : St) : evC call b89_1 st = evC call w89_1 st := rfl
attribute [simp] u89_1 w89_1
def i89 : Ev.Fn := ⟨1, 23, [.tmp 2],
 (.seq
 (.reg false [⟨2, .mv (.k .nl), none, false⟩])
 (.seq
 (.reg false [⟨5, .mv (.t 0), none, false⟩,
 ⟨6, .ln false (.t 5), none, false⟩,
 ⟨7, .ms 127 2 [(.sc (.string ⟨#[]⟩)), .nl] (.t 6), none, false⟩,
 ⟨3, .mv (.t 7), none, false⟩])
 (.seq
 (.seq
 (.reg false [⟨4, .mv (.k (.sc (.int .i64 0))), none, false⟩])
 (.cln [3] [2]
 (.block 0
 (.loop [0, 3, 4] b89_1))))
 (.seq
 (.reg false [⟨22, .mv (.t 3), none, false⟩,
 ⟨2, .mv (.t 22), none, false⟩])
 .ret))))⟩
attribute [simp] i89
set_option maxRecDepth 1000000 in
theorem c89 : cFn Try.prog 89 [[], [0, 3, 4], [3], [2]] = some i89 := by kernel_rfl
theorem e89 : enterOk Try.prog 89 = true := by kernel_rfl
def w90_1 : IC :=
(.seq
 (.reg false [⟨35, .ar .lss false (.t 34) (.t 33), none, false⟩])
 (.seq
 (.ite (.t 35)
 .skip
 (.exit 0))
 (.seq
 (.block 1
 (.seq
 (.reg false [⟨36, .mv (.t 34), none, false⟩,
 ⟨37, .ia 2 (.t 32) (.t 34), none, false⟩,
 ⟨38, .ld 2 true (.t 37), none, false⟩,
 ⟨4, .al [(.sc (.int .i64 0)), (.sc (.int .i64 0))], none, false⟩,
 ⟨3, .mv (.t 36), none, false⟩,
 ⟨1, .so 2 (.t 4) (.t 38), none, true⟩])
 (.seq
 (.reg true [⟨39, .fa 0 (.t 4), none, false⟩,
 ⟨40, .ld 1 false (.t 39), none, false⟩,
 ⟨41, .fa 0 (.t 1), none, false⟩,
 ⟨42, .ld 1 false (.t 41), none, false⟩,
 ⟨43, .ca (.k (.cl 165 [])) [(.t 40), (.k (.sc (.int .i64 0))), (.t 42)], none, false⟩,
 ⟨44, .nt (.t 43), none, false⟩,
 ⟨45, .mv (.t 44), none, false⟩,
 ⟨46, .fa 1 (.t 4), (some (45, false)), false⟩,
 ⟨47, .ld 1 false (.t 46), (some (45, false)), false⟩,
 ⟨48, .fa 1 (.t 1), (some (45, false)), false⟩,
 ⟨49, .ld 1 false (.t 48), (some (45, false)), false⟩,
 ⟨50, .ca (.k (.cl 165 [])) [(.t 47), (.k (.sc (.int .i64 0))), (.t 49)], (some (45, false)), false⟩,
 ⟨51, .nt (.t 50), (some (45, false)), false⟩,
 ⟨52, .pk (.t 45) (.k (.sc (.bool true))) (.t 51), none, false⟩,
 ⟨53, .mv (.t 52), none, false⟩,
 ⟨54, .fa 2 (.t 1), (some (53, false)), false⟩,
 ⟨55, .ld 1 false (.t 54), (some (53, false)), false⟩,
 ⟨56, .mv (.t 3), (some (53, false)), false⟩,
 ⟨57, .sl 2 (.t 55) none (some (.t 56)), (some (53, false)), false⟩,
 ⟨58, .ld 2 true (.t 4), (some (53, false)), false⟩,
 ⟨59, .ca (.k (.cl 186 [])) [(.t 57), (.t 58)], (some (53, false)), false⟩,
 ⟨60, .pk (.t 53) (.k (.sc (.bool true))) (.t 59), none, false⟩])
 (.ite (.t 60)
 (.seq
 (.reg false [⟨2, .mv (.k (.sc (.bool false))), none, false⟩])
 .ret)
 .skip))))
 (.reg false [⟨61, .ar .add false (.t 34) (.k (.sc (.int .i64 1))), none, false⟩,
 ⟨34, .mv (.t 61), none, false⟩]))))
def b90_1 : IC := w90_1
theorem u90_1 (call : CallF) (st : St) : evC call b90_1 st = evC call w90_1 st := rfl
attribute [simp] u90_1 w90_1
def w90_2 : IC :=
(.seq
 (.reg false [⟨66, .ar .lss false (.t 65) (.t 64), none, false⟩])
 (.seq
 (.ite (.t 66)
 .skip
 (.exit 2))
 (.seq
 (.block 3
 (.seq
 (.reg false [⟨67, .mv (.t 65), none, false⟩,
 ⟨68, .ia 2 (.t 63) (.t 65), none, false⟩,
 ⟨69, .ld 2 true (.t 68), none, false⟩,
 ⟨6, .al [(.sc (.string ⟨#[]⟩)), .nl], none, false⟩,
 ⟨5, .mv (.t 67), none, false⟩,
 ⟨1, .so 2 (.t 6) (.t 69), none, true⟩])
 (.seq
 (.seq
 (.reg true [⟨70, .fa 0 (.t 6), none, false⟩,
 ⟨71, .ld 1 false (.t 70), none, false⟩,
 ⟨72, .ca (.k (.cl 175 [])) [(.t 71)], none, false⟩,
 ⟨73, .nt (.t 72), none, false⟩,
 ⟨74, .mv (.t 73), none, false⟩,
 ⟨75, .mv (.t 5), (some (74, false)), false⟩,
 ⟨76, .ar .gtr false (.t 75) (.k (.sc (.int .i64 0))), (some (74, false)), false⟩,
 ⟨77, .mv (.t 76), (some (74, false)), false⟩,
 ⟨78, .fa 3 (.t 1), (some (77, true)), false⟩,
 ⟨79, .ld 1 false (.t 78), (some (77, true)), false⟩,
 ⟨80, .mv (.t 5), (some (77, true)), false⟩,
 ⟨81, .ar .sub false (.t 80) (.k (.sc (.int .i64 1))), (some (77, true)), false⟩,
 ⟨82, .ia 2 (.t 79) (.t 81), (some (77, true)), false⟩,
 ⟨83, .fa 0 (.t 82), (some (77, true)), false⟩,
 ⟨84, .ld 1 false (.t 83), (some (77, true)), false⟩,
 ⟨85, .fa 0 (.t 6), (some (77, true)), false⟩,
 ⟨86, .ld 1 false (.t 85), (some (77, true)), false⟩,
 ⟨87, .ar .geq false (.t 84) (.t 86), (some (77, true)), false⟩,
 ⟨88, .pk (.t 77) (.t 87) (.k (.sc (.bool false))), (some (74, false)), false⟩,
 ⟨89, .pk (.t 74) (.k (.sc (.bool true))) (.t 88), none, false⟩])
 (.ite (.t 89)
 (.seq
 (.reg false [⟨2, .mv (.k (.sc (.bool false))), none, false⟩])
 .ret)
 .skip))
 (.seq
 (.reg false [⟨91, .fa 2 (.t 1), none, false⟩,
 ⟨92, .ld 1 false (.t 91), none, false⟩,
 ⟨93, .fa 1 (.t 6), none, false⟩,
 ⟨94, .ld 1 false (.t 93), none, false⟩,
 ⟨95, .ca (.k (.cl 187 [])) [(.t 92), (.t 94)], none, false⟩,
 ⟨90, .mv (.t 95), none, false⟩,
 ⟨96, .xt (.t 90) 0, none, false⟩,
 ⟨97, .xt (.t 90) 1, none, false⟩,
 ⟨7, .mv (.t 96), none, false⟩,
 ⟨8, .mv (.t 97), none, false⟩])
 (.seq
 (.reg false [⟨98, .mv (.t 8), none, false⟩,
 ⟨99, .nt (.t 98), none, false⟩,
 ⟨100, .mv (.t 99), none, false⟩,
 ⟨101, .mv (.t 7), (some (100, false)), false⟩,
 ⟨102, .ca (.k (.cl 155 [])) [(.t 101)], (some (100, false)), false⟩,
 ⟨103, .nt (.t 102), (some (100, false)), false⟩,
 ⟨104, .pk (.t 100) (.k (.sc (.bool true))) (.t 103), none, false⟩])
 (.ite (.t 104)
 (.seq
 (.reg false [⟨2, .mv (.k (.sc (.bool false))), none, false⟩])
 .ret)
 .skip))))))
 (.reg false [⟨105, .ar .add false (.t 65) (.k (.sc (.int .i64 1))), none, false⟩,
 ⟨65, .mv (.t 105), none, false⟩]))))
def b90_2 : IC := w90_2
theorem u90_2 (call : CallF) (st : St) : evC call b90_2 st = evC call w90_2 st := rfl
attribute [simp] u90_2 w90_2
def i90 : Ev.Fn := ⟨1, 106, [.tmp 2],
 (.seq
 (.reg false [⟨1, .bx (.t 0), none, false⟩,
 ⟨2, .mv (.k (.sc (.bool false))), none, false⟩])
 (.seq
 (.seq
 (.reg false [⟨9, .fa 0 (.t 1), none, false⟩,
 ⟨10, .ld 1 false (.t 9), none, false⟩,
 ⟨11, .ca (.k (.cl 165 [])) [(.t 10), (.k (.sc (.int .i64 10))), (.k (.sc (.int .i64 20000)))], none, false⟩,
 ⟨12, .nt (.t 11), none, false⟩,
 ⟨13, .mv (.t 12), none, false⟩,
 ⟨14, .fa 1 (.t 1), (some (13, false)), false⟩,
 ⟨15, .ld 1 false (.t 14), (some (13, false)), false⟩,
 ⟨16, .ca (.k (.cl 165 [])) [(.t 15), (.k (.sc (.int .i64 10))), (.k (.sc (.int .i64 20000)))], (some (13, false)), false⟩,
 ⟨17, .nt (.t 16), (some (13, false)), false⟩,
 ⟨18, .pk (.t 13) (.k (.sc (.bool true))) (.t 17), none, false⟩,
 ⟨19, .mv (.t 18), none, false⟩,
 ⟨20, .fa 2 (.t 1), (some (19, false)), false⟩,
 ⟨21, .ld 1 false (.t 20), (some (19, false)), false⟩,
 ⟨22, .ln false (.t 21), (some (19, false)), false⟩,
 ⟨23, .ar .gtr false (.t 22) (.k (.sc (.int .i64 48))), (some (19, false)), false⟩,
 ⟨24, .pk (.t 19) (.k (.sc (.bool true))) (.t 23), none, false⟩,
 ⟨25, .mv (.t 24), none, false⟩,
 ⟨26, .fa 3 (.t 1), (some (25, false)), false⟩,
 ⟨27, .ld 1 false (.t 26), (some (25, false)), false⟩,
 ⟨28, .ln false (.t 27), (some (25, false)), false⟩,
 ⟨29, .ar .gtr false (.t 28) (.k (.sc (.int .i64 24))), (some (25, false)), false⟩,
 ⟨30, .pk (.t 25) (.k (.sc (.bool true))) (.t 29), none, false⟩])
 (.ite (.t 30)
 (.seq
 (.reg false [⟨2, .mv (.k (.sc (.bool false))), none, false⟩])
 .ret)
 .skip))
 (.seq
 (.seq
 (.reg false [⟨31, .fa 2 (.t 1), none, false⟩,
 ⟨32, .ld 1 false (.t 31), none, false⟩,
 ⟨33, .ln false (.t 32), none, false⟩,
 ⟨34, .mv (.k (.sc (.int .i64 0))), none, false⟩])
 (.cln [1] [2]
 (.block 0
 (.loop [1, 32, 33, 34] b90_1))))
 (.seq
 (.seq
 (.reg false [⟨62, .fa 3 (.t 1), none, false⟩,
 ⟨63, .ld 1 false (.t 62), none, false⟩,
 ⟨64, .ln false (.t 63), none, false⟩,
 ⟨65, .mv (.k (.sc (.int .i64 0))), none, false⟩])
 (.cln [] [2]
 (.block 2
 (.loop [1, 63, 64, 65] b90_2))))
 (.seq
 (.reg false [⟨2, .mv (.k (.sc (.bool true))), none, false⟩])
 .ret)))))⟩
attribute [simp] i90
set_option maxRecDepth 1000000 in
theorem c90 : cFn Try.prog 90 [[], [1, 32, 33, 34], [1], [2], [1, 63, 64, 65], [], [2]] = some i90 := by kernel_rfl
theorem e90 : enterOk Try.prog 90 = true := by kernel_rfl
def i93 : Ev.Fn := ⟨1, 9, [.cell 2 4 true, .tmp 3],
 (.seq
 (.reg false [⟨1, .bx (.t 0), none, false⟩,
 ⟨2, .al [(.sc (.int .i64 0)), (.sc (.int .i64 0)), .nl, .nl], none, false⟩,
 ⟨3, .mv (.k (.sc (.int .i64 0))), none, false⟩])
 (.seq
 (.seq
 (.reg false [⟨4, .ld 4 true (.t 1), none, false⟩,
 ⟨5, .ca (.k (.cl 90 [])) [(.t 4)], none, false⟩,
 ⟨6, .nt (.t 5), none, false⟩])
 (.ite (.t 6)
 (.seq
 (.reg false [⟨7, .bd [(.sc (.int .i64 0)), (.sc (.int .i64 0)), .nl, .nl] [], none, false⟩,
 ⟨1, .so 4 (.t 2) (.t 7), none, true⟩,
 ⟨3, .mv (.k (.sc (.int .i64 6))), none, false⟩])
 .ret)
 .skip))
 (.seq
 (.reg false [⟨8, .ld 4 true (.t 1), none, false⟩,
 ⟨1, .so 4 (.t 2) (.t 8), none, true⟩,
 ⟨3, .mv (.k (.sc (.int .i64 0))), none, false⟩])
 .ret)))⟩
attribute [simp] i93
set_option maxRecDepth 1000000 in
theorem c93 : cFn Try.prog 93 [[]] = some i93 := by kernel_rfl
theorem e93 : enterOk Try.prog 93 = true := by kernel_rfl
def w96_1 : IC :=
(.seq
 (.seq
 (.reg false [⟨11, .mv (.t 5), none, false⟩,
 ⟨12, .mv (.t 0), none, false⟩,
 ⟨13, .ln false (.t 12), none, false⟩,
 ⟨14, .ar .lss false (.t 11) (.t 13), none, false⟩])
 (.ite (.t 14)
 .skip
 (.exit 0)))
 (.seq
 (.block 1
 (.seq
 (.reg true [⟨17, .mv (.t 0), none, false⟩,
 ⟨18, .mv (.t 5), none, false⟩,
 ⟨19, .ia 2 (.t 17) (.t 18), none, false⟩,
 ⟨20, .ld 2 true (.t 19), none, false⟩,
 ⟨21, .mv (.t 1), none, false⟩,
 ⟨22, .mv (.t 5), none, false⟩,
 ⟨23, .ia 2 (.t 21) (.t 22), none, false⟩,
 ⟨24, .ld 2 true (.t 23), none, false⟩,
 ⟨25, .ca (.k (.cl 191 [])) [(.t 20), (.t 24)], none, false⟩,
 ⟨26, .nt (.t 25), none, false⟩])
 (.ite (.t 26)
 (.seq
 (.reg false [⟨4, .mv (.k (.sc (.bool false))), none, false⟩])
 .ret)
 .skip)))
 (.reg false [⟨15, .mv (.t 5), none, false⟩,
 ⟨16, .ar .add false (.t 15) (.k (.sc (.int .i64 1))), none, false⟩,
 ⟨5, .mv (.t 16), none, false⟩])))
def b96_1 : IC := w96_1
theorem u96_1 (call : CallF) (st : St) : evC call b96_1 st = evC call w96_1 st := rfl
attribute [simp] u96_1 w96_1
def i96 : Ev.Fn := ⟨2, 27, [.tmp 4],
 (.seq
 (.reg false [⟨4, .mv (.k (.sc (.bool false))), none, false⟩])
 (.seq
 (.seq
 (.reg false [⟨6, .mv (.t 0), none, false⟩,
 ⟨7, .ln false (.t 6), none, false⟩,
 ⟨8, .mv (.t 1), none, false⟩,
 ⟨9, .ln false (.t 8), none, false⟩,
 ⟨10, .ar .neq false (.t 7) (.t 9), none, false⟩])
 (.ite (.t 10)
 (.seq
 (.reg false [⟨4, .mv (.k (.sc (.bool false))), none, false⟩])
 .ret)
 .skip))
 (.seq
 (.seq
 (.reg false [⟨5, .mv (.k (.sc (.int .i64 0))), none, false⟩])
 (.cln [] [4]
 (.block 0
 (.loop [0, 1, 5] b96_1))))
 (.seq
 (.reg false [⟨4, .mv (.k (.sc (.bool true))), none, false⟩])
 .ret))))⟩
attribute [simp] i96
set_option maxRecDepth 1000000 in
theorem c96 : cFn Try.prog 96 [[], [0, 1, 5], [], [4]] = some i96 := by kernel_rfl
theorem e96 : enterOk Try.prog 96 = true := by kernel_rfl
def w97_1 : IC :=
(.seq
 (.seq
 (.reg false [⟨6, .mv (.t 5), none, false⟩,
 ⟨7, .mv (.t 0), none, false⟩,
 ⟨8, .ln false (.t 7), none, false⟩,
 ⟨9, .ar .lss false (.t 6) (.t 8), none, false⟩])
 (.ite (.t 9)
 .skip
 (.exit 0)))
 (.seq
 (.block 1
 (.seq
 (.reg false [⟨12, .mv (.t 0), none, false⟩,
 ⟨13, .mv (.t 5), none, false⟩,
 ⟨14, .mv (.t 1), none, false⟩,
 ⟨15, .ia 2 (.t 12) (.t 13), none, false⟩,
 ⟨16, .fa 0 (.t 15), none, false⟩,
 ⟨1, .so 1 (.t 16) (.t 14), none, true⟩])
 (.seq
 (.reg false [⟨17, .mv (.t 1), none, false⟩,
 ⟨18, .ar .add false (.t 17) (.k (.sc (.int .i64 1))), none, false⟩,
 ⟨1, .mv (.t 18), none, false⟩])
 (.seq
 (.reg false [⟨19, .mv (.t 0), none, false⟩,
 ⟨20, .mv (.t 5), none, false⟩,
 ⟨21, .mv (.t 1), none, false⟩,
 ⟨22, .ia 2 (.t 19) (.t 20), none, false⟩,
 ⟨23, .fa 1 (.t 22), none, false⟩,
 ⟨1, .so 1 (.t 23) (.t 21), none, true⟩])
 (.reg false [⟨24, .mv (.t 1), none, false⟩,
 ⟨25, .ar .add false (.t 24) (.k (.sc (.int .i64 1))), none, false⟩,
 ⟨1, .mv (.t 25), none, false⟩])))))
 (.reg false [⟨10, .mv (.t 5), none, false⟩,
 ⟨11, .ar .add false (.t 10) (.k (.sc (.int .i64 1))), none, false⟩,
 ⟨5, .mv (.t 11), none, false⟩])))
def b97_1 : IC := w97_1
theorem u97_1 (call : CallF) (st : St) : evC call b97_1 st = evC call w97_1 st := rfl
attribute [simp] u97_1 w97_1
def i97 : Ev.Fn := ⟨2, 27, [.tmp 4],
 (.seq
 (.reg false [⟨4, .mv (.k (.sc (.int .i64 0))), none, false⟩])
 (.seq
 (.seq
 (.reg false [⟨5, .mv (.k (.sc (.int .i64 0))), none, false⟩])
 (.cln [1, 100000] [4, 100000]
 (.block 0
 (.loop [0, 1, 5, 100000] b97_1))))
 (.seq
 (.reg false [⟨26, .mv (.t 1), none, false⟩,
 ⟨4, .mv (.t 26), none, false⟩])
 .ret)))⟩
attribute [simp] i97
set_option maxRecDepth 1000000 in
theorem c97 : cFn Try.prog 97 [[], [0, 1, 5, 100000], [1, 100000], [4, 100000]] = some i97 := by kernel_rfl
theorem e97 : enterOk Try.prog 97 = true := by kernel_rfl
def w98_1 : IC :=
(.seq
 (.seq
 (.reg false [⟨6, .mv (.t 5), none, false⟩,
 ⟨7, .mv (.t 0), none, false⟩,
 ⟨8, .ln false (.t 7), none, false⟩,
 ⟨9, .ar .lss false (.t 6) (.t 8), none, false⟩])
 (.ite (.t 9)
 .skip
 (.exit 0)))
 (.seq
 (.block 1
 (.seq
 (.reg false [⟨12, .mv (.t 0), none, false⟩,
 ⟨13, .mv (.t 5), none, false⟩,
 ⟨14, .mv (.t 1), none, false⟩,
 ⟨15, .ca (.k (.cl 108 [])) [(.t 14)], none, false⟩,
 ⟨16, .ia 2 (.t 12) (.t 13), none, false⟩,
 ⟨17, .fa 0 (.t 16), none, false⟩,
 ⟨1, .so 1 (.t 17) (.t 15), none, true⟩])
 (.seq
 (.reg false [⟨18, .mv (.t 1), none, false⟩,
 ⟨19, .ar .add false (.t 18) (.k (.sc (.int .i64 1))), none, false⟩,
 ⟨1, .mv (.t 19), none, false⟩])
 (.rgw [⟨20, .mv (.t 0), none, false⟩,
 ⟨21, .mv (.t 5), none, false⟩,
 ⟨22, .ia 2 (.t 20) (.t 21), none, false⟩,
 ⟨23, .fa 1 (.t 22), none, false⟩,
 ⟨24, .ld 1 false (.t 23), none, false⟩,
 ⟨25, .mv (.t 1), none, false⟩,
 ⟨26, .cw 45 [] [(.t 24), (.t 25)], none, false⟩,
 ⟨1, .mv (.t 26), none, false⟩]))))
 (.reg false [⟨10, .mv (.t 5), none, false⟩,
 ⟨11, .ar .add false (.t 10) (.k (.sc (.int .i64 1))), none, false⟩,
 ⟨5, .mv (.t 11), none, false⟩])))
def b98_1 : IC := w98_1
theorem u98_1 (call : CallF) (st : St) : evC call b98_1 st = evC call w98_1 st := rfl
attribute [simp] u98_1 w98_1
def i98 : Ev.Fn := ⟨2, 28, [.tmp 4],
 (.seq
 (.reg false [⟨4, .mv (.k (.sc (.int .i64 0))), none, false⟩])
 (.seq
 (.seq
 (.reg false [⟨5, .mv (.k (.sc (.int .i64 0))), none, false⟩])
 (.cln [1, 100000] [4, 100000]
 (.block 0
 (.loop [0, 1, 5, 100000] b98_1))))
 (.seq
 (.reg false [⟨27, .mv (.t 1), none, false⟩,
 ⟨4, .mv (.t 27), none, false⟩])
 .ret)))⟩
attribute [simp] i98
set_option maxRecDepth 1000000 in
theorem c98 : cFn Try.prog 98 [[45], [0, 1, 5, 100000], [1, 100000], [4, 100000]] = some i98 := by kernel_rfl
theorem e98 : enterOk Try.prog 98 = true := by kernel_rfl
def w99_1 : IC :=
(.seq
 (.seq
 (.reg false [⟨6, .mv (.t 5), none, false⟩,
 ⟨7, .mv (.t 0), none, false⟩,
 ⟨8, .ln false (.t 7), none, false⟩,
 ⟨9, .ar .lss false (.t 6) (.t 8), none, false⟩])
 (.ite (.t 9)
 .skip
 (.exit 0)))
 (.seq
 (.block 1
 (.seq
 (.seq
 (.reg false [⟨12, .mv (.t 0), none, false⟩,
 ⟨13, .mv (.t 5), none, false⟩,
 ⟨14, .ia 2 (.t 12) (.t 13), none, false⟩,
 ⟨15, .fa 0 (.t 14), none, false⟩,
 ⟨16, .ld 1 false (.t 15), none, false⟩,
 ⟨17, .mv (.t 1), none, false⟩,
 ⟨18, .ar .neq false (.t 16) (.t 17), none, false⟩])
 (.ite (.t 18)
 (.seq
 (.reg false [⟨4, .mv (.k (.sc (.int .i64 (-1)))), none, false⟩])
 .ret)
 .skip))
 (.seq
 (.reg false [⟨19, .mv (.t 1), none, false⟩,
 ⟨20, .ar .add false (.t 19) (.k (.sc (.int .i64 1))), none, false⟩,
 ⟨1, .mv (.t 20), none, false⟩])
 (.seq
 (.seq
 (.reg false [⟨21, .mv (.t 0), none, false⟩,
 ⟨22, .mv (.t 5), none, false⟩,
 ⟨23, .ia 2 (.t 21) (.t 22), none, false⟩,
 ⟨24, .fa 1 (.t 23), none, false⟩,
 ⟨25, .ld 1 false (.t 24), none, false⟩,
 ⟨26, .mv (.t 1), none, false⟩,
 ⟨27, .ar .neq false (.t 25) (.t 26), none, false⟩])
 (.ite (.t 27)
 (.seq
 (.reg false [⟨4, .mv (.k (.sc (.int .i64 (-1)))), none, false⟩])
 .ret)
 .skip))
 (.reg false [⟨28, .mv (.t 1), none, false⟩,
 ⟨29, .ar .add false (.t 28) (.k (.sc (.int .i64 1))), none, false⟩,
 ⟨1, .mv (.t 29), none, false⟩])))))
 (.reg false [⟨10, .mv (.t 5), none, false⟩,
 ⟨11, .ar .add false (.t 10) (.k (.sc (.int .i64 1))), none, false⟩,
 ⟨5, .mv (.t 11), none, false⟩])))
def b99_1 : IC := w99_1
theorem u99_1 (call : CallF) (st : St) : evC call b99_1 st = evC call w99_1 st := rfl
attribute [simp] u99_1 w99_1
def i99 : Ev.Fn := ⟨2, 31, [.tmp 4],
 (.seq
 (.reg false [⟨4, .mv (.k (.sc (.int .i64 0))), none, false⟩])
 (.seq
 (.seq
 (.reg false [⟨5, .mv (.k (.sc (.int .i64 0))), none, false⟩])
 (.cln [1] [4]
 (.block 0
 (.loop [0, 1, 5] b99_1))))
 (.seq
 (.reg false [⟨30, .mv (.t 1), none, false⟩,
 ⟨4, .mv (.t 30), none, false⟩])
 .ret)))⟩
attribute [simp] i99
set_option maxRecDepth 1000000 in
theorem c99 : cFn Try.prog 99 [[], [0, 1, 5], [1], [4]] = some i99 := by kernel_rfl
theorem e99 : enterOk Try.prog 99 = true := by kernel_rfl
def w100_1 : IC :=
(.seq
 (.seq
 (.reg false [⟨6, .mv (.t 5), none, false⟩,
 ⟨7, .mv (.t 0), none, false⟩,
 ⟨8, .ln false (.t 7), none, false⟩,
 ⟨9, .ar .lss false (.t 6) (.t 8), none, false⟩])
 (.ite (.t 9)
 .skip
 (.exit 0)))
 (.seq
 (.block 1
 (.seq
 (.seq
 (.reg true [⟨12, .mv (.t 0), none, false⟩,
 ⟨13, .mv (.t 5), none, false⟩,
 ⟨14, .ia 2 (.t 12) (.t 13), none, false⟩,
 ⟨15, .fa 0 (.t 14), none, false⟩,
 ⟨16, .ld 1 false (.t 15), none, false⟩,
 ⟨17, .mv (.t 1), none, false⟩,
 ⟨18, .ca (.k (.cl 108 [])) [(.t 17)], none, false⟩,
 ⟨19, .ar .neq false (.t 16) (.t 18), none, false⟩])
 (.ite (.t 19)
 (.seq
 (.reg false [⟨4, .mv (.k (.sc (.int .i64 (-1)))), none, false⟩])
 .ret)
 .skip))
 (.seq
 (.reg false [⟨20, .mv (.t 1), none, false⟩,
 ⟨21, .ar .add false (.t 20) (.k (.sc (.int .i64 1))), none, false⟩,
 ⟨1, .mv (.t 21), none, false⟩])
 (.seq
 (.reg false [⟨22, .mv (.t 0), none, false⟩,
 ⟨23, .mv (.t 5), none, false⟩,
 ⟨24, .ia 2 (.t 22) (.t 23), none, false⟩,
 ⟨25, .fa 1 (.t 24), none, false⟩,
 ⟨26, .ld 1 false (.t 25), none, false⟩,
 ⟨27, .mv (.t 1), none, false⟩,
 ⟨28, .ca (.k (.cl 46 [])) [(.t 26), (.t 27)], none, false⟩,
 ⟨1, .mv (.t 28), none, false⟩])
 (.seq
 (.reg false [⟨29, .mv (.t 1), none, false⟩,
 ⟨30, .ar .lss false (.t 29) (.k (.sc (.int .i64 0))), none, false⟩])
 (.ite (.t 30)
 (.seq
 (.reg false [⟨4, .mv (.k (.sc (.int .i64 (-1)))), none, false⟩])
 .ret)
 .skip))))))
 (.reg false [⟨10, .mv (.t 5), none, false⟩,
 ⟨11, .ar .add false (.t 10) (.k (.sc (.int .i64 1))), none, false⟩,
 ⟨5, .mv (.t 11), none, false⟩])))
def b100_1 : IC := w100_1
theorem u100_1 (call : CallF) (st : St) : evC call b100_1 st = evC call w100_1 st := rfl
attribute [simp] u100_1 w100_1
def i100 : Ev.Fn := ⟨2, 32, [.tmp 4],
 (.seq
 (.reg false [⟨4, .mv (.k (.sc (.int .i64 0))), none, false⟩])
 (.seq
 (.seq
 (.reg false [⟨5, .mv (.k (.sc (.int .i64 0))), none, false⟩])
 (.cln [1] [4]
 (.block 0
 (.loop [0, 1, 5] b100_1))))
 (.seq
 (.reg false [⟨31, .mv (.t 1), none, false⟩,
 ⟨4, .mv (.t 31), none, false⟩])
 .ret)))⟩
attribute [simp] i100
set_option maxRecDepth 1000000 in
theorem c100 : cFn Try.prog 100 [[], [0, 1, 5], [1], [4]] = some i100 := by kernel_rfl
theorem e100 : enterOk Try.prog 100 = true := by kernel_rfl
def w108_1 : IC :=
(.seq
 (.seq
 (.reg false [⟨6, .mv (.t 0), none, false⟩,
 ⟨7, .ar .gtr false (.t 6) (.k (.sc (.int .i64 0))), none, false⟩])
 (.ite (.t 7)
 .skip
 (.exit 0)))
 (.block 1
 (.seq
 (.reg false [⟨8, .mv (.t 0), none, false⟩,
 ⟨9, .ar .rem false (.t 8) (.k (.sc (.int .i64 10))), none, false⟩,
 ⟨10, .ar .add false (.k (.sc (.int .i64 48))) (.t 9), none, false⟩,
 ⟨11, .cv .u8 (.t 10), none, false⟩,
 ⟨12, .bs 5 1 [(.sc (.int .u8 0))] 1 [(0, (.t 11))], none, false⟩,
 ⟨13, .by (.t 12), none, false⟩,
 ⟨14, .mv (.t 3), none, false⟩,
 ⟨15, .ar .add false (.t 13) (.t 14), none, false⟩,
 ⟨3, .mv (.t 15), none, false⟩])
 (.reg false [⟨16, .mv (.t 0), none, false⟩,
 ⟨17, .ar .quo false (.t 16) (.k (.sc (.int .i64 10))), none, false⟩,
 ⟨0, .mv (.t 17), none, false⟩]))))
def b108_1 : IC := w108_1
theorem u108_1 (call : CallF) (st : St) : evC call b108_1 st = evC call w108_1 st := rfl
attribute [simp] u108_1 w108_1
def i108 : Ev.Fn := ⟨1, 20, [.tmp 2],
 (.seq
 (.reg false [⟨2, .mv (.k (.sc (.string ⟨#[]⟩))), none, false⟩])
 (.seq
 (.seq
 (.reg false [⟨4, .mv (.t 0), none, false⟩,
 ⟨5, .ar .leq false (.t 4) (.k (.sc (.int .i64 0))), none, false⟩])
 (.ite (.t 5)
 (.seq
 (.reg false [⟨2, .mv (.k (.sc (.string ⟨#[109, 48]⟩))), none, false⟩])
 .ret)
 .skip))
 (.seq
 (.reg false [⟨3, .mv (.k (.sc (.string ⟨#[]⟩))), none, false⟩])
 (.seq
 (.cln [3] [2]
 (.block 0
 (.loop [0, 3] b108_1)))
 (.seq
 (.reg false [⟨18, .mv (.t 3), none, false⟩,
 ⟨19, .ar .add false (.k (.sc (.string ⟨#[109]⟩))) (.t 18), none, false⟩,
 ⟨2, .mv (.t 19), none, false⟩])
 .ret)))))⟩
attribute [simp] i108
set_option maxRecDepth 1000000 in
theorem c108 : cFn Try.prog 108 [[], [0, 3], [3], [2]] = some i108 := by kernel_rfl
theorem e108 : enterOk Try.prog 108 = true := by kernel_rfl
def i122 : Ev.Fn := ⟨2, 28, [.tmp 4],
 (.seq
 (.reg false [⟨2, .bx (.t 0), none, false⟩,
 ⟨3, .bx (.t 1), none, false⟩,
 ⟨4, .mv (.k (.sc (.int .i64 0))), none, false⟩])
 (.seq
 (.reg false [⟨5, .fa 0 (.t 2), none, false⟩,
 ⟨6, .ld 1 false (.t 5), none, false⟩,
 ⟨7, .fa 0 (.t 3), none, false⟩,
 ⟨8, .ld 1 false (.t 7), none, false⟩,
 ⟨9, .ar .sub false (.t 6) (.t 8), none, false⟩,
 ⟨10, .fa 0 (.t 2), none, false⟩,
 ⟨11, .ld 1 false (.t 10), none, false⟩,
 ⟨12, .fa 0 (.t 3), none, false⟩,
 ⟨13, .ld 1 false (.t 12), none, false⟩,
 ⟨14, .ar .sub false (.t 11) (.t 13), none, false⟩,
 ⟨15, .ar .mul false (.t 9) (.t 14), none, false⟩,
 ⟨16, .fa 1 (.t 2), none, false⟩,
 ⟨17, .ld 1 false (.t 16), none, false⟩,
 ⟨18, .fa 1 (.t 3), none, false⟩,
 ⟨19, .ld 1 false (.t 18), none, false⟩,
 ⟨20, .ar .sub false (.t 17) (.t 19), none, false⟩,
 ⟨21, .fa 1 (.t 2), none, false⟩,
 ⟨22, .ld 1 false (.t 21), none, false⟩,
 ⟨23, .fa 1 (.t 3), none, false⟩,
 ⟨24, .ld 1 false (.t 23), none, false⟩,
 ⟨25, .ar .sub false (.t 22) (.t 24), none, false⟩,
 ⟨26, .ar .mul false (.t 20) (.t 25), none, false⟩,
 ⟨27, .ar .add false (.t 15) (.t 26), none, false⟩,
 ⟨4, .mv (.t 27), none, false⟩])
 .ret))⟩
attribute [simp] i122
set_option maxRecDepth 1000000 in
theorem c122 : cFn Try.prog 122 [[]] = some i122 := by kernel_rfl
theorem e122 : enterOk Try.prog 122 = true := by kernel_rfl
def i124 : Ev.Fn := ⟨1, 8, [.cell 2 4 true, .tmp 3],
 (.seq
 (.reg false [⟨1, .bx (.t 0), none, false⟩,
 ⟨2, .al [(.sc (.int .i64 0)), (.sc (.int .i64 0)), .nl, .nl], none, false⟩,
 ⟨3, .mv (.k (.sc (.int .i64 0))), none, false⟩])
 (.seq
 (.seq
 (.reg false [⟨4, .ca (.k (.cl 86 [])) [(.t 1)], none, false⟩,
 ⟨5, .nt (.t 4), none, false⟩])
 (.ite (.t 5)
 (.seq
 (.reg false [⟨6, .bd [(.sc (.int .i64 0)), (.sc (.int .i64 0)), .nl, .nl] [], none, false⟩,
 ⟨1, .so 4 (.t 2) (.t 6), none, true⟩,
 ⟨3, .mv (.k (.sc (.int .i64 6))), none, false⟩])
 .ret)
 .skip))
 (.seq
 (.reg false [⟨7, .ld 4 true (.t 1), none, false⟩,
 ⟨1, .so 4 (.t 2) (.t 7), none, true⟩,
 ⟨3, .mv (.k (.sc (.int .i64 0))), none, false⟩])
 .ret)))⟩
attribute [simp] i124
set_option maxRecDepth 1000000 in
theorem c124 : cFn Try.prog 124 [[]] = some i124 := by kernel_rfl
theorem e124 : enterOk Try.prog 124 = true := by kernel_rfl
def i128 : Ev.Fn := ⟨2, 11, [.tmp 4],
 (.seq
 (.reg false [⟨4, .mv (.k (.sc (.int .i64 0))), none, false⟩])
 (.seq
 (.seq
 (.reg false [⟨5, .mv (.t 0), none, false⟩,
 ⟨6, .ca (.k (.cl 86 [])) [(.t 5)], none, false⟩,
 ⟨7, .nt (.t 6), none, false⟩])
 (.ite (.t 7)
 (.seq
 (.reg false [⟨4, .mv (.k (.sc (.int .i64 1))), none, false⟩])
 .ret)
 .skip))
 (.seq
 (.seq
 (.reg false [⟨8, .mv (.t 1), none, false⟩,
 ⟨9, .ca (.k (.cl 162 [])) [(.t 8), (.k (.sc (.int .i64 0))), (.k (.sc (.int .i64 200)))], none, false⟩,
 ⟨10, .nt (.t 9), none, false⟩])
 (.ite (.t 10)
 (.seq
 (.reg false [⟨4, .mv (.k (.sc (.int .i64 2))), none, false⟩])
 .ret)
 .skip))
 (.seq
 (.reg false [⟨4, .mv (.k (.sc (.int .i64 0))), none, false⟩])
 .ret))))⟩
attribute [simp] i128
set_option maxRecDepth 1000000 in
theorem c128 : cFn Try.prog 128 [[]] = some i128 := by kernel_rfl
theorem e128 : enterOk Try.prog 128 = true := by kernel_rfl
def i129 : Ev.Fn := ⟨2, 9, [.tmp 4],
 (.seq
 (.reg false [⟨2, .bx (.t 0), none, false⟩,
 ⟨3, .bx (.t 1), none, false⟩,
 ⟨4, .mv (.k (.sc (.int .i64 0))), none, false⟩])
 (.seq
 (.reg false [⟨5, .ld 2 true (.t 2), none, false⟩,
 ⟨6, .ld 2 true (.t 3), none, false⟩,
 ⟨7, .ca (.k (.cl 122 [])) [(.t 5), (.t 6)], none, false⟩,
 ⟨8, .ca (.k (.cl 211 [])) [(.t 7)], none, false⟩,
 ⟨4, .mv (.t 8), none, false⟩])
 .ret))⟩
attribute [simp] i129
set_option maxRecDepth 1000000 in
theorem c129 : cFn Try.prog 129 [[]] = some i129 := by kernel_rfl
theorem e129 : enterOk Try.prog 129 = true := by kernel_rfl
def w130_1 : IC :=
(.seq
 (.seq
 (.reg false [⟨26, .mv (.t 7), none, false⟩,
 ⟨27, .mv (.t 0), none, false⟩,
 ⟨28, .nc (.t 27), none, false⟩,
 ⟨29, .fa 2 (.t 28), none, false⟩,
 ⟨30, .ld 1 false (.t 29), none, false⟩,
 ⟨31, .ln false (.t 30), none, false⟩,
 ⟨32, .ar .lss false (.t 26) (.t 31), none, false⟩])
 (.ite (.t 32)
 .skip
 (.exit 0)))
 (.seq
 (.block 1
 (.seq
 (.reg false [⟨35, .mv (.t 1), none, false⟩,
 ⟨36, .mv (.t 7), none, false⟩,
 ⟨37, .ia 1 (.t 35) (.t 36), none, false⟩,
 ⟨38, .ld 1 false (.t 37), none, false⟩,
 ⟨39, .mv (.t 7), none, false⟩,
 ⟨40, .ar .eql false (.t 38) (.t 39), none, false⟩])
 (.ite (.t 40)
 (.seq
 (.reg false [⟨41, .mv (.t 6), none, false⟩,
 ⟨42, .mv (.t 7), none, false⟩,
 ⟨43, .fa 2 (.t 5), none, false⟩,
 ⟨44, .ld 1 false (.t 43), none, false⟩,
 ⟨45, .ln false (.t 44), none, false⟩,
 ⟨46, .ia 1 (.t 41) (.t 42), none, false⟩,
 ⟨1, .so 1 (.t 46) (.t 45), none, true⟩])
 (.reg true [⟨47, .fa 2 (.t 5), none, false⟩,
 ⟨48, .ld 1 false (.t 47), none, false⟩,
 ⟨49, .mv (.t 0), none, false⟩,
 ⟨50, .nc (.t 49), none, false⟩,
 ⟨51, .fa 2 (.t 50), none, false⟩,
 ⟨52, .ld 1 false (.t 51), none, false⟩,
 ⟨53, .mv (.t 7), none, false⟩,
 ⟨54, .ia 2 (.t 52) (.t 53), none, false⟩,
 ⟨55, .ld 2 true (.t 54), none, false⟩,
 ⟨56, .bs 159 2 [(.sc (.int .i64 0)), (.sc (.int .i64 0))] 1 [(0, (.t 55))], none, false⟩,
 ⟨57, .ap 159 2 false (.t 48) (.t 56), none, false⟩,
 ⟨58, .fa 2 (.t 5), none, false⟩,
 ⟨1, .so 1 (.t 58) (.t 57), none, true⟩]))
 .skip)))
 (.reg false [⟨33, .mv (.t 7), none, false⟩,
 ⟨34, .ar .add false (.t 33) (.k (.sc (.int .i64 1))), none, false⟩,
 ⟨7, .mv (.t 34), none, false⟩])))
def b130_1 : IC := w130_1
theorem u130_1 (call : CallF) (st : St) : evC call b130_1 st = evC call w130_1 st := rfl
attribute [simp] u130_1 w130_1
def w130_3 : IC :=
(.seq
 (.seq
 (.reg false [⟨69, .mv (.t 10), none, false⟩,
 ⟨70, .mv (.t 0), none, false⟩,
 ⟨71, .nc (.t 70), none, false⟩,
 ⟨72, .fa 3 (.t 71), none, false⟩,
 ⟨73, .ld 1 false (.t 72), none, false⟩,
 ⟨74, .mv (.t 8), none, false⟩,
 ⟨75, .ia 2 (.t 73) (.t 74), none, false⟩,
 ⟨76, .fa 1 (.t 75), none, false⟩,
 ⟨77, .ld 1 false (.t 76), none, false⟩,
 ⟨78, .ln false (.t 77), none, false⟩,
 ⟨79, .ar .lss false (.t 69) (.t 78), none, false⟩])
 (.ite (.t 79)
 .skip
 (.exit 4)))
 (.seq
 (.block 5
 (.reg false [⟨82, .mv (.t 9), none, false⟩,
 ⟨83, .mv (.t 6), none, false⟩,
 ⟨84, .mv (.t 1), none, false⟩,
 ⟨85, .mv (.t 0), none, false⟩,
 ⟨86, .nc (.t 85), none, false⟩,
 ⟨87, .fa 3 (.t 86), none, false⟩,
 ⟨88, .ld 1 false (.t 87), none, false⟩,
 ⟨89, .mv (.t 8), none, false⟩,
 ⟨90, .ia 2 (.t 88) (.t 89), none, false⟩,
 ⟨91, .fa 1 (.t 90), none, false⟩,
 ⟨92, .ld 1 false (.t 91), none, false⟩,
 ⟨93, .mv (.t 10), none, false⟩,
 ⟨94, .ia 1 (.t 92) (.t 93), none, false⟩,
 ⟨95, .ld 1 false (.t 94), none, false⟩,
 ⟨96, .ia 1 (.t 84) (.t 95), none, false⟩,
 ⟨97, .ld 1 false (.t 96), none, false⟩,
 ⟨98, .ia 1 (.t 83) (.t 97), none, false⟩,
 ⟨99, .ld 1 false (.t 98), none, false⟩,
 ⟨100, .bs 2 1 [(.sc (.int .i64 0))] 1 [(0, (.t 99))], none, false⟩,
 ⟨101, .ap 2 1 false (.t 82) (.t 100), none, false⟩,
 ⟨9, .mv (.t 101), none, false⟩]))
 (.reg false [⟨80, .mv (.t 10), none, false⟩,
 ⟨81, .ar .add false (.t 80) (.k (.sc (.int .i64 1))), none, false⟩,
 ⟨10, .mv (.t 81), none, false⟩])))
def b130_3 : IC := w130_3
theorem u130_3 (call : CallF) (st : St) : evC call b130_3 st = evC call w130_3 st := rfl
attribute [simp] u130_3 w130_3
def w130_2 : IC :=
(.seq
 (.seq
 (.reg false [⟨59, .mv (.t 8), none, false⟩,
 ⟨60, .mv (.t 0), none, false⟩,
 ⟨61, .nc (.t 60), none, false⟩,
 ⟨62, .fa 3 (.t 61), none, false⟩,
 ⟨63, .ld 1 false (.t 62), none, false⟩,
 ⟨64, .ln false (.t 63), none, false⟩,
 ⟨65, .ar .lss false (.t 59) (.t 64), none, false⟩])
 (.ite (.t 65)
 .skip
 (.exit 2)))
 (.seq
 (.block 3
 (.seq
 (.reg false [⟨68, .bs 2 1 [(.sc (.int .i64 0))] 0 [], none, false⟩,
 ⟨9, .mv (.t 68), none, false⟩])
 (.seq
 (.seq
 (.reg false [⟨10, .mv (.k (.sc (.int .i64 0))), none, false⟩])
 (.cln [0, 1, 4, 5, 6, 8, 9] [4]
 (.block 4
 (.loop [0, 1, 4, 5, 6, 8, 9, 10] b130_3))))
 (.rgc [.nx 114 5, .nx 114 102] [⟨102, .fa 3 (.t 5), none, false⟩,
 ⟨103, .ld 1 false (.t 102), none, false⟩,
 ⟨104, .mv (.t 0), none, false⟩,
 ⟨105, .nc (.t 104), none, false⟩,
 ⟨106, .fa 3 (.t 105), none, false⟩,
 ⟨107, .ld 1 false (.t 106), none, false⟩,
 ⟨108, .mv (.t 8), none, false⟩,
 ⟨109, .ia 2 (.t 107) (.t 108), none, false⟩,
 ⟨110, .fa 0 (.t 109), none, false⟩,
 ⟨111, .ld 1 false (.t 110), none, false⟩,
 ⟨112, .mv (.t 9), none, false⟩,
 ⟨113, .ca (.k (.cl 212 [])) [(.t 112)], none, false⟩,
 ⟨114, .bd [(.sc (.string ⟨#[]⟩)), .nl] [(0, 1, (.t 111)), (1, 1, (.t 113))], none, false⟩,
 ⟨115, .bw 127 2 [(.sc (.string ⟨#[]⟩)), .nl] 1 [(0, (.t 114))], none, false⟩,
 ⟨116, .ap 127 2 false (.t 103) (.t 115), none, false⟩,
 ⟨117, .fa 3 (.t 5), none, false⟩,
 ⟨0, .so 1 (.t 117) (.t 116), none, true⟩]))))
 (.reg false [⟨66, .mv (.t 8), none, false⟩,
 ⟨67, .ar .add false (.t 66) (.k (.sc (.int .i64 1))), none, false⟩,
 ⟨8, .mv (.t 67), none, false⟩])))
def b130_2 : IC := w130_2
theorem u130_2 (call : CallF) (st : St) : evC call b130_2 st = evC call w130_2 st := rfl
attribute [simp] u130_2 w130_2
def i130 : Ev.Fn := ⟨2, 119, [.cell 4 4 true],
 (.seq
 (.reg false [⟨4, .al [(.sc (.int .i64 0)), (.sc (.int .i64 0)), .nl, .nl], none, false⟩])
 (.seq
 (.reg true [⟨11, .mv (.t 0), none, false⟩,
 ⟨12, .nc (.t 11), none, false⟩,
 ⟨13, .fa 0 (.t 12), none, false⟩,
 ⟨14, .ld 1 false (.t 13), none, false⟩,
 ⟨15, .mv (.t 0), none, false⟩,
 ⟨16, .nc (.t 15), none, false⟩,
 ⟨17, .fa 1 (.t 16), none, false⟩,
 ⟨18, .ld 1 false (.t 17), none, false⟩,
 ⟨19, .bd [(.sc (.int .i64 0)), (.sc (.int .i64 0)), .nl, .nl] [(0, 1, (.t 14)), (1, 1, (.t 18))], none, false⟩,
 ⟨5, .al [(.sc (.int .i64 0)), (.sc (.int .i64 0)), .nl, .nl], none, false⟩,
 ⟨1, .so 4 (.t 5) (.t 19), none, true⟩])
 (.seq
 (.reg false [⟨20, .mv (.t 0), none, false⟩,
 ⟨21, .nc (.t 20), none, false⟩,
 ⟨22, .fa 2 (.t 21), none, false⟩,
 ⟨23, .ld 1 false (.t 22), none, false⟩,
 ⟨24, .ln false (.t 23), none, false⟩,
 ⟨25, .ms 2 1 [(.sc (.int .i64 0))] (.t 24), none, false⟩,
 ⟨6, .mv (.t 25), none, false⟩])
 (.seq
 (.seq
 (.reg false [⟨7, .mv (.k (.sc (.int .i64 0))), none, false⟩])
 (.cln [0, 1, 4, 5, 6] [4]
 (.block 0
 (.loop [0, 1, 4, 5, 6, 7] b130_1))))
 (.seq
 (.seq
 (.reg false [⟨8, .mv (.k (.sc (.int .i64 0))), none, false⟩])
 (.cln [4, 5] [4]
 (.block 2
 (.loop [0, 1, 4, 5, 6, 8] b130_2))))
 (.seq
 (.reg false [⟨118, .ld 4 true (.t 5), none, false⟩,
 ⟨1, .so 4 (.t 4) (.t 118), none, true⟩])
 .ret))))))⟩
attribute [simp] i130
set_option maxRecDepth 1000000 in
theorem c130 : cFn Try.prog 130 [[], [0, 1, 4, 5, 6, 7], [0, 1, 4, 5, 6], [4], [0, 1, 4, 5, 6, 8], [0, 1, 4, 5, 6, 8, 9, 10], [0, 1, 4, 5, 6, 8, 9], [4], [4, 5], [4]] = some i130 := by kernel_rfl
theorem e130 : enterOk Try.prog 130 = true := by kernel_rfl
def i131 : Ev.Fn := ⟨2, 13, [.tmp 4],
 (.seq
 (.reg false [⟨2, .bx (.t 0), none, false⟩,
 ⟨4, .mv (.k (.sc (.int .i64 0))), none, false⟩])
 (.seq
 (.block 0
 (.seq
 (.reg false [⟨6, .ld 4 true (.t 2), none, false⟩,
 ⟨7, .ca (.k (.cl 90 [])) [(.t 6)], none, false⟩,
 ⟨8, .nt (.t 7), none, false⟩,
 ⟨5, .mv (.t 8), none, false⟩])
 (.ite (.t 5)
 (.seq
 (.reg false [⟨4, .mv (.k (.sc (.int .i64 1))), none, false⟩])
 .ret)
 (.seq
 (.reg false [⟨10, .mv (.t 1), none, false⟩,
 ⟨11, .ca (.k (.cl 165 [])) [(.t 10), (.k (.sc (.int .i64 0))), (.k (.sc (.int .i64 200)))], none, false⟩,
 ⟨12, .nt (.t 11), none, false⟩,
 ⟨9, .mv (.t 12), none, false⟩])
 (.ite (.t 9)
 (.seq
 (.reg false [⟨4, .mv (.k (.sc (.int .i64 2))), none, false⟩])
 .ret)
 .skip)))))
 (.seq
 (.reg false [⟨4, .mv (.k (.sc (.int .i64 0))), none, false⟩])
 .ret)))⟩
attribute [simp] i131
set_option maxRecDepth 1000000 in
theorem c131 : cFn Try.prog 131 [[]] = some i131 := by kernel_rfl
theorem e131 : enterOk Try.prog 131 = true := by kernel_rfl
def w132_1 : IC :=
(.seq
 (.reg false [⟨9, .ar .lss false (.t 8) (.t 7), none, false⟩])
 (.seq
 (.ite (.t 9)
 .skip
 (.exit 0))
 (.seq
 (.block 1
 (.seq
 (.reg false [⟨10, .mv (.t 8), none, false⟩,
 ⟨5, .mv (.t 10), none, false⟩])
 (.seq
 (.reg false [⟨11, .mv (.t 1), none, false⟩,
 ⟨12, .mv (.t 0), none, false⟩,
 ⟨13, .mv (.t 5), none, false⟩,
 ⟨14, .ia 2 (.t 12) (.t 13), none, false⟩,
 ⟨15, .ld 2 true (.t 14), none, false⟩,
 ⟨16, .ca (.t 11) [(.t 15)], none, false⟩])
 (.ite (.t 16)
 (.seq
 (.reg false [⟨17, .mv (.t 5), none, false⟩,
 ⟨4, .mv (.t 17), none, false⟩])
 .ret)
 .skip))))
 (.reg false [⟨18, .ar .add false (.t 8) (.k (.sc (.int .i64 1))), none, false⟩,
 ⟨8, .mv (.t 18), none, false⟩]))))
def b132_1 : IC := w132_1
theorem u132_1 (call : CallF) (st : St) : evC call b132_1 st = evC call w132_1 st := rfl
attribute [simp] u132_1 w132_1
def i132 : Ev.Fn := ⟨2, 19, [.tmp 4],
 (.seq
 (.reg false [⟨4, .mv (.k (.sc (.int .i64 0))), none, false⟩])
 (.seq
 (.seq
 (.reg false [⟨6, .mv (.t 0), none, false⟩,
 ⟨7, .ln false (.t 6), none, false⟩,
 ⟨8, .mv (.k (.sc (.int .i64 0))), none, false⟩])
 (.cln [] [4]
 (.block 0
 (.loop [0, 1, 7, 8] b132_1))))
 (.seq
 (.reg false [⟨4, .mv (.k (.sc (.int .i64 (-1)))), none, false⟩])
 .ret)))⟩
attribute [simp] i132
set_option maxRecDepth 1000000 in
theorem c132 : cFn Try.prog 132 [[], [0, 1, 7, 8], [], [4]] = some i132 := by kernel_rfl
theorem e132 : enterOk Try.prog 132 = true := by kernel_rfl
def i133 : Ev.Fn := ⟨3, 10, [.tmp 4],
 (.seq
 (.reg false [⟨3, .bx (.t 0), none, false⟩,
 ⟨4, .mv (.k (.sc (.bool false))), none, false⟩])
 (.seq
 (.reg true [⟨5, .ld 2 true (.t 3), none, false⟩,
 ⟨6, .ld 2 true (.t 1), none, false⟩,
 ⟨7, .ca (.k (.cl 134 [])) [(.t 5), (.t 6)], none, false⟩,
 ⟨8, .ld 1 false (.t 2), none, false⟩,
 ⟨9, .ar .leq false (.t 7) (.t 8), none, false⟩,
 ⟨4, .mv (.t 9), none, false⟩])
 .ret))⟩
attribute [simp] i133
set_option maxRecDepth 1000000 in
theorem c133 : cFn Try.prog 133 [[]] = some i133 := by kernel_rfl
theorem e133 : enterOk Try.prog 133 = true := by kernel_rfl
def i134 : Ev.Fn := ⟨2, 14, [.tmp 4],
 (.seq
 (.reg false [⟨2, .bx (.t 0), none, false⟩,
 ⟨3, .bx (.t 1), none, false⟩,
 ⟨4, .mv (.k (.sc (.int .i64 0))), none, false⟩])
 (.seq
 (.seq
 (.reg false [⟨5, .ld 2 true (.t 2), none, false⟩,
 ⟨6, .ld 2 true (.t 3), none, false⟩,
 ⟨7, .bs 159 2 [(.sc (.int .i64 0)), (.sc (.int .i64 0))] 2 [(0, (.t 5)), (1, (.t 6))], none, false⟩,
 ⟨8, .ca (.k (.cl 213 [])) [(.t 7)], none, false⟩,
 ⟨9, .nt (.t 8), none, false⟩])
 (.ite (.t 9)
 (.seq
 (.reg false [⟨4, .mv (.k (.sc (.int .i64 (-1)))), none, false⟩])
 .ret)
 .skip))
 (.seq
 (.reg false [⟨10, .ld 2 true (.t 2), none, false⟩,
 ⟨11, .ld 2 true (.t 3), none, false⟩,
 ⟨12, .ca (.k (.cl 215 [])) [(.t 10), (.t 11)], none, false⟩,
 ⟨13, .ca (.k (.cl 214 [])) [(.t 12)], none, false⟩,
 ⟨4, .mv (.t 13), none, false⟩])
 .ret)))⟩
attribute [simp] i134
set_option maxRecDepth 1000000 in
theorem c134 : cFn Try.prog 134 [[]] = some i134 := by kernel_rfl
theorem e134 : enterOk Try.prog 134 = true := by kernel_rfl
def w141_1 : IC :=
(.seq
 (.reg false [⟨9, .ar .lss false (.t 8) (.t 7), none, false⟩])
 (.seq
 (.ite (.t 9)
 .skip
 (.exit 0))
 (.seq
 (.block 1
 (.seq
 (.reg false [⟨10, .mv (.t 8), none, false⟩,
 ⟨5, .mv (.t 10), none, false⟩])
 (.seq
 (.reg true [⟨11, .ld 2 true (.t 3), none, false⟩,
 ⟨12, .mv (.t 0), none, false⟩,
 ⟨13, .mv (.t 5), none, false⟩,
 ⟨14, .ia 2 (.t 12) (.t 13), none, false⟩,
 ⟨15, .ld 2 true (.t 14), none, false⟩,
 ⟨16, .eq false [1, 1] (.t 11) (.t 15), none, false⟩])
 (.ite (.t 16)
 (.seq
 (.reg false [⟨17, .mv (.t 5), none, false⟩,
 ⟨4, .mv (.t 17), none, false⟩])
 .ret)
 .skip))))
 (.reg false [⟨18, .ar .add false (.t 8) (.k (.sc (.int .i64 1))), none, false⟩,
 ⟨8, .mv (.t 18), none, false⟩]))))
def b141_1 : IC := w141_1
theorem u141_1 (call : CallF) (st : St) : evC call b141_1 st = evC call w141_1 st := rfl
attribute [simp] u141_1 w141_1
def i141 : Ev.Fn := ⟨2, 19, [.tmp 4],
 (.seq
 (.reg false [⟨3, .bx (.t 1), none, false⟩,
 ⟨4, .mv (.k (.sc (.int .i64 0))), none, false⟩])
 (.seq
 (.seq
 (.reg false [⟨6, .mv (.t 0), none, false⟩,
 ⟨7, .ln false (.t 6), none, false⟩,
 ⟨8, .mv (.k (.sc (.int .i64 0))), none, false⟩])
 (.cln [] [4]
 (.block 0
 (.loop [0, 3, 7, 8] b141_1))))
 (.seq
 (.reg false [⟨4, .mv (.k (.sc (.int .i64 (-1)))), none, false⟩])
 .ret)))⟩
attribute [simp] i141
set_option maxRecDepth 1000000 in
theorem c141 : cFn Try.prog 141 [[], [0, 3, 7, 8], [], [4]] = some i141 := by kernel_rfl
theorem e141 : enterOk Try.prog 141 = true := by kernel_rfl
def w151_1 : IC :=
(.seq
 (.seq
 (.reg false [⟨18, .mv (.t 4), none, false⟩,
 ⟨19, .mv (.t 3), none, false⟩,
 ⟨20, .ar .lss false (.t 18) (.t 19), none, false⟩])
 (.ite (.t 20)
 .skip
 (.exit 0)))
 (.seq
 (.block 1
 (.seq
 (.reg false [⟨23, .mv (.t 0), none, false⟩,
 ⟨24, .mv (.t 4), none, false⟩,
 ⟨25, .ia 2 (.t 23) (.t 24), none, false⟩,
 ⟨26, .ld 2 true (.t 25), none, false⟩,
 ⟨27, .ca (.k (.cl 229 [])) [(.t 26)], none, false⟩,
 ⟨28, .nt (.t 27), none, false⟩])
 (.ite (.t 28)
 (.seq
 (.reg false [⟨2, .mv (.k (.sc (.bool false))), none, false⟩])
 .ret)
 .skip)))
 (.reg false [⟨21, .mv (.t 4), none, false⟩,
 ⟨22, .ar .add false (.t 21) (.k (.sc (.int .i64 1))), none, false⟩,
 ⟨4, .mv (.t 22), none, false⟩])))
def b151_1 : IC := w151_1
theorem u151_1 (call : CallF) (st : St) : evC call b151_1 st = evC call w151_1 st := rfl
attribute [simp] u151_1 w151_1
def w151_3 : IC :=
(.seq
 (.seq
 (.reg false [⟨69, .mv (.t 9), none, false⟩,
 ⟨70, .mv (.t 3), none, false⟩,
 ⟨71, .ar .lss false (.t 69) (.t 70), none, false⟩])
 (.ite (.t 71)
 .skip
 (.exit 4)))
 (.seq
 (.block 5
 (.seq
 (.reg true [⟨74, .mv (.t 9), none, false⟩,
 ⟨75, .ar .add false (.t 74) (.k (.sc (.int .i64 1))), none, false⟩,
 ⟨76, .mv (.t 3), none, false⟩,
 ⟨77, .ar .rem false (.t 75) (.t 76), none, false⟩,
 ⟨78, .mv (.t 5), none, false⟩,
 ⟨79, .ar .neq false (.t 77) (.t 78), none, false⟩,
 ⟨80, .mv (.t 79), none, false⟩,
 ⟨81, .ld 2 true (.t 6), (some (80, true)), false⟩,
 ⟨82, .ld 2 true (.t 7), (some (80, true)), false⟩,
 ⟨83, .mv (.t 0), (some (80, true)), false⟩,
 ⟨84, .mv (.t 9), (some (80, true)), false⟩,
 ⟨85, .ia 2 (.t 83) (.t 84), (some (80, true)), false⟩,
 ⟨86, .ld 2 true (.t 85), (some (80, true)), false⟩,
 ⟨87, .mv (.t 0), (some (80, true)), false⟩,
 ⟨88, .mv (.t 9), (some (80, true)), false⟩,
 ⟨89, .ar .add false (.t 88) (.k (.sc (.int .i64 1))), (some (80, true)), false⟩,
 ⟨90, .mv (.t 3), (some (80, true)), false⟩,
 ⟨91, .ar .rem false (.t 89) (.t 90), (some (80, true)), false⟩,
 ⟨92, .ia 2 (.t 87) (.t 91), (some (80, true)), false⟩,
 ⟨93, .ld 2 true (.t 92), (some (80, true)), false⟩,
 ⟨94, .ca (.k (.cl 230 [])) [(.t 81), (.t 82), (.t 86), (.t 93)], (some (80, true)), false⟩,
 ⟨95, .pk (.t 80) (.t 94) (.k (.sc (.bool false))), none, false⟩])
 (.ite (.t 95)
 (.seq
 (.reg false [⟨2, .mv (.k (.sc (.bool false))), none, false⟩])
 .ret)
 .skip)))
 (.reg false [⟨72, .mv (.t 9), none, false⟩,
 ⟨73, .ar .add false (.t 72) (.k (.sc (.int .i64 1))), none, false⟩,
 ⟨9, .mv (.t 73), none, false⟩])))
def b151_3 : IC := w151_3
theorem u151_3 (call : CallF) (st : St) : evC call b151_3 st = evC call w151_3 st := rfl
attribute [simp] u151_3 w151_3
def w151_2 : IC :=
(.seq
 (.seq
 (.reg false [⟨29, .mv (.t 5), none, false⟩,
 ⟨30, .mv (.t 3), none, false⟩,
 ⟨31, .ar .lss false (.t 29) (.t 30), none, false⟩])
 (.ite (.t 31)
 .skip
 (.exit 2)))
 (.seq
 (.block 3
 (.seq
 (.reg false [⟨34, .mv (.t 0), none, false⟩,
 ⟨35, .mv (.t 5), none, false⟩,
 ⟨36, .ia 2 (.t 34) (.t 35), none, false⟩,
 ⟨37, .ld 2 true (.t 36), none, false⟩,
 ⟨6, .al [(.sc (.int .i64 0)), (.sc (.int .i64 0))], none, false⟩,
 ⟨1, .so 2 (.t 6) (.t 37), none, true⟩])
 (.seq
 (.reg false [⟨38, .mv (.t 0), none, false⟩,
 ⟨39, .mv (.t 5), none, false⟩,
 ⟨40, .ar .add false (.t 39) (.k (.sc (.int .i64 1))), none, false⟩,
 ⟨41, .mv (.t 3), none, false⟩,
 ⟨42, .ar .rem false (.t 40) (.t 41), none, false⟩,
 ⟨43, .ia 2 (.t 38) (.t 42), none, false⟩,
 ⟨44, .ld 2 true (.t 43), none, false⟩,
 ⟨7, .al [(.sc (.int .i64 0)), (.sc (.int .i64 0))], none, false⟩,
 ⟨1, .so 2 (.t 7) (.t 44), none, true⟩])
 (.seq
 (.reg false [⟨45, .mv (.t 0), none, false⟩,
 ⟨46, .mv (.t 5), none, false⟩,
 ⟨47, .ar .add false (.t 46) (.k (.sc (.int .i64 2))), none, false⟩,
 ⟨48, .mv (.t 3), none, false⟩,
 ⟨49, .ar .rem false (.t 47) (.t 48), none, false⟩,
 ⟨50, .ia 2 (.t 45) (.t 49), none, false⟩,
 ⟨51, .ld 2 true (.t 50), none, false⟩,
 ⟨8, .al [(.sc (.int .i64 0)), (.sc (.int .i64 0))], none, false⟩,
 ⟨1, .so 2 (.t 8) (.t 51), none, true⟩])
 (.seq
 (.seq
 (.reg false [⟨52, .ld 2 true (.t 6), none, false⟩,
 ⟨53, .ld 2 true (.t 7), none, false⟩,
 ⟨54, .eq false [1, 1] (.t 52) (.t 53), none, false⟩,
 ⟨55, .mv (.t 54), none, false⟩,
 ⟨56, .ld 2 true (.t 6), (some (55, false)), false⟩,
 ⟨57, .ld 2 true (.t 7), (some (55, false)), false⟩,
 ⟨58, .ld 2 true (.t 8), (some (55, false)), false⟩,
 ⟨59, .ca (.k (.cl 203 [])) [(.t 56), (.t 57), (.t 58)], (some (55, false)), false⟩,
 ⟨60, .pk (.t 55) (.k (.sc (.bool true))) (.t 59), none, false⟩,
 ⟨61, .mv (.t 60), none, false⟩,
 ⟨62, .ld 2 true (.t 7), (some (61, false)), false⟩,
 ⟨63, .ld 2 true (.t 8), (some (61, false)), false⟩,
 ⟨64, .ld 2 true (.t 6), (some (61, false)), false⟩,
 ⟨65, .ca (.k (.cl 203 [])) [(.t 62), (.t 63), (.t 64)], (some (61, false)), false⟩,
 ⟨66, .pk (.t 61) (.k (.sc (.bool true))) (.t 65), none, false⟩])
 (.ite (.t 66)
 (.seq
 (.reg false [⟨2, .mv (.k (.sc (.bool false))), none, false⟩])
 .ret)
 .skip))
 (.seq
 (.reg false [⟨67, .mv (.t 5), none, false⟩,
 ⟨68, .ar .add false (.t 67) (.k (.sc (.int .i64 2))), none, false⟩,
 ⟨9, .mv (.t 68), none, false⟩])
 (.cln [0, 3, 5] [2]
 (.block 4
 (.loop [0, 3, 5, 6, 7, 9] b151_3)))))))))
 (.reg false [⟨32, .mv (.t 5), none, false⟩,
 ⟨33, .ar .add false (.t 32) (.k (.sc (.int .i64 1))), none, false⟩,
 ⟨5, .mv (.t 33), none, false⟩])))
def b151_2 : IC := w151_2
theorem u151_2 (call : CallF) (st : St) : evC call b151_2 st = evC call w151_2 st := rfl
attribute [simp] u151_2 w151_2
def i151 : Ev.Fn := ⟨1, 99, [.tmp 2],
 (.seq
 (.reg false [⟨2, .mv (.k (.sc (.bool false))), none, false⟩])
 (.seq
 (.reg false [⟨10, .mv (.t 0), none, false⟩,
 ⟨11, .ln false (.t 10), none, false⟩,
 ⟨3, .mv (.t 11), none, false⟩])
 (.seq
 (.seq
 (.reg false [⟨12, .mv (.t 3), none, false⟩,
 ⟨13, .ar .lss false (.t 12) (.k (.sc (.int .i64 3))), none, false⟩,
 ⟨14, .mv (.t 13), none, false⟩,
 ⟨15, .mv (.t 3), (some (14, false)), false⟩,
 ⟨16, .ar .gtr false (.t 15) (.k (.sc (.int .i64 24))), (some (14, false)), false⟩,
 ⟨17, .pk (.t 14) (.k (.sc (.bool true))) (.t 16), none, false⟩])
 (.ite (.t 17)
 (.seq
 (.reg false [⟨2, .mv (.k (.sc (.bool false))), none, false⟩])
 .ret)
 .skip))
 (.seq
 (.seq
 (.reg false [⟨4, .mv (.k (.sc (.int .i64 0))), none, false⟩])
 (.cln [0, 3] [2]
 (.block 0
 (.loop [0, 3, 4] b151_1))))
 (.seq
 (.seq
 (.reg false [⟨5, .mv (.k (.sc (.int .i64 0))), none, false⟩])
 (.cln [0] [2]
 (.block 2
 (.loop [0, 3, 5] b151_2))))
 (.seq
 (.reg false [⟨96, .mv (.t 0), none, false⟩,
 ⟨97, .ca (.k (.cl 231 [])) [(.t 96)], none, false⟩,
 ⟨98, .ar .gtr false (.t 97) (.k (.sc (.int .i64 0))), none, false⟩,
 ⟨2, .mv (.t 98), none, false⟩])
 .ret))))))⟩
attribute [simp] i151
set_option maxRecDepth 1000000 in
theorem c151 : cFn Try.prog 151 [[], [0, 3, 4], [0, 3], [2], [0, 3, 5], [0, 3, 5, 6, 7, 9], [0, 3, 5], [2], [0], [2]] = some i151 := by kernel_rfl
theorem e151 : enterOk Try.prog 151 = true := by kernel_rfl
def i154 : Ev.Fn := ⟨1, 11, [.cell 2 2 true],
 (.seq
 (.reg false [⟨1, .bx (.t 0), none, false⟩,
 ⟨2, .al [(.sc (.int .i64 0)), (.sc (.int .i64 0))], none, false⟩])
 (.seq
 (.reg false [⟨3, .al [(.sc (.int .i64 0)), (.sc (.int .i64 0))], none, false⟩])
 (.seq
 (.reg false [⟨4, .fa 0 (.t 1), none, false⟩,
 ⟨5, .ld 1 false (.t 4), none, false⟩,
 ⟨6, .fa 0 (.t 3), none, false⟩,
 ⟨1, .so 1 (.t 6) (.t 5), none, true⟩])
 (.seq
 (.reg false [⟨7, .fa 1 (.t 1), none, false⟩,
 ⟨8, .ld 1 false (.t 7), none, false⟩,
 ⟨9, .fa 1 (.t 3), none, false⟩,
 ⟨1, .so 1 (.t 9) (.t 8), none, true⟩])
 (.seq
 (.reg false [⟨10, .ld 2 true (.t 3), none, false⟩,
 ⟨1, .so 2 (.t 2) (.t 10), none, true⟩])
 .ret)))))⟩
attribute [simp] i154
set_option maxRecDepth 1000000 in
theorem c154 : cFn Try.prog 154 [[]] = some i154 := by kernel_rfl
theorem e154 : enterOk Try.prog 154 = true := by kernel_rfl
def w155_2 : IC :=
(.seq
 (.seq
 (.reg false [⟨62, .mv (.t 8), none, false⟩,
 ⟨63, .mv (.t 3), none, false⟩,
 ⟨64, .ar .lss false (.t 62) (.t 63), none, false⟩])
 (.ite (.t 64)
 .skip
 (.exit 2)))
 (.seq
 (.block 3
 (.seq
 (.reg true [⟨67, .mv (.t 8), none, false⟩,
 ⟨68, .ar .add false (.t 67) (.k (.sc (.int .i64 1))), none, false⟩,
 ⟨69, .mv (.t 3), none, false⟩,
 ⟨70, .ar .rem false (.t 68) (.t 69), none, false⟩,
 ⟨71, .mv (.t 4), none, false⟩,
 ⟨72, .ar .neq false (.t 70) (.t 71), none, false⟩,
 ⟨73, .mv (.t 72), none, false⟩,
 ⟨74, .ld 2 true (.t 5), (some (73, true)), false⟩,
 ⟨75, .ld 2 true (.t 6), (some (73, true)), false⟩,
 ⟨76, .mv (.t 0), (some (73, true)), false⟩,
 ⟨77, .mv (.t 8), (some (73, true)), false⟩,
 ⟨78, .ia 2 (.t 76) (.t 77), (some (73, true)), false⟩,
 ⟨79, .ld 2 true (.t 78), (some (73, true)), false⟩,
 ⟨80, .mv (.t 0), (some (73, true)), false⟩,
 ⟨81, .mv (.t 8), (some (73, true)), false⟩,
 ⟨82, .ar .add false (.t 81) (.k (.sc (.int .i64 1))), (some (73, true)), false⟩,
 ⟨83, .mv (.t 3), (some (73, true)), false⟩,
 ⟨84, .ar .rem false (.t 82) (.t 83), (some (73, true)), false⟩,
 ⟨85, .ia 2 (.t 80) (.t 84), (some (73, true)), false⟩,
 ⟨86, .ld 2 true (.t 85), (some (73, true)), false⟩,
 ⟨87, .ca (.k (.cl 234 [])) [(.t 74), (.t 75), (.t 79), (.t 86)], (some (73, true)), false⟩,
 ⟨88, .pk (.t 73) (.t 87) (.k (.sc (.bool false))), none, false⟩])
 (.ite (.t 88)
 (.seq
 (.reg false [⟨2, .mv (.k (.sc (.bool false))), none, false⟩])
 .ret)
 .skip)))
 (.reg false [⟨65, .mv (.t 8), none, false⟩,
 ⟨66, .ar .add false (.t 65) (.k (.sc (.int .i64 1))), none, false⟩,
 ⟨8, .mv (.t 66), none, false⟩])))
def b155_2 : IC := w155_2
theorem u155_2 (call : CallF) (st : St) : evC call b155_2 st = evC call w155_2 st := rfl
attribute [simp] u155_2 w155_2
def w155_1 : IC :=
(.seq
 (.reg false [⟨25, .ar .lss false (.t 24) (.t 23), none, false⟩])
 (.seq
 (.ite (.t 25)
 .skip
 (.exit 0))
 (.seq
 (.block 1
 (.seq
 (.reg false [⟨26, .mv (.t 24), none, false⟩,
 ⟨4, .mv (.t 26), none, false⟩])
 (.seq
 (.rgc [.ne 5 31, .ne 5 35, .ne 5 36, .ne 5 38, .ne 5 42, .ne 5 43, .ne 6 38, .ne 6 42, .ne 6 43] [⟨27, .mv (.t 0), none, false⟩,
 ⟨28, .mv (.t 4), none, false⟩,
 ⟨29, .ia 2 (.t 27) (.t 28), none, false⟩,
 ⟨30, .ld 2 true (.t 29), none, false⟩,
 ⟨31, .mv (.t 0), none, false⟩,
 ⟨32, .mv (.t 4), none, false⟩,
 ⟨33, .ar .add false (.t 32) (.k (.sc (.int .i64 1))), none, false⟩,
 ⟨34, .mv (.t 3), none, false⟩,
 ⟨35, .ar .rem false (.t 33) (.t 34), none, false⟩,
 ⟨36, .ia 2 (.t 31) (.t 35), none, false⟩,
 ⟨37, .ld 2 true (.t 36), none, false⟩,
 ⟨38, .mv (.t 0), none, false⟩,
 ⟨39, .mv (.t 4), none, false⟩,
 ⟨40, .ar .add false (.t 39) (.k (.sc (.int .i64 2))), none, false⟩,
 ⟨41, .mv (.t 3), none, false⟩,
 ⟨42, .ar .rem false (.t 40) (.t 41), none, false⟩,
 ⟨43, .ia 2 (.t 38) (.t 42), none, false⟩,
 ⟨44, .ld 2 true (.t 43), none, false⟩,
 ⟨5, .al [(.sc (.int .i64 0)), (.sc (.int .i64 0))], none, false⟩,
 ⟨6, .al [(.sc (.int .i64 0)), (.sc (.int .i64 0))], none, false⟩,
 ⟨7, .al [(.sc (.int .i64 0)), (.sc (.int .i64 0))], none, false⟩,
 ⟨0, .so 2 (.t 5) (.t 30), none, true⟩,
 ⟨0, .so 2 (.t 6) (.t 37), none, true⟩,
 ⟨0, .so 2 (.t 7) (.t 44), none, true⟩])
 (.seq
 (.seq
 (.reg false [⟨45, .ld 2 true (.t 5), none, false⟩,
 ⟨46, .ld 2 true (.t 6), none, false⟩,
 ⟨47, .eq false [1, 1] (.t 45) (.t 46), none, false⟩,
 ⟨48, .mv (.t 47), none, false⟩,
 ⟨49, .ld 2 true (.t 5), (some (48, false)), false⟩,
 ⟨50, .ld 2 true (.t 6), (some (48, false)), false⟩,
 ⟨51, .ld 2 true (.t 7), (some (48, false)), false⟩,
 ⟨52, .ca (.k (.cl 208 [])) [(.t 49), (.t 50), (.t 51)], (some (48, false)), false⟩,
 ⟨53, .pk (.t 48) (.k (.sc (.bool true))) (.t 52), none, false⟩,
 ⟨54, .mv (.t 53), none, false⟩,
 ⟨55, .ld 2 true (.t 6), (some (54, false)), false⟩,
 ⟨56, .ld 2 true (.t 7), (some (54, false)), false⟩,
 ⟨57, .ld 2 true (.t 5), (some (54, false)), false⟩,
 ⟨58, .ca (.k (.cl 208 [])) [(.t 55), (.t 56), (.t 57)], (some (54, false)), false⟩,
 ⟨59, .pk (.t 54) (.k (.sc (.bool true))) (.t 58), none, false⟩])
 (.ite (.t 59)
 (.seq
 (.reg false [⟨2, .mv (.k (.sc (.bool false))), none, false⟩])
 .ret)
 .skip))
 (.seq
 (.reg false [⟨60, .mv (.t 4), none, false⟩,
 ⟨61, .ar .add false (.t 60) (.k (.sc (.int .i64 2))), none, false⟩,
 ⟨8, .mv (.t 61), none, false⟩])
 (.cln [0, 3, 23, 24] [2]
 (.block 2
 (.loop [0, 3, 4, 5, 6, 8, 23, 24] b155_2))))))))
 (.reg false [⟨89, .ar .add false (.t 24) (.k (.sc (.int .i64 1))), none, false⟩,
 ⟨24, .mv (.t 89), none, false⟩]))))
def b155_1 : IC := w155_1
theorem u155_1 (call : CallF) (st : St) : evC call b155_1 st = evC call w155_1 st := rfl
attribute [simp] u155_1 w155_1
def i155 : Ev.Fn := ⟨1, 93, [.tmp 2],
 (.seq
 (.reg false [⟨2, .mv (.k (.sc (.bool false))), none, false⟩])
 (.seq
 (.reg false [⟨9, .mv (.t 0), none, false⟩,
 ⟨10, .ln false (.t 9), none, false⟩,
 ⟨3, .mv (.t 10), none, false⟩])
 (.seq
 (.seq
 (.reg false [⟨11, .mv (.t 3), none, false⟩,
 ⟨12, .ar .lss false (.t 11) (.k (.sc (.int .i64 3))), none, false⟩,
 ⟨13, .mv (.t 12), none, false⟩,
 ⟨14, .mv (.t 3), (some (13, false)), false⟩,
 ⟨15, .ar .gtr false (.t 14) (.k (.sc (.int .i64 24))), (some (13, false)), false⟩,
 ⟨16, .pk (.t 13) (.k (.sc (.bool true))) (.t 15), none, false⟩,
 ⟨17, .mv (.t 16), none, false⟩,
 ⟨18, .mv (.t 0), (some (17, false)), false⟩,
 ⟨19, .ca (.k (.cl 213 [])) [(.t 18)], (some (17, false)), false⟩,
 ⟨20, .nt (.t 19), (some (17, false)), false⟩,
 ⟨21, .pk (.t 17) (.k (.sc (.bool true))) (.t 20), none, false⟩])
 (.ite (.t 21)
 (.seq
 (.reg false [⟨2, .mv (.k (.sc (.bool false))), none, false⟩])
 .ret)
 .skip))
 (.seq
 (.seq
 (.reg false [⟨22, .mv (.t 0), none, false⟩,
 ⟨23, .ln false (.t 22), none, false⟩,
 ⟨24, .mv (.k (.sc (.int .i64 0))), none, false⟩])
 (.cln [0] [2]
 (.block 0
 (.loop [0, 3, 23, 24] b155_1))))
 (.seq
 (.reg false [⟨90, .mv (.t 0), none, false⟩,
 ⟨91, .ca (.k (.cl 235 [])) [(.t 90)], none, false⟩,
 ⟨92, .ar .gtr false (.t 91) (.k (.sc (.int .i64 0))), none, false⟩,
 ⟨2, .mv (.t 92), none, false⟩])
 .ret)))))⟩
attribute [simp] i155
set_option maxRecDepth 1000000 in
theorem c155 : cFn Try.prog 155 [[], [0, 3, 23, 24], [0, 3, 4, 5, 6, 8, 23, 24], [0, 3, 23, 24], [2], [0], [2]] = some i155 := by kernel_rfl
theorem e155 : enterOk Try.prog 155 = true := by kernel_rfl
def i158 : Ev.Fn := ⟨2, 15, [.tmp 4],
 (.seq
 (.reg false [⟨2, .bx (.t 0), none, false⟩,
 ⟨3, .bx (.t 1), none, false⟩,
 ⟨4, .mv (.k (.sc (.bool false))), none, false⟩])
 (.seq
 (.seq
 (.reg false [⟨5, .fa 0 (.t 2), none, false⟩,
 ⟨6, .ld 1 false (.t 5), none, false⟩,
 ⟨7, .fa 0 (.t 3), none, false⟩,
 ⟨8, .ld 1 false (.t 7), none, false⟩,
 ⟨9, .ar .neq false (.t 6) (.t 8), none, false⟩])
 (.ite (.t 9)
 (.seq
 (.reg false [⟨4, .mv (.k (.sc (.bool false))), none, false⟩])
 .ret)
 .skip))
 (.seq
 (.seq
 (.reg false [⟨10, .fa 1 (.t 2), none, false⟩,
 ⟨11, .ld 1 false (.t 10), none, false⟩,
 ⟨12, .fa 1 (.t 3), none, false⟩,
 ⟨13, .ld 1 false (.t 12), none, false⟩,
 ⟨14, .ar .neq false (.t 11) (.t 13), none, false⟩])
 (.ite (.t 14)
 (.seq
 (.reg false [⟨4, .mv (.k (.sc (.bool false))), none, false⟩])
 .ret)
 .skip))
 (.seq
 (.reg false [⟨4, .mv (.k (.sc (.bool true))), none, false⟩])
 .ret))))⟩
attribute [simp] i158
set_option maxRecDepth 1000000 in
theorem c158 : cFn Try.prog 158 [[]] = some i158 := by kernel_rfl
theorem e158 : enterOk Try.prog 158 = true := by kernel_rfl
def i162 : Ev.Fn := ⟨3, 15, [.tmp 6],
 (.seq
 (.reg false [⟨6, .mv (.k (.sc (.bool false))), none, false⟩])
 (.seq
 (.reg false [⟨7, .mv (.t 0), none, false⟩,
 ⟨8, .mv (.t 1), none, false⟩,
 ⟨9, .ar .geq false (.t 7) (.t 8), none, false⟩,
 ⟨10, .mv (.t 9), none, false⟩,
 ⟨11, .mv (.t 0), (some (10, true)), false⟩,
 ⟨12, .mv (.t 2), (some (10, true)), false⟩,
 ⟨13, .ar .leq false (.t 11) (.t 12), (some (10, true)), false⟩,
 ⟨14, .pk (.t 10) (.t 13) (.k (.sc (.bool false))), none, false⟩,
 ⟨6, .mv (.t 14), none, false⟩])
 .ret))⟩
attribute [simp] i162
set_option maxRecDepth 1000000 in
theorem c162 : cFn Try.prog 162 [[]] = some i162 := by kernel_rfl
theorem e162 : enterOk Try.prog 162 = true := by kernel_rfl
def i165 : Ev.Fn := ⟨3, 15, [.tmp 6],
 (.seq
 (.reg false [⟨6, .mv (.k (.sc (.bool false))), none, false⟩])
 (.seq
 (.reg false [⟨7, .mv (.t 0), none, false⟩,
 ⟨8, .mv (.t 1), none, false⟩,
 ⟨9, .ar .geq false (.t 7) (.t 8), none, false⟩,
 ⟨10, .mv (.t 9), none, false⟩,
 ⟨11, .mv (.t 0), (some (10, true)), false⟩,
 ⟨12, .mv (.t 2), (some (10, true)), false⟩,
 ⟨13, .ar .leq false (.t 11) (.t 12), (some (10, true)), false⟩,
 ⟨14, .pk (.t 10) (.t 13) (.k (.sc (.bool false))), none, false⟩,
 ⟨6, .mv (.t 14), none, false⟩])
 .ret))⟩
attribute [simp] i165
set_option maxRecDepth 1000000 in
theorem c165 : cFn Try.prog 165 [[]] = some i165 := by kernel_rfl
theorem e165 : enterOk Try.prog 165 = true := by kernel_rfl
def w168_1 : IC :=
(.seq
 (.seq
 (.reg false [⟨17, .mv (.t 3), none, false⟩,
 ⟨18, .mv (.t 0), none, false⟩,
 ⟨19, .ln true (.t 18), none, false⟩,
 ⟨20, .ar .lss false (.t 17) (.t 19), none, false⟩])
 (.ite (.t 20)
 .skip
 (.exit 0)))
 (.seq
 (.block 1
 (.seq
 (.reg false [⟨23, .mv (.t 0), none, false⟩,
 ⟨24, .mv (.t 3), none, false⟩,
 ⟨25, .ix (.t 23) (.t 24), none, false⟩,
 ⟨26, .ca (.k (.cl 246 [])) [(.t 25)], none, false⟩,
 ⟨27, .nt (.t 26), none, false⟩,
 ⟨28, .mv (.t 27), none, false⟩,
 ⟨29, .mv (.t 0), (some (28, true)), false⟩,
 ⟨30, .mv (.t 3), (some (28, true)), false⟩,
 ⟨31, .ix (.t 29) (.t 30), (some (28, true)), false⟩,
 ⟨32, .ca (.k (.cl 247 [])) [(.t 31)], (some (28, true)), false⟩,
 ⟨33, .nt (.t 32), (some (28, true)), false⟩,
 ⟨34, .pk (.t 28) (.t 33) (.k (.sc (.bool false))), none, false⟩])
 (.ite (.t 34)
 (.seq
 (.reg false [⟨2, .mv (.k (.sc (.bool false))), none, false⟩])
 .ret)
 .skip)))
 (.reg false [⟨21, .mv (.t 3), none, false⟩,
 ⟨22, .ar .add false (.t 21) (.k (.sc (.int .i64 1))), none, false⟩,
 ⟨3, .mv (.t 22), none, false⟩])))
def b168_1 : IC := w168_1
theorem u168_1 (call : CallF) (st : St) : evC call b168_1 st = evC call w168_1 st := rfl
attribute [simp] u168_1 w168_1
def i168 : Ev.Fn := ⟨1, 35, [.tmp 2],
 (.seq
 (.reg false [⟨2, .mv (.k (.sc (.bool false))), none, false⟩])
 (.seq
 (.seq
 (.reg false [⟨4, .mv (.t 0), none, false⟩,
 ⟨5, .ar .eql false (.t 4) (.k (.sc (.string ⟨#[]⟩))), none, false⟩,
 ⟨6, .mv (.t 5), none, false⟩,
 ⟨7, .mv (.t 0), (some (6, false)), false⟩,
 ⟨8, .ln true (.t 7), (some (6, false)), false⟩,
 ⟨9, .ar .gtr false (.t 8) (.k (.sc (.int .i64 10))), (some (6, false)), false⟩,
 ⟨10, .pk (.t 6) (.k (.sc (.bool true))) (.t 9), none, false⟩,
 ⟨11, .mv (.t 10), none, false⟩,
 ⟨12, .mv (.t 0), (some (11, false)), false⟩,
 ⟨13, .ix (.t 12) (.k (.sc (.int .i64 0))), (some (11, false)), false⟩,
 ⟨14, .ca (.k (.cl 246 [])) [(.t 13)], (some (11, false)), false⟩,
 ⟨15, .nt (.t 14), (some (11, false)), false⟩,
 ⟨16, .pk (.t 11) (.k (.sc (.bool true))) (.t 15), none, false⟩])
 (.ite (.t 16)
 (.seq
 (.reg false [⟨2, .mv (.k (.sc (.bool false))), none, false⟩])
 .ret)
 .skip))
 (.seq
 (.seq
 (.reg false [⟨3, .mv (.k (.sc (.int .i64 0))), none, false⟩])
 (.cln [] [2]
 (.block 0
 (.loop [0, 3] b168_1))))
 (.seq
 (.reg false [⟨2, .mv (.k (.sc (.bool true))), none, false⟩])
 .ret))))⟩
attribute [simp] i168
set_option maxRecDepth 1000000 in
theorem c168 : cFn Try.prog 168 [[], [0, 3], [], [2]] = some i168 := by kernel_rfl
theorem e168 : enterOk Try.prog 168 = true := by kernel_rfl
def w175_1 : IC :=
(.seq
 (.seq
 (.reg false [⟨22, .mv (.t 3), none, false⟩,
 ⟨23, .mv (.t 0), none, false⟩,
 ⟨24, .ln true (.t 23), none, false⟩,
 ⟨25, .ar .lss false (.t 22) (.t 24), none, false⟩])
 (.ite (.t 25)
 .skip
 (.exit 0)))
 (.seq
 (.block 1
 (.seq
 (.reg false [⟨28, .mv (.t 0), none, false⟩,
 ⟨29, .mv (.t 3), none, false⟩,
 ⟨30, .ix (.t 28) (.t 29), none, false⟩,
 ⟨31, .ar .lss false (.t 30) (.k (.sc (.int .u8 97))), none, false⟩,
 ⟨32, .mv (.t 31), none, false⟩,
 ⟨33, .mv (.t 0), (some (32, false)), false⟩,
 ⟨34, .mv (.t 3), (some (32, false)), false⟩,
 ⟨35, .ix (.t 33) (.t 34), (some (32, false)), false⟩,
 ⟨36, .ar .gtr false (.t 35) (.k (.sc (.int .u8 122))), (some (32, false)), false⟩,
 ⟨37, .pk (.t 32) (.k (.sc (.bool true))) (.t 36), none, false⟩,
 ⟨38, .mv (.t 37), none, false⟩,
 ⟨39, .mv (.t 0), (some (38, true)), false⟩,
 ⟨40, .mv (.t 3), (some (38, true)), false⟩,
 ⟨41, .ix (.t 39) (.t 40), (some (38, true)), false⟩,
 ⟨42, .ar .lss false (.t 41) (.k (.sc (.int .u8 48))), (some (38, true)), false⟩,
 ⟨43, .mv (.t 42), (some (38, true)), false⟩,
 ⟨44, .mv (.t 0), (some (43, false)), false⟩,
 ⟨45, .mv (.t 3), (some (43, false)), false⟩,
 ⟨46, .ix (.t 44) (.t 45), (some (43, false)), false⟩,
 ⟨47, .ar .gtr false (.t 46) (.k (.sc (.int .u8 57))), (some (43, false)), false⟩,
 ⟨48, .pk (.t 43) (.k (.sc (.bool true))) (.t 47), (some (38, true)), false⟩,
 ⟨49, .pk (.t 38) (.t 48) (.k (.sc (.bool false))), none, false⟩])
 (.ite (.t 49)
 (.seq
 (.reg false [⟨2, .mv (.k (.sc (.bool false))), none, false⟩])
 .ret)
 .skip)))
 (.reg false [⟨26, .mv (.t 3), none, false⟩,
 ⟨27, .ar .add false (.t 26) (.k (.sc (.int .i64 1))), none, false⟩,
 ⟨3, .mv (.t 27), none, false⟩])))
def b175_1 : IC := w175_1
theorem u175_1 (call : CallF) (st : St) : evC call b175_1 st = evC call w175_1 st := rfl
attribute [simp] u175_1 w175_1
def i175 : Ev.Fn := ⟨1, 50, [.tmp 2],
 (.seq
 (.reg false [⟨2, .mv (.k (.sc (.bool false))), none, false⟩])
 (.seq
 (.seq
 (.reg false [⟨4, .mv (.t 0), none, false⟩,
 ⟨5, .ln true (.t 4), none, false⟩,
 ⟨6, .ar .lss false (.t 5) (.k (.sc (.int .i64 1))), none, false⟩,
 ⟨7, .mv (.t 6), none, false⟩,
 ⟨8, .mv (.t 0), (some (7, false)), false⟩,
 ⟨9, .ln true (.t 8), (some (7, false)), false⟩,
 ⟨10, .ar .gtr false (.t 9) (.k (.sc (.int .i64 10))), (some (7, false)), false⟩,
 ⟨11, .pk (.t 7) (.k (.sc (.bool true))) (.t 10), none, false⟩,
 ⟨12, .mv (.t 11), none, false⟩,
 ⟨13, .mv (.t 0), (some (12, false)), false⟩,
 ⟨14, .ix (.t 13) (.k (.sc (.int .i64 0))), (some (12, false)), false⟩,
 ⟨15, .ar .lss false (.t 14) (.k (.sc (.int .u8 97))), (some (12, false)), false⟩,
 ⟨16, .pk (.t 12) (.k (.sc (.bool true))) (.t 15), none, false⟩,
 ⟨17, .mv (.t 16), none, false⟩,
 ⟨18, .mv (.t 0), (some (17, false)), false⟩,
 ⟨19, .ix (.t 18) (.k (.sc (.int .i64 0))), (some (17, false)), false⟩,
 ⟨20, .ar .gtr false (.t 19) (.k (.sc (.int .u8 122))), (some (17, false)), false⟩,
 ⟨21, .pk (.t 17) (.k (.sc (.bool true))) (.t 20), none, false⟩])
 (.ite (.t 21)
 (.seq
 (.reg false [⟨2, .mv (.k (.sc (.bool false))), none, false⟩])
 .ret)
 .skip))
 (.seq
 (.seq
 (.reg false [⟨3, .mv (.k (.sc (.int .i64 0))), none, false⟩])
 (.cln [] [2]
 (.block 0
 (.loop [0, 3] b175_1))))
 (.seq
 (.reg false [⟨2, .mv (.k (.sc (.bool true))), none, false⟩])
 .ret))))⟩
attribute [simp] i175
set_option maxRecDepth 1000000 in
theorem c175 : cFn Try.prog 175 [[], [0, 3], [], [2]] = some i175 := by kernel_rfl
theorem e175 : enterOk Try.prog 175 = true := by kernel_rfl
def i181 : Ev.Fn := ⟨2, 19, [.tmp 4],
 (.seq
 (.reg false [⟨2, .bx (.t 0), none, false⟩,
 ⟨4, .mv (.k (.sc (.int .i64 0))), none, false⟩])
 (.seq
 (.reg false [⟨5, .mv (.t 1), none, false⟩,
 ⟨6, .fa 0 (.t 2), none, false⟩,
 ⟨7, .ld 1 false (.t 6), none, false⟩,
 ⟨8, .ln true (.t 7), none, false⟩,
 ⟨9, .ar .sub false (.t 5) (.t 8), none, false⟩,
 ⟨1, .mv (.t 9), none, false⟩])
 (.seq
 (.seq
 (.reg false [⟨10, .mv (.t 1), none, false⟩,
 ⟨11, .ar .lss false (.t 10) (.k (.sc (.int .i64 0))), none, false⟩])
 (.ite (.t 11)
 (.seq
 (.reg false [⟨4, .mv (.k (.sc (.int .i64 (-1)))), none, false⟩])
 .ret)
 .skip))
 (.seq
 (.reg false [⟨12, .fa 1 (.t 2), none, false⟩,
 ⟨13, .ld 1 false (.t 12), none, false⟩,
 ⟨14, .mv (.t 1), none, false⟩,
 ⟨15, .ca (.k (.cl 253 [])) [(.t 13), (.t 14)], none, false⟩,
 ⟨1, .mv (.t 15), none, false⟩])
 (.seq
 (.seq
 (.reg false [⟨16, .mv (.t 1), none, false⟩,
 ⟨17, .ar .lss false (.t 16) (.k (.sc (.int .i64 0))), none, false⟩])
 (.ite (.t 17)
 (.seq
 (.reg false [⟨4, .mv (.k (.sc (.int .i64 (-1)))), none, false⟩])
 .ret)
 .skip))
 (.seq
 (.reg false [⟨18, .mv (.t 1), none, false⟩,
 ⟨4, .mv (.t 18), none, false⟩])
 .ret))))))⟩
attribute [simp] i181
set_option maxRecDepth 1000000 in
theorem c181 : cFn Try.prog 181 [[]] = some i181 := by kernel_rfl
theorem e181 : enterOk Try.prog 181 = true := by kernel_rfl
def w182_2 : IC :=
(.seq
 (.seq
 (.reg false [⟨50, .mv (.t 4), none, false⟩,
 ⟨51, .mv (.t 3), none, false⟩,
 ⟨52, .ar .lss false (.t 50) (.t 51), none, false⟩])
 (.ite (.t 52)
 .skip
 (.exit 2)))
 (.seq
 (.block 3
 (.seq
 (.reg true [⟨55, .mv (.t 0), none, false⟩,
 ⟨56, .nc (.t 55), none, false⟩,
 ⟨57, .fa 2 (.t 56), none, false⟩,
 ⟨58, .ld 1 false (.t 57), none, false⟩,
 ⟨59, .mv (.t 3), none, false⟩,
 ⟨60, .ia 2 (.t 58) (.t 59), none, false⟩,
 ⟨61, .ld 2 true (.t 60), none, false⟩,
 ⟨62, .mv (.t 0), none, false⟩,
 ⟨63, .nc (.t 62), none, false⟩,
 ⟨64, .fa 2 (.t 63), none, false⟩,
 ⟨65, .ld 1 false (.t 64), none, false⟩,
 ⟨66, .mv (.t 4), none, false⟩,
 ⟨67, .ia 2 (.t 65) (.t 66), none, false⟩,
 ⟨68, .ld 2 true (.t 67), none, false⟩,
 ⟨69, .eq false [1, 1] (.t 61) (.t 68), none, false⟩])
 (.ite (.t 69)
 (.seq
 (.reg false [⟨2, .mv (.k (.sc (.bool false))), none, false⟩])
 .ret)
 .skip)))
 (.reg false [⟨53, .mv (.t 4), none, false⟩,
 ⟨54, .ar .add false (.t 53) (.k (.sc (.int .i64 1))), none, false⟩,
 ⟨4, .mv (.t 54), none, false⟩])))
def b182_2 : IC := w182_2
theorem u182_2 (call : CallF) (st : St) : evC call b182_2 st = evC call w182_2 st := rfl
attribute [simp] u182_2 w182_2
def w182_1 : IC :=
(.seq
 (.seq
 (.reg false [⟨11, .mv (.t 3), none, false⟩,
 ⟨12, .mv (.t 0), none, false⟩,
 ⟨13, .nc (.t 12), none, false⟩,
 ⟨14, .fa 2 (.t 13), none, false⟩,
 ⟨15, .ld 1 false (.t 14), none, false⟩,
 ⟨16, .ln false (.t 15), none, false⟩,
 ⟨17, .ar .lss false (.t 11) (.t 16), none, false⟩])
 (.ite (.t 17)
 .skip
 (.exit 0)))
 (.seq
 (.block 1
 (.seq
 (.seq
 (.reg true [⟨20, .mv (.t 0), none, false⟩,
 ⟨21, .nc (.t 20), none, false⟩,
 ⟨22, .fa 2 (.t 21), none, false⟩,
 ⟨23, .ld 1 false (.t 22), none, false⟩,
 ⟨24, .mv (.t 3), none, false⟩,
 ⟨25, .ia 2 (.t 23) (.t 24), none, false⟩,
 ⟨26, .fa 0 (.t 25), none, false⟩,
 ⟨27, .ld 1 false (.t 26), none, false⟩,
 ⟨28, .mv (.t 0), none, false⟩,
 ⟨29, .nc (.t 28), none, false⟩,
 ⟨30, .fa 0 (.t 29), none, false⟩,
 ⟨31, .ld 1 false (.t 30), none, false⟩,
 ⟨32, .ca (.k (.cl 162 [])) [(.t 27), (.k (.sc (.int .i64 0))), (.t 31)], none, false⟩,
 ⟨33, .nt (.t 32), none, false⟩,
 ⟨34, .mv (.t 33), none, false⟩,
 ⟨35, .mv (.t 0), (some (34, false)), false⟩,
 ⟨36, .nc (.t 35), (some (34, false)), false⟩,
 ⟨37, .fa 2 (.t 36), (some (34, false)), false⟩,
 ⟨38, .ld 1 false (.t 37), (some (34, false)), false⟩,
 ⟨39, .mv (.t 3), (some (34, false)), false⟩,
 ⟨40, .ia 2 (.t 38) (.t 39), (some (34, false)), false⟩,
 ⟨41, .fa 1 (.t 40), (some (34, false)), false⟩,
 ⟨42, .ld 1 false (.t 41), (some (34, false)), false⟩,
 ⟨43, .mv (.t 0), (some (34, false)), false⟩,
 ⟨44, .nc (.t 43), (some (34, false)), false⟩,
 ⟨45, .fa 1 (.t 44), (some (34, false)), false⟩,
 ⟨46, .ld 1 false (.t 45), (some (34, false)), false⟩,
 ⟨47, .ca (.k (.cl 162 [])) [(.t 42), (.k (.sc (.int .i64 0))), (.t 46)], (some (34, false)), false⟩,
 ⟨48, .nt (.t 47), (some (34, false)), false⟩,
 ⟨49, .pk (.t 34) (.k (.sc (.bool true))) (.t 48), none, false⟩])
 (.ite (.t 49)
 (.seq
 (.reg false [⟨2, .mv (.k (.sc (.bool false))), none, false⟩])
 .ret)
 .skip))
 (.seq
 (.reg false [⟨4, .mv (.k (.sc (.int .i64 0))), none, false⟩])
 (.cln [0, 3] [2]
 (.block 2
 (.loop [0, 3, 4] b182_2))))))
 (.reg false [⟨18, .mv (.t 3), none, false⟩,
 ⟨19, .ar .add false (.t 18) (.k (.sc (.int .i64 1))), none, false⟩,
 ⟨3, .mv (.t 19), none, false⟩])))
def b182_1 : IC := w182_1
theorem u182_1 (call : CallF) (st : St) : evC call b182_1 st = evC call w182_1 st := rfl
attribute [simp] u182_1 w182_1
def i182 : Ev.Fn := ⟨1, 70, [.tmp 2],
 (.seq
 (.reg false [⟨2, .mv (.k (.sc (.bool false))), none, false⟩])
 (.seq
 (.seq
 (.reg false [⟨5, .mv (.t 0), none, false⟩,
 ⟨6, .nc (.t 5), none, false⟩,
 ⟨7, .fa 2 (.t 6), none, false⟩,
 ⟨8, .ld 1 false (.t 7), none, false⟩,
 ⟨9, .ln false (.t 8), none, false⟩,
 ⟨10, .ar .gtr false (.t 9) (.k (.sc (.int .i64 48))), none, false⟩])
 (.ite (.t 10)
 (.seq
 (.reg false [⟨2, .mv (.k (.sc (.bool false))), none, false⟩])
 .ret)
 .skip))
 (.seq
 (.seq
 (.reg false [⟨3, .mv (.k (.sc (.int .i64 0))), none, false⟩])
 (.cln [] [2]
 (.block 0
 (.loop [0, 3] b182_1))))
 (.seq
 (.reg false [⟨2, .mv (.k (.sc (.bool true))), none, false⟩])
 .ret))))⟩
attribute [simp] i182
set_option maxRecDepth 1000000 in
theorem c182 : cFn Try.prog 182 [[], [0, 3], [0, 3, 4], [0, 3], [2], [], [2]] = some i182 := by kernel_rfl
theorem e182 : enterOk Try.prog 182 = true := by kernel_rfl
end Go.Proofs.Ytejffoibihbnnaa.walkS
