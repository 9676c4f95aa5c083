/- The functions that some rows reach, turned; no conditions. -/
import Derived.Test.YtejffoibihbnnaaPr
import Derived.KernelRfl
import Derived.Test.YtejffoibihbnnaaProg
namespace Go.Proofs.Ytejffoibihbnnaa.walkS
open Go Go.Proofs.Ytejffoibihbnnaa.Ev
def i6 : Ev.Fn := ⟨2, 119, [.tmp 4],
 (.seq
 (.reg false [⟨3, .bx (.t 1), none, false⟩,
 ⟨4, .mv (.k (.sc (.bool false))), none, false⟩])
 (.seq
 (.reg false [⟨5, .mv (.k (.sc (.int .i64 1048576))), none, false⟩])
 (.seq
 (.reg false [⟨17, .mv (.t 0), none, false⟩,
 ⟨18, .mv (.t 5), none, false⟩,
 ⟨19, .ca (.k (.cl 28 [])) [(.t 17), (.t 18)], none, false⟩,
 ⟨5, .mv (.t 19), none, false⟩])
 (.seq
 (.seq
 (.reg false [⟨20, .mv (.t 5), none, false⟩,
 ⟨21, .ar .lss false (.t 20) (.k (.sc (.int .i64 0))), none, false⟩])
 (.ite (.t 21)
 (.seq
 (.reg false [⟨4, .mv (.k (.sc (.bool true))), none, false⟩])
 .ret)
 .skip))
 (.seq
 (.reg false [⟨22, .ld 9 true (.t 3), none, false⟩,
 ⟨23, .mv (.t 5), none, false⟩,
 ⟨24, .ca (.k (.cl 15 [])) [(.t 22), (.t 23)], none, false⟩,
 ⟨5, .mv (.t 24), none, false⟩])
 (.seq
 (.seq
 (.reg false [⟨25, .mv (.t 5), none, false⟩,
 ⟨26, .ar .lss false (.t 25) (.k (.sc (.int .i64 0))), none, false⟩])
 (.ite (.t 26)
 (.seq
 (.reg false [⟨4, .mv (.k (.sc (.bool true))), none, false⟩])
 .ret)
 .skip))
 (.seq
 (.reg true [⟨28, .mv (.t 0), none, false⟩,
 ⟨29, .ca (.k (.cl 30 [])) [(.t 28)], none, false⟩,
 ⟨30, .ld 9 true (.t 3), none, false⟩,
 ⟨31, .ca (.k (.cl 17 [])) [(.t 30)], none, false⟩,
 ⟨32, .ca (.k (.cl 35 [])) [(.t 29), (.t 31)], none, false⟩,
 ⟨27, .mv (.t 32), none, false⟩,
 ⟨33, .xt (.t 27) 0, none, false⟩,
 ⟨34, .xt (.t 27) 1, none, false⟩,
 ⟨6, .mv (.t 33), none, false⟩,
 ⟨7, .mv (.t 34), none, false⟩])
 (.seq
 (.reg false [⟨35, .mv (.t 0), none, false⟩,
 ⟨36, .ca (.k (.cl 30 [])) [(.t 35)], none, false⟩,
 ⟨8, .mv (.t 36), none, false⟩])
 (.seq
 (.reg false [⟨37, .ld 9 true (.t 3), none, false⟩,
 ⟨38, .ca (.k (.cl 17 [])) [(.t 37)], none, false⟩,
 ⟨9, .al [(.sc (.string ⟨#[]⟩)), (.sc (.string ⟨#[]⟩)), (.sc (.int .i64 0)), (.sc (.string ⟨#[]⟩)), (.sc (.int .i64 0)), (.sc (.int .i64 0)), (.sc (.int .i64 0)), (.sc (.int .i64 0)), .nl], none, false⟩,
 ⟨1, .so 9 (.t 9) (.t 38), none, true⟩])
 (.seq
 (.reg false [⟨40, .mv (.t 8), none, false⟩,
 ⟨41, .ld 9 true (.t 9), none, false⟩,
 ⟨42, .ca (.k (.cl 36 [])) [(.t 40), (.t 41)], none, false⟩,
 ⟨39, .mv (.t 42), none, false⟩,
 ⟨43, .xt (.t 39) 0, none, false⟩,
 ⟨44, .xt (.t 39) 1, none, false⟩,
 ⟨10, .mv (.t 43), none, false⟩,
 ⟨11, .mv (.t 44), none, false⟩])
 (.seq
 (.seq
 (.reg false [⟨45, .mv (.t 10), none, false⟩,
 ⟨46, .mv (.t 6), none, false⟩,
 ⟨47, .ca (.k (.cl 32 [])) [(.t 45), (.t 46)], none, false⟩,
 ⟨48, .nt (.t 47), none, false⟩,
 ⟨49, .mv (.t 48), none, false⟩,
 ⟨50, .mv (.t 11), (some (49, false)), false⟩,
 ⟨51, .mv (.t 7), (some (49, false)), false⟩,
 ⟨52, .ar .neq false (.t 50) (.t 51), (some (49, false)), false⟩,
 ⟨53, .pk (.t 49) (.k (.sc (.bool true))) (.t 52), none, false⟩])
 (.ite (.t 53)
 (.seq
 (.reg false [⟨4, .mv (.k (.sc (.bool false))), none, false⟩])
 .ret)
 .skip))
 (.seq
 (.seq
 (.reg false [⟨54, .mv (.t 8), none, false⟩,
 ⟨55, .mv (.t 0), none, false⟩,
 ⟨56, .ca (.k (.cl 30 [])) [(.t 55)], none, false⟩,
 ⟨57, .ca (.k (.cl 32 [])) [(.t 54), (.t 56)], none, false⟩,
 ⟨58, .nt (.t 57), none, false⟩])
 (.ite (.t 58)
 (.seq
 (.reg false [⟨4, .mv (.k (.sc (.bool false))), none, false⟩])
 .ret)
 .skip))
 (.seq
 (.seq
 (.reg true [⟨59, .ld 9 true (.t 9), none, false⟩,
 ⟨60, .ld 9 true (.t 3), none, false⟩,
 ⟨61, .ca (.k (.cl 17 [])) [(.t 60)], none, false⟩,
 ⟨62, .ca (.k (.cl 20 [])) [(.t 59), (.t 61)], none, false⟩,
 ⟨63, .nt (.t 62), none, false⟩])
 (.ite (.t 63)
 (.seq
 (.reg false [⟨4, .mv (.k (.sc (.bool false))), none, false⟩])
 .ret)
 .skip))
 (.seq
 (.reg false [⟨12, .mv (.k (.sc (.int .i64 1))), none, false⟩])
 (.seq
 (.rgw [⟨64, .mv (.t 8), none, false⟩,
 ⟨65, .mv (.t 12), none, false⟩,
 ⟨66, .cw 33 [] [(.t 64), (.t 65)], none, false⟩,
 ⟨12, .mv (.t 66), none, false⟩])
 (.seq
 (.rgw [⟨67, .ld 9 true (.t 9), none, false⟩,
 ⟨68, .mv (.t 12), none, false⟩,
 ⟨69, .cw 37 [] [(.t 67), (.t 68)], none, false⟩,
 ⟨12, .mv (.t 69), none, false⟩])
 (.seq
 (.seq
 (.reg false [⟨70, .mv (.t 12), none, false⟩,
 ⟨71, .ar .lss false (.t 70) (.k (.sc (.int .i64 0))), none, false⟩,
 ⟨72, .mv (.t 71), none, false⟩,
 ⟨73, .mv (.t 10), (some (72, false)), false⟩,
 ⟨74, .mv (.t 6), (some (72, false)), false⟩,
 ⟨75, .ca (.k (.cl 32 [])) [(.t 73), (.t 74)], (some (72, false)), false⟩,
 ⟨76, .nt (.t 75), (some (72, false)), false⟩,
 ⟨77, .pk (.t 72) (.k (.sc (.bool true))) (.t 76), none, false⟩,
 ⟨78, .mv (.t 77), none, false⟩,
 ⟨79, .mv (.t 11), (some (78, false)), false⟩,
 ⟨80, .mv (.t 7), (some (78, false)), false⟩,
 ⟨81, .ar .neq false (.t 79) (.t 80), (some (78, false)), false⟩,
 ⟨82, .pk (.t 78) (.k (.sc (.bool true))) (.t 81), none, false⟩])
 (.ite (.t 82)
 (.seq
 (.reg false [⟨4, .mv (.k (.sc (.bool false))), none, false⟩])
 .ret)
 .skip))
 (.seq
 (.reg false [⟨13, .mv (.k (.sc (.int .i64 1))), none, false⟩])
 (.seq
 (.rgw [⟨83, .mv (.t 10), none, false⟩,
 ⟨84, .mv (.t 13), none, false⟩,
 ⟨85, .cw 33 [] [(.t 83), (.t 84)], none, false⟩,
 ⟨13, .mv (.t 85), none, false⟩])
 (.seq
 (.reg false [⟨14, .mv (.k (.sc (.int .i64 1))), none, false⟩])
 (.seq
 (.reg false [⟨86, .mv (.t 10), none, false⟩,
 ⟨87, .mv (.t 14), none, false⟩,
 ⟨88, .ca (.k (.cl 34 [])) [(.t 86), (.t 87)], none, false⟩,
 ⟨14, .mv (.t 88), none, false⟩])
 (.seq
 (.seq
 (.reg false [⟨89, .mv (.t 14), none, false⟩,
 ⟨90, .ar .lss false (.t 89) (.k (.sc (.int .i64 0))), none, false⟩])
 (.ite (.t 90)
 (.seq
 (.reg false [⟨4, .mv (.k (.sc (.bool false))), none, false⟩])
 .ret)
 .skip))
 (.seq
 (.seq
 (.reg false [⟨91, .mv (.t 14), none, false⟩,
 ⟨92, .mv (.t 13), none, false⟩,
 ⟨93, .ar .neq false (.t 91) (.t 92), none, false⟩])
 (.ite (.t 93)
 (.seq
 (.reg false [⟨4, .mv (.k (.sc (.bool false))), none, false⟩])
 .ret)
 .skip))
 (.seq
 (.reg true [⟨95, .mv (.t 0), none, false⟩,
 ⟨96, .ca (.k (.cl 30 [])) [(.t 95)], none, false⟩,
 ⟨97, .ld 9 true (.t 3), none, false⟩,
 ⟨98, .ca (.k (.cl 17 [])) [(.t 97)], none, false⟩,
 ⟨99, .ca (.k (.cl 36 [])) [(.t 96), (.t 98)], none, false⟩,
 ⟨94, .mv (.t 99), none, false⟩,
 ⟨100, .xt (.t 94) 0, none, false⟩,
 ⟨101, .xt (.t 94) 1, none, false⟩,
 ⟨15, .mv (.t 100), none, false⟩,
 ⟨16, .mv (.t 101), none, false⟩])
 (.seq
 (.seq
 (.reg false [⟨102, .mv (.t 15), none, false⟩,
 ⟨103, .mv (.t 6), none, false⟩,
 ⟨104, .ca (.k (.cl 32 [])) [(.t 102), (.t 103)], none, false⟩,
 ⟨105, .nt (.t 104), none, false⟩,
 ⟨106, .mv (.t 105), none, false⟩,
 ⟨107, .mv (.t 16), (some (106, false)), false⟩,
 ⟨108, .mv (.t 7), (some (106, false)), false⟩,
 ⟨109, .ar .neq false (.t 107) (.t 108), (some (106, false)), false⟩,
 ⟨110, .pk (.t 106) (.k (.sc (.bool true))) (.t 109), none, false⟩])
 (.ite (.t 110)
 (.seq
 (.reg false [⟨4, .mv (.k (.sc (.bool false))), none, false⟩])
 .ret)
 .skip))
 (.seq
 (.reg false [⟨14, .mv (.k (.sc (.int .i64 1))), none, false⟩])
 (.seq
 (.reg false [⟨111, .mv (.t 10), none, false⟩,
 ⟨112, .mv (.t 14), none, false⟩,
 ⟨113, .ca (.k (.cl 34 [])) [(.t 111), (.t 112)], none, false⟩,
 ⟨14, .mv (.t 113), none, false⟩])
 (.seq
 (.seq
 (.reg false [⟨114, .mv (.t 14), none, false⟩,
 ⟨115, .ar .lss false (.t 114) (.k (.sc (.int .i64 0))), none, false⟩])
 (.ite (.t 115)
 (.seq
 (.reg false [⟨4, .mv (.k (.sc (.bool false))), none, false⟩])
 .ret)
 .skip))
 (.seq
 (.seq
 (.reg false [⟨116, .mv (.t 14), none, false⟩,
 ⟨117, .mv (.t 13), none, false⟩,
 ⟨118, .ar .neq false (.t 116) (.t 117), none, false⟩])
 (.ite (.t 118)
 (.seq
 (.reg false [⟨4, .mv (.k (.sc (.bool false))), none, false⟩])
 .ret)
 .skip))
 (.seq
 (.reg false [⟨4, .mv (.k (.sc (.bool true))), none, false⟩])
 .ret))))))))))))))))))))))))))))))⟩
attribute [simp] i6
set_option maxRecDepth 1000000 in
theorem c6 : cFn Try.prog 6 [[33, 37]] = some i6 := by kernel_rfl
theorem e6 : enterOk Try.prog 6 = true := by kernel_rfl
def i15 : Ev.Fn := ⟨2, 32, [.tmp 4],
 (.seq
 (.reg false [⟨2, .bx (.t 0), none, false⟩,
 ⟨4, .mv (.k (.sc (.int .i64 0))), none, false⟩])
 (.seq
 (.reg false [⟨5, .mv (.t 1), none, false⟩,
 ⟨6, .fa 0 (.t 2), none, false⟩,
 ⟨7, .ld 1 false (.t 6), none, false⟩,
 ⟨8, .ln true (.t 7), none, false⟩,
 ⟨9, .ar .sub false (.t 5) (.t 8), none, false⟩,
 ⟨1, .mv (.t 9), none, false⟩])
 (.seq
 (.seq
 (.reg false [⟨10, .mv (.t 1), none, false⟩,
 ⟨11, .ar .lss false (.t 10) (.k (.sc (.int .i64 0))), none, false⟩])
 (.ite (.t 11)
 (.seq
 (.reg false [⟨4, .mv (.k (.sc (.int .i64 (-1)))), none, false⟩])
 .ret)
 .skip))
 (.seq
 (.reg false [⟨12, .mv (.t 1), none, false⟩,
 ⟨13, .fa 1 (.t 2), none, false⟩,
 ⟨14, .ld 1 false (.t 13), none, false⟩,
 ⟨15, .ln true (.t 14), none, false⟩,
 ⟨16, .ar .sub false (.t 12) (.t 15), none, false⟩,
 ⟨1, .mv (.t 16), none, false⟩])
 (.seq
 (.seq
 (.reg false [⟨17, .mv (.t 1), none, false⟩,
 ⟨18, .ar .lss false (.t 17) (.k (.sc (.int .i64 0))), none, false⟩])
 (.ite (.t 18)
 (.seq
 (.reg false [⟨4, .mv (.k (.sc (.int .i64 (-1)))), none, false⟩])
 .ret)
 .skip))
 (.seq
 (.reg false [⟨19, .fa 3 (.t 2), none, false⟩,
 ⟨20, .ld 3 true (.t 19), none, false⟩,
 ⟨21, .mv (.t 1), none, false⟩,
 ⟨22, .ca (.k (.cl 72 [])) [(.t 20), (.t 21)], none, false⟩,
 ⟨1, .mv (.t 22), none, false⟩])
 (.seq
 (.seq
 (.reg false [⟨23, .mv (.t 1), none, false⟩,
 ⟨24, .ar .lss false (.t 23) (.k (.sc (.int .i64 0))), none, false⟩])
 (.ite (.t 24)
 (.seq
 (.reg false [⟨4, .mv (.k (.sc (.int .i64 (-1)))), none, false⟩])
 .ret)
 .skip))
 (.seq
 (.reg false [⟨25, .fa 8 (.t 2), none, false⟩,
 ⟨26, .ld 1 false (.t 25), none, false⟩,
 ⟨27, .mv (.t 1), none, false⟩,
 ⟨28, .ca (.k (.cl 73 [])) [(.t 26), (.t 27)], none, false⟩,
 ⟨1, .mv (.t 28), none, false⟩])
 (.seq
 (.seq
 (.reg false [⟨29, .mv (.t 1), none, false⟩,
 ⟨30, .ar .lss false (.t 29) (.k (.sc (.int .i64 0))), none, false⟩])
 (.ite (.t 30)
 (.seq
 (.reg false [⟨4, .mv (.k (.sc (.int .i64 (-1)))), none, false⟩])
 .ret)
 .skip))
 (.seq
 (.reg false [⟨31, .mv (.t 1), none, false⟩,
 ⟨4, .mv (.t 31), none, false⟩])
 .ret))))))))))⟩
attribute [simp] i15
set_option maxRecDepth 1000000 in
theorem c15 : cFn Try.prog 15 [[]] = some i15 := by kernel_rfl
theorem e15 : enterOk Try.prog 15 = true := by kernel_rfl
def i17 : Ev.Fn := ⟨1, 28, [.cell 2 9 true],
 (.seq
 (.reg false [⟨1, .bx (.t 0), none, false⟩,
 ⟨2, .al [(.sc (.string ⟨#[]⟩)), (.sc (.string ⟨#[]⟩)), (.sc (.int .i64 0)), (.sc (.string ⟨#[]⟩)), (.sc (.int .i64 0)), (.sc (.int .i64 0)), (.sc (.int .i64 0)), (.sc (.int .i64 0)), .nl], none, false⟩])
 (.seq
 (.reg false [⟨3, .al [(.sc (.string ⟨#[]⟩)), (.sc (.string ⟨#[]⟩)), (.sc (.int .i64 0)), (.sc (.string ⟨#[]⟩)), (.sc (.int .i64 0)), (.sc (.int .i64 0)), (.sc (.int .i64 0)), (.sc (.int .i64 0)), .nl], none, false⟩])
 (.seq
 (.reg false [⟨4, .fa 0 (.t 1), none, false⟩,
 ⟨5, .ld 1 false (.t 4), none, false⟩,
 ⟨6, .fa 0 (.t 3), none, false⟩,
 ⟨1, .so 1 (.t 6) (.t 5), none, true⟩])
 (.seq
 (.reg false [⟨7, .fa 1 (.t 1), none, false⟩,
 ⟨8, .ld 1 false (.t 7), none, false⟩,
 ⟨9, .fa 1 (.t 3), none, false⟩,
 ⟨1, .so 1 (.t 9) (.t 8), none, true⟩])
 (.seq
 (.reg false [⟨10, .fa 2 (.t 1), none, false⟩,
 ⟨11, .ld 1 false (.t 10), none, false⟩,
 ⟨12, .fa 2 (.t 3), none, false⟩,
 ⟨1, .so 1 (.t 12) (.t 11), none, true⟩])
 (.seq
 (.reg false [⟨13, .fa 3 (.t 1), none, false⟩,
 ⟨14, .ld 3 true (.t 13), none, false⟩,
 ⟨15, .ca (.k (.cl 76 [])) [(.t 14)], none, false⟩,
 ⟨16, .fa 3 (.t 3), none, false⟩,
 ⟨1, .so 3 (.t 16) (.t 15), none, true⟩])
 (.seq
 (.reg false [⟨17, .fa 6 (.t 1), none, false⟩,
 ⟨18, .ld 1 false (.t 17), none, false⟩,
 ⟨19, .fa 6 (.t 3), none, false⟩,
 ⟨1, .so 1 (.t 19) (.t 18), none, true⟩])
 (.seq
 (.reg false [⟨20, .fa 7 (.t 1), none, false⟩,
 ⟨21, .ld 1 false (.t 20), none, false⟩,
 ⟨22, .fa 7 (.t 3), none, false⟩,
 ⟨1, .so 1 (.t 22) (.t 21), none, true⟩])
 (.seq
 (.reg false [⟨23, .fa 8 (.t 1), none, false⟩,
 ⟨24, .ld 1 false (.t 23), none, false⟩,
 ⟨25, .ca (.k (.cl 77 [])) [(.t 24)], none, false⟩,
 ⟨26, .fa 8 (.t 3), none, false⟩,
 ⟨1, .so 1 (.t 26) (.t 25), none, true⟩])
 (.seq
 (.reg false [⟨27, .ld 9 true (.t 3), none, false⟩,
 ⟨1, .so 9 (.t 2) (.t 27), none, true⟩])
 .ret))))))))))⟩
attribute [simp] i17
set_option maxRecDepth 1000000 in
theorem c17 : cFn Try.prog 17 [[]] = some i17 := by kernel_rfl
theorem e17 : enterOk Try.prog 17 = true := by kernel_rfl
def i19 : Ev.Fn := ⟨2, 25, [.tmp 4],
 (.seq
 (.reg false [⟨2, .bx (.t 0), none, false⟩,
 ⟨3, .bx (.t 1), none, false⟩,
 ⟨4, .mv (.k (.sc (.bool false))), none, false⟩])
 (.seq
 (.seq
 (.reg false [⟨5, .fa 0 (.t 2), none, false⟩,
 ⟨6, .ld 1 false (.t 5), none, false⟩,
 ⟨7, .fa 0 (.t 3), none, false⟩,
 ⟨8, .ld 1 false (.t 7), none, false⟩,
 ⟨9, .ar .neq false (.t 6) (.t 8), none, false⟩])
 (.ite (.t 9)
 (.seq
 (.reg false [⟨4, .mv (.k (.sc (.bool false))), none, false⟩])
 .ret)
 .skip))
 (.seq
 (.seq
 (.reg false [⟨10, .fa 1 (.t 2), none, false⟩,
 ⟨11, .ld 1 false (.t 10), none, false⟩,
 ⟨12, .fa 1 (.t 3), none, false⟩,
 ⟨13, .ld 1 false (.t 12), none, false⟩,
 ⟨14, .ar .neq false (.t 11) (.t 13), none, false⟩])
 (.ite (.t 14)
 (.seq
 (.reg false [⟨4, .mv (.k (.sc (.bool false))), none, false⟩])
 .ret)
 .skip))
 (.seq
 (.seq
 (.reg false [⟨15, .fa 2 (.t 2), none, false⟩,
 ⟨16, .ld 1 false (.t 15), none, false⟩,
 ⟨17, .fa 2 (.t 3), none, false⟩,
 ⟨18, .ld 1 false (.t 17), none, false⟩,
 ⟨19, .ar .neq false (.t 16) (.t 18), none, false⟩])
 (.ite (.t 19)
 (.seq
 (.reg false [⟨4, .mv (.k (.sc (.bool false))), none, false⟩])
 .ret)
 .skip))
 (.seq
 (.seq
 (.reg false [⟨20, .fa 3 (.t 2), none, false⟩,
 ⟨21, .ld 1 false (.t 20), none, false⟩,
 ⟨22, .fa 3 (.t 3), none, false⟩,
 ⟨23, .ld 1 false (.t 22), none, false⟩,
 ⟨24, .ar .neq false (.t 21) (.t 23), none, false⟩])
 (.ite (.t 24)
 (.seq
 (.reg false [⟨4, .mv (.k (.sc (.bool false))), none, false⟩])
 .ret)
 .skip))
 (.seq
 (.reg false [⟨4, .mv (.k (.sc (.bool true))), none, false⟩])
 .ret))))))⟩
attribute [simp] i19
set_option maxRecDepth 1000000 in
theorem c19 : cFn Try.prog 19 [[]] = some i19 := by kernel_rfl
theorem e19 : enterOk Try.prog 19 = true := by kernel_rfl
def i20 : Ev.Fn := ⟨2, 42, [.tmp 4],
 (.seq
 (.reg false [⟨2, .bx (.t 0), none, false⟩,
 ⟨3, .bx (.t 1), none, false⟩,
 ⟨4, .mv (.k (.sc (.bool false))), none, false⟩])
 (.seq
 (.seq
 (.reg false [⟨5, .fa 0 (.t 2), none, false⟩,
 ⟨6, .ld 1 false (.t 5), none, false⟩,
 ⟨7, .fa 0 (.t 3), none, false⟩,
 ⟨8, .ld 1 false (.t 7), none, false⟩,
 ⟨9, .ar .neq false (.t 6) (.t 8), none, false⟩])
 (.ite (.t 9)
 (.seq
 (.reg false [⟨4, .mv (.k (.sc (.bool false))), none, false⟩])
 .ret)
 .skip))
 (.seq
 (.seq
 (.reg false [⟨10, .fa 1 (.t 2), none, false⟩,
 ⟨11, .ld 1 false (.t 10), none, false⟩,
 ⟨12, .fa 1 (.t 3), none, false⟩,
 ⟨13, .ld 1 false (.t 12), none, false⟩,
 ⟨14, .ar .neq false (.t 11) (.t 13), none, false⟩])
 (.ite (.t 14)
 (.seq
 (.reg false [⟨4, .mv (.k (.sc (.bool false))), none, false⟩])
 .ret)
 .skip))
 (.seq
 (.seq
 (.reg false [⟨15, .fa 2 (.t 2), none, false⟩,
 ⟨16, .ld 1 false (.t 15), none, false⟩,
 ⟨17, .fa 2 (.t 3), none, false⟩,
 ⟨18, .ld 1 false (.t 17), none, false⟩,
 ⟨19, .ar .neq false (.t 16) (.t 18), none, false⟩])
 (.ite (.t 19)
 (.seq
 (.reg false [⟨4, .mv (.k (.sc (.bool false))), none, false⟩])
 .ret)
 .skip))
 (.seq
 (.seq
 (.reg false [⟨20, .fa 3 (.t 2), none, false⟩,
 ⟨21, .ld 3 true (.t 20), none, false⟩,
 ⟨22, .fa 3 (.t 3), none, false⟩,
 ⟨23, .ld 3 true (.t 22), none, false⟩,
 ⟨24, .ca (.k (.cl 83 [])) [(.t 21), (.t 23)], none, false⟩,
 ⟨25, .nt (.t 24), none, false⟩])
 (.ite (.t 25)
 (.seq
 (.reg false [⟨4, .mv (.k (.sc (.bool false))), none, false⟩])
 .ret)
 .skip))
 (.seq
 (.seq
 (.reg false [⟨26, .fa 6 (.t 2), none, false⟩,
 ⟨27, .ld 1 false (.t 26), none, false⟩,
 ⟨28, .fa 6 (.t 3), none, false⟩,
 ⟨29, .ld 1 false (.t 28), none, false⟩,
 ⟨30, .ar .neq false (.t 27) (.t 29), none, false⟩])
 (.ite (.t 30)
 (.seq
 (.reg false [⟨4, .mv (.k (.sc (.bool false))), none, false⟩])
 .ret)
 .skip))
 (.seq
 (.seq
 (.reg false [⟨31, .fa 7 (.t 2), none, false⟩,
 ⟨32, .ld 1 false (.t 31), none, false⟩,
 ⟨33, .fa 7 (.t 3), none, false⟩,
 ⟨34, .ld 1 false (.t 33), none, false⟩,
 ⟨35, .ar .neq false (.t 32) (.t 34), none, false⟩])
 (.ite (.t 35)
 (.seq
 (.reg false [⟨4, .mv (.k (.sc (.bool false))), none, false⟩])
 .ret)
 .skip))
 (.seq
 (.seq
 (.reg false [⟨36, .fa 8 (.t 2), none, false⟩,
 ⟨37, .ld 1 false (.t 36), none, false⟩,
 ⟨38, .fa 8 (.t 3), none, false⟩,
 ⟨39, .ld 1 false (.t 38), none, false⟩,
 ⟨40, .ca (.k (.cl 84 [])) [(.t 37), (.t 39)], none, false⟩,
 ⟨41, .nt (.t 40), none, false⟩])
 (.ite (.t 41)
 (.seq
 (.reg false [⟨4, .mv (.k (.sc (.bool false))), none, false⟩])
 .ret)
 .skip))
 (.seq
 (.reg false [⟨4, .mv (.k (.sc (.bool true))), none, false⟩])
 .ret)))))))))⟩
attribute [simp] i20
set_option maxRecDepth 1000000 in
theorem c20 : cFn Try.prog 20 [[]] = some i20 := by kernel_rfl
theorem e20 : enterOk Try.prog 20 = true := by kernel_rfl
def w28_1 : IC :=
(.seq
 (.seq
 (.reg false [⟨12, .mv (.t 5), none, false⟩,
 ⟨13, .mv (.t 0), none, false⟩,
 ⟨14, .ln false (.t 13), none, false⟩,
 ⟨15, .ar .lss false (.t 12) (.t 14), none, false⟩])
 (.ite (.t 15)
 .skip
 (.exit 0)))
 (.seq
 (.block 1
 (.seq
 (.reg false [⟨18, .mv (.t 0), none, false⟩,
 ⟨19, .mv (.t 5), none, false⟩,
 ⟨20, .ia 9 (.t 18) (.t 19), none, false⟩,
 ⟨21, .ld 9 true (.t 20), none, false⟩,
 ⟨22, .mv (.t 1), none, false⟩,
 ⟨23, .ca (.k (.cl 15 [])) [(.t 21), (.t 22)], none, false⟩,
 ⟨1, .mv (.t 23), none, false⟩])
 (.seq
 (.reg false [⟨24, .mv (.t 1), none, false⟩,
 ⟨25, .ar .lss false (.t 24) (.k (.sc (.int .i64 0))), none, false⟩])
 (.ite (.t 25)
 (.seq
 (.reg false [⟨4, .mv (.k (.sc (.int .i64 (-1)))), none, false⟩])
 .ret)
 .skip))))
 (.reg false [⟨16, .mv (.t 5), none, false⟩,
 ⟨17, .ar .add false (.t 16) (.k (.sc (.int .i64 1))), none, false⟩,
 ⟨5, .mv (.t 17), none, false⟩])))
def b28_1 : IC := w28_1
theorem u28_1 (call : CallF) (st : St) : evC call b28_1 st = evC call w28_1 st := rfl
attribute [simp] u28_1 w28_1
def i28 : Ev.Fn := ⟨2, 27, [.tmp 4],
 (.seq
 (.reg false [⟨4, .mv (.k (.sc (.int .i64 0))), none, false⟩])
 (.seq
 (.reg false [⟨6, .mv (.t 1), none, false⟩,
 ⟨7, .mv (.t 0), none, false⟩,
 ⟨8, .ln false (.t 7), none, false⟩,
 ⟨9, .ar .sub false (.t 6) (.t 8), none, false⟩,
 ⟨1, .mv (.t 9), none, false⟩])
 (.seq
 (.seq
 (.reg false [⟨10, .mv (.t 1), none, false⟩,
 ⟨11, .ar .lss false (.t 10) (.k (.sc (.int .i64 0))), none, false⟩])
 (.ite (.t 11)
 (.seq
 (.reg false [⟨4, .mv (.k (.sc (.int .i64 (-1)))), none, false⟩])
 .ret)
 .skip))
 (.seq
 (.seq
 (.reg false [⟨5, .mv (.k (.sc (.int .i64 0))), none, false⟩])
 (.cln [1] [4]
 (.block 0
 (.loop [0, 1, 5] b28_1))))
 (.seq
 (.reg false [⟨26, .mv (.t 1), none, false⟩,
 ⟨4, .mv (.t 26), none, false⟩])
 .ret)))))⟩
attribute [simp] i28
set_option maxRecDepth 1000000 in
theorem c28 : cFn Try.prog 28 [[], [0, 1, 5], [1], [4]] = some i28 := by kernel_rfl
theorem e28 : enterOk Try.prog 28 = true := by kernel_rfl
def w30_1 : IC :=
(.seq
 (.seq
 (.reg false [⟨8, .mv (.t 4), none, false⟩,
 ⟨9, .mv (.t 0), none, false⟩,
 ⟨10, .ln false (.t 9), none, false⟩,
 ⟨11, .ar .lss false (.t 8) (.t 10), none, false⟩])
 (.ite (.t 11)
 .skip
 (.exit 0)))
 (.seq
 (.block 1
 (.reg false [⟨14, .mv (.t 3), none, false⟩,
 ⟨15, .mv (.t 4), none, false⟩,
 ⟨16, .mv (.t 0), none, false⟩,
 ⟨17, .mv (.t 4), none, false⟩,
 ⟨18, .ia 9 (.t 16) (.t 17), none, false⟩,
 ⟨19, .ld 9 true (.t 18), none, false⟩,
 ⟨20, .ca (.k (.cl 17 [])) [(.t 19)], none, false⟩,
 ⟨21, .ia 9 (.t 14) (.t 15), none, false⟩,
 ⟨1, .so 9 (.t 21) (.t 20), none, true⟩]))
 (.reg false [⟨12, .mv (.t 4), none, false⟩,
 ⟨13, .ar .add false (.t 12) (.k (.sc (.int .i64 1))), none, false⟩,
 ⟨4, .mv (.t 13), none, false⟩])))
def b30_1 : IC := w30_1
theorem u30_1 (call : CallF) (st : St) : evC call b30_1 st = evC call w30_1 st := rfl
attribute [simp] u30_1 w30_1
def i30 : Ev.Fn := ⟨1, 23, [.tmp 2],
 (.seq
 (.reg false [⟨2, .mv (.k .nl), none, false⟩])
 (.seq
 (.reg false [⟨5, .mv (.t 0), none, false⟩,
 ⟨6, .ln false (.t 5), none, false⟩,
 ⟨7, .ms 35 9 [(.sc (.string ⟨#[]⟩)), (.sc (.string ⟨#[]⟩)), (.sc (.int .i64 0)), (.sc (.string ⟨#[]⟩)), (.sc (.int .i64 0)), (.sc (.int .i64 0)), (.sc (.int .i64 0)), (.sc (.int .i64 0)), .nl] (.t 6), none, false⟩,
 ⟨3, .mv (.t 7), none, false⟩])
 (.seq
 (.seq
 (.reg false [⟨4, .mv (.k (.sc (.int .i64 0))), none, false⟩])
 (.cln [3] [2]
 (.block 0
 (.loop [0, 3, 4] b30_1))))
 (.seq
 (.reg false [⟨22, .mv (.t 3), none, false⟩,
 ⟨2, .mv (.t 22), none, false⟩])
 .ret))))⟩
attribute [simp] i30
set_option maxRecDepth 1000000 in
theorem c30 : cFn Try.prog 30 [[], [0, 3, 4], [3], [2]] = some i30 := by kernel_rfl
theorem e30 : enterOk Try.prog 30 = true := by kernel_rfl
def w32_1 : IC :=
(.seq
 (.seq
 (.reg false [⟨11, .mv (.t 5), none, false⟩,
 ⟨12, .mv (.t 0), none, false⟩,
 ⟨13, .ln false (.t 12), none, false⟩,
 ⟨14, .ar .lss false (.t 11) (.t 13), none, false⟩])
 (.ite (.t 14)
 .skip
 (.exit 0)))
 (.seq
 (.block 1
 (.seq
 (.reg true [⟨17, .mv (.t 0), none, false⟩,
 ⟨18, .mv (.t 5), none, false⟩,
 ⟨19, .ia 9 (.t 17) (.t 18), none, false⟩,
 ⟨20, .ld 9 true (.t 19), none, false⟩,
 ⟨21, .mv (.t 1), none, false⟩,
 ⟨22, .mv (.t 5), none, false⟩,
 ⟨23, .ia 9 (.t 21) (.t 22), none, false⟩,
 ⟨24, .ld 9 true (.t 23), none, false⟩,
 ⟨25, .ca (.k (.cl 20 [])) [(.t 20), (.t 24)], none, false⟩,
 ⟨26, .nt (.t 25), none, false⟩])
 (.ite (.t 26)
 (.seq
 (.reg false [⟨4, .mv (.k (.sc (.bool false))), none, false⟩])
 .ret)
 .skip)))
 (.reg false [⟨15, .mv (.t 5), none, false⟩,
 ⟨16, .ar .add false (.t 15) (.k (.sc (.int .i64 1))), none, false⟩,
 ⟨5, .mv (.t 16), none, false⟩])))
def b32_1 : IC := w32_1
theorem u32_1 (call : CallF) (st : St) : evC call b32_1 st = evC call w32_1 st := rfl
attribute [simp] u32_1 w32_1
def i32 : Ev.Fn := ⟨2, 27, [.tmp 4],
 (.seq
 (.reg false [⟨4, .mv (.k (.sc (.bool false))), none, false⟩])
 (.seq
 (.seq
 (.reg false [⟨6, .mv (.t 0), none, false⟩,
 ⟨7, .ln false (.t 6), none, false⟩,
 ⟨8, .mv (.t 1), none, false⟩,
 ⟨9, .ln false (.t 8), none, false⟩,
 ⟨10, .ar .neq false (.t 7) (.t 9), none, false⟩])
 (.ite (.t 10)
 (.seq
 (.reg false [⟨4, .mv (.k (.sc (.bool false))), none, false⟩])
 .ret)
 .skip))
 (.seq
 (.seq
 (.reg false [⟨5, .mv (.k (.sc (.int .i64 0))), none, false⟩])
 (.cln [] [4]
 (.block 0
 (.loop [0, 1, 5] b32_1))))
 (.seq
 (.reg false [⟨4, .mv (.k (.sc (.bool true))), none, false⟩])
 .ret))))⟩
attribute [simp] i32
set_option maxRecDepth 1000000 in
theorem c32 : cFn Try.prog 32 [[], [0, 1, 5], [], [4]] = some i32 := by kernel_rfl
theorem e32 : enterOk Try.prog 32 = true := by kernel_rfl
def w33_1 : IC :=
(.seq
 (.seq
 (.reg false [⟨6, .mv (.t 5), none, false⟩,
 ⟨7, .mv (.t 0), none, false⟩,
 ⟨8, .ln false (.t 7), none, false⟩,
 ⟨9, .ar .lss false (.t 6) (.t 8), none, false⟩])
 (.ite (.t 9)
 .skip
 (.exit 0)))
 (.seq
 (.block 1
 (.seq
 (.reg false [⟨12, .mv (.t 0), none, false⟩,
 ⟨13, .mv (.t 5), none, false⟩,
 ⟨14, .mv (.t 1), none, false⟩,
 ⟨15, .ca (.k (.cl 108 [])) [(.t 14)], none, false⟩,
 ⟨16, .ia 9 (.t 12) (.t 13), none, false⟩,
 ⟨17, .fa 0 (.t 16), none, false⟩,
 ⟨1, .so 1 (.t 17) (.t 15), none, true⟩])
 (.seq
 (.reg false [⟨18, .mv (.t 1), none, false⟩,
 ⟨19, .ar .add false (.t 18) (.k (.sc (.int .i64 1))), none, false⟩,
 ⟨1, .mv (.t 19), none, false⟩])
 (.seq
 (.reg false [⟨20, .mv (.t 0), none, false⟩,
 ⟨21, .mv (.t 5), none, false⟩,
 ⟨22, .mv (.t 1), none, false⟩,
 ⟨23, .ca (.k (.cl 108 [])) [(.t 22)], none, false⟩,
 ⟨24, .ia 9 (.t 20) (.t 21), none, false⟩,
 ⟨25, .fa 1 (.t 24), none, false⟩,
 ⟨1, .so 1 (.t 25) (.t 23), none, true⟩])
 (.seq
 (.reg false [⟨26, .mv (.t 1), none, false⟩,
 ⟨27, .ar .add false (.t 26) (.k (.sc (.int .i64 1))), none, false⟩,
 ⟨1, .mv (.t 27), none, false⟩])
 (.seq
 (.reg false [⟨28, .mv (.t 0), none, false⟩,
 ⟨29, .mv (.t 5), none, false⟩,
 ⟨30, .mv (.t 1), none, false⟩,
 ⟨31, .ia 9 (.t 28) (.t 29), none, false⟩,
 ⟨32, .fa 2 (.t 31), none, false⟩,
 ⟨1, .so 1 (.t 32) (.t 30), none, true⟩])
 (.seq
 (.reg false [⟨33, .mv (.t 1), none, false⟩,
 ⟨34, .ar .add false (.t 33) (.k (.sc (.int .i64 1))), none, false⟩,
 ⟨1, .mv (.t 34), none, false⟩])
 (.seq
 (.reg false [⟨35, .mv (.t 0), none, false⟩,
 ⟨36, .mv (.t 5), none, false⟩,
 ⟨37, .mv (.t 1), none, false⟩,
 ⟨38, .ca (.k (.cl 108 [])) [(.t 37)], none, false⟩,
 ⟨39, .ia 9 (.t 35) (.t 36), none, false⟩,
 ⟨40, .fa 3 (.t 39), none, false⟩,
 ⟨41, .fa 0 (.t 40), none, false⟩,
 ⟨1, .so 1 (.t 41) (.t 38), none, true⟩])
 (.seq
 (.reg false [⟨42, .mv (.t 1), none, false⟩,
 ⟨43, .ar .add false (.t 42) (.k (.sc (.int .i64 1))), none, false⟩,
 ⟨1, .mv (.t 43), none, false⟩])
 (.seq
 (.reg false [⟨44, .mv (.t 0), none, false⟩,
 ⟨45, .mv (.t 5), none, false⟩,
 ⟨46, .mv (.t 1), none, false⟩,
 ⟨47, .ia 9 (.t 44) (.t 45), none, false⟩,
 ⟨48, .fa 3 (.t 47), none, false⟩,
 ⟨49, .fa 1 (.t 48), none, false⟩,
 ⟨1, .so 1 (.t 49) (.t 46), none, true⟩])
 (.seq
 (.reg false [⟨50, .mv (.t 1), none, false⟩,
 ⟨51, .ar .add false (.t 50) (.k (.sc (.int .i64 1))), none, false⟩,
 ⟨1, .mv (.t 51), none, false⟩])
 (.seq
 (.reg false [⟨52, .mv (.t 0), none, false⟩,
 ⟨53, .mv (.t 5), none, false⟩,
 ⟨54, .mv (.t 1), none, false⟩,
 ⟨55, .ia 9 (.t 52) (.t 53), none, false⟩,
 ⟨56, .fa 3 (.t 55), none, false⟩,
 ⟨57, .fa 2 (.t 56), none, false⟩,
 ⟨1, .so 1 (.t 57) (.t 54), none, true⟩])
 (.seq
 (.reg false [⟨58, .mv (.t 1), none, false⟩,
 ⟨59, .ar .add false (.t 58) (.k (.sc (.int .i64 1))), none, false⟩,
 ⟨1, .mv (.t 59), none, false⟩])
 (.seq
 (.reg false [⟨60, .mv (.t 0), none, false⟩,
 ⟨61, .mv (.t 5), none, false⟩,
 ⟨62, .mv (.t 1), none, false⟩,
 ⟨63, .ia 9 (.t 60) (.t 61), none, false⟩,
 ⟨64, .fa 6 (.t 63), none, false⟩,
 ⟨1, .so 1 (.t 64) (.t 62), none, true⟩])
 (.seq
 (.reg false [⟨65, .mv (.t 1), none, false⟩,
 ⟨66, .ar .add false (.t 65) (.k (.sc (.int .i64 1))), none, false⟩,
 ⟨1, .mv (.t 66), none, false⟩])
 (.seq
 (.reg false [⟨67, .mv (.t 0), none, false⟩,
 ⟨68, .mv (.t 5), none, false⟩,
 ⟨69, .mv (.t 1), none, false⟩,
 ⟨70, .ia 9 (.t 67) (.t 68), none, false⟩,
 ⟨71, .fa 7 (.t 70), none, false⟩,
 ⟨1, .so 1 (.t 71) (.t 69), none, true⟩])
 (.seq
 (.reg false [⟨72, .mv (.t 1), none, false⟩,
 ⟨73, .ar .add false (.t 72) (.k (.sc (.int .i64 1))), none, false⟩,
 ⟨1, .mv (.t 73), none, false⟩])
 (.rgw [⟨74, .mv (.t 0), none, false⟩,
 ⟨75, .mv (.t 5), none, false⟩,
 ⟨76, .ia 9 (.t 74) (.t 75), none, false⟩,
 ⟨77, .fa 8 (.t 76), none, false⟩,
 ⟨78, .ld 1 false (.t 77), none, false⟩,
 ⟨79, .mv (.t 1), none, false⟩,
 ⟨80, .cw 109 [] [(.t 78), (.t 79)], none, false⟩,
 ⟨1, .mv (.t 80), none, false⟩]))))))))))))))))))
 (.reg false [⟨10, .mv (.t 5), none, false⟩,
 ⟨11, .ar .add false (.t 10) (.k (.sc (.int .i64 1))), none, false⟩,
 ⟨5, .mv (.t 11), none, false⟩])))
def b33_1 : IC := w33_1
theorem u33_1 (call : CallF) (st : St) : evC call b33_1 st = evC call w33_1 st := rfl
attribute [simp] u33_1 w33_1
def i33 : Ev.Fn := ⟨2, 82, [.tmp 4],
 (.seq
 (.reg false [⟨4, .mv (.k (.sc (.int .i64 0))), none, false⟩])
 (.seq
 (.seq
 (.reg false [⟨5, .mv (.k (.sc (.int .i64 0))), none, false⟩])
 (.cln [1, 100000] [4, 100000]
 (.block 0
 (.loop [0, 1, 5, 100000] b33_1))))
 (.seq
 (.reg false [⟨81, .mv (.t 1), none, false⟩,
 ⟨4, .mv (.t 81), none, false⟩])
 .ret)))⟩
attribute [simp] i33
set_option maxRecDepth 1000000 in
theorem c33 : cFn Try.prog 33 [[109], [0, 1, 5, 100000], [1, 100000], [4, 100000]] = some i33 := by kernel_rfl
theorem e33 : enterOk Try.prog 33 = true := by kernel_rfl
def w34_1 : IC :=
(.seq
 (.seq
 (.reg false [⟨6, .mv (.t 5), none, false⟩,
 ⟨7, .mv (.t 0), none, false⟩,
 ⟨8, .ln false (.t 7), none, false⟩,
 ⟨9, .ar .lss false (.t 6) (.t 8), none, false⟩])
 (.ite (.t 9)
 .skip
 (.exit 0)))
 (.seq
 (.block 1
 (.seq
 (.seq
 (.reg true [⟨12, .mv (.t 0), none, false⟩,
 ⟨13, .mv (.t 5), none, false⟩,
 ⟨14, .ia 9 (.t 12) (.t 13), none, false⟩,
 ⟨15, .fa 0 (.t 14), none, false⟩,
 ⟨16, .ld 1 false (.t 15), none, false⟩,
 ⟨17, .mv (.t 1), none, false⟩,
 ⟨18, .ca (.k (.cl 108 [])) [(.t 17)], none, false⟩,
 ⟨19, .ar .neq false (.t 16) (.t 18), none, false⟩])
 (.ite (.t 19)
 (.seq
 (.reg false [⟨4, .mv (.k (.sc (.int .i64 (-1)))), none, false⟩])
 .ret)
 .skip))
 (.seq
 (.reg false [⟨20, .mv (.t 1), none, false⟩,
 ⟨21, .ar .add false (.t 20) (.k (.sc (.int .i64 1))), none, false⟩,
 ⟨1, .mv (.t 21), none, false⟩])
 (.seq
 (.seq
 (.reg true [⟨22, .mv (.t 0), none, false⟩,
 ⟨23, .mv (.t 5), none, false⟩,
 ⟨24, .ia 9 (.t 22) (.t 23), none, false⟩,
 ⟨25, .fa 1 (.t 24), none, false⟩,
 ⟨26, .ld 1 false (.t 25), none, false⟩,
 ⟨27, .mv (.t 1), none, false⟩,
 ⟨28, .ca (.k (.cl 108 [])) [(.t 27)], none, false⟩,
 ⟨29, .ar .neq false (.t 26) (.t 28), none, false⟩])
 (.ite (.t 29)
 (.seq
 (.reg false [⟨4, .mv (.k (.sc (.int .i64 (-1)))), none, false⟩])
 .ret)
 .skip))
 (.seq
 (.reg false [⟨30, .mv (.t 1), none, false⟩,
 ⟨31, .ar .add false (.t 30) (.k (.sc (.int .i64 1))), none, false⟩,
 ⟨1, .mv (.t 31), none, false⟩])
 (.seq
 (.seq
 (.reg false [⟨32, .mv (.t 0), none, false⟩,
 ⟨33, .mv (.t 5), none, false⟩,
 ⟨34, .ia 9 (.t 32) (.t 33), none, false⟩,
 ⟨35, .fa 2 (.t 34), none, false⟩,
 ⟨36, .ld 1 false (.t 35), none, false⟩,
 ⟨37, .mv (.t 1), none, false⟩,
 ⟨38, .ar .neq false (.t 36) (.t 37), none, false⟩])
 (.ite (.t 38)
 (.seq
 (.reg false [⟨4, .mv (.k (.sc (.int .i64 (-1)))), none, false⟩])
 .ret)
 .skip))
 (.seq
 (.reg false [⟨39, .mv (.t 1), none, false⟩,
 ⟨40, .ar .add false (.t 39) (.k (.sc (.int .i64 1))), none, false⟩,
 ⟨1, .mv (.t 40), none, false⟩])
 (.seq
 (.seq
 (.reg true [⟨41, .mv (.t 0), none, false⟩,
 ⟨42, .mv (.t 5), none, false⟩,
 ⟨43, .ia 9 (.t 41) (.t 42), none, false⟩,
 ⟨44, .fa 3 (.t 43), none, false⟩,
 ⟨45, .fa 0 (.t 44), none, false⟩,
 ⟨46, .ld 1 false (.t 45), none, false⟩,
 ⟨47, .mv (.t 1), none, false⟩,
 ⟨48, .ca (.k (.cl 108 [])) [(.t 47)], none, false⟩,
 ⟨49, .ar .neq false (.t 46) (.t 48), none, false⟩])
 (.ite (.t 49)
 (.seq
 (.reg false [⟨4, .mv (.k (.sc (.int .i64 (-1)))), none, false⟩])
 .ret)
 .skip))
 (.seq
 (.reg false [⟨50, .mv (.t 1), none, false⟩,
 ⟨51, .ar .add false (.t 50) (.k (.sc (.int .i64 1))), none, false⟩,
 ⟨1, .mv (.t 51), none, false⟩])
 (.seq
 (.seq
 (.reg false [⟨52, .mv (.t 0), none, false⟩,
 ⟨53, .mv (.t 5), none, false⟩,
 ⟨54, .ia 9 (.t 52) (.t 53), none, false⟩,
 ⟨55, .fa 3 (.t 54), none, false⟩,
 ⟨56, .fa 1 (.t 55), none, false⟩,
 ⟨57, .ld 1 false (.t 56), none, false⟩,
 ⟨58, .mv (.t 1), none, false⟩,
 ⟨59, .ar .neq false (.t 57) (.t 58), none, false⟩])
 (.ite (.t 59)
 (.seq
 (.reg false [⟨4, .mv (.k (.sc (.int .i64 (-1)))), none, false⟩])
 .ret)
 .skip))
 (.seq
 (.reg false [⟨60, .mv (.t 1), none, false⟩,
 ⟨61, .ar .add false (.t 60) (.k (.sc (.int .i64 1))), none, false⟩,
 ⟨1, .mv (.t 61), none, false⟩])
 (.seq
 (.seq
 (.reg false [⟨62, .mv (.t 0), none, false⟩,
 ⟨63, .mv (.t 5), none, false⟩,
 ⟨64, .ia 9 (.t 62) (.t 63), none, false⟩,
 ⟨65, .fa 3 (.t 64), none, false⟩,
 ⟨66, .fa 2 (.t 65), none, false⟩,
 ⟨67, .ld 1 false (.t 66), none, false⟩,
 ⟨68, .mv (.t 1), none, false⟩,
 ⟨69, .ar .neq false (.t 67) (.t 68), none, false⟩])
 (.ite (.t 69)
 (.seq
 (.reg false [⟨4, .mv (.k (.sc (.int .i64 (-1)))), none, false⟩])
 .ret)
 .skip))
 (.seq
 (.reg false [⟨70, .mv (.t 1), none, false⟩,
 ⟨71, .ar .add false (.t 70) (.k (.sc (.int .i64 1))), none, false⟩,
 ⟨1, .mv (.t 71), none, false⟩])
 (.seq
 (.seq
 (.reg false [⟨72, .mv (.t 0), none, false⟩,
 ⟨73, .mv (.t 5), none, false⟩,
 ⟨74, .ia 9 (.t 72) (.t 73), none, false⟩,
 ⟨75, .fa 6 (.t 74), none, false⟩,
 ⟨76, .ld 1 false (.t 75), none, false⟩,
 ⟨77, .mv (.t 1), none, false⟩,
 ⟨78, .ar .neq false (.t 76) (.t 77), none, false⟩])
 (.ite (.t 78)
 (.seq
 (.reg false [⟨4, .mv (.k (.sc (.int .i64 (-1)))), none, false⟩])
 .ret)
 .skip))
 (.seq
 (.reg false [⟨79, .mv (.t 1), none, false⟩,
 ⟨80, .ar .add false (.t 79) (.k (.sc (.int .i64 1))), none, false⟩,
 ⟨1, .mv (.t 80), none, false⟩])
 (.seq
 (.seq
 (.reg false [⟨81, .mv (.t 0), none, false⟩,
 ⟨82, .mv (.t 5), none, false⟩,
 ⟨83, .ia 9 (.t 81) (.t 82), none, false⟩,
 ⟨84, .fa 7 (.t 83), none, false⟩,
 ⟨85, .ld 1 false (.t 84), none, false⟩,
 ⟨86, .mv (.t 1), none, false⟩,
 ⟨87, .ar .neq false (.t 85) (.t 86), none, false⟩])
 (.ite (.t 87)
 (.seq
 (.reg false [⟨4, .mv (.k (.sc (.int .i64 (-1)))), none, false⟩])
 .ret)
 .skip))
 (.seq
 (.reg false [⟨88, .mv (.t 1), none, false⟩,
 ⟨89, .ar .add false (.t 88) (.k (.sc (.int .i64 1))), none, false⟩,
 ⟨1, .mv (.t 89), none, false⟩])
 (.seq
 (.reg false [⟨90, .mv (.t 0), none, false⟩,
 ⟨91, .mv (.t 5), none, false⟩,
 ⟨92, .ia 9 (.t 90) (.t 91), none, false⟩,
 ⟨93, .fa 8 (.t 92), none, false⟩,
 ⟨94, .ld 1 false (.t 93), none, false⟩,
 ⟨95, .mv (.t 1), none, false⟩,
 ⟨96, .ca (.k (.cl 110 [])) [(.t 94), (.t 95)], none, false⟩,
 ⟨1, .mv (.t 96), none, false⟩])
 (.seq
 (.reg false [⟨97, .mv (.t 1), none, false⟩,
 ⟨98, .ar .lss false (.t 97) (.k (.sc (.int .i64 0))), none, false⟩])
 (.ite (.t 98)
 (.seq
 (.reg false [⟨4, .mv (.k (.sc (.int .i64 (-1)))), none, false⟩])
 .ret)
 .skip))))))))))))))))))))
 (.reg false [⟨10, .mv (.t 5), none, false⟩,
 ⟨11, .ar .add false (.t 10) (.k (.sc (.int .i64 1))), none, false⟩,
 ⟨5, .mv (.t 11), none, false⟩])))
def b34_1 : IC := w34_1
theorem u34_1 (call : CallF) (st : St) : evC call b34_1 st = evC call w34_1 st := rfl
attribute [simp] u34_1 w34_1
def i34 : Ev.Fn := ⟨2, 100, [.tmp 4],
 (.seq
 (.reg false [⟨4, .mv (.k (.sc (.int .i64 0))), none, false⟩])
 (.seq
 (.seq
 (.reg false [⟨5, .mv (.k (.sc (.int .i64 0))), none, false⟩])
 (.cln [1] [4]
 (.block 0
 (.loop [0, 1, 5] b34_1))))
 (.seq
 (.reg false [⟨99, .mv (.t 1), none, false⟩,
 ⟨4, .mv (.t 99), none, false⟩])
 .ret)))⟩
attribute [simp] i34
set_option maxRecDepth 1000000 in
theorem c34 : cFn Try.prog 34 [[], [0, 1, 5], [1], [4]] = some i34 := by kernel_rfl
theorem e34 : enterOk Try.prog 34 = true := by kernel_rfl
def w35_1 : IC :=
(.seq
 (.seq
 (.reg true [⟨28, .mv (.t 7), none, false⟩,
 ⟨29, .ar .gtr false (.t 28) (.k (.sc (.int .i64 0))), none, false⟩,
 ⟨30, .mv (.t 29), none, false⟩,
 ⟨31, .mv (.t 6), (some (30, true)), false⟩,
 ⟨32, .mv (.t 7), (some (30, true)), false⟩,
 ⟨33, .ar .sub false (.t 32) (.k (.sc (.int .i64 1))), (some (30, true)), false⟩,
 ⟨34, .ia 9 (.t 31) (.t 33), (some (30, true)), false⟩,
 ⟨35, .fa 0 (.t 34), (some (30, true)), false⟩,
 ⟨36, .ld 1 false (.t 35), (some (30, true)), false⟩,
 ⟨37, .fa 0 (.t 3), (some (30, true)), false⟩,
 ⟨38, .ld 1 false (.t 37), (some (30, true)), false⟩,
 ⟨39, .ar .gtr false (.t 36) (.t 38), (some (30, true)), false⟩,
 ⟨40, .pk (.t 30) (.t 39) (.k (.sc (.bool false))), none, false⟩])
 (.ite (.t 40)
 .skip
 (.exit 0)))
 (.block 1
 (.reg false [⟨41, .mv (.t 7), none, false⟩,
 ⟨42, .ar .sub false (.t 41) (.k (.sc (.int .i64 1))), none, false⟩,
 ⟨7, .mv (.t 42), none, false⟩])))
def b35_1 : IC := w35_1
theorem u35_1 (call : CallF) (st : St) : evC call b35_1 st = evC call w35_1 st := rfl
attribute [simp] u35_1 w35_1
def i35 : Ev.Fn := ⟨2, 57, [.tmp 4, .tmp 5],
 (.seq
 (.reg false [⟨3, .bx (.t 1), none, false⟩,
 ⟨4, .mv (.k .nl), none, false⟩,
 ⟨5, .mv (.k (.sc (.int .i64 0))), none, false⟩])
 (.seq
 (.seq
 (.reg false [⟨9, .mv (.t 0), none, false⟩,
 ⟨10, .ca (.k (.cl 101 [])) [(.t 9)], none, false⟩,
 ⟨11, .nt (.t 10), none, false⟩,
 ⟨12, .mv (.t 11), none, false⟩,
 ⟨13, .ca (.k (.cl 74 [])) [(.t 3)], (some (12, false)), false⟩,
 ⟨14, .nt (.t 13), (some (12, false)), false⟩,
 ⟨15, .pk (.t 12) (.k (.sc (.bool true))) (.t 14), none, false⟩])
 (.ite (.t 15)
 (.seq
 (.reg false [⟨4, .mv (.k .nl), none, false⟩,
 ⟨5, .mv (.k (.sc (.int .i64 1))), none, false⟩])
 .ret)
 .skip))
 (.seq
 (.seq
 (.reg false [⟨16, .mv (.t 0), none, false⟩,
 ⟨17, .fa 0 (.t 3), none, false⟩,
 ⟨18, .ld 1 false (.t 17), none, false⟩,
 ⟨19, .ca (.k (.cl 102 [])) [(.t 16), (.t 18)], none, false⟩,
 ⟨20, .ar .geq false (.t 19) (.k (.sc (.int .i64 0))), none, false⟩])
 (.ite (.t 20)
 (.seq
 (.reg false [⟨4, .mv (.k .nl), none, false⟩,
 ⟨5, .mv (.k (.sc (.int .i64 4))), none, false⟩])
 .ret)
 .skip))
 (.seq
 (.seq
 (.reg false [⟨21, .mv (.t 0), none, false⟩,
 ⟨22, .ln false (.t 21), none, false⟩,
 ⟨23, .ar .eql false (.t 22) (.k (.sc (.int .i64 16))), none, false⟩])
 (.ite (.t 23)
 (.seq
 (.reg false [⟨4, .mv (.k .nl), none, false⟩,
 ⟨5, .mv (.k (.sc (.int .i64 5))), none, false⟩])
 .ret)
 .skip))
 (.seq
 (.reg false [⟨24, .mv (.t 0), none, false⟩,
 ⟨25, .ca (.k (.cl 103 [])) [(.t 24)], none, false⟩,
 ⟨6, .mv (.t 25), none, false⟩])
 (.seq
 (.reg false [⟨26, .mv (.t 6), none, false⟩,
 ⟨27, .ln false (.t 26), none, false⟩,
 ⟨7, .mv (.t 27), none, false⟩])
 (.seq
 (.cln [3, 6, 7] [4, 5]
 (.block 0
 (.loop [3, 6, 7] b35_1)))
 (.seq
 (.reg false [⟨43, .bw 35 9 [(.sc (.string ⟨#[]⟩)), (.sc (.string ⟨#[]⟩)), (.sc (.int .i64 0)), (.sc (.string ⟨#[]⟩)), (.sc (.int .i64 0)), (.sc (.int .i64 0)), (.sc (.int .i64 0)), (.sc (.int .i64 0)), .nl] 0 [], none, false⟩,
 ⟨44, .mv (.t 6), none, false⟩,
 ⟨45, .mv (.t 7), none, false⟩,
 ⟨46, .sl 9 (.t 44) none (some (.t 45)), none, false⟩,
 ⟨47, .ap 35 9 false (.t 43) (.t 46), none, false⟩,
 ⟨8, .mv (.t 47), none, false⟩])
 (.seq
 (.reg false [⟨48, .mv (.t 8), none, false⟩,
 ⟨49, .ca (.k (.cl 111 [])) [(.t 3)], none, false⟩,
 ⟨50, .bw 35 9 [(.sc (.string ⟨#[]⟩)), (.sc (.string ⟨#[]⟩)), (.sc (.int .i64 0)), (.sc (.string ⟨#[]⟩)), (.sc (.int .i64 0)), (.sc (.int .i64 0)), (.sc (.int .i64 0)), (.sc (.int .i64 0)), .nl] 1 [(0, (.t 49))], none, false⟩,
 ⟨51, .ap 35 9 false (.t 48) (.t 50), none, false⟩,
 ⟨8, .mv (.t 51), none, false⟩])
 (.seq
 (.reg false [⟨52, .mv (.t 8), none, false⟩,
 ⟨53, .mv (.t 6), none, false⟩,
 ⟨54, .mv (.t 7), none, false⟩,
 ⟨55, .sl 9 (.t 53) (some (.t 54)) none, none, false⟩,
 ⟨56, .ap 35 9 false (.t 52) (.t 55), none, false⟩,
 ⟨4, .mv (.t 56), none, false⟩,
 ⟨5, .mv (.k (.sc (.int .i64 0))), none, false⟩])
 .ret))))))))))⟩
attribute [simp] i35
set_option maxRecDepth 1000000 in
theorem c35 : cFn Try.prog 35 [[], [3, 6, 7], [3, 6, 7], [4, 5]] = some i35 := by kernel_rfl
theorem e35 : enterOk Try.prog 35 = true := by kernel_rfl
def i36 : Ev.Fn := ⟨2, 36, [.tmp 4, .tmp 5],
 (.seq
 (.reg false [⟨3, .bx (.t 1), none, false⟩,
 ⟨4, .mv (.k .nl), none, false⟩,
 ⟨5, .mv (.k (.sc (.int .i64 0))), none, false⟩])
 (.seq
 (.seq
 (.reg false [⟨8, .mv (.t 0), none, false⟩,
 ⟨9, .ca (.k (.cl 104 [])) [(.t 8)], none, false⟩,
 ⟨10, .nt (.t 9), none, false⟩,
 ⟨11, .mv (.t 10), none, false⟩,
 ⟨12, .ld 9 true (.t 3), (some (11, false)), false⟩,
 ⟨13, .ca (.k (.cl 78 [])) [(.t 12)], (some (11, false)), false⟩,
 ⟨14, .nt (.t 13), (some (11, false)), false⟩,
 ⟨15, .pk (.t 11) (.k (.sc (.bool true))) (.t 14), none, false⟩])
 (.ite (.t 15)
 (.seq
 (.reg false [⟨4, .mv (.k .nl), none, false⟩,
 ⟨5, .mv (.k (.sc (.int .i64 1))), none, false⟩])
 .ret)
 .skip))
 (.seq
 (.reg false [⟨17, .mv (.t 0), none, false⟩,
 ⟨18, .fa 0 (.t 3), none, false⟩,
 ⟨19, .ld 1 false (.t 18), none, false⟩,
 ⟨20, .ca (.k (.cl 105 [])) [(.t 17), (.t 19)], none, false⟩,
 ⟨16, .mv (.t 20), none, false⟩,
 ⟨21, .xt (.t 16) 0, none, false⟩,
 ⟨22, .xt (.t 16) 1, none, false⟩,
 ⟨6, .mv (.t 21), none, false⟩,
 ⟨7, .mv (.t 22), none, false⟩])
 (.seq
 (.block 0
 (.seq
 (.reg false [⟨24, .mv (.t 7), none, false⟩,
 ⟨23, .mv (.t 24), none, false⟩])
 (.ite (.t 23)
 (.seq
 (.reg false [⟨4, .mv (.k .nl), none, false⟩,
 ⟨5, .mv (.k (.sc (.int .i64 4))), none, false⟩])
 .ret)
 (.seq
 (.reg false [⟨26, .mv (.t 0), none, false⟩,
 ⟨27, .ln false (.t 26), none, false⟩,
 ⟨28, .ar .eql false (.t 27) (.k (.sc (.int .i64 16))), none, false⟩,
 ⟨25, .mv (.t 28), none, false⟩])
 (.ite (.t 25)
 (.seq
 (.reg false [⟨4, .mv (.k .nl), none, false⟩,
 ⟨5, .mv (.k (.sc (.int .i64 5))), none, false⟩])
 .ret)
 .skip)))))
 (.seq
 (.rgw [⟨29, .mv (.t 0), none, false⟩,
 ⟨30, .ca (.k (.cl 107 [])) [(.t 29)], none, false⟩,
 ⟨31, .mv (.t 6), none, false⟩,
 ⟨32, .ld 9 true (.t 3), none, false⟩,
 ⟨33, .ca (.k (.cl 113 [])) [(.t 32)], none, false⟩,
 ⟨34, .bw 35 9 [(.sc (.string ⟨#[]⟩)), (.sc (.string ⟨#[]⟩)), (.sc (.int .i64 0)), (.sc (.string ⟨#[]⟩)), (.sc (.int .i64 0)), (.sc (.int .i64 0)), (.sc (.int .i64 0)), (.sc (.int .i64 0)), .nl] 1 [(0, (.t 33))], none, false⟩,
 ⟨35, .cw 112 [true] [(.t 30), (.t 31), (.t 34)], none, false⟩,
 ⟨4, .mv (.t 35), none, false⟩,
 ⟨5, .mv (.k (.sc (.int .i64 0))), none, false⟩])
 .ret)))))⟩
attribute [simp] i36
set_option maxRecDepth 1000000 in
theorem c36 : cFn Try.prog 36 [[2000112]] = some i36 := by kernel_rfl
theorem e36 : enterOk Try.prog 36 = true := by kernel_rfl
def i37 : Ev.Fn := ⟨2, 10, [.tmp 4],
 (.seq
 (.reg false [⟨2, .bx (.t 0), none, false⟩,
 ⟨4, .mv (.k (.sc (.int .i64 0))), none, false⟩])
 (.seq
 (.rgw [⟨5, .fa 8 (.t 2), none, false⟩,
 ⟨6, .ld 1 false (.t 5), none, false⟩,
 ⟨7, .mv (.t 1), none, false⟩,
 ⟨8, .cw 109 [] [(.t 6), (.t 7)], none, false⟩,
 ⟨1, .mv (.t 8), none, false⟩])
 (.seq
 (.reg false [⟨9, .mv (.t 1), none, false⟩,
 ⟨4, .mv (.t 9), none, false⟩])
 .ret)))⟩
attribute [simp] i37
set_option maxRecDepth 1000000 in
theorem c37 : cFn Try.prog 37 [[109]] = some i37 := by kernel_rfl
theorem e37 : enterOk Try.prog 37 = true := by kernel_rfl
def i72 : Ev.Fn := ⟨2, 13, [.tmp 4],
 (.seq
 (.reg false [⟨2, .bx (.t 0), none, false⟩,
 ⟨4, .mv (.k (.sc (.int .i64 0))), none, false⟩])
 (.seq
 (.reg false [⟨5, .mv (.t 1), none, false⟩,
 ⟨6, .fa 0 (.t 2), none, false⟩,
 ⟨7, .ld 1 false (.t 6), none, false⟩,
 ⟨8, .ln true (.t 7), none, false⟩,
 ⟨9, .ar .sub false (.t 5) (.t 8), none, false⟩,
 ⟨1, .mv (.t 9), none, false⟩])
 (.seq
 (.seq
 (.reg false [⟨10, .mv (.t 1), none, false⟩,
 ⟨11, .ar .lss false (.t 10) (.k (.sc (.int .i64 0))), none, false⟩])
 (.ite (.t 11)
 (.seq
 (.reg false [⟨4, .mv (.k (.sc (.int .i64 (-1)))), none, false⟩])
 .ret)
 .skip))
 (.seq
 (.reg false [⟨12, .mv (.t 1), none, false⟩,
 ⟨4, .mv (.t 12), none, false⟩])
 .ret))))⟩
attribute [simp] i72
set_option maxRecDepth 1000000 in
theorem c72 : cFn Try.prog 72 [[]] = some i72 := by kernel_rfl
theorem e72 : enterOk Try.prog 72 = true := by kernel_rfl
def i73 : Ev.Fn := ⟨2, 12, [.tmp 4],
 (.seq
 (.reg false [⟨4, .mv (.k (.sc (.int .i64 0))), none, false⟩])
 (.seq
 (.reg false [⟨5, .mv (.t 1), none, false⟩,
 ⟨6, .mv (.t 0), none, false⟩,
 ⟨7, .ln false (.t 6), none, false⟩,
 ⟨8, .ar .sub false (.t 5) (.t 7), none, false⟩,
 ⟨1, .mv (.t 8), none, false⟩])
 (.seq
 (.seq
 (.reg false [⟨9, .mv (.t 1), none, false⟩,
 ⟨10, .ar .lss false (.t 9) (.k (.sc (.int .i64 0))), none, false⟩])
 (.ite (.t 10)
 (.seq
 (.reg false [⟨4, .mv (.k (.sc (.int .i64 (-1)))), none, false⟩])
 .ret)
 .skip))
 (.seq
 (.reg false [⟨11, .mv (.t 1), none, false⟩,
 ⟨4, .mv (.t 11), none, false⟩])
 .ret))))⟩
attribute [simp] i73
set_option maxRecDepth 1000000 in
theorem c73 : cFn Try.prog 73 [[]] = some i73 := by kernel_rfl
theorem e73 : enterOk Try.prog 73 = true := by kernel_rfl
def w74_1 : IC :=
(.seq
 (.seq
 (.reg false [⟨55, .mv (.t 3), none, false⟩,
 ⟨56, .mv (.t 0), none, false⟩,
 ⟨57, .nc (.t 56), none, false⟩,
 ⟨58, .fa 8 (.t 57), none, false⟩,
 ⟨59, .ld 1 false (.t 58), none, false⟩,
 ⟨60, .ln false (.t 59), none, false⟩,
 ⟨61, .ar .lss false (.t 55) (.t 60), none, false⟩])
 (.ite (.t 61)
 .skip
 (.exit 0)))
 (.seq
 (.block 1
 (.seq
 (.reg true [⟨64, .mv (.t 0), none, false⟩,
 ⟨65, .nc (.t 64), none, false⟩,
 ⟨66, .fa 8 (.t 65), none, false⟩,
 ⟨67, .ld 1 false (.t 66), none, false⟩,
 ⟨68, .mv (.t 3), none, false⟩,
 ⟨69, .ia 4 (.t 67) (.t 68), none, false⟩,
 ⟨70, .mv (.t 0), none, false⟩,
 ⟨71, .nc (.t 70), none, false⟩,
 ⟨72, .fa 6 (.t 71), none, false⟩,
 ⟨73, .ld 1 false (.t 72), none, false⟩,
 ⟨74, .mv (.t 0), none, false⟩,
 ⟨75, .nc (.t 74), none, false⟩,
 ⟨76, .fa 7 (.t 75), none, false⟩,
 ⟨77, .ld 1 false (.t 76), none, false⟩,
 ⟨78, .ca (.k (.cl 170 [])) [(.t 69), (.t 73), (.t 77)], none, false⟩,
 ⟨79, .nt (.t 78), none, false⟩])
 (.ite (.t 79)
 (.seq
 (.reg false [⟨2, .mv (.k (.sc (.bool false))), none, false⟩])
 .ret)
 .skip)))
 (.reg false [⟨62, .mv (.t 3), none, false⟩,
 ⟨63, .ar .add false (.t 62) (.k (.sc (.int .i64 1))), none, false⟩,
 ⟨3, .mv (.t 63), none, false⟩])))
def b74_1 : IC := w74_1
theorem u74_1 (call : CallF) (st : St) : evC call b74_1 st = evC call w74_1 st := rfl
attribute [simp] u74_1 w74_1
def i74 : Ev.Fn := ⟨1, 80, [.tmp 2],
 (.seq
 (.reg false [⟨2, .mv (.k (.sc (.bool false))), none, false⟩])
 (.seq
 (.seq
 (.reg false [⟨4, .mv (.t 0), none, false⟩,
 ⟨5, .nc (.t 4), none, false⟩,
 ⟨6, .fa 0 (.t 5), none, false⟩,
 ⟨7, .ld 1 false (.t 6), none, false⟩,
 ⟨8, .ca (.k (.cl 168 [])) [(.t 7)], none, false⟩,
 ⟨9, .nt (.t 8), none, false⟩,
 ⟨10, .mv (.t 9), none, false⟩,
 ⟨11, .mv (.t 0), (some (10, false)), false⟩,
 ⟨12, .nc (.t 11), (some (10, false)), false⟩,
 ⟨13, .fa 1 (.t 12), (some (10, false)), false⟩,
 ⟨14, .ld 1 false (.t 13), (some (10, false)), false⟩,
 ⟨15, .ca (.k (.cl 168 [])) [(.t 14)], (some (10, false)), false⟩,
 ⟨16, .nt (.t 15), (some (10, false)), false⟩,
 ⟨17, .pk (.t 10) (.k (.sc (.bool true))) (.t 16), none, false⟩,
 ⟨18, .mv (.t 17), none, false⟩,
 ⟨19, .mv (.t 0), (some (18, false)), false⟩,
 ⟨20, .nc (.t 19), (some (18, false)), false⟩,
 ⟨21, .fa 2 (.t 20), (some (18, false)), false⟩,
 ⟨22, .ld 1 false (.t 21), (some (18, false)), false⟩,
 ⟨23, .ca (.k (.cl 162 [])) [(.t 22), (.k (.sc (.int .i64 0))), (.k (.sc (.int .i64 999)))], (some (18, false)), false⟩,
 ⟨24, .nt (.t 23), (some (18, false)), false⟩,
 ⟨25, .pk (.t 18) (.k (.sc (.bool true))) (.t 24), none, false⟩,
 ⟨26, .mv (.t 25), none, false⟩,
 ⟨27, .mv (.t 0), (some (26, false)), false⟩,
 ⟨28, .nc (.t 27), (some (26, false)), false⟩,
 ⟨29, .fa 3 (.t 28), (some (26, false)), false⟩,
 ⟨30, .ca (.k (.cl 169 [])) [(.t 29)], (some (26, false)), false⟩,
 ⟨31, .nt (.t 30), (some (26, false)), false⟩,
 ⟨32, .pk (.t 26) (.k (.sc (.bool true))) (.t 31), none, false⟩])
 (.ite (.t 32)
 (.seq
 (.reg false [⟨2, .mv (.k (.sc (.bool false))), none, false⟩])
 .ret)
 .skip))
 (.seq
 (.seq
 (.reg false [⟨33, .mv (.t 0), none, false⟩,
 ⟨34, .nc (.t 33), none, false⟩,
 ⟨35, .fa 6 (.t 34), none, false⟩,
 ⟨36, .ld 1 false (.t 35), none, false⟩,
 ⟨37, .ca (.k (.cl 162 [])) [(.t 36), (.k (.sc (.int .i64 10))), (.k (.sc (.int .i64 20000)))], none, false⟩,
 ⟨38, .nt (.t 37), none, false⟩,
 ⟨39, .mv (.t 38), none, false⟩,
 ⟨40, .mv (.t 0), (some (39, false)), false⟩,
 ⟨41, .nc (.t 40), (some (39, false)), false⟩,
 ⟨42, .fa 7 (.t 41), (some (39, false)), false⟩,
 ⟨43, .ld 1 false (.t 42), (some (39, false)), false⟩,
 ⟨44, .ca (.k (.cl 162 [])) [(.t 43), (.k (.sc (.int .i64 10))), (.k (.sc (.int .i64 20000)))], (some (39, false)), false⟩,
 ⟨45, .nt (.t 44), (some (39, false)), false⟩,
 ⟨46, .pk (.t 39) (.k (.sc (.bool true))) (.t 45), none, false⟩,
 ⟨47, .mv (.t 46), none, false⟩,
 ⟨48, .mv (.t 0), (some (47, false)), false⟩,
 ⟨49, .nc (.t 48), (some (47, false)), false⟩,
 ⟨50, .fa 8 (.t 49), (some (47, false)), false⟩,
 ⟨51, .ld 1 false (.t 50), (some (47, false)), false⟩,
 ⟨52, .ln false (.t 51), (some (47, false)), false⟩,
 ⟨53, .ar .gtr false (.t 52) (.k (.sc (.int .i64 6))), (some (47, false)), false⟩,
 ⟨54, .pk (.t 47) (.k (.sc (.bool true))) (.t 53), none, false⟩])
 (.ite (.t 54)
 (.seq
 (.reg false [⟨2, .mv (.k (.sc (.bool false))), none, false⟩])
 .ret)
 .skip))
 (.seq
 (.seq
 (.reg false [⟨3, .mv (.k (.sc (.int .i64 0))), none, false⟩])
 (.cln [] [2]
 (.block 0
 (.loop [0, 3] b74_1))))
 (.seq
 (.reg false [⟨2, .mv (.k (.sc (.bool true))), none, false⟩])
 .ret)))))⟩
attribute [simp] i74
set_option maxRecDepth 1000000 in
theorem c74 : cFn Try.prog 74 [[], [0, 3], [], [2]] = some i74 := by kernel_rfl
theorem e74 : enterOk Try.prog 74 = true := by kernel_rfl
def i76 : Ev.Fn := ⟨1, 14, [.cell 2 3 true],
 (.seq
 (.reg false [⟨1, .bx (.t 0), none, false⟩,
 ⟨2, .al [(.sc (.string ⟨#[]⟩)), (.sc (.int .i64 0)), (.sc (.int .i64 0))], none, false⟩])
 (.seq
 (.reg false [⟨3, .al [(.sc (.string ⟨#[]⟩)), (.sc (.int .i64 0)), (.sc (.int .i64 0))], none, false⟩])
 (.seq
 (.reg false [⟨4, .fa 0 (.t 1), none, false⟩,
 ⟨5, .ld 1 false (.t 4), none, false⟩,
 ⟨6, .fa 0 (.t 3), none, false⟩,
 ⟨1, .so 1 (.t 6) (.t 5), none, true⟩])
 (.seq
 (.reg false [⟨7, .fa 1 (.t 1), none, false⟩,
 ⟨8, .ld 1 false (.t 7), none, false⟩,
 ⟨9, .fa 1 (.t 3), none, false⟩,
 ⟨1, .so 1 (.t 9) (.t 8), none, true⟩])
 (.seq
 (.reg false [⟨10, .fa 2 (.t 1), none, false⟩,
 ⟨11, .ld 1 false (.t 10), none, false⟩,
 ⟨12, .fa 2 (.t 3), none, false⟩,
 ⟨1, .so 1 (.t 12) (.t 11), none, true⟩])
 (.seq
 (.reg false [⟨13, .ld 3 true (.t 3), none, false⟩,
 ⟨1, .so 3 (.t 2) (.t 13), none, true⟩])
 .ret))))))⟩
attribute [simp] i76
set_option maxRecDepth 1000000 in
theorem c76 : cFn Try.prog 76 [[]] = some i76 := by kernel_rfl
theorem e76 : enterOk Try.prog 76 = true := by kernel_rfl
def w77_1 : IC :=
(.seq
 (.seq
 (.reg false [⟨8, .mv (.t 4), none, false⟩,
 ⟨9, .mv (.t 0), none, false⟩,
 ⟨10, .ln false (.t 9), none, false⟩,
 ⟨11, .ar .lss false (.t 8) (.t 10), none, false⟩])
 (.ite (.t 11)
 .skip
 (.exit 0)))
 (.seq
 (.block 1
 (.reg false [⟨14, .mv (.t 3), none, false⟩,
 ⟨15, .mv (.t 4), none, false⟩,
 ⟨16, .mv (.t 0), none, false⟩,
 ⟨17, .mv (.t 4), none, false⟩,
 ⟨18, .ia 4 (.t 16) (.t 17), none, false⟩,
 ⟨19, .ld 4 true (.t 18), none, false⟩,
 ⟨20, .ca (.k (.cl 174 [])) [(.t 19)], none, false⟩,
 ⟨21, .ia 4 (.t 14) (.t 15), none, false⟩,
 ⟨1, .so 4 (.t 21) (.t 20), none, true⟩]))
 (.reg false [⟨12, .mv (.t 4), none, false⟩,
 ⟨13, .ar .add false (.t 12) (.k (.sc (.int .i64 1))), none, false⟩,
 ⟨4, .mv (.t 13), none, false⟩])))
def b77_1 : IC := w77_1
theorem u77_1 (call : CallF) (st : St) : evC call b77_1 st = evC call w77_1 st := rfl
attribute [simp] u77_1 w77_1
def i77 : Ev.Fn := ⟨1, 23, [.tmp 2],
 (.seq
 (.reg false [⟨2, .mv (.k .nl), none, false⟩])
 (.seq
 (.reg false [⟨5, .mv (.t 0), none, false⟩,
 ⟨6, .ln false (.t 5), none, false⟩,
 ⟨7, .ms 29 4 [(.sc (.int .i64 0)), (.sc (.int .i64 0)), (.sc (.int .i64 0)), (.sc (.int .i64 0))] (.t 6), none, false⟩,
 ⟨3, .mv (.t 7), none, false⟩])
 (.seq
 (.seq
 (.reg false [⟨4, .mv (.k (.sc (.int .i64 0))), none, false⟩])
 (.cln [3] [2]
 (.block 0
 (.loop [0, 3, 4] b77_1))))
 (.seq
 (.reg false [⟨22, .mv (.t 3), none, false⟩,
 ⟨2, .mv (.t 22), none, false⟩])
 .ret))))⟩
attribute [simp] i77
set_option maxRecDepth 1000000 in
theorem c77 : cFn Try.prog 77 [[], [0, 3, 4], [3], [2]] = some i77 := by kernel_rfl
theorem e77 : enterOk Try.prog 77 = true := by kernel_rfl
def i78 : Ev.Fn := ⟨1, 46, [.tmp 2],
 (.seq
 (.reg false [⟨1, .bx (.t 0), none, false⟩,
 ⟨2, .mv (.k (.sc (.bool false))), none, false⟩])
 (.seq
 (.seq
 (.reg false [⟨3, .fa 0 (.t 1), none, false⟩,
 ⟨4, .ld 1 false (.t 3), none, false⟩,
 ⟨5, .ca (.k (.cl 175 [])) [(.t 4)], none, false⟩,
 ⟨6, .nt (.t 5), none, false⟩,
 ⟨7, .mv (.t 6), none, false⟩,
 ⟨8, .fa 1 (.t 1), (some (7, false)), false⟩,
 ⟨9, .ld 1 false (.t 8), (some (7, false)), false⟩,
 ⟨10, .ca (.k (.cl 175 [])) [(.t 9)], (some (7, false)), false⟩,
 ⟨11, .nt (.t 10), (some (7, false)), false⟩,
 ⟨12, .pk (.t 7) (.k (.sc (.bool true))) (.t 11), none, false⟩,
 ⟨13, .mv (.t 12), none, false⟩,
 ⟨14, .fa 2 (.t 1), (some (13, false)), false⟩,
 ⟨15, .ld 1 false (.t 14), (some (13, false)), false⟩,
 ⟨16, .ca (.k (.cl 165 [])) [(.t 15), (.k (.sc (.int .i64 0))), (.k (.sc (.int .i64 999)))], (some (13, false)), false⟩,
 ⟨17, .nt (.t 16), (some (13, false)), false⟩,
 ⟨18, .pk (.t 13) (.k (.sc (.bool true))) (.t 17), none, false⟩,
 ⟨19, .mv (.t 18), none, false⟩,
 ⟨20, .fa 3 (.t 1), (some (19, false)), false⟩,
 ⟨21, .ld 3 true (.t 20), (some (19, false)), false⟩,
 ⟨22, .ca (.k (.cl 176 [])) [(.t 21)], (some (19, false)), false⟩,
 ⟨23, .nt (.t 22), (some (19, false)), false⟩,
 ⟨24, .pk (.t 19) (.k (.sc (.bool true))) (.t 23), none, false⟩])
 (.ite (.t 24)
 (.seq
 (.reg false [⟨2, .mv (.k (.sc (.bool false))), none, false⟩])
 .ret)
 .skip))
 (.seq
 (.seq
 (.reg false [⟨25, .fa 6 (.t 1), none, false⟩,
 ⟨26, .ld 1 false (.t 25), none, false⟩,
 ⟨27, .ca (.k (.cl 165 [])) [(.t 26), (.k (.sc (.int .i64 10))), (.k (.sc (.int .i64 20000)))], none, false⟩,
 ⟨28, .nt (.t 27), none, false⟩,
 ⟨29, .mv (.t 28), none, false⟩,
 ⟨30, .fa 7 (.t 1), (some (29, false)), false⟩,
 ⟨31, .ld 1 false (.t 30), (some (29, false)), false⟩,
 ⟨32, .ca (.k (.cl 165 [])) [(.t 31), (.k (.sc (.int .i64 10))), (.k (.sc (.int .i64 20000)))], (some (29, false)), false⟩,
 ⟨33, .nt (.t 32), (some (29, false)), false⟩,
 ⟨34, .pk (.t 29) (.k (.sc (.bool true))) (.t 33), none, false⟩,
 ⟨35, .mv (.t 34), none, false⟩,
 ⟨36, .fa 8 (.t 1), (some (35, false)), false⟩,
 ⟨37, .ld 1 false (.t 36), (some (35, false)), false⟩,
 ⟨38, .ln false (.t 37), (some (35, false)), false⟩,
 ⟨39, .ar .gtr false (.t 38) (.k (.sc (.int .i64 6))), (some (35, false)), false⟩,
 ⟨40, .pk (.t 35) (.k (.sc (.bool true))) (.t 39), none, false⟩])
 (.ite (.t 40)
 (.seq
 (.reg false [⟨2, .mv (.k (.sc (.bool false))), none, false⟩])
 .ret)
 .skip))
 (.seq
 (.reg false [⟨41, .fa 8 (.t 1), none, false⟩,
 ⟨42, .ld 1 false (.t 41), none, false⟩,
 ⟨43, .mf 177 [(.t 1)], none, false⟩,
 ⟨44, .ca (.k (.cl 79 [])) [(.t 42), (.t 43)], none, false⟩,
 ⟨45, .nt (.t 44), none, false⟩,
 ⟨2, .mv (.t 45), none, false⟩])
 .ret))))⟩
attribute [simp] i78
set_option maxRecDepth 1000000 in
theorem c78 : cFn Try.prog 78 [[]] = some i78 := by kernel_rfl
theorem e78 : enterOk Try.prog 78 = true := by kernel_rfl
def i79 : Ev.Fn := ⟨2, 9, [.tmp 4],
 (.seq
 (.reg false [⟨4, .mv (.k (.sc (.bool false))), none, false⟩])
 (.seq
 (.reg false [⟨5, .mv (.t 0), none, false⟩,
 ⟨6, .mv (.t 1), none, false⟩,
 ⟨7, .ca (.k (.cl 179 [])) [(.t 5), (.t 6)], none, false⟩,
 ⟨8, .ar .geq false (.t 7) (.k (.sc (.int .i64 0))), none, false⟩,
 ⟨4, .mv (.t 8), none, false⟩])
 .ret))⟩
attribute [simp] i79
set_option maxRecDepth 1000000 in
theorem c79 : cFn Try.prog 79 [[]] = some i79 := by kernel_rfl
theorem e79 : enterOk Try.prog 79 = true := by kernel_rfl
def i83 : Ev.Fn := ⟨2, 20, [.tmp 4],
 (.seq
 (.reg false [⟨2, .bx (.t 0), none, false⟩,
 ⟨3, .bx (.t 1), none, false⟩,
 ⟨4, .mv (.k (.sc (.bool false))), none, false⟩])
 (.seq
 (.seq
 (.reg false [⟨5, .fa 0 (.t 2), none, false⟩,
 ⟨6, .ld 1 false (.t 5), none, false⟩,
 ⟨7, .fa 0 (.t 3), none, false⟩,
 ⟨8, .ld 1 false (.t 7), none, false⟩,
 ⟨9, .ar .neq false (.t 6) (.t 8), none, false⟩])
 (.ite (.t 9)
 (.seq
 (.reg false [⟨4, .mv (.k (.sc (.bool false))), none, false⟩])
 .ret)
 .skip))
 (.seq
 (.seq
 (.reg false [⟨10, .fa 1 (.t 2), none, false⟩,
 ⟨11, .ld 1 false (.t 10), none, false⟩,
 ⟨12, .fa 1 (.t 3), none, false⟩,
 ⟨13, .ld 1 false (.t 12), none, false⟩,
 ⟨14, .ar .neq false (.t 11) (.t 13), none, false⟩])
 (.ite (.t 14)
 (.seq
 (.reg false [⟨4, .mv (.k (.sc (.bool false))), none, false⟩])
 .ret)
 .skip))
 (.seq
 (.seq
 (.reg false [⟨15, .fa 2 (.t 2), none, false⟩,
 ⟨16, .ld 1 false (.t 15), none, false⟩,
 ⟨17, .fa 2 (.t 3), none, false⟩,
 ⟨18, .ld 1 false (.t 17), none, false⟩,
 ⟨19, .ar .neq false (.t 16) (.t 18), none, false⟩])
 (.ite (.t 19)
 (.seq
 (.reg false [⟨4, .mv (.k (.sc (.bool false))), none, false⟩])
 .ret)
 .skip))
 (.seq
 (.reg false [⟨4, .mv (.k (.sc (.bool true))), none, false⟩])
 .ret)))))⟩
attribute [simp] i83
set_option maxRecDepth 1000000 in
theorem c83 : cFn Try.prog 83 [[]] = some i83 := by kernel_rfl
theorem e83 : enterOk Try.prog 83 = true := by kernel_rfl
def w84_1 : IC :=
(.seq
 (.seq
 (.reg false [⟨11, .mv (.t 5), none, false⟩,
 ⟨12, .mv (.t 0), none, false⟩,
 ⟨13, .ln false (.t 12), none, false⟩,
 ⟨14, .ar .lss false (.t 11) (.t 13), none, false⟩])
 (.ite (.t 14)
 .skip
 (.exit 0)))
 (.seq
 (.block 1
 (.seq
 (.reg true [⟨17, .mv (.t 0), none, false⟩,
 ⟨18, .mv (.t 5), none, false⟩,
 ⟨19, .ia 4 (.t 17) (.t 18), none, false⟩,
 ⟨20, .ld 4 true (.t 19), none, false⟩,
 ⟨21, .mv (.t 1), none, false⟩,
 ⟨22, .mv (.t 5), none, false⟩,
 ⟨23, .ia 4 (.t 21) (.t 22), none, false⟩,
 ⟨24, .ld 4 true (.t 23), none, false⟩,
 ⟨25, .ca (.k (.cl 19 [])) [(.t 20), (.t 24)], none, false⟩,
 ⟨26, .nt (.t 25), none, false⟩])
 (.ite (.t 26)
 (.seq
 (.reg false [⟨4, .mv (.k (.sc (.bool false))), none, false⟩])
 .ret)
 .skip)))
 (.reg false [⟨15, .mv (.t 5), none, false⟩,
 ⟨16, .ar .add false (.t 15) (.k (.sc (.int .i64 1))), none, false⟩,
 ⟨5, .mv (.t 16), none, false⟩])))
def b84_1 : IC := w84_1
theorem u84_1 (call : CallF) (st : St) : evC call b84_1 st = evC call w84_1 st := rfl
attribute [simp] u84_1 w84_1
def i84 : Ev.Fn := ⟨2, 27, [.tmp 4],
 (.seq
 (.reg false [⟨4, .mv (.k (.sc (.bool false))), none, false⟩])
 (.seq
 (.seq
 (.reg false [⟨6, .mv (.t 0), none, false⟩,
 ⟨7, .ln false (.t 6), none, false⟩,
 ⟨8, .mv (.t 1), none, false⟩,
 ⟨9, .ln false (.t 8), none, false⟩,
 ⟨10, .ar .neq false (.t 7) (.t 9), none, false⟩])
 (.ite (.t 10)
 (.seq
 (.reg false [⟨4, .mv (.k (.sc (.bool false))), none, false⟩])
 .ret)
 .skip))
 (.seq
 (.seq
 (.reg false [⟨5, .mv (.k (.sc (.int .i64 0))), none, false⟩])
 (.cln [] [4]
 (.block 0
 (.loop [0, 1, 5] b84_1))))
 (.seq
 (.reg false [⟨4, .mv (.k (.sc (.bool true))), none, false⟩])
 .ret))))⟩
attribute [simp] i84
set_option maxRecDepth 1000000 in
theorem c84 : cFn Try.prog 84 [[], [0, 1, 5], [], [4]] = some i84 := by kernel_rfl
theorem e84 : enterOk Try.prog 84 = true := by kernel_rfl
def w101_1 : IC :=
(.seq
 (.seq
 (.reg false [⟨4, .mv (.t 3), none, false⟩,
 ⟨5, .mv (.t 0), none, false⟩,
 ⟨6, .ln false (.t 5), none, false⟩,
 ⟨7, .ar .lss false (.t 4) (.t 6), none, false⟩])
 (.ite (.t 7)
 .skip
 (.exit 0)))
 (.seq
 (.block 1
 (.seq
 (.reg true [⟨10, .mv (.t 0), none, false⟩,
 ⟨11, .mv (.t 3), none, false⟩,
 ⟨12, .ia 9 (.t 10) (.t 11), none, false⟩,
 ⟨13, .ca (.k (.cl 74 [])) [(.t 12)], none, false⟩,
 ⟨14, .nt (.t 13), none, false⟩,
 ⟨15, .mv (.t 14), none, false⟩,
 ⟨16, .mv (.t 3), (some (15, false)), false⟩,
 ⟨17, .ar .gtr false (.t 16) (.k (.sc (.int .i64 0))), (some (15, false)), false⟩,
 ⟨18, .mv (.t 17), (some (15, false)), false⟩,
 ⟨19, .mv (.t 0), (some (18, true)), false⟩,
 ⟨20, .mv (.t 3), (some (18, true)), false⟩,
 ⟨21, .ar .sub false (.t 20) (.k (.sc (.int .i64 1))), (some (18, true)), false⟩,
 ⟨22, .ia 9 (.t 19) (.t 21), (some (18, true)), false⟩,
 ⟨23, .fa 0 (.t 22), (some (18, true)), false⟩,
 ⟨24, .ld 1 false (.t 23), (some (18, true)), false⟩,
 ⟨25, .mv (.t 0), (some (18, true)), false⟩,
 ⟨26, .mv (.t 3), (some (18, true)), false⟩,
 ⟨27, .ia 9 (.t 25) (.t 26), (some (18, true)), false⟩,
 ⟨28, .fa 0 (.t 27), (some (18, true)), false⟩,
 ⟨29, .ld 1 false (.t 28), (some (18, true)), false⟩,
 ⟨30, .ar .geq false (.t 24) (.t 29), (some (18, true)), false⟩,
 ⟨31, .pk (.t 18) (.t 30) (.k (.sc (.bool false))), (some (15, false)), false⟩,
 ⟨32, .pk (.t 15) (.k (.sc (.bool true))) (.t 31), none, false⟩])
 (.ite (.t 32)
 (.seq
 (.reg false [⟨2, .mv (.k (.sc (.bool false))), none, false⟩])
 .ret)
 .skip)))
 (.reg false [⟨8, .mv (.t 3), none, false⟩,
 ⟨9, .ar .add false (.t 8) (.k (.sc (.int .i64 1))), none, false⟩,
 ⟨3, .mv (.t 9), none, false⟩])))
def b101_1 : IC := w101_1
theorem u101_1 (call : CallF) (st : St) : evC call b101_1 st = evC call w101_1 st := rfl
attribute [simp] u101_1 w101_1
def i101 : Ev.Fn := ⟨1, 36, [.tmp 2],
 (.seq
 (.reg false [⟨2, .mv (.k (.sc (.bool false))), none, false⟩])
 (.seq
 (.seq
 (.reg false [⟨3, .mv (.k (.sc (.int .i64 0))), none, false⟩])
 (.cln [0] [2]
 (.block 0
 (.loop [0, 3] b101_1))))
 (.seq
 (.reg false [⟨33, .mv (.t 0), none, false⟩,
 ⟨34, .ln false (.t 33), none, false⟩,
 ⟨35, .ar .leq false (.t 34) (.k (.sc (.int .i64 16))), none, false⟩,
 ⟨2, .mv (.t 35), none, false⟩])
 .ret)))⟩
attribute [simp] i101
set_option maxRecDepth 1000000 in
theorem c101 : cFn Try.prog 101 [[], [0, 3], [0], [2]] = some i101 := by kernel_rfl
theorem e101 : enterOk Try.prog 101 = true := by kernel_rfl
def w102_1 : IC :=
(.seq
 (.seq
 (.reg false [⟨6, .mv (.t 5), none, false⟩,
 ⟨7, .mv (.t 0), none, false⟩,
 ⟨8, .ln false (.t 7), none, false⟩,
 ⟨9, .ar .lss false (.t 6) (.t 8), none, false⟩])
 (.ite (.t 9)
 .skip
 (.exit 0)))
 (.seq
 (.block 1
 (.seq
 (.reg false [⟨12, .mv (.t 0), none, false⟩,
 ⟨13, .mv (.t 5), none, false⟩,
 ⟨14, .ia 9 (.t 12) (.t 13), none, false⟩,
 ⟨15, .fa 0 (.t 14), none, false⟩,
 ⟨16, .ld 1 false (.t 15), none, false⟩,
 ⟨17, .mv (.t 1), none, false⟩,
 ⟨18, .ar .eql false (.t 16) (.t 17), none, false⟩])
 (.ite (.t 18)
 (.seq
 (.reg false [⟨19, .mv (.t 5), none, false⟩,
 ⟨4, .mv (.t 19), none, false⟩])
 .ret)
 .skip)))
 (.reg false [⟨10, .mv (.t 5), none, false⟩,
 ⟨11, .ar .add false (.t 10) (.k (.sc (.int .i64 1))), none, false⟩,
 ⟨5, .mv (.t 11), none, false⟩])))
def b102_1 : IC := w102_1
theorem u102_1 (call : CallF) (st : St) : evC call b102_1 st = evC call w102_1 st := rfl
attribute [simp] u102_1 w102_1
def i102 : Ev.Fn := ⟨2, 20, [.tmp 4],
 (.seq
 (.reg false [⟨4, .mv (.k (.sc (.int .i64 0))), none, false⟩])
 (.seq
 (.seq
 (.reg false [⟨5, .mv (.k (.sc (.int .i64 0))), none, false⟩])
 (.cln [] [4]
 (.block 0
 (.loop [0, 1, 5] b102_1))))
 (.seq
 (.reg false [⟨4, .mv (.k (.sc (.int .i64 (-1)))), none, false⟩])
 .ret)))⟩
attribute [simp] i102
set_option maxRecDepth 1000000 in
theorem c102 : cFn Try.prog 102 [[], [0, 1, 5], [], [4]] = some i102 := by kernel_rfl
theorem e102 : enterOk Try.prog 102 = true := by kernel_rfl
def w103_1 : IC :=
(.seq
 (.seq
 (.reg false [⟨6, .mv (.t 4), none, false⟩,
 ⟨7, .mv (.t 0), none, false⟩,
 ⟨8, .ln false (.t 7), none, false⟩,
 ⟨9, .ar .lss false (.t 6) (.t 8), none, false⟩])
 (.ite (.t 9)
 .skip
 (.exit 0)))
 (.seq
 (.block 1
 (.reg false [⟨12, .mv (.t 3), none, false⟩,
 ⟨13, .mv (.t 0), none, false⟩,
 ⟨14, .mv (.t 4), none, false⟩,
 ⟨15, .ia 9 (.t 13) (.t 14), none, false⟩,
 ⟨16, .ca (.k (.cl 111 [])) [(.t 15)], none, false⟩,
 ⟨17, .bw 35 9 [(.sc (.string ⟨#[]⟩)), (.sc (.string ⟨#[]⟩)), (.sc (.int .i64 0)), (.sc (.string ⟨#[]⟩)), (.sc (.int .i64 0)), (.sc (.int .i64 0)), (.sc (.int .i64 0)), (.sc (.int .i64 0)), .nl] 1 [(0, (.t 16))], none, false⟩,
 ⟨18, .ap 35 9 false (.t 12) (.t 17), none, false⟩,
 ⟨3, .mv (.t 18), none, false⟩]))
 (.reg false [⟨10, .mv (.t 4), none, false⟩,
 ⟨11, .ar .add false (.t 10) (.k (.sc (.int .i64 1))), none, false⟩,
 ⟨4, .mv (.t 11), none, false⟩])))
def b103_1 : IC := w103_1
theorem u103_1 (call : CallF) (st : St) : evC call b103_1 st = evC call w103_1 st := rfl
attribute [simp] u103_1 w103_1
def i103 : Ev.Fn := ⟨1, 20, [.tmp 2],
 (.seq
 (.reg false [⟨2, .mv (.k .nl), none, false⟩])
 (.seq
 (.reg false [⟨5, .bw 35 9 [(.sc (.string ⟨#[]⟩)), (.sc (.string ⟨#[]⟩)), (.sc (.int .i64 0)), (.sc (.string ⟨#[]⟩)), (.sc (.int .i64 0)), (.sc (.int .i64 0)), (.sc (.int .i64 0)), (.sc (.int .i64 0)), .nl] 0 [], none, false⟩,
 ⟨3, .mv (.t 5), none, false⟩])
 (.seq
 (.seq
 (.reg false [⟨4, .mv (.k (.sc (.int .i64 0))), none, false⟩])
 (.cln [3] [2]
 (.block 0
 (.loop [0, 3, 4] b103_1))))
 (.seq
 (.reg false [⟨19, .mv (.t 3), none, false⟩,
 ⟨2, .mv (.t 19), none, false⟩])
 .ret))))⟩
attribute [simp] i103
set_option maxRecDepth 1000000 in
theorem c103 : cFn Try.prog 103 [[], [0, 3, 4], [3], [2]] = some i103 := by kernel_rfl
theorem e103 : enterOk Try.prog 103 = true := by kernel_rfl
def w104_1 : IC :=
(.seq
 (.reg false [⟨8, .ar .lss false (.t 7) (.t 6), none, false⟩])
 (.seq
 (.ite (.t 8)
 .skip
 (.exit 0))
 (.seq
 (.block 1
 (.seq
 (.reg false [⟨9, .mv (.t 7), none, false⟩,
 ⟨10, .ia 9 (.t 5) (.t 7), none, false⟩,
 ⟨11, .ld 9 true (.t 10), none, false⟩,
 ⟨4, .al [(.sc (.string ⟨#[]⟩)), (.sc (.string ⟨#[]⟩)), (.sc (.int .i64 0)), (.sc (.string ⟨#[]⟩)), (.sc (.int .i64 0)), (.sc (.int .i64 0)), (.sc (.int .i64 0)), (.sc (.int .i64 0)), .nl], none, false⟩,
 ⟨3, .mv (.t 9), none, false⟩,
 ⟨1, .so 9 (.t 4) (.t 11), none, true⟩])
 (.seq
 (.reg true [⟨12, .ld 9 true (.t 4), none, false⟩,
 ⟨13, .ca (.k (.cl 78 [])) [(.t 12)], none, false⟩,
 ⟨14, .nt (.t 13), none, false⟩,
 ⟨15, .mv (.t 14), none, false⟩,
 ⟨16, .mv (.t 3), (some (15, false)), false⟩,
 ⟨17, .ar .gtr false (.t 16) (.k (.sc (.int .i64 0))), (some (15, false)), false⟩,
 ⟨18, .mv (.t 17), (some (15, false)), false⟩,
 ⟨19, .mv (.t 0), (some (18, true)), false⟩,
 ⟨20, .mv (.t 3), (some (18, true)), false⟩,
 ⟨21, .ar .sub false (.t 20) (.k (.sc (.int .i64 1))), (some (18, true)), false⟩,
 ⟨22, .ia 9 (.t 19) (.t 21), (some (18, true)), false⟩,
 ⟨23, .fa 0 (.t 22), (some (18, true)), false⟩,
 ⟨24, .ld 1 false (.t 23), (some (18, true)), false⟩,
 ⟨25, .fa 0 (.t 4), (some (18, true)), false⟩,
 ⟨26, .ld 1 false (.t 25), (some (18, true)), false⟩,
 ⟨27, .ar .geq false (.t 24) (.t 26), (some (18, true)), false⟩,
 ⟨28, .pk (.t 18) (.t 27) (.k (.sc (.bool false))), (some (15, false)), false⟩,
 ⟨29, .pk (.t 15) (.k (.sc (.bool true))) (.t 28), none, false⟩])
 (.ite (.t 29)
 (.seq
 (.reg false [⟨2, .mv (.k (.sc (.bool false))), none, false⟩])
 .ret)
 .skip))))
 (.reg false [⟨30, .ar .add false (.t 7) (.k (.sc (.int .i64 1))), none, false⟩,
 ⟨7, .mv (.t 30), none, false⟩]))))
def b104_1 : IC := w104_1
theorem u104_1 (call : CallF) (st : St) : evC call b104_1 st = evC call w104_1 st := rfl
attribute [simp] u104_1 w104_1
def i104 : Ev.Fn := ⟨1, 34, [.tmp 2],
 (.seq
 (.reg false [⟨2, .mv (.k (.sc (.bool false))), none, false⟩])
 (.seq
 (.seq
 (.reg false [⟨5, .mv (.t 0), none, false⟩,
 ⟨6, .ln false (.t 5), none, false⟩,
 ⟨7, .mv (.k (.sc (.int .i64 0))), none, false⟩])
 (.cln [0] [2]
 (.block 0
 (.loop [0, 5, 6, 7] b104_1))))
 (.seq
 (.reg false [⟨31, .mv (.t 0), none, false⟩,
 ⟨32, .ln false (.t 31), none, false⟩,
 ⟨33, .ar .leq false (.t 32) (.k (.sc (.int .i64 16))), none, false⟩,
 ⟨2, .mv (.t 33), none, false⟩])
 .ret)))⟩
attribute [simp] i104
set_option maxRecDepth 1000000 in
theorem c104 : cFn Try.prog 104 [[], [0, 5, 6, 7], [0], [2]] = some i104 := by kernel_rfl
theorem e104 : enterOk Try.prog 104 = true := by kernel_rfl
def i105 : Ev.Fn := ⟨2, 11, [.tmp 4, .tmp 5],
 (.seq
 (.reg false [⟨4, .mv (.k (.sc (.int .i64 0))), none, false⟩,
 ⟨5, .mv (.k (.sc (.bool false))), none, false⟩])
 (.seq
 (.reg false [⟨6, .mv (.t 0), none, false⟩,
 ⟨7, .mv (.t 1), none, false⟩,
 ⟨8, .ca (.k (.cl 192 [])) [(.t 6), (.t 7), (.k (.cl 193 []))], none, false⟩,
 ⟨9, .xt (.t 8) 0, none, false⟩,
 ⟨10, .xt (.t 8) 1, none, false⟩,
 ⟨4, .mv (.t 9), none, false⟩,
 ⟨5, .mv (.t 10), none, false⟩])
 .ret))⟩
attribute [simp] i105
set_option maxRecDepth 1000000 in
theorem c105 : cFn Try.prog 105 [[]] = some i105 := by kernel_rfl
theorem e105 : enterOk Try.prog 105 = true := by kernel_rfl
def w107_1 : IC :=
(.seq
 (.reg false [⟨10, .ar .lss false (.t 9) (.t 8), none, false⟩])
 (.seq
 (.ite (.t 10)
 .skip
 (.exit 0))
 (.seq
 (.block 1
 (.seq
 (.reg false [⟨11, .ia 9 (.t 7) (.t 9), none, false⟩,
 ⟨12, .ld 9 true (.t 11), none, false⟩,
 ⟨5, .al [(.sc (.string ⟨#[]⟩)), (.sc (.string ⟨#[]⟩)), (.sc (.int .i64 0)), (.sc (.string ⟨#[]⟩)), (.sc (.int .i64 0)), (.sc (.int .i64 0)), (.sc (.int .i64 0)), (.sc (.int .i64 0)), .nl], none, false⟩,
 ⟨1, .so 9 (.t 5) (.t 12), none, true⟩])
 (.reg false [⟨13, .mv (.t 3), none, false⟩,
 ⟨14, .ld 9 true (.t 5), none, false⟩,
 ⟨15, .ca (.k (.cl 113 [])) [(.t 14)], none, false⟩,
 ⟨16, .bw 35 9 [(.sc (.string ⟨#[]⟩)), (.sc (.string ⟨#[]⟩)), (.sc (.int .i64 0)), (.sc (.string ⟨#[]⟩)), (.sc (.int .i64 0)), (.sc (.int .i64 0)), (.sc (.int .i64 0)), (.sc (.int .i64 0)), .nl] 1 [(0, (.t 15))], none, false⟩,
 ⟨17, .ap 35 9 false (.t 13) (.t 16), none, false⟩,
 ⟨3, .mv (.t 17), none, false⟩])))
 (.reg false [⟨18, .ar .add false (.t 9) (.k (.sc (.int .i64 1))), none, false⟩,
 ⟨9, .mv (.t 18), none, false⟩]))))
def b107_1 : IC := w107_1
theorem u107_1 (call : CallF) (st : St) : evC call b107_1 st = evC call w107_1 st := rfl
attribute [simp] u107_1 w107_1
def i107 : Ev.Fn := ⟨1, 20, [.tmp 2],
 (.seq
 (.reg false [⟨2, .mv (.k .nl), none, false⟩])
 (.seq
 (.reg false [⟨6, .bw 35 9 [(.sc (.string ⟨#[]⟩)), (.sc (.string ⟨#[]⟩)), (.sc (.int .i64 0)), (.sc (.string ⟨#[]⟩)), (.sc (.int .i64 0)), (.sc (.int .i64 0)), (.sc (.int .i64 0)), (.sc (.int .i64 0)), .nl] 0 [], none, false⟩,
 ⟨3, .mv (.t 6), none, false⟩])
 (.seq
 (.seq
 (.reg false [⟨7, .mv (.t 0), none, false⟩,
 ⟨8, .ln false (.t 7), none, false⟩,
 ⟨9, .mv (.k (.sc (.int .i64 0))), none, false⟩])
 (.cln [3] [2]
 (.block 0
 (.loop [3, 7, 8, 9] b107_1))))
 (.seq
 (.reg false [⟨19, .mv (.t 3), none, false⟩,
 ⟨2, .mv (.t 19), none, false⟩])
 .ret))))⟩
attribute [simp] i107
set_option maxRecDepth 1000000 in
theorem c107 : cFn Try.prog 107 [[], [3, 7, 8, 9], [3], [2]] = some i107 := by kernel_rfl
theorem e107 : enterOk Try.prog 107 = true := by kernel_rfl
def w108_1 : IC :=
(.seq
 (.seq
 (.reg false [⟨6, .mv (.t 0), none, false⟩,
 ⟨7, .ar .gtr false (.t 6) (.k (.sc (.int .i64 0))), none, false⟩])
 (.ite (.t 7)
 .skip
 (.exit 0)))
 (.block 1
 (.seq
 (.reg false [⟨8, .mv (.t 0), none, false⟩,
 ⟨9, .ar .rem false (.t 8) (.k (.sc (.int .i64 10))), none, false⟩,
 ⟨10, .ar .add false (.k (.sc (.int .i64 48))) (.t 9), none, false⟩,
 ⟨11, .cv .u8 (.t 10), none, false⟩,
 ⟨12, .bs 5 1 [(.sc (.int .u8 0))] 1 [(0, (.t 11))], none, false⟩,
 ⟨13, .by (.t 12), none, false⟩,
 ⟨14, .mv (.t 3), none, false⟩,
 ⟨15, .ar .add false (.t 13) (.t 14), none, false⟩,
 ⟨3, .mv (.t 15), none, false⟩])
 (.reg false [⟨16, .mv (.t 0), none, false⟩,
 ⟨17, .ar .quo false (.t 16) (.k (.sc (.int .i64 10))), none, false⟩,
 ⟨0, .mv (.t 17), none, false⟩]))))
def b108_1 : IC := w108_1
theorem u108_1 (call : CallF) (st : St) : evC call b108_1 st = evC call w108_1 st := rfl
attribute [simp] u108_1 w108_1
def i108 : Ev.Fn := ⟨1, 20, [.tmp 2],
 (.seq
 (.reg false [⟨2, .mv (.k (.sc (.string ⟨#[]⟩))), none, false⟩])
 (.seq
 (.seq
 (.reg false [⟨4, .mv (.t 0), none, false⟩,
 ⟨5, .ar .leq false (.t 4) (.k (.sc (.int .i64 0))), none, false⟩])
 (.ite (.t 5)
 (.seq
 (.reg false [⟨2, .mv (.k (.sc (.string ⟨#[109, 48]⟩))), none, false⟩])
 .ret)
 .skip))
 (.seq
 (.reg false [⟨3, .mv (.k (.sc (.string ⟨#[]⟩))), none, false⟩])
 (.seq
 (.cln [3] [2]
 (.block 0
 (.loop [0, 3] b108_1)))
 (.seq
 (.reg false [⟨18, .mv (.t 3), none, false⟩,
 ⟨19, .ar .add false (.k (.sc (.string ⟨#[109]⟩))) (.t 18), none, false⟩,
 ⟨2, .mv (.t 19), none, false⟩])
 .ret)))))⟩
attribute [simp] i108
set_option maxRecDepth 1000000 in
theorem c108 : cFn Try.prog 108 [[], [0, 3], [3], [2]] = some i108 := by kernel_rfl
theorem e108 : enterOk Try.prog 108 = true := by kernel_rfl
def w109_1 : IC :=
(.seq
 (.seq
 (.reg false [⟨6, .mv (.t 5), none, false⟩,
 ⟨7, .mv (.t 0), none, false⟩,
 ⟨8, .ln false (.t 7), none, false⟩,
 ⟨9, .ar .lss false (.t 6) (.t 8), none, false⟩])
 (.ite (.t 9)
 .skip
 (.exit 0)))
 (.seq
 (.block 1
 (.seq
 (.reg false [⟨12, .mv (.t 0), none, false⟩,
 ⟨13, .mv (.t 5), none, false⟩,
 ⟨14, .mv (.t 1), none, false⟩,
 ⟨15, .ia 4 (.t 12) (.t 13), none, false⟩,
 ⟨16, .fa 0 (.t 15), none, false⟩,
 ⟨1, .so 1 (.t 16) (.t 14), none, true⟩])
 (.seq
 (.reg false [⟨17, .mv (.t 1), none, false⟩,
 ⟨18, .ar .add false (.t 17) (.k (.sc (.int .i64 1))), none, false⟩,
 ⟨1, .mv (.t 18), none, false⟩])
 (.seq
 (.reg false [⟨19, .mv (.t 0), none, false⟩,
 ⟨20, .mv (.t 5), none, false⟩,
 ⟨21, .mv (.t 1), none, false⟩,
 ⟨22, .ia 4 (.t 19) (.t 20), none, false⟩,
 ⟨23, .fa 1 (.t 22), none, false⟩,
 ⟨1, .so 1 (.t 23) (.t 21), none, true⟩])
 (.seq
 (.reg false [⟨24, .mv (.t 1), none, false⟩,
 ⟨25, .ar .add false (.t 24) (.k (.sc (.int .i64 1))), none, false⟩,
 ⟨1, .mv (.t 25), none, false⟩])
 (.seq
 (.reg false [⟨26, .mv (.t 0), none, false⟩,
 ⟨27, .mv (.t 5), none, false⟩,
 ⟨28, .mv (.t 1), none, false⟩,
 ⟨29, .ia 4 (.t 26) (.t 27), none, false⟩,
 ⟨30, .fa 2 (.t 29), none, false⟩,
 ⟨1, .so 1 (.t 30) (.t 28), none, true⟩])
 (.seq
 (.reg false [⟨31, .mv (.t 1), none, false⟩,
 ⟨32, .ar .add false (.t 31) (.k (.sc (.int .i64 1))), none, false⟩,
 ⟨1, .mv (.t 32), none, false⟩])
 (.seq
 (.reg false [⟨33, .mv (.t 0), none, false⟩,
 ⟨34, .mv (.t 5), none, false⟩,
 ⟨35, .mv (.t 1), none, false⟩,
 ⟨36, .ia 4 (.t 33) (.t 34), none, false⟩,
 ⟨37, .fa 3 (.t 36), none, false⟩,
 ⟨1, .so 1 (.t 37) (.t 35), none, true⟩])
 (.reg false [⟨38, .mv (.t 1), none, false⟩,
 ⟨39, .ar .add false (.t 38) (.k (.sc (.int .i64 1))), none, false⟩,
 ⟨1, .mv (.t 39), none, false⟩])))))))))
 (.reg false [⟨10, .mv (.t 5), none, false⟩,
 ⟨11, .ar .add false (.t 10) (.k (.sc (.int .i64 1))), none, false⟩,
 ⟨5, .mv (.t 11), none, false⟩])))
def b109_1 : IC := w109_1
theorem u109_1 (call : CallF) (st : St) : evC call b109_1 st = evC call w109_1 st := rfl
attribute [simp] u109_1 w109_1
def i109 : Ev.Fn := ⟨2, 41, [.tmp 4],
 (.seq
 (.reg false [⟨4, .mv (.k (.sc (.int .i64 0))), none, false⟩])
 (.seq
 (.seq
 (.reg false [⟨5, .mv (.k (.sc (.int .i64 0))), none, false⟩])
 (.cln [1, 100000] [4, 100000]
 (.block 0
 (.loop [0, 1, 5, 100000] b109_1))))
 (.seq
 (.reg false [⟨40, .mv (.t 1), none, false⟩,
 ⟨4, .mv (.t 40), none, false⟩])
 .ret)))⟩
attribute [simp] i109
set_option maxRecDepth 1000000 in
theorem c109 : cFn Try.prog 109 [[], [0, 1, 5, 100000], [1, 100000], [4, 100000]] = some i109 := by kernel_rfl
theorem e109 : enterOk Try.prog 109 = true := by kernel_rfl
def w110_1 : IC :=
(.seq
 (.seq
 (.reg false [⟨6, .mv (.t 5), none, false⟩,
 ⟨7, .mv (.t 0), none, false⟩,
 ⟨8, .ln false (.t 7), none, false⟩,
 ⟨9, .ar .lss false (.t 6) (.t 8), none, false⟩])
 (.ite (.t 9)
 .skip
 (.exit 0)))
 (.seq
 (.block 1
 (.seq
 (.seq
 (.reg false [⟨12, .mv (.t 0), none, false⟩,
 ⟨13, .mv (.t 5), none, false⟩,
 ⟨14, .ia 4 (.t 12) (.t 13), none, false⟩,
 ⟨15, .fa 0 (.t 14), none, false⟩,
 ⟨16, .ld 1 false (.t 15), none, false⟩,
 ⟨17, .mv (.t 1), none, false⟩,
 ⟨18, .ar .neq false (.t 16) (.t 17), none, false⟩])
 (.ite (.t 18)
 (.seq
 (.reg false [⟨4, .mv (.k (.sc (.int .i64 (-1)))), none, false⟩])
 .ret)
 .skip))
 (.seq
 (.reg false [⟨19, .mv (.t 1), none, false⟩,
 ⟨20, .ar .add false (.t 19) (.k (.sc (.int .i64 1))), none, false⟩,
 ⟨1, .mv (.t 20), none, false⟩])
 (.seq
 (.seq
 (.reg false [⟨21, .mv (.t 0), none, false⟩,
 ⟨22, .mv (.t 5), none, false⟩,
 ⟨23, .ia 4 (.t 21) (.t 22), none, false⟩,
 ⟨24, .fa 1 (.t 23), none, false⟩,
 ⟨25, .ld 1 false (.t 24), none, false⟩,
 ⟨26, .mv (.t 1), none, false⟩,
 ⟨27, .ar .neq false (.t 25) (.t 26), none, false⟩])
 (.ite (.t 27)
 (.seq
 (.reg false [⟨4, .mv (.k (.sc (.int .i64 (-1)))), none, false⟩])
 .ret)
 .skip))
 (.seq
 (.reg false [⟨28, .mv (.t 1), none, false⟩,
 ⟨29, .ar .add false (.t 28) (.k (.sc (.int .i64 1))), none, false⟩,
 ⟨1, .mv (.t 29), none, false⟩])
 (.seq
 (.seq
 (.reg false [⟨30, .mv (.t 0), none, false⟩,
 ⟨31, .mv (.t 5), none, false⟩,
 ⟨32, .ia 4 (.t 30) (.t 31), none, false⟩,
 ⟨33, .fa 2 (.t 32), none, false⟩,
 ⟨34, .ld 1 false (.t 33), none, false⟩,
 ⟨35, .mv (.t 1), none, false⟩,
 ⟨36, .ar .neq false (.t 34) (.t 35), none, false⟩])
 (.ite (.t 36)
 (.seq
 (.reg false [⟨4, .mv (.k (.sc (.int .i64 (-1)))), none, false⟩])
 .ret)
 .skip))
 (.seq
 (.reg false [⟨37, .mv (.t 1), none, false⟩,
 ⟨38, .ar .add false (.t 37) (.k (.sc (.int .i64 1))), none, false⟩,
 ⟨1, .mv (.t 38), none, false⟩])
 (.seq
 (.seq
 (.reg false [⟨39, .mv (.t 0), none, false⟩,
 ⟨40, .mv (.t 5), none, false⟩,
 ⟨41, .ia 4 (.t 39) (.t 40), none, false⟩,
 ⟨42, .fa 3 (.t 41), none, false⟩,
 ⟨43, .ld 1 false (.t 42), none, false⟩,
 ⟨44, .mv (.t 1), none, false⟩,
 ⟨45, .ar .neq false (.t 43) (.t 44), none, false⟩])
 (.ite (.t 45)
 (.seq
 (.reg false [⟨4, .mv (.k (.sc (.int .i64 (-1)))), none, false⟩])
 .ret)
 .skip))
 (.reg false [⟨46, .mv (.t 1), none, false⟩,
 ⟨47, .ar .add false (.t 46) (.k (.sc (.int .i64 1))), none, false⟩,
 ⟨1, .mv (.t 47), none, false⟩])))))))))
 (.reg false [⟨10, .mv (.t 5), none, false⟩,
 ⟨11, .ar .add false (.t 10) (.k (.sc (.int .i64 1))), none, false⟩,
 ⟨5, .mv (.t 11), none, false⟩])))
def b110_1 : IC := w110_1
theorem u110_1 (call : CallF) (st : St) : evC call b110_1 st = evC call w110_1 st := rfl
attribute [simp] u110_1 w110_1
def i110 : Ev.Fn := ⟨2, 49, [.tmp 4],
 (.seq
 (.reg false [⟨4, .mv (.k (.sc (.int .i64 0))), none, false⟩])
 (.seq
 (.seq
 (.reg false [⟨5, .mv (.k (.sc (.int .i64 0))), none, false⟩])
 (.cln [1] [4]
 (.block 0
 (.loop [0, 1, 5] b110_1))))
 (.seq
 (.reg false [⟨48, .mv (.t 1), none, false⟩,
 ⟨4, .mv (.t 48), none, false⟩])
 .ret)))⟩
attribute [simp] i110
set_option maxRecDepth 1000000 in
theorem c110 : cFn Try.prog 110 [[], [0, 1, 5], [1], [4]] = some i110 := by kernel_rfl
theorem e110 : enterOk Try.prog 110 = true := by kernel_rfl
def i111 : Ev.Fn := ⟨1, 15, [.cell 2 9 true],
 (.seq
 (.reg false [⟨2, .al [(.sc (.string ⟨#[]⟩)), (.sc (.string ⟨#[]⟩)), (.sc (.int .i64 0)), (.sc (.string ⟨#[]⟩)), (.sc (.int .i64 0)), (.sc (.int .i64 0)), (.sc (.int .i64 0)), (.sc (.int .i64 0)), .nl], none, false⟩])
 (.seq
 (.reg false [⟨4, .mv (.t 0), none, false⟩,
 ⟨5, .nc (.t 4), none, false⟩,
 ⟨6, .ld 9 true (.t 5), none, false⟩,
 ⟨3, .al [(.sc (.string ⟨#[]⟩)), (.sc (.string ⟨#[]⟩)), (.sc (.int .i64 0)), (.sc (.string ⟨#[]⟩)), (.sc (.int .i64 0)), (.sc (.int .i64 0)), (.sc (.int .i64 0)), (.sc (.int .i64 0)), .nl], none, false⟩,
 ⟨1, .so 9 (.t 3) (.t 6), none, true⟩])
 (.seq
 (.reg false [⟨7, .bs 29 4 [(.sc (.int .i64 0)), (.sc (.int .i64 0)), (.sc (.int .i64 0)), (.sc (.int .i64 0))] 0 [], none, false⟩,
 ⟨8, .mv (.t 0), none, false⟩,
 ⟨9, .nc (.t 8), none, false⟩,
 ⟨10, .fa 8 (.t 9), none, false⟩,
 ⟨11, .ld 1 false (.t 10), none, false⟩,
 ⟨12, .ap 29 4 false (.t 7) (.t 11), none, false⟩,
 ⟨13, .fa 8 (.t 3), none, false⟩,
 ⟨1, .so 1 (.t 13) (.t 12), none, true⟩])
 (.seq
 (.reg false [⟨14, .ld 9 true (.t 3), none, false⟩,
 ⟨1, .so 9 (.t 2) (.t 14), none, true⟩])
 .ret))))⟩
attribute [simp] i111
set_option maxRecDepth 1000000 in
theorem c111 : cFn Try.prog 111 [[]] = some i111 := by kernel_rfl
theorem e111 : enterOk Try.prog 111 = true := by kernel_rfl
def i113 : Ev.Fn := ⟨1, 8, [.cell 2 9 true],
 (.seq
 (.reg false [⟨1, .bx (.t 0), none, false⟩,
 ⟨2, .al [(.sc (.string ⟨#[]⟩)), (.sc (.string ⟨#[]⟩)), (.sc (.int .i64 0)), (.sc (.string ⟨#[]⟩)), (.sc (.int .i64 0)), (.sc (.int .i64 0)), (.sc (.int .i64 0)), (.sc (.int .i64 0)), .nl], none, false⟩])
 (.seq
 (.reg false [⟨3, .fa 8 (.t 1), none, false⟩,
 ⟨4, .ld 1 false (.t 3), none, false⟩,
 ⟨5, .ca (.k (.cl 197 [])) [(.t 4)], none, false⟩,
 ⟨6, .fa 8 (.t 1), none, false⟩,
 ⟨1, .so 1 (.t 6) (.t 5), none, true⟩])
 (.seq
 (.reg false [⟨7, .ld 9 true (.t 1), none, false⟩,
 ⟨1, .so 9 (.t 2) (.t 7), none, true⟩])
 .ret)))⟩
attribute [simp] i113
set_option maxRecDepth 1000000 in
theorem c113 : cFn Try.prog 113 [[]] = some i113 := by kernel_rfl
theorem e113 : enterOk Try.prog 113 = true := by kernel_rfl
def i162 : Ev.Fn := ⟨3, 15, [.tmp 6],
 (.seq
 (.reg false [⟨6, .mv (.k (.sc (.bool false))), none, false⟩])
 (.seq
 (.reg false [⟨7, .mv (.t 0), none, false⟩,
 ⟨8, .mv (.t 1), none, false⟩,
 ⟨9, .ar .geq false (.t 7) (.t 8), none, false⟩,
 ⟨10, .mv (.t 9), none, false⟩,
 ⟨11, .mv (.t 0), (some (10, true)), false⟩,
 ⟨12, .mv (.t 2), (some (10, true)), false⟩,
 ⟨13, .ar .leq false (.t 11) (.t 12), (some (10, true)), false⟩,
 ⟨14, .pk (.t 10) (.t 13) (.k (.sc (.bool false))), none, false⟩,
 ⟨6, .mv (.t 14), none, false⟩])
 .ret))⟩
attribute [simp] i162
set_option maxRecDepth 1000000 in
theorem c162 : cFn Try.prog 162 [[]] = some i162 := by kernel_rfl
theorem e162 : enterOk Try.prog 162 = true := by kernel_rfl
def i165 : Ev.Fn := ⟨3, 15, [.tmp 6],
 (.seq
 (.reg false [⟨6, .mv (.k (.sc (.bool false))), none, false⟩])
 (.seq
 (.reg false [⟨7, .mv (.t 0), none, false⟩,
 ⟨8, .mv (.t 1), none, false⟩,
 ⟨9, .ar .geq false (.t 7) (.t 8), none, false⟩,
 ⟨10, .mv (.t 9), none, false⟩,
 ⟨11, .mv (.t 0), (some (10, true)), false⟩,
 ⟨12, .mv (.t 2), (some (10, true)), false⟩,
 ⟨13, .ar .leq false (.t 11) (.t 12), (some (10, true)), false⟩,
 ⟨14, .pk (.t 10) (.t 13) (.k (.sc (.bool false))), none, false⟩,
 ⟨6, .mv (.t 14), none, false⟩])
 .ret))⟩
attribute [simp] i165
set_option maxRecDepth 1000000 in
theorem c165 : cFn Try.prog 165 [[]] = some i165 := by kernel_rfl
theorem e165 : enterOk Try.prog 165 = true := by kernel_rfl
def w168_1 : IC :=
(.seq
 (.seq
 (.reg false [⟨17, .mv (.t 3), none, false⟩,
 ⟨18, .mv (.t 0), none, false⟩,
 ⟨19, .ln true (.t 18), none, false⟩,
 ⟨20, .ar .lss false (.t 17) (.t 19), none, false⟩])
 (.ite (.t 20)
 .skip
 (.exit 0)))
 (.seq
 (.block 1
 (.seq
 (.reg false [⟨23, .mv (.t 0), none, false⟩,
 ⟨24, .mv (.t 3), none, false⟩,
 ⟨25, .ix (.t 23) (.t 24), none, false⟩,
 ⟨26, .ca (.k (.cl 246 [])) [(.t 25)], none, false⟩,
 ⟨27, .nt (.t 26), none, false⟩,
 ⟨28, .mv (.t 27), none, false⟩,
 ⟨29, .mv (.t 0), (some (28, true)), false⟩,
 ⟨30, .mv (.t 3), (some (28, true)), false⟩,
 ⟨31, .ix (.t 29) (.t 30), (some (28, true)), false⟩,
 ⟨32, .ca (.k (.cl 247 [])) [(.t 31)], (some (28, true)), false⟩,
 ⟨33, .nt (.t 32), (some (28, true)), false⟩,
 ⟨34, .pk (.t 28) (.t 33) (.k (.sc (.bool false))), none, false⟩])
 (.ite (.t 34)
 (.seq
 (.reg false [⟨2, .mv (.k (.sc (.bool false))), none, false⟩])
 .ret)
 .skip)))
 (.reg false [⟨21, .mv (.t 3), none, false⟩,
 ⟨22, .ar .add false (.t 21) (.k (.sc (.int .i64 1))), none, false⟩,
 ⟨3, .mv (.t 22), none, false⟩])))
def b168_1 : IC := w168_1
theorem u168_1 (call : CallF) (st : St) : evC call b168_1 st = evC call w168_1 st := rfl
attribute [simp] u168_1 w168_1
def i168 : Ev.Fn := ⟨1, 35, [.tmp 2],
 (.seq
 (.reg false [⟨2, .mv (.k (.sc (.bool false))), none, false⟩])
 (.seq
 (.seq
 (.reg false [⟨4, .mv (.t 0), none, false⟩,
 ⟨5, .ar .eql false (.t 4) (.k (.sc (.string ⟨#[]⟩))), none, false⟩,
 ⟨6, .mv (.t 5), none, false⟩,
 ⟨7, .mv (.t 0), (some (6, false)), false⟩,
 ⟨8, .ln true (.t 7), (some (6, false)), false⟩,
 ⟨9, .ar .gtr false (.t 8) (.k (.sc (.int .i64 10))), (some (6, false)), false⟩,
 ⟨10, .pk (.t 6) (.k (.sc (.bool true))) (.t 9), none, false⟩,
 ⟨11, .mv (.t 10), none, false⟩,
 ⟨12, .mv (.t 0), (some (11, false)), false⟩,
 ⟨13, .ix (.t 12) (.k (.sc (.int .i64 0))), (some (11, false)), false⟩,
 ⟨14, .ca (.k (.cl 246 [])) [(.t 13)], (some (11, false)), false⟩,
 ⟨15, .nt (.t 14), (some (11, false)), false⟩,
 ⟨16, .pk (.t 11) (.k (.sc (.bool true))) (.t 15), none, false⟩])
 (.ite (.t 16)
 (.seq
 (.reg false [⟨2, .mv (.k (.sc (.bool false))), none, false⟩])
 .ret)
 .skip))
 (.seq
 (.seq
 (.reg false [⟨3, .mv (.k (.sc (.int .i64 0))), none, false⟩])
 (.cln [] [2]
 (.block 0
 (.loop [0, 3] b168_1))))
 (.seq
 (.reg false [⟨2, .mv (.k (.sc (.bool true))), none, false⟩])
 .ret))))⟩
attribute [simp] i168
set_option maxRecDepth 1000000 in
theorem c168 : cFn Try.prog 168 [[], [0, 3], [], [2]] = some i168 := by kernel_rfl
theorem e168 : enterOk Try.prog 168 = true := by kernel_rfl
def i169 : Ev.Fn := ⟨1, 42, [.tmp 2],
 (.seq
 (.reg false [⟨2, .mv (.k (.sc (.bool false))), none, false⟩])
 (.seq
 (.reg false [⟨5, .mv (.t 0), none, false⟩,
 ⟨6, .nc (.t 5), none, false⟩,
 ⟨7, .fa 0 (.t 6), none, false⟩,
 ⟨8, .ld 1 false (.t 7), none, false⟩,
 ⟨9, .ca (.k (.cl 248 [])) [(.t 8)], none, false⟩,
 ⟨3, .mv (.t 9), none, false⟩])
 (.seq
 (.seq
 (.reg false [⟨10, .mv (.t 3), none, false⟩,
 ⟨11, .ar .lss false (.t 10) (.k (.sc (.int .i64 0))), none, false⟩,
 ⟨12, .mv (.t 11), none, false⟩,
 ⟨13, .mv (.t 0), (some (12, false)), false⟩,
 ⟨14, .nc (.t 13), (some (12, false)), false⟩,
 ⟨15, .fa 1 (.t 14), (some (12, false)), false⟩,
 ⟨16, .ld 1 false (.t 15), (some (12, false)), false⟩,
 ⟨17, .ca (.k (.cl 162 [])) [(.t 16), (.k (.sc (.int .i64 0))), (.k (.sc (.int .i64 100)))], (some (12, false)), false⟩,
 ⟨18, .nt (.t 17), (some (12, false)), false⟩,
 ⟨19, .pk (.t 12) (.k (.sc (.bool true))) (.t 18), none, false⟩])
 (.ite (.t 19)
 (.seq
 (.reg false [⟨2, .mv (.k (.sc (.bool false))), none, false⟩])
 .ret)
 .skip))
 (.seq
 (.reg false [⟨20, .ca (.k (.cl 249 [])) [], none, false⟩,
 ⟨21, .mv (.t 3), none, false⟩,
 ⟨22, .ia 1 (.t 20) (.t 21), none, false⟩,
 ⟨23, .ld 1 false (.t 22), none, false⟩,
 ⟨24, .ia 1 (.t 23) (.k (.sc (.int .i64 0))), none, false⟩,
 ⟨25, .ld 1 false (.t 24), none, false⟩,
 ⟨4, .mv (.t 25), none, false⟩])
 (.seq
 (.reg false [⟨26, .mv (.t 0), none, false⟩,
 ⟨27, .nc (.t 26), none, false⟩,
 ⟨28, .fa 1 (.t 27), none, false⟩,
 ⟨29, .ld 1 false (.t 28), none, false⟩,
 ⟨30, .mv (.t 4), none, false⟩,
 ⟨31, .ar .sub false (.t 30) (.k (.sc (.int .i64 15))), none, false⟩,
 ⟨32, .mv (.t 4), none, false⟩,
 ⟨33, .ar .add false (.t 32) (.k (.sc (.int .i64 15))), none, false⟩,
 ⟨34, .ca (.k (.cl 162 [])) [(.t 29), (.t 31), (.t 33)], none, false⟩,
 ⟨35, .mv (.t 34), none, false⟩,
 ⟨36, .mv (.t 0), (some (35, true)), false⟩,
 ⟨37, .nc (.t 36), (some (35, true)), false⟩,
 ⟨38, .fa 2 (.t 37), (some (35, true)), false⟩,
 ⟨39, .ld 1 false (.t 38), (some (35, true)), false⟩,
 ⟨40, .ca (.k (.cl 250 [])) [(.t 39)], (some (35, true)), false⟩,
 ⟨41, .pk (.t 35) (.t 40) (.k (.sc (.bool false))), none, false⟩,
 ⟨2, .mv (.t 41), none, false⟩])
 .ret)))))⟩
attribute [simp] i169
set_option maxRecDepth 1000000 in
theorem c169 : cFn Try.prog 169 [[]] = some i169 := by kernel_rfl
theorem e169 : enterOk Try.prog 169 = true := by kernel_rfl
def i170 : Ev.Fn := ⟨3, 47, [.tmp 6],
 (.seq
 (.reg false [⟨6, .mv (.k (.sc (.bool false))), none, false⟩])
 (.seq
 (.reg true [⟨7, .mv (.t 0), none, false⟩,
 ⟨8, .nc (.t 7), none, false⟩,
 ⟨9, .fa 0 (.t 8), none, false⟩,
 ⟨10, .ld 1 false (.t 9), none, false⟩,
 ⟨11, .mv (.t 1), none, false⟩,
 ⟨12, .ca (.k (.cl 162 [])) [(.t 10), (.k (.sc (.int .i64 0))), (.t 11)], none, false⟩,
 ⟨13, .mv (.t 12), none, false⟩,
 ⟨14, .mv (.t 0), (some (13, true)), false⟩,
 ⟨15, .nc (.t 14), (some (13, true)), false⟩,
 ⟨16, .fa 1 (.t 15), (some (13, true)), false⟩,
 ⟨17, .ld 1 false (.t 16), (some (13, true)), false⟩,
 ⟨18, .mv (.t 2), (some (13, true)), false⟩,
 ⟨19, .ca (.k (.cl 162 [])) [(.t 17), (.k (.sc (.int .i64 0))), (.t 18)], (some (13, true)), false⟩,
 ⟨20, .pk (.t 13) (.t 19) (.k (.sc (.bool false))), none, false⟩,
 ⟨21, .mv (.t 20), none, false⟩,
 ⟨22, .mv (.t 0), (some (21, true)), false⟩,
 ⟨23, .nc (.t 22), (some (21, true)), false⟩,
 ⟨24, .fa 2 (.t 23), (some (21, true)), false⟩,
 ⟨25, .ld 1 false (.t 24), (some (21, true)), false⟩,
 ⟨26, .mv (.t 1), (some (21, true)), false⟩,
 ⟨27, .mv (.t 0), (some (21, true)), false⟩,
 ⟨28, .nc (.t 27), (some (21, true)), false⟩,
 ⟨29, .fa 0 (.t 28), (some (21, true)), false⟩,
 ⟨30, .ld 1 false (.t 29), (some (21, true)), false⟩,
 ⟨31, .ar .sub false (.t 26) (.t 30), (some (21, true)), false⟩,
 ⟨32, .ca (.k (.cl 162 [])) [(.t 25), (.k (.sc (.int .i64 1))), (.t 31)], (some (21, true)), false⟩,
 ⟨33, .pk (.t 21) (.t 32) (.k (.sc (.bool false))), none, false⟩,
 ⟨34, .mv (.t 33), none, false⟩,
 ⟨35, .mv (.t 0), (some (34, true)), false⟩,
 ⟨36, .nc (.t 35), (some (34, true)), false⟩,
 ⟨37, .fa 3 (.t 36), (some (34, true)), false⟩,
 ⟨38, .ld 1 false (.t 37), (some (34, true)), false⟩,
 ⟨39, .mv (.t 2), (some (34, true)), false⟩,
 ⟨40, .mv (.t 0), (some (34, true)), false⟩,
 ⟨41, .nc (.t 40), (some (34, true)), false⟩,
 ⟨42, .fa 1 (.t 41), (some (34, true)), false⟩,
 ⟨43, .ld 1 false (.t 42), (some (34, true)), false⟩,
 ⟨44, .ar .sub false (.t 39) (.t 43), (some (34, true)), false⟩,
 ⟨45, .ca (.k (.cl 162 [])) [(.t 38), (.k (.sc (.int .i64 1))), (.t 44)], (some (34, true)), false⟩,
 ⟨46, .pk (.t 34) (.t 45) (.k (.sc (.bool false))), none, false⟩,
 ⟨6, .mv (.t 46), none, false⟩])
 .ret))⟩
attribute [simp] i170
set_option maxRecDepth 1000000 in
theorem c170 : cFn Try.prog 170 [[]] = some i170 := by kernel_rfl
theorem e170 : enterOk Try.prog 170 = true := by kernel_rfl
def i174 : Ev.Fn := ⟨1, 17, [.cell 2 4 true],
 (.seq
 (.reg false [⟨1, .bx (.t 0), none, false⟩,
 ⟨2, .al [(.sc (.int .i64 0)), (.sc (.int .i64 0)), (.sc (.int .i64 0)), (.sc (.int .i64 0))], none, false⟩])
 (.seq
 (.reg false [⟨3, .al [(.sc (.int .i64 0)), (.sc (.int .i64 0)), (.sc (.int .i64 0)), (.sc (.int .i64 0))], none, false⟩])
 (.seq
 (.reg false [⟨4, .fa 0 (.t 1), none, false⟩,
 ⟨5, .ld 1 false (.t 4), none, false⟩,
 ⟨6, .fa 0 (.t 3), none, false⟩,
 ⟨1, .so 1 (.t 6) (.t 5), none, true⟩])
 (.seq
 (.reg false [⟨7, .fa 1 (.t 1), none, false⟩,
 ⟨8, .ld 1 false (.t 7), none, false⟩,
 ⟨9, .fa 1 (.t 3), none, false⟩,
 ⟨1, .so 1 (.t 9) (.t 8), none, true⟩])
 (.seq
 (.reg false [⟨10, .fa 2 (.t 1), none, false⟩,
 ⟨11, .ld 1 false (.t 10), none, false⟩,
 ⟨12, .fa 2 (.t 3), none, false⟩,
 ⟨1, .so 1 (.t 12) (.t 11), none, true⟩])
 (.seq
 (.reg false [⟨13, .fa 3 (.t 1), none, false⟩,
 ⟨14, .ld 1 false (.t 13), none, false⟩,
 ⟨15, .fa 3 (.t 3), none, false⟩,
 ⟨1, .so 1 (.t 15) (.t 14), none, true⟩])
 (.seq
 (.reg false [⟨16, .ld 4 true (.t 3), none, false⟩,
 ⟨1, .so 4 (.t 2) (.t 16), none, true⟩])
 .ret)))))))⟩
attribute [simp] i174
set_option maxRecDepth 1000000 in
theorem c174 : cFn Try.prog 174 [[]] = some i174 := by kernel_rfl
theorem e174 : enterOk Try.prog 174 = true := by kernel_rfl
def w175_1 : IC :=
(.seq
 (.seq
 (.reg false [⟨22, .mv (.t 3), none, false⟩,
 ⟨23, .mv (.t 0), none, false⟩,
 ⟨24, .ln true (.t 23), none, false⟩,
 ⟨25, .ar .lss false (.t 22) (.t 24), none, false⟩])
 (.ite (.t 25)
 .skip
 (.exit 0)))
 (.seq
 (.block 1
 (.seq
 (.reg false [⟨28, .mv (.t 0), none, false⟩,
 ⟨29, .mv (.t 3), none, false⟩,
 ⟨30, .ix (.t 28) (.t 29), none, false⟩,
 ⟨31, .ar .lss false (.t 30) (.k (.sc (.int .u8 97))), none, false⟩,
 ⟨32, .mv (.t 31), none, false⟩,
 ⟨33, .mv (.t 0), (some (32, false)), false⟩,
 ⟨34, .mv (.t 3), (some (32, false)), false⟩,
 ⟨35, .ix (.t 33) (.t 34), (some (32, false)), false⟩,
 ⟨36, .ar .gtr false (.t 35) (.k (.sc (.int .u8 122))), (some (32, false)), false⟩,
 ⟨37, .pk (.t 32) (.k (.sc (.bool true))) (.t 36), none, false⟩,
 ⟨38, .mv (.t 37), none, false⟩,
 ⟨39, .mv (.t 0), (some (38, true)), false⟩,
 ⟨40, .mv (.t 3), (some (38, true)), false⟩,
 ⟨41, .ix (.t 39) (.t 40), (some (38, true)), false⟩,
 ⟨42, .ar .lss false (.t 41) (.k (.sc (.int .u8 48))), (some (38, true)), false⟩,
 ⟨43, .mv (.t 42), (some (38, true)), false⟩,
 ⟨44, .mv (.t 0), (some (43, false)), false⟩,
 ⟨45, .mv (.t 3), (some (43, false)), false⟩,
 ⟨46, .ix (.t 44) (.t 45), (some (43, false)), false⟩,
 ⟨47, .ar .gtr false (.t 46) (.k (.sc (.int .u8 57))), (some (43, false)), false⟩,
 ⟨48, .pk (.t 43) (.k (.sc (.bool true))) (.t 47), (some (38, true)), false⟩,
 ⟨49, .pk (.t 38) (.t 48) (.k (.sc (.bool false))), none, false⟩])
 (.ite (.t 49)
 (.seq
 (.reg false [⟨2, .mv (.k (.sc (.bool false))), none, false⟩])
 .ret)
 .skip)))
 (.reg false [⟨26, .mv (.t 3), none, false⟩,
 ⟨27, .ar .add false (.t 26) (.k (.sc (.int .i64 1))), none, false⟩,
 ⟨3, .mv (.t 27), none, false⟩])))
def b175_1 : IC := w175_1
theorem u175_1 (call : CallF) (st : St) : evC call b175_1 st = evC call w175_1 st := rfl
attribute [simp] u175_1 w175_1
def i175 : Ev.Fn := ⟨1, 50, [.tmp 2],
 (.seq
 (.reg false [⟨2, .mv (.k (.sc (.bool false))), none, false⟩])
 (.seq
 (.seq
 (.reg false [⟨4, .mv (.t 0), none, false⟩,
 ⟨5, .ln true (.t 4), none, false⟩,
 ⟨6, .ar .lss false (.t 5) (.k (.sc (.int .i64 1))), none, false⟩,
 ⟨7, .mv (.t 6), none, false⟩,
 ⟨8, .mv (.t 0), (some (7, false)), false⟩,
 ⟨9, .ln true (.t 8), (some (7, false)), false⟩,
 ⟨10, .ar .gtr false (.t 9) (.k (.sc (.int .i64 10))), (some (7, false)), false⟩,
 ⟨11, .pk (.t 7) (.k (.sc (.bool true))) (.t 10), none, false⟩,
 ⟨12, .mv (.t 11), none, false⟩,
 ⟨13, .mv (.t 0), (some (12, false)), false⟩,
 ⟨14, .ix (.t 13) (.k (.sc (.int .i64 0))), (some (12, false)), false⟩,
 ⟨15, .ar .lss false (.t 14) (.k (.sc (.int .u8 97))), (some (12, false)), false⟩,
 ⟨16, .pk (.t 12) (.k (.sc (.bool true))) (.t 15), none, false⟩,
 ⟨17, .mv (.t 16), none, false⟩,
 ⟨18, .mv (.t 0), (some (17, false)), false⟩,
 ⟨19, .ix (.t 18) (.k (.sc (.int .i64 0))), (some (17, false)), false⟩,
 ⟨20, .ar .gtr false (.t 19) (.k (.sc (.int .u8 122))), (some (17, false)), false⟩,
 ⟨21, .pk (.t 17) (.k (.sc (.bool true))) (.t 20), none, false⟩])
 (.ite (.t 21)
 (.seq
 (.reg false [⟨2, .mv (.k (.sc (.bool false))), none, false⟩])
 .ret)
 .skip))
 (.seq
 (.seq
 (.reg false [⟨3, .mv (.k (.sc (.int .i64 0))), none, false⟩])
 (.cln [] [2]
 (.block 0
 (.loop [0, 3] b175_1))))
 (.seq
 (.reg false [⟨2, .mv (.k (.sc (.bool true))), none, false⟩])
 .ret))))⟩
attribute [simp] i175
set_option maxRecDepth 1000000 in
theorem c175 : cFn Try.prog 175 [[], [0, 3], [], [2]] = some i175 := by kernel_rfl
theorem e175 : enterOk Try.prog 175 = true := by kernel_rfl
def i176 : Ev.Fn := ⟨1, 29, [.tmp 2],
 (.seq
 (.reg false [⟨1, .bx (.t 0), none, false⟩,
 ⟨2, .mv (.k (.sc (.bool false))), none, false⟩])
 (.seq
 (.reg false [⟨6, .fa 0 (.t 1), none, false⟩,
 ⟨7, .ld 1 false (.t 6), none, false⟩,
 ⟨8, .ca (.k (.cl 252 [])) [(.t 7)], none, false⟩,
 ⟨5, .mv (.t 8), none, false⟩,
 ⟨9, .xt (.t 5) 0, none, false⟩,
 ⟨10, .xt (.t 5) 1, none, false⟩,
 ⟨3, .mv (.t 9), none, false⟩,
 ⟨4, .mv (.t 10), none, false⟩])
 (.seq
 (.reg false [⟨11, .mv (.t 4), none, false⟩,
 ⟨12, .mv (.t 11), none, false⟩,
 ⟨13, .fa 1 (.t 1), (some (12, true)), false⟩,
 ⟨14, .ld 1 false (.t 13), (some (12, true)), false⟩,
 ⟨15, .ca (.k (.cl 165 [])) [(.t 14), (.k (.sc (.int .i64 0))), (.k (.sc (.int .i64 100)))], (some (12, true)), false⟩,
 ⟨16, .pk (.t 12) (.t 15) (.k (.sc (.bool false))), none, false⟩,
 ⟨17, .mv (.t 16), none, false⟩,
 ⟨18, .fa 1 (.t 1), (some (17, true)), false⟩,
 ⟨19, .ld 1 false (.t 18), (some (17, true)), false⟩,
 ⟨20, .mv (.t 3), (some (17, true)), false⟩,
 ⟨21, .ar .sub false (.t 19) (.t 20), (some (17, true)), false⟩,
 ⟨22, .ca (.k (.cl 165 [])) [(.t 21), (.k (.sc (.int .i64 (-15)))), (.k (.sc (.int .i64 15)))], (some (17, true)), false⟩,
 ⟨23, .pk (.t 17) (.t 22) (.k (.sc (.bool false))), none, false⟩,
 ⟨24, .mv (.t 23), none, false⟩,
 ⟨25, .fa 2 (.t 1), (some (24, true)), false⟩,
 ⟨26, .ld 1 false (.t 25), (some (24, true)), false⟩,
 ⟨27, .ca (.k (.cl 165 [])) [(.t 26), (.k (.sc (.int .i64 0))), (.k (.sc (.int .i64 179)))], (some (24, true)), false⟩,
 ⟨28, .pk (.t 24) (.t 27) (.k (.sc (.bool false))), none, false⟩,
 ⟨2, .mv (.t 28), none, false⟩])
 .ret)))⟩
attribute [simp] i176
set_option maxRecDepth 1000000 in
theorem c176 : cFn Try.prog 176 [[]] = some i176 := by kernel_rfl
theorem e176 : enterOk Try.prog 176 = true := by kernel_rfl
def i177 : Ev.Fn := ⟨2, 11, [.tmp 3],
 (.seq
 (.reg false [⟨2, .bx (.t 0), none, false⟩,
 ⟨3, .mv (.k (.sc (.bool false))), none, false⟩])
 (.seq
 (.reg false [⟨4, .ld 4 true (.t 2), none, false⟩,
 ⟨5, .fa 6 (.t 1), none, false⟩,
 ⟨6, .ld 1 false (.t 5), none, false⟩,
 ⟨7, .fa 7 (.t 1), none, false⟩,
 ⟨8, .ld 1 false (.t 7), none, false⟩,
 ⟨9, .ca (.k (.cl 178 [])) [(.t 4), (.t 6), (.t 8)], none, false⟩,
 ⟨10, .nt (.t 9), none, false⟩,
 ⟨3, .mv (.t 10), none, false⟩])
 .ret))⟩
attribute [simp] i177
set_option maxRecDepth 1000000 in
theorem c177 : cFn Try.prog 177 [[]] = some i177 := by kernel_rfl
theorem e177 : enterOk Try.prog 177 = true := by kernel_rfl
def i178 : Ev.Fn := ⟨3, 35, [.tmp 6],
 (.seq
 (.reg false [⟨3, .bx (.t 0), none, false⟩,
 ⟨6, .mv (.k (.sc (.bool false))), none, false⟩])
 (.seq
 (.reg false [⟨7, .fa 0 (.t 3), none, false⟩,
 ⟨8, .ld 1 false (.t 7), none, false⟩,
 ⟨9, .mv (.t 1), none, false⟩,
 ⟨10, .ca (.k (.cl 165 [])) [(.t 8), (.k (.sc (.int .i64 0))), (.t 9)], none, false⟩,
 ⟨11, .mv (.t 10), none, false⟩,
 ⟨12, .fa 1 (.t 3), (some (11, true)), false⟩,
 ⟨13, .ld 1 false (.t 12), (some (11, true)), false⟩,
 ⟨14, .mv (.t 2), (some (11, true)), false⟩,
 ⟨15, .ca (.k (.cl 165 [])) [(.t 13), (.k (.sc (.int .i64 0))), (.t 14)], (some (11, true)), false⟩,
 ⟨16, .pk (.t 11) (.t 15) (.k (.sc (.bool false))), none, false⟩,
 ⟨17, .mv (.t 16), none, false⟩,
 ⟨18, .fa 2 (.t 3), (some (17, true)), false⟩,
 ⟨19, .ld 1 false (.t 18), (some (17, true)), false⟩,
 ⟨20, .mv (.t 1), (some (17, true)), false⟩,
 ⟨21, .fa 0 (.t 3), (some (17, true)), false⟩,
 ⟨22, .ld 1 false (.t 21), (some (17, true)), false⟩,
 ⟨23, .ar .sub false (.t 20) (.t 22), (some (17, true)), false⟩,
 ⟨24, .ca (.k (.cl 165 [])) [(.t 19), (.k (.sc (.int .i64 1))), (.t 23)], (some (17, true)), false⟩,
 ⟨25, .pk (.t 17) (.t 24) (.k (.sc (.bool false))), none, false⟩,
 ⟨26, .mv (.t 25), none, false⟩,
 ⟨27, .fa 3 (.t 3), (some (26, true)), false⟩,
 ⟨28, .ld 1 false (.t 27), (some (26, true)), false⟩,
 ⟨29, .mv (.t 2), (some (26, true)), false⟩,
 ⟨30, .fa 1 (.t 3), (some (26, true)), false⟩,
 ⟨31, .ld 1 false (.t 30), (some (26, true)), false⟩,
 ⟨32, .ar .sub false (.t 29) (.t 31), (some (26, true)), false⟩,
 ⟨33, .ca (.k (.cl 165 [])) [(.t 28), (.k (.sc (.int .i64 1))), (.t 32)], (some (26, true)), false⟩,
 ⟨34, .pk (.t 26) (.t 33) (.k (.sc (.bool false))), none, false⟩,
 ⟨6, .mv (.t 34), none, false⟩])
 .ret))⟩
attribute [simp] i178
set_option maxRecDepth 1000000 in
theorem c178 : cFn Try.prog 178 [[]] = some i178 := by kernel_rfl
theorem e178 : enterOk Try.prog 178 = true := by kernel_rfl
def w179_1 : IC :=
(.seq
 (.reg false [⟨9, .ar .lss false (.t 8) (.t 7), none, false⟩])
 (.seq
 (.ite (.t 9)
 .skip
 (.exit 0))
 (.seq
 (.block 1
 (.seq
 (.reg false [⟨10, .mv (.t 8), none, false⟩,
 ⟨5, .mv (.t 10), none, false⟩])
 (.seq
 (.reg false [⟨11, .mv (.t 1), none, false⟩,
 ⟨12, .mv (.t 0), none, false⟩,
 ⟨13, .mv (.t 5), none, false⟩,
 ⟨14, .ia 4 (.t 12) (.t 13), none, false⟩,
 ⟨15, .ld 4 true (.t 14), none, false⟩,
 ⟨16, .ca (.t 11) [(.t 15)], none, false⟩])
 (.ite (.t 16)
 (.seq
 (.reg false [⟨17, .mv (.t 5), none, false⟩,
 ⟨4, .mv (.t 17), none, false⟩])
 .ret)
 .skip))))
 (.reg false [⟨18, .ar .add false (.t 8) (.k (.sc (.int .i64 1))), none, false⟩,
 ⟨8, .mv (.t 18), none, false⟩]))))
def b179_1 : IC := w179_1
theorem u179_1 (call : CallF) (st : St) : evC call b179_1 st = evC call w179_1 st := rfl
attribute [simp] u179_1 w179_1
def i179 : Ev.Fn := ⟨2, 19, [.tmp 4],
 (.seq
 (.reg false [⟨4, .mv (.k (.sc (.int .i64 0))), none, false⟩])
 (.seq
 (.seq
 (.reg false [⟨6, .mv (.t 0), none, false⟩,
 ⟨7, .ln false (.t 6), none, false⟩,
 ⟨8, .mv (.k (.sc (.int .i64 0))), none, false⟩])
 (.cln [] [4]
 (.block 0
 (.loop [0, 1, 7, 8] b179_1))))
 (.seq
 (.reg false [⟨4, .mv (.k (.sc (.int .i64 (-1)))), none, false⟩])
 .ret)))⟩
attribute [simp] i179
set_option maxRecDepth 1000000 in
theorem c179 : cFn Try.prog 179 [[], [0, 1, 7, 8], [], [4]] = some i179 := by kernel_rfl
theorem e179 : enterOk Try.prog 179 = true := by kernel_rfl
def w192_1 : IC :=
(.seq
 (.seq
 (.reg false [⟨15, .mv (.t 9), none, false⟩,
 ⟨16, .mv (.t 10), none, false⟩,
 ⟨17, .ar .lss false (.t 15) (.t 16), none, false⟩])
 (.ite (.t 17)
 .skip
 (.exit 0)))
 (.block 1
 (.seq
 (.reg false [⟨18, .mv (.t 9), none, false⟩,
 ⟨19, .mv (.t 10), none, false⟩,
 ⟨20, .ar .add false (.t 18) (.t 19), none, false⟩,
 ⟨21, .cv .u64 (.t 20), none, false⟩,
 ⟨22, .ar .shr false (.t 21) (.k (.sc (.int .u64 1))), none, false⟩,
 ⟨23, .cv .i64 (.t 22), none, false⟩,
 ⟨11, .mv (.t 23), none, false⟩])
 (.seq
 (.reg false [⟨24, .mv (.t 2), none, false⟩,
 ⟨25, .mv (.t 0), none, false⟩,
 ⟨26, .mv (.t 11), none, false⟩,
 ⟨27, .ia 9 (.t 25) (.t 26), none, false⟩,
 ⟨28, .ld 9 true (.t 27), none, false⟩,
 ⟨29, .mv (.t 1), none, false⟩,
 ⟨30, .ca (.t 24) [(.t 28), (.t 29)], none, false⟩,
 ⟨31, .ar .lss false (.t 30) (.k (.sc (.int .i64 0))), none, false⟩])
 (.ite (.t 31)
 (.reg false [⟨32, .mv (.t 11), none, false⟩,
 ⟨33, .ar .add false (.t 32) (.k (.sc (.int .i64 1))), none, false⟩,
 ⟨9, .mv (.t 33), none, false⟩])
 (.reg false [⟨34, .mv (.t 11), none, false⟩,
 ⟨10, .mv (.t 34), none, false⟩]))))))
def b192_1 : IC := w192_1
theorem u192_1 (call : CallF) (st : St) : evC call b192_1 st = evC call w192_1 st := rfl
attribute [simp] u192_1 w192_1
def i192 : Ev.Fn := ⟨3, 49, [.tmp 6, .tmp 7],
 (.seq
 (.reg false [⟨6, .mv (.k (.sc (.int .i64 0))), none, false⟩,
 ⟨7, .mv (.k (.sc (.bool false))), none, false⟩])
 (.seq
 (.reg false [⟨12, .mv (.t 0), none, false⟩,
 ⟨13, .ln false (.t 12), none, false⟩,
 ⟨8, .mv (.t 13), none, false⟩])
 (.seq
 (.reg false [⟨14, .mv (.t 8), none, false⟩,
 ⟨9, .mv (.k (.sc (.int .i64 0))), none, false⟩,
 ⟨10, .mv (.t 14), none, false⟩])
 (.seq
 (.cln [0, 1, 2, 8, 9] [6, 7]
 (.block 0
 (.loop [0, 1, 2, 8, 9, 10] b192_1)))
 (.seq
 (.reg false [⟨35, .mv (.t 9), none, false⟩,
 ⟨36, .mv (.t 9), none, false⟩,
 ⟨37, .mv (.t 8), none, false⟩,
 ⟨38, .ar .lss false (.t 36) (.t 37), none, false⟩,
 ⟨39, .mv (.t 38), none, false⟩,
 ⟨40, .mv (.t 2), (some (39, true)), false⟩,
 ⟨41, .mv (.t 0), (some (39, true)), false⟩,
 ⟨42, .mv (.t 9), (some (39, true)), false⟩,
 ⟨43, .ia 9 (.t 41) (.t 42), (some (39, true)), false⟩,
 ⟨44, .ld 9 true (.t 43), (some (39, true)), false⟩,
 ⟨45, .mv (.t 1), (some (39, true)), false⟩,
 ⟨46, .ca (.t 40) [(.t 44), (.t 45)], (some (39, true)), false⟩,
 ⟨47, .ar .eql false (.t 46) (.k (.sc (.int .i64 0))), (some (39, true)), false⟩,
 ⟨48, .pk (.t 39) (.t 47) (.k (.sc (.bool false))), none, false⟩,
 ⟨6, .mv (.t 35), none, false⟩,
 ⟨7, .mv (.t 48), none, false⟩])
 .ret)))))⟩
attribute [simp] i192
set_option maxRecDepth 1000000 in
theorem c192 : cFn Try.prog 192 [[], [0, 1, 2, 8, 9, 10], [0, 1, 2, 8, 9], [6, 7]] = some i192 := by kernel_rfl
theorem e192 : enterOk Try.prog 192 = true := by kernel_rfl
def i193 : Ev.Fn := ⟨2, 9, [.tmp 4],
 (.seq
 (.reg false [⟨2, .bx (.t 0), none, false⟩,
 ⟨4, .mv (.k (.sc (.int .i64 0))), none, false⟩])
 (.seq
 (.reg false [⟨5, .fa 0 (.t 2), none, false⟩,
 ⟨6, .ld 1 false (.t 5), none, false⟩,
 ⟨7, .mv (.t 1), none, false⟩,
 ⟨8, .ca (.k (.cl 194 [])) [(.t 6), (.t 7)], none, false⟩,
 ⟨4, .mv (.t 8), none, false⟩])
 .ret))⟩
attribute [simp] i193
set_option maxRecDepth 1000000 in
theorem c193 : cFn Try.prog 193 [[]] = some i193 := by kernel_rfl
theorem e193 : enterOk Try.prog 193 = true := by kernel_rfl
def i197 : Ev.Fn := ⟨1, 8, [.tmp 2],
 (.seq
 (.reg false [⟨2, .mv (.k .nl), none, false⟩])
 (.seq
 (.seq
 (.reg false [⟨3, .mv (.t 0), none, false⟩,
 ⟨4, .isn false (.t 3), none, false⟩])
 (.ite (.t 4)
 (.seq
 (.reg false [⟨2, .mv (.k .nl), none, false⟩])
 .ret)
 .skip))
 (.seq
 (.reg false [⟨5, .bs 29 4 [(.sc (.int .i64 0)), (.sc (.int .i64 0)), (.sc (.int .i64 0)), (.sc (.int .i64 0))] 0 [], none, false⟩,
 ⟨6, .mv (.t 0), none, false⟩,
 ⟨7, .ap 29 4 false (.t 5) (.t 6), none, false⟩,
 ⟨2, .mv (.t 7), none, false⟩])
 .ret)))⟩
attribute [simp] i197
set_option maxRecDepth 1000000 in
theorem c197 : cFn Try.prog 197 [[]] = some i197 := by kernel_rfl
theorem e197 : enterOk Try.prog 197 = true := by kernel_rfl
def i246 : Ev.Fn := ⟨1, 9, [.tmp 2],
 (.seq
 (.reg false [⟨2, .mv (.k (.sc (.bool false))), none, false⟩])
 (.seq
 (.reg false [⟨3, .mv (.t 0), none, false⟩,
 ⟨4, .ar .geq false (.t 3) (.k (.sc (.int .u8 97))), none, false⟩,
 ⟨5, .mv (.t 4), none, false⟩,
 ⟨6, .mv (.t 0), (some (5, true)), false⟩,
 ⟨7, .ar .leq false (.t 6) (.k (.sc (.int .u8 122))), (some (5, true)), false⟩,
 ⟨8, .pk (.t 5) (.t 7) (.k (.sc (.bool false))), none, false⟩,
 ⟨2, .mv (.t 8), none, false⟩])
 .ret))⟩
attribute [simp] i246
set_option maxRecDepth 1000000 in
theorem c246 : cFn Try.prog 246 [[]] = some i246 := by kernel_rfl
theorem e246 : enterOk Try.prog 246 = true := by kernel_rfl
def i247 : Ev.Fn := ⟨1, 9, [.tmp 2],
 (.seq
 (.reg false [⟨2, .mv (.k (.sc (.bool false))), none, false⟩])
 (.seq
 (.reg false [⟨3, .mv (.t 0), none, false⟩,
 ⟨4, .ar .geq false (.t 3) (.k (.sc (.int .u8 48))), none, false⟩,
 ⟨5, .mv (.t 4), none, false⟩,
 ⟨6, .mv (.t 0), (some (5, true)), false⟩,
 ⟨7, .ar .leq false (.t 6) (.k (.sc (.int .u8 57))), (some (5, true)), false⟩,
 ⟨8, .pk (.t 5) (.t 7) (.k (.sc (.bool false))), none, false⟩,
 ⟨2, .mv (.t 8), none, false⟩])
 .ret))⟩
attribute [simp] i247
set_option maxRecDepth 1000000 in
theorem c247 : cFn Try.prog 247 [[]] = some i247 := by kernel_rfl
theorem e247 : enterOk Try.prog 247 = true := by kernel_rfl
def w248_1 : IC :=
(.seq
 (.seq
 (.reg false [⟨6, .mv (.t 4), none, false⟩,
 ⟨7, .mv (.t 3), none, false⟩,
 ⟨8, .ln false (.t 7), none, false⟩,
 ⟨9, .ar .lss false (.t 6) (.t 8), none, false⟩])
 (.ite (.t 9)
 .skip
 (.exit 0)))
 (.seq
 (.block 1
 (.seq
 (.reg false [⟨12, .mv (.t 3), none, false⟩,
 ⟨13, .mv (.t 4), none, false⟩,
 ⟨14, .ia 1 (.t 12) (.t 13), none, false⟩,
 ⟨15, .ld 1 false (.t 14), none, false⟩,
 ⟨16, .mv (.t 0), none, false⟩,
 ⟨17, .ar .eql false (.t 15) (.t 16), none, false⟩])
 (.ite (.t 17)
 (.seq
 (.reg false [⟨18, .mv (.t 4), none, false⟩,
 ⟨2, .mv (.t 18), none, false⟩])
 .ret)
 .skip)))
 (.reg false [⟨10, .mv (.t 4), none, false⟩,
 ⟨11, .ar .add false (.t 10) (.k (.sc (.int .i64 1))), none, false⟩,
 ⟨4, .mv (.t 11), none, false⟩])))
def b248_1 : IC := w248_1
theorem u248_1 (call : CallF) (st : St) : evC call b248_1 st = evC call w248_1 st := rfl
attribute [simp] u248_1 w248_1
def i248 : Ev.Fn := ⟨1, 19, [.tmp 2],
 (.seq
 (.reg false [⟨2, .mv (.k (.sc (.int .i64 0))), none, false⟩])
 (.seq
 (.reg false [⟨5, .ca (.k (.cl 292 [])) [], none, false⟩,
 ⟨3, .mv (.t 5), none, false⟩])
 (.seq
 (.seq
 (.reg false [⟨4, .mv (.k (.sc (.int .i64 0))), none, false⟩])
 (.cln [] [2]
 (.block 0
 (.loop [0, 3, 4] b248_1))))
 (.seq
 (.reg false [⟨2, .mv (.k (.sc (.int .i64 (-1)))), none, false⟩])
 .ret))))⟩
attribute [simp] i248
set_option maxRecDepth 1000000 in
theorem c248 : cFn Try.prog 248 [[], [0, 3, 4], [], [2]] = some i248 := by kernel_rfl
theorem e248 : enterOk Try.prog 248 = true := by kernel_rfl
def i249 : Ev.Fn := ⟨0, 12, [.tmp 0],
 (.seq
 (.reg false [⟨0, .mv (.k .nl), none, false⟩])
 (.seq
 (.reg false [⟨1, .bs 2 1 [(.sc (.int .i64 0))] 3 [(0, (.k (.sc (.int .i64 20)))), (1, (.k (.sc (.int .i64 40)))), (2, (.k (.sc (.int .i64 310))))], none, false⟩,
 ⟨2, .bs 2 1 [(.sc (.int .i64 0))] 3 [(0, (.k (.sc (.int .i64 35)))), (1, (.k (.sc (.int .i64 45)))), (2, (.k (.sc (.int .i64 410))))], none, false⟩,
 ⟨3, .bs 2 1 [(.sc (.int .i64 0))] 3 [(0, (.k (.sc (.int .i64 15)))), (1, (.k (.sc (.int .i64 33)))), (2, (.k (.sc (.int .i64 280))))], none, false⟩,
 ⟨4, .bs 2 1 [(.sc (.int .i64 0))] 3 [(0, (.k (.sc (.int .i64 50)))), (1, (.k (.sc (.int .i64 36)))), (2, (.k (.sc (.int .i64 240))))], none, false⟩,
 ⟨5, .bs 2 1 [(.sc (.int .i64 0))] 3 [(0, (.k (.sc (.int .i64 95)))), (1, (.k (.sc (.int .i64 85)))), (2, (.k (.sc (.int .i64 270))))], none, false⟩,
 ⟨6, .bs 2 1 [(.sc (.int .i64 0))] 3 [(0, (.k (.sc (.int .i64 5)))), (1, (.k (.sc (.int .i64 35)))), (2, (.k (.sc (.int .i64 370))))], none, false⟩,
 ⟨7, .bs 2 1 [(.sc (.int .i64 0))] 3 [(0, (.k (.sc (.int .i64 10)))), (1, (.k (.sc (.int .i64 42)))), (2, (.k (.sc (.int .i64 290))))], none, false⟩,
 ⟨8, .bs 2 1 [(.sc (.int .i64 0))] 3 [(0, (.k (.sc (.int .i64 40)))), (1, (.k (.sc (.int .i64 40)))), (2, (.k (.sc (.int .i64 330))))], none, false⟩,
 ⟨9, .bs 2 1 [(.sc (.int .i64 0))] 3 [(0, (.k (.sc (.int .i64 80)))), (1, (.k (.sc (.int .i64 60)))), (2, (.k (.sc (.int .i64 220))))], none, false⟩,
 ⟨10, .bs 2 1 [(.sc (.int .i64 0))] 3 [(0, (.k (.sc (.int .i64 70)))), (1, (.k (.sc (.int .i64 38)))), (2, (.k (.sc (.int .i64 260))))], none, false⟩,
 ⟨11, .bw 69 1 [.nl] 10 [(0, (.t 1)), (1, (.t 2)), (2, (.t 3)), (3, (.t 4)), (4, (.t 5)), (5, (.t 6)), (6, (.t 7)), (7, (.t 8)), (8, (.t 9)), (9, (.t 10))], none, false⟩,
 ⟨0, .mv (.t 11), none, false⟩])
 .ret))⟩
attribute [simp] i249
set_option maxRecDepth 1000000 in
theorem c249 : cFn Try.prog 249 [[]] = some i249 := by kernel_rfl
theorem e249 : enterOk Try.prog 249 = true := by kernel_rfl
def i250 : Ev.Fn := ⟨1, 5, [.tmp 2],
 (.seq
 (.reg false [⟨2, .mv (.k (.sc (.bool false))), none, false⟩])
 (.seq
 (.reg false [⟨3, .mv (.t 0), none, false⟩,
 ⟨4, .ca (.k (.cl 162 [])) [(.t 3), (.k (.sc (.int .i64 0))), (.k (.sc (.int .i64 179)))], none, false⟩,
 ⟨2, .mv (.t 4), none, false⟩])
 .ret))⟩
attribute [simp] i250
set_option maxRecDepth 1000000 in
theorem c250 : cFn Try.prog 250 [[]] = some i250 := by kernel_rfl
theorem e250 : enterOk Try.prog 250 = true := by kernel_rfl
def i252 : Ev.Fn := ⟨1, 18, [.tmp 2, .tmp 3],
 (.seq
 (.reg false [⟨2, .mv (.k (.sc (.int .i64 0))), none, false⟩,
 ⟨3, .mv (.k (.sc (.bool false))), none, false⟩])
 (.seq
 (.reg false [⟨9, .mv (.t 0), none, false⟩,
 ⟨10, .ca (.k (.cl 293 [])) [(.t 9)], none, false⟩,
 ⟨8, .mv (.t 10), none, false⟩,
 ⟨11, .xt (.t 8) 0, none, false⟩,
 ⟨12, .xt (.t 8) 1, none, false⟩,
 ⟨13, .xt (.t 8) 2, none, false⟩,
 ⟨14, .xt (.t 8) 3, none, false⟩,
 ⟨4, .mv (.t 11), none, false⟩,
 ⟨5, .mv (.t 12), none, false⟩,
 ⟨6, .mv (.t 13), none, false⟩,
 ⟨7, .mv (.t 14), none, false⟩])
 (.seq
 (.reg false [⟨15, .mv (.t 4), none, false⟩,
 ⟨16, .mv (.t 7), none, false⟩,
 ⟨17, .ar .eql false (.t 16) (.k (.sc (.int .i64 0))), none, false⟩,
 ⟨2, .mv (.t 15), none, false⟩,
 ⟨3, .mv (.t 17), none, false⟩])
 .ret)))⟩
attribute [simp] i252
set_option maxRecDepth 1000000 in
theorem c252 : cFn Try.prog 252 [[]] = some i252 := by kernel_rfl
theorem e252 : enterOk Try.prog 252 = true := by kernel_rfl
def i292 : Ev.Fn := ⟨0, 2, [.tmp 0],
 (.seq
 (.reg false [⟨0, .mv (.k .nl), none, false⟩])
 (.seq
 (.reg false [⟨1, .bs 9 1 [(.sc (.string ⟨#[]⟩))] 10 [(0, (.k (.sc (.string ⟨#[97, 115, 104]⟩)))), (1, (.k (.sc (.string ⟨#[98, 101, 101, 99, 104]⟩)))), (2, (.k (.sc (.string ⟨#[98, 105, 114, 99, 104]⟩)))), (3, (.k (.sc (.string ⟨#[99, 104, 101, 114, 114, 121]⟩)))), (4, (.k (.sc (.string ⟨#[101, 98, 111, 110, 121]⟩)))), (5, (.k (.sc (.string ⟨#[104, 111, 108, 108, 121]⟩)))), (6, (.k (.sc (.string ⟨#[109, 97, 112, 108, 101]⟩)))), (7, (.k (.sc (.string ⟨#[111, 97, 107]⟩)))), (8, (.k (.sc (.string ⟨#[114, 111, 115, 101, 119, 111, 111, 100]⟩)))), (9, (.k (.sc (.string ⟨#[119, 97, 108, 110, 117, 116]⟩))))], none, false⟩,
 ⟨0, .mv (.t 1), none, false⟩])
 .ret))⟩
attribute [simp] i292
set_option maxRecDepth 1000000 in
theorem c292 : cFn Try.prog 292 [[]] = some i292 := by kernel_rfl
theorem e292 : enterOk Try.prog 292 = true := by kernel_rfl
end Go.Proofs.Ytejffoibihbnnaa.walkS
