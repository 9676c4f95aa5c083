/- The functions that some rows reach, turned; no conditions. -/
import Derived.Test.YtmhddfikpfkeoaaGreatEv2
import Derived.KernelRfl
import Derived.Test.YtmhddfikpfkeoaaGreatProg
namespace Go.Proofs.YtmhddfikpfkeoaaGreat.walkS
open Go Go.Proofs.YtmhddfikpfkeoaaGreat.Ev
def i3 : Ev.Fn := ⟨1, 96, [.tmp 2],
 (.seq
 (.reg false [⟨1, .bx (.t 0), none, false⟩,
 ⟨2, .mv (.k (.sc (.bool false))), none, false⟩])
 (.seq
 (.reg false [⟨3, .mv (.k (.sc (.int .i64 1048576))), none, false⟩])
 (.seq
 (.reg false [⟨14, .ld 5 true (.t 1), none, false⟩,
 ⟨15, .mv (.t 3), none, false⟩,
 ⟨16, .ca (.k (.cl 5 [])) [(.t 14), (.t 15)], none, false⟩,
 ⟨3, .mv (.t 16), none, false⟩])
 (.seq
 (.seq
 (.reg false [⟨17, .mv (.t 3), none, false⟩,
 ⟨18, .ar .lss false (.t 17) (.k (.sc (.int .i64 0))), none, false⟩])
 (.ite (.t 18)
 (.seq
 (.reg false [⟨2, .mv (.k (.sc (.bool true))), none, false⟩])
 .ret)
 .skip))
 (.seq
 (.reg false [⟨20, .ld 5 true (.t 1), none, false⟩,
 ⟨21, .ca (.k (.cl 7 [])) [(.t 20)], none, false⟩,
 ⟨22, .ca (.k (.cl 6 [])) [(.t 21)], none, false⟩,
 ⟨19, .mv (.t 22), none, false⟩,
 ⟨23, .xt (.t 19) 0, none, false⟩,
 ⟨24, .xt (.t 19) 1, none, false⟩,
 ⟨4, .mv (.t 23), none, false⟩,
 ⟨5, .mv (.t 24), none, false⟩])
 (.seq
 (.reg false [⟨25, .ld 5 true (.t 1), none, false⟩,
 ⟨26, .ca (.k (.cl 7 [])) [(.t 25)], none, false⟩,
 ⟨6, .al [(.sc (.int .i64 0)), (.sc (.int .i64 0)), .nl, .nl, .nl], none, false⟩,
 ⟨1, .so 5 (.t 6) (.t 26), none, true⟩])
 (.seq
 (.reg false [⟨28, .ld 5 true (.t 6), none, false⟩,
 ⟨29, .ca (.k (.cl 8 [])) [(.t 28)], none, false⟩,
 ⟨27, .mv (.t 29), none, false⟩,
 ⟨30, .xt (.t 27) 0, none, false⟩,
 ⟨31, .xt (.t 27) 1, none, false⟩,
 ⟨7, .mv (.t 30), none, false⟩,
 ⟨8, .mv (.t 31), none, false⟩])
 (.seq
 (.seq
 (.reg false [⟨32, .mv (.t 7), none, false⟩,
 ⟨33, .mv (.t 4), none, false⟩,
 ⟨34, .ca (.k (.cl 9 [])) [(.t 32), (.t 33)], none, false⟩,
 ⟨35, .nt (.t 34), none, false⟩,
 ⟨36, .mv (.t 35), none, false⟩,
 ⟨37, .mv (.t 8), (some (36, false)), false⟩,
 ⟨38, .mv (.t 5), (some (36, false)), false⟩,
 ⟨39, .ar .neq false (.t 37) (.t 38), (some (36, false)), false⟩,
 ⟨40, .pk (.t 36) (.k (.sc (.bool true))) (.t 39), none, false⟩])
 (.ite (.t 40)
 (.seq
 (.reg false [⟨2, .mv (.k (.sc (.bool false))), none, false⟩])
 .ret)
 .skip))
 (.seq
 (.seq
 (.reg true [⟨41, .ld 5 true (.t 6), none, false⟩,
 ⟨42, .ld 5 true (.t 1), none, false⟩,
 ⟨43, .ca (.k (.cl 7 [])) [(.t 42)], none, false⟩,
 ⟨44, .ca (.k (.cl 10 [])) [(.t 41), (.t 43)], none, false⟩,
 ⟨45, .nt (.t 44), none, false⟩])
 (.ite (.t 45)
 (.seq
 (.reg false [⟨2, .mv (.k (.sc (.bool false))), none, false⟩])
 .ret)
 .skip))
 (.seq
 (.reg false [⟨9, .mv (.k (.sc (.int .i64 1))), none, false⟩])
 (.seq
 (.rgw [⟨46, .ld 5 true (.t 6), none, false⟩,
 ⟨47, .mv (.t 9), none, false⟩,
 ⟨48, .cw 11 [] [(.t 46), (.t 47)], none, false⟩,
 ⟨9, .mv (.t 48), none, false⟩])
 (.seq
 (.seq
 (.reg false [⟨49, .mv (.t 9), none, false⟩,
 ⟨50, .ar .lss false (.t 49) (.k (.sc (.int .i64 0))), none, false⟩,
 ⟨51, .mv (.t 50), none, false⟩,
 ⟨52, .mv (.t 7), (some (51, false)), false⟩,
 ⟨53, .mv (.t 4), (some (51, false)), false⟩,
 ⟨54, .ca (.k (.cl 9 [])) [(.t 52), (.t 53)], (some (51, false)), false⟩,
 ⟨55, .nt (.t 54), (some (51, false)), false⟩,
 ⟨56, .pk (.t 51) (.k (.sc (.bool true))) (.t 55), none, false⟩,
 ⟨57, .mv (.t 56), none, false⟩,
 ⟨58, .mv (.t 8), (some (57, false)), false⟩,
 ⟨59, .mv (.t 5), (some (57, false)), false⟩,
 ⟨60, .ar .neq false (.t 58) (.t 59), (some (57, false)), false⟩,
 ⟨61, .pk (.t 57) (.k (.sc (.bool true))) (.t 60), none, false⟩])
 (.ite (.t 61)
 (.seq
 (.reg false [⟨2, .mv (.k (.sc (.bool false))), none, false⟩])
 .ret)
 .skip))
 (.seq
 (.reg false [⟨10, .mv (.k (.sc (.int .i64 1))), none, false⟩])
 (.seq
 (.rgw [⟨62, .mv (.t 7), none, false⟩,
 ⟨63, .mv (.t 10), none, false⟩,
 ⟨64, .cw 12 [] [(.t 62), (.t 63)], none, false⟩,
 ⟨10, .mv (.t 64), none, false⟩])
 (.seq
 (.reg false [⟨11, .mv (.k (.sc (.int .i64 1))), none, false⟩])
 (.seq
 (.reg false [⟨65, .mv (.t 7), none, false⟩,
 ⟨66, .mv (.t 11), none, false⟩,
 ⟨67, .ca (.k (.cl 13 [])) [(.t 65), (.t 66)], none, false⟩,
 ⟨11, .mv (.t 67), none, false⟩])
 (.seq
 (.seq
 (.reg false [⟨68, .mv (.t 11), none, false⟩,
 ⟨69, .ar .lss false (.t 68) (.k (.sc (.int .i64 0))), none, false⟩])
 (.ite (.t 69)
 (.seq
 (.reg false [⟨2, .mv (.k (.sc (.bool false))), none, false⟩])
 .ret)
 .skip))
 (.seq
 (.seq
 (.reg false [⟨70, .mv (.t 11), none, false⟩,
 ⟨71, .mv (.t 10), none, false⟩,
 ⟨72, .ar .neq false (.t 70) (.t 71), none, false⟩])
 (.ite (.t 72)
 (.seq
 (.reg false [⟨2, .mv (.k (.sc (.bool false))), none, false⟩])
 .ret)
 .skip))
 (.seq
 (.reg false [⟨74, .ld 5 true (.t 1), none, false⟩,
 ⟨75, .ca (.k (.cl 7 [])) [(.t 74)], none, false⟩,
 ⟨76, .ca (.k (.cl 8 [])) [(.t 75)], none, false⟩,
 ⟨73, .mv (.t 76), none, false⟩,
 ⟨77, .xt (.t 73) 0, none, false⟩,
 ⟨78, .xt (.t 73) 1, none, false⟩,
 ⟨12, .mv (.t 77), none, false⟩,
 ⟨13, .mv (.t 78), none, false⟩])
 (.seq
 (.seq
 (.reg false [⟨79, .mv (.t 12), none, false⟩,
 ⟨80, .mv (.t 4), none, false⟩,
 ⟨81, .ca (.k (.cl 9 [])) [(.t 79), (.t 80)], none, false⟩,
 ⟨82, .nt (.t 81), none, false⟩,
 ⟨83, .mv (.t 82), none, false⟩,
 ⟨84, .mv (.t 13), (some (83, false)), false⟩,
 ⟨85, .mv (.t 5), (some (83, false)), false⟩,
 ⟨86, .ar .neq false (.t 84) (.t 85), (some (83, false)), false⟩,
 ⟨87, .pk (.t 83) (.k (.sc (.bool true))) (.t 86), none, false⟩])
 (.ite (.t 87)
 (.seq
 (.reg false [⟨2, .mv (.k (.sc (.bool false))), none, false⟩])
 .ret)
 .skip))
 (.seq
 (.reg false [⟨11, .mv (.k (.sc (.int .i64 1))), none, false⟩])
 (.seq
 (.reg false [⟨88, .mv (.t 7), none, false⟩,
 ⟨89, .mv (.t 11), none, false⟩,
 ⟨90, .ca (.k (.cl 13 [])) [(.t 88), (.t 89)], none, false⟩,
 ⟨11, .mv (.t 90), none, false⟩])
 (.seq
 (.seq
 (.reg false [⟨91, .mv (.t 11), none, false⟩,
 ⟨92, .ar .lss false (.t 91) (.k (.sc (.int .i64 0))), none, false⟩])
 (.ite (.t 92)
 (.seq
 (.reg false [⟨2, .mv (.k (.sc (.bool false))), none, false⟩])
 .ret)
 .skip))
 (.seq
 (.seq
 (.reg false [⟨93, .mv (.t 11), none, false⟩,
 ⟨94, .mv (.t 10), none, false⟩,
 ⟨95, .ar .neq false (.t 93) (.t 94), none, false⟩])
 (.ite (.t 95)
 (.seq
 (.reg false [⟨2, .mv (.k (.sc (.bool false))), none, false⟩])
 .ret)
 .skip))
 (.seq
 (.reg false [⟨2, .mv (.k (.sc (.bool true))), none, false⟩])
 .ret)))))))))))))))))))))))))⟩
attribute [simp] i3
set_option maxRecDepth 1000000 in
theorem c3 : cFn Tryz.prog 3 [[11, 12]] = some i3 := by kernel_rfl
theorem e3 : enterOk Tryz.prog 3 = true := by kernel_rfl
def i4 : Ev.Fn := ⟨2, 101, [.tmp 4],
 (.seq
 (.reg false [⟨2, .bx (.t 0), none, false⟩,
 ⟨4, .mv (.k (.sc (.bool false))), none, false⟩])
 (.seq
 (.reg false [⟨5, .mv (.k (.sc (.int .i64 1048576))), none, false⟩])
 (.seq
 (.reg false [⟨16, .ld 5 true (.t 2), none, false⟩,
 ⟨17, .mv (.t 5), none, false⟩,
 ⟨18, .ca (.k (.cl 5 [])) [(.t 16), (.t 17)], none, false⟩,
 ⟨5, .mv (.t 18), none, false⟩])
 (.seq
 (.seq
 (.reg false [⟨19, .mv (.t 5), none, false⟩,
 ⟨20, .ar .lss false (.t 19) (.k (.sc (.int .i64 0))), none, false⟩])
 (.ite (.t 20)
 (.seq
 (.reg false [⟨4, .mv (.k (.sc (.bool true))), none, false⟩])
 .ret)
 .skip))
 (.seq
 (.reg false [⟨22, .ld 5 true (.t 2), none, false⟩,
 ⟨23, .ca (.k (.cl 7 [])) [(.t 22)], none, false⟩,
 ⟨24, .mv (.t 1), none, false⟩,
 ⟨25, .ca (.k (.cl 14 [])) [(.t 23), (.t 24)], none, false⟩,
 ⟨21, .mv (.t 25), none, false⟩,
 ⟨26, .xt (.t 21) 0, none, false⟩,
 ⟨27, .xt (.t 21) 1, none, false⟩,
 ⟨6, .mv (.t 26), none, false⟩,
 ⟨7, .mv (.t 27), none, false⟩])
 (.seq
 (.reg false [⟨28, .ld 5 true (.t 2), none, false⟩,
 ⟨29, .ca (.k (.cl 7 [])) [(.t 28)], none, false⟩,
 ⟨8, .al [(.sc (.int .i64 0)), (.sc (.int .i64 0)), .nl, .nl, .nl], none, false⟩,
 ⟨1, .so 5 (.t 8) (.t 29), none, true⟩])
 (.seq
 (.reg false [⟨31, .ld 5 true (.t 8), none, false⟩,
 ⟨32, .mv (.t 1), none, false⟩,
 ⟨33, .ca (.k (.cl 15 [])) [(.t 31), (.t 32)], none, false⟩,
 ⟨30, .mv (.t 33), none, false⟩,
 ⟨34, .xt (.t 30) 0, none, false⟩,
 ⟨35, .xt (.t 30) 1, none, false⟩,
 ⟨9, .mv (.t 34), none, false⟩,
 ⟨10, .mv (.t 35), none, false⟩])
 (.seq
 (.seq
 (.reg false [⟨36, .mv (.t 9), none, false⟩,
 ⟨37, .mv (.t 6), none, false⟩,
 ⟨38, .ca (.k (.cl 9 [])) [(.t 36), (.t 37)], none, false⟩,
 ⟨39, .nt (.t 38), none, false⟩,
 ⟨40, .mv (.t 39), none, false⟩,
 ⟨41, .mv (.t 10), (some (40, false)), false⟩,
 ⟨42, .mv (.t 7), (some (40, false)), false⟩,
 ⟨43, .ar .neq false (.t 41) (.t 42), (some (40, false)), false⟩,
 ⟨44, .pk (.t 40) (.k (.sc (.bool true))) (.t 43), none, false⟩])
 (.ite (.t 44)
 (.seq
 (.reg false [⟨4, .mv (.k (.sc (.bool false))), none, false⟩])
 .ret)
 .skip))
 (.seq
 (.seq
 (.reg true [⟨45, .ld 5 true (.t 8), none, false⟩,
 ⟨46, .ld 5 true (.t 2), none, false⟩,
 ⟨47, .ca (.k (.cl 7 [])) [(.t 46)], none, false⟩,
 ⟨48, .ca (.k (.cl 10 [])) [(.t 45), (.t 47)], none, false⟩,
 ⟨49, .nt (.t 48), none, false⟩])
 (.ite (.t 49)
 (.seq
 (.reg false [⟨4, .mv (.k (.sc (.bool false))), none, false⟩])
 .ret)
 .skip))
 (.seq
 (.reg false [⟨11, .mv (.k (.sc (.int .i64 1))), none, false⟩])
 (.seq
 (.rgw [⟨50, .ld 5 true (.t 8), none, false⟩,
 ⟨51, .mv (.t 11), none, false⟩,
 ⟨52, .cw 11 [] [(.t 50), (.t 51)], none, false⟩,
 ⟨11, .mv (.t 52), none, false⟩])
 (.seq
 (.seq
 (.reg false [⟨53, .mv (.t 11), none, false⟩,
 ⟨54, .ar .lss false (.t 53) (.k (.sc (.int .i64 0))), none, false⟩,
 ⟨55, .mv (.t 54), none, false⟩,
 ⟨56, .mv (.t 9), (some (55, false)), false⟩,
 ⟨57, .mv (.t 6), (some (55, false)), false⟩,
 ⟨58, .ca (.k (.cl 9 [])) [(.t 56), (.t 57)], (some (55, false)), false⟩,
 ⟨59, .nt (.t 58), (some (55, false)), false⟩,
 ⟨60, .pk (.t 55) (.k (.sc (.bool true))) (.t 59), none, false⟩,
 ⟨61, .mv (.t 60), none, false⟩,
 ⟨62, .mv (.t 10), (some (61, false)), false⟩,
 ⟨63, .mv (.t 7), (some (61, false)), false⟩,
 ⟨64, .ar .neq false (.t 62) (.t 63), (some (61, false)), false⟩,
 ⟨65, .pk (.t 61) (.k (.sc (.bool true))) (.t 64), none, false⟩])
 (.ite (.t 65)
 (.seq
 (.reg false [⟨4, .mv (.k (.sc (.bool false))), none, false⟩])
 .ret)
 .skip))
 (.seq
 (.reg false [⟨12, .mv (.k (.sc (.int .i64 1))), none, false⟩])
 (.seq
 (.rgw [⟨66, .mv (.t 9), none, false⟩,
 ⟨67, .mv (.t 12), none, false⟩,
 ⟨68, .cw 12 [] [(.t 66), (.t 67)], none, false⟩,
 ⟨12, .mv (.t 68), none, false⟩])
 (.seq
 (.reg false [⟨13, .mv (.k (.sc (.int .i64 1))), none, false⟩])
 (.seq
 (.reg false [⟨69, .mv (.t 9), none, false⟩,
 ⟨70, .mv (.t 13), none, false⟩,
 ⟨71, .ca (.k (.cl 13 [])) [(.t 69), (.t 70)], none, false⟩,
 ⟨13, .mv (.t 71), none, false⟩])
 (.seq
 (.seq
 (.reg false [⟨72, .mv (.t 13), none, false⟩,
 ⟨73, .ar .lss false (.t 72) (.k (.sc (.int .i64 0))), none, false⟩])
 (.ite (.t 73)
 (.seq
 (.reg false [⟨4, .mv (.k (.sc (.bool false))), none, false⟩])
 .ret)
 .skip))
 (.seq
 (.seq
 (.reg false [⟨74, .mv (.t 13), none, false⟩,
 ⟨75, .mv (.t 12), none, false⟩,
 ⟨76, .ar .neq false (.t 74) (.t 75), none, false⟩])
 (.ite (.t 76)
 (.seq
 (.reg false [⟨4, .mv (.k (.sc (.bool false))), none, false⟩])
 .ret)
 .skip))
 (.seq
 (.reg false [⟨78, .ld 5 true (.t 2), none, false⟩,
 ⟨79, .ca (.k (.cl 7 [])) [(.t 78)], none, false⟩,
 ⟨80, .mv (.t 1), none, false⟩,
 ⟨81, .ca (.k (.cl 15 [])) [(.t 79), (.t 80)], none, false⟩,
 ⟨77, .mv (.t 81), none, false⟩,
 ⟨82, .xt (.t 77) 0, none, false⟩,
 ⟨83, .xt (.t 77) 1, none, false⟩,
 ⟨14, .mv (.t 82), none, false⟩,
 ⟨15, .mv (.t 83), none, false⟩])
 (.seq
 (.seq
 (.reg false [⟨84, .mv (.t 14), none, false⟩,
 ⟨85, .mv (.t 6), none, false⟩,
 ⟨86, .ca (.k (.cl 9 [])) [(.t 84), (.t 85)], none, false⟩,
 ⟨87, .nt (.t 86), none, false⟩,
 ⟨88, .mv (.t 87), none, false⟩,
 ⟨89, .mv (.t 15), (some (88, false)), false⟩,
 ⟨90, .mv (.t 7), (some (88, false)), false⟩,
 ⟨91, .ar .neq false (.t 89) (.t 90), (some (88, false)), false⟩,
 ⟨92, .pk (.t 88) (.k (.sc (.bool true))) (.t 91), none, false⟩])
 (.ite (.t 92)
 (.seq
 (.reg false [⟨4, .mv (.k (.sc (.bool false))), none, false⟩])
 .ret)
 .skip))
 (.seq
 (.reg false [⟨13, .mv (.k (.sc (.int .i64 1))), none, false⟩])
 (.seq
 (.reg false [⟨93, .mv (.t 9), none, false⟩,
 ⟨94, .mv (.t 13), none, false⟩,
 ⟨95, .ca (.k (.cl 13 [])) [(.t 93), (.t 94)], none, false⟩,
 ⟨13, .mv (.t 95), none, false⟩])
 (.seq
 (.seq
 (.reg false [⟨96, .mv (.t 13), none, false⟩,
 ⟨97, .ar .lss false (.t 96) (.k (.sc (.int .i64 0))), none, false⟩])
 (.ite (.t 97)
 (.seq
 (.reg false [⟨4, .mv (.k (.sc (.bool false))), none, false⟩])
 .ret)
 .skip))
 (.seq
 (.seq
 (.reg false [⟨98, .mv (.t 13), none, false⟩,
 ⟨99, .mv (.t 12), none, false⟩,
 ⟨100, .ar .neq false (.t 98) (.t 99), none, false⟩])
 (.ite (.t 100)
 (.seq
 (.reg false [⟨4, .mv (.k (.sc (.bool false))), none, false⟩])
 .ret)
 .skip))
 (.seq
 (.reg false [⟨4, .mv (.k (.sc (.bool true))), none, false⟩])
 .ret)))))))))))))))))))))))))⟩
attribute [simp] i4
set_option maxRecDepth 1000000 in
theorem c4 : cFn Tryz.prog 4 [[11, 12]] = some i4 := by kernel_rfl
theorem e4 : enterOk Tryz.prog 4 = true := by kernel_rfl
def i5 : Ev.Fn := ⟨2, 18, [.tmp 4],
 (.seq
 (.reg false [⟨2, .bx (.t 0), none, false⟩,
 ⟨4, .mv (.k (.sc (.int .i64 0))), none, false⟩])
 (.seq
 (.reg false [⟨5, .fa 0 (.t 2), none, false⟩,
 ⟨6, .ld 4 true (.t 5), none, false⟩,
 ⟨7, .mv (.t 1), none, false⟩,
 ⟨8, .ca (.k (.cl 16 [])) [(.t 6), (.t 7)], none, false⟩,
 ⟨1, .mv (.t 8), none, false⟩])
 (.seq
 (.seq
 (.reg false [⟨9, .mv (.t 1), none, false⟩,
 ⟨10, .ar .lss false (.t 9) (.k (.sc (.int .i64 0))), none, false⟩])
 (.ite (.t 10)
 (.seq
 (.reg false [⟨4, .mv (.k (.sc (.int .i64 (-1)))), none, false⟩])
 .ret)
 .skip))
 (.seq
 (.reg false [⟨11, .fa 4 (.t 2), none, false⟩,
 ⟨12, .ld 1 false (.t 11), none, false⟩,
 ⟨13, .mv (.t 1), none, false⟩,
 ⟨14, .ca (.k (.cl 17 [])) [(.t 12), (.t 13)], none, false⟩,
 ⟨1, .mv (.t 14), none, false⟩])
 (.seq
 (.seq
 (.reg false [⟨15, .mv (.t 1), none, false⟩,
 ⟨16, .ar .lss false (.t 15) (.k (.sc (.int .i64 0))), none, false⟩])
 (.ite (.t 16)
 (.seq
 (.reg false [⟨4, .mv (.k (.sc (.int .i64 (-1)))), none, false⟩])
 .ret)
 .skip))
 (.seq
 (.reg false [⟨17, .mv (.t 1), none, false⟩,
 ⟨4, .mv (.t 17), none, false⟩])
 .ret))))))⟩
attribute [simp] i5
set_option maxRecDepth 1000000 in
theorem c5 : cFn Tryz.prog 5 [[]] = some i5 := by kernel_rfl
theorem e5 : enterOk Tryz.prog 5 = true := by kernel_rfl
def i6 : Ev.Fn := ⟨1, 7, [.tmp 2, .tmp 3],
 (.seq
 (.reg false [⟨1, .bx (.t 0), none, false⟩,
 ⟨2, .mv (.k .nl), none, false⟩,
 ⟨3, .mv (.k (.sc (.int .i64 0))), none, false⟩])
 (.seq
 (.seq
 (.reg false [⟨4, .ca (.k (.cl 18 [])) [(.t 1)], none, false⟩,
 ⟨5, .nt (.t 4), none, false⟩])
 (.ite (.t 5)
 (.seq
 (.reg false [⟨2, .mv (.k .nl), none, false⟩,
 ⟨3, .mv (.k (.sc (.int .i64 1))), none, false⟩])
 .ret)
 .skip))
 (.seq
 (.reg false [⟨6, .ca (.k (.cl 19 [])) [(.t 1)], none, false⟩,
 ⟨2, .mv (.t 6), none, false⟩,
 ⟨3, .mv (.k (.sc (.int .i64 0))), none, false⟩])
 .ret)))⟩
attribute [simp] i6
set_option maxRecDepth 1000000 in
theorem c6 : cFn Tryz.prog 6 [[]] = some i6 := by kernel_rfl
theorem e6 : enterOk Tryz.prog 6 = true := by kernel_rfl
def i7 : Ev.Fn := ⟨1, 13, [.cell 2 5 true],
 (.seq
 (.reg false [⟨1, .bx (.t 0), none, false⟩,
 ⟨2, .al [(.sc (.int .i64 0)), (.sc (.int .i64 0)), .nl, .nl, .nl], none, false⟩])
 (.seq
 (.reg false [⟨3, .al [(.sc (.int .i64 0)), (.sc (.int .i64 0)), .nl, .nl, .nl], none, false⟩])
 (.seq
 (.reg false [⟨4, .fa 0 (.t 1), none, false⟩,
 ⟨5, .ld 4 true (.t 4), none, false⟩,
 ⟨6, .ca (.k (.cl 20 [])) [(.t 5)], none, false⟩,
 ⟨7, .fa 0 (.t 3), none, false⟩,
 ⟨1, .so 4 (.t 7) (.t 6), none, true⟩])
 (.seq
 (.reg false [⟨8, .fa 4 (.t 1), none, false⟩,
 ⟨9, .ld 1 false (.t 8), none, false⟩,
 ⟨10, .ca (.k (.cl 21 [])) [(.t 9)], none, false⟩,
 ⟨11, .fa 4 (.t 3), none, false⟩,
 ⟨1, .so 1 (.t 11) (.t 10), none, true⟩])
 (.seq
 (.reg false [⟨12, .ld 5 true (.t 3), none, false⟩,
 ⟨1, .so 5 (.t 2) (.t 12), none, true⟩])
 .ret)))))⟩
attribute [simp] i7
set_option maxRecDepth 1000000 in
theorem c7 : cFn Tryz.prog 7 [[]] = some i7 := by kernel_rfl
theorem e7 : enterOk Tryz.prog 7 = true := by kernel_rfl
def i8 : Ev.Fn := ⟨1, 9, [.tmp 2, .tmp 3],
 (.seq
 (.reg false [⟨1, .bx (.t 0), none, false⟩,
 ⟨2, .mv (.k .nl), none, false⟩,
 ⟨3, .mv (.k (.sc (.int .i64 0))), none, false⟩])
 (.seq
 (.seq
 (.reg false [⟨4, .ld 5 true (.t 1), none, false⟩,
 ⟨5, .ca (.k (.cl 22 [])) [(.t 4)], none, false⟩,
 ⟨6, .nt (.t 5), none, false⟩])
 (.ite (.t 6)
 (.seq
 (.reg false [⟨2, .mv (.k .nl), none, false⟩,
 ⟨3, .mv (.k (.sc (.int .i64 1))), none, false⟩])
 .ret)
 .skip))
 (.seq
 (.reg false [⟨7, .ld 5 true (.t 1), none, false⟩,
 ⟨8, .ca (.k (.cl 23 [])) [(.t 7)], none, false⟩,
 ⟨2, .mv (.t 8), none, false⟩,
 ⟨3, .mv (.k (.sc (.int .i64 0))), none, false⟩])
 .ret)))⟩
attribute [simp] i8
set_option maxRecDepth 1000000 in
theorem c8 : cFn Tryz.prog 8 [[]] = some i8 := by kernel_rfl
theorem e8 : enterOk Tryz.prog 8 = true := by kernel_rfl
def w9_1 : IC :=
(.seq
 (.seq
 (.reg false [⟨11, .mv (.t 5), none, false⟩,
 ⟨12, .mv (.t 0), none, false⟩,
 ⟨13, .ln false (.t 12), none, false⟩,
 ⟨14, .ar .lss false (.t 11) (.t 13), none, false⟩])
 (.ite (.t 14)
 .skip
 (.exit 0)))
 (.seq
 (.block 1
 (.seq
 (.reg true [⟨17, .mv (.t 0), none, false⟩,
 ⟨18, .mv (.t 5), none, false⟩,
 ⟨19, .ia 1 (.t 17) (.t 18), none, false⟩,
 ⟨20, .ld 1 false (.t 19), none, false⟩,
 ⟨21, .mv (.t 1), none, false⟩,
 ⟨22, .mv (.t 5), none, false⟩,
 ⟨23, .ia 1 (.t 21) (.t 22), none, false⟩,
 ⟨24, .ld 1 false (.t 23), none, false⟩,
 ⟨25, .ca (.k (.cl 24 [])) [(.t 20), (.t 24)], none, false⟩,
 ⟨26, .nt (.t 25), none, false⟩])
 (.ite (.t 26)
 (.seq
 (.reg false [⟨4, .mv (.k (.sc (.bool false))), none, false⟩])
 .ret)
 .skip)))
 (.reg false [⟨15, .mv (.t 5), none, false⟩,
 ⟨16, .ar .add false (.t 15) (.k (.sc (.int .i64 1))), none, false⟩,
 ⟨5, .mv (.t 16), none, false⟩])))
def b9_1 : IC := w9_1
theorem u9_1 (call : CallF) (st : St) : evC call b9_1 st = evC call w9_1 st := rfl
attribute [simp] u9_1 w9_1
def i9 : Ev.Fn := ⟨2, 27, [.tmp 4],
 (.seq
 (.reg false [⟨4, .mv (.k (.sc (.bool false))), none, false⟩])
 (.seq
 (.seq
 (.reg false [⟨6, .mv (.t 0), none, false⟩,
 ⟨7, .ln false (.t 6), none, false⟩,
 ⟨8, .mv (.t 1), none, false⟩,
 ⟨9, .ln false (.t 8), none, false⟩,
 ⟨10, .ar .neq false (.t 7) (.t 9), none, false⟩])
 (.ite (.t 10)
 (.seq
 (.reg false [⟨4, .mv (.k (.sc (.bool false))), none, false⟩])
 .ret)
 .skip))
 (.seq
 (.seq
 (.reg false [⟨5, .mv (.k (.sc (.int .i64 0))), none, false⟩])
 (.cln [] [4]
 (.block 0
 (.loop [0, 1, 5] b9_1))))
 (.seq
 (.reg false [⟨4, .mv (.k (.sc (.bool true))), none, false⟩])
 .ret))))⟩
attribute [simp] i9
set_option maxRecDepth 1000000 in
theorem c9 : cFn Tryz.prog 9 [[], [0, 1, 5], [], [4]] = some i9 := by kernel_rfl
theorem e9 : enterOk Tryz.prog 9 = true := by kernel_rfl
def i10 : Ev.Fn := ⟨2, 17, [.tmp 4],
 (.seq
 (.reg false [⟨2, .bx (.t 0), none, false⟩,
 ⟨3, .bx (.t 1), none, false⟩,
 ⟨4, .mv (.k (.sc (.bool false))), none, false⟩])
 (.seq
 (.seq
 (.reg false [⟨5, .fa 0 (.t 2), none, false⟩,
 ⟨6, .ld 4 true (.t 5), none, false⟩,
 ⟨7, .fa 0 (.t 3), none, false⟩,
 ⟨8, .ld 4 true (.t 7), none, false⟩,
 ⟨9, .ca (.k (.cl 25 [])) [(.t 6), (.t 8)], none, false⟩,
 ⟨10, .nt (.t 9), none, false⟩])
 (.ite (.t 10)
 (.seq
 (.reg false [⟨4, .mv (.k (.sc (.bool false))), none, false⟩])
 .ret)
 .skip))
 (.seq
 (.seq
 (.reg false [⟨11, .fa 4 (.t 2), none, false⟩,
 ⟨12, .ld 1 false (.t 11), none, false⟩,
 ⟨13, .fa 4 (.t 3), none, false⟩,
 ⟨14, .ld 1 false (.t 13), none, false⟩,
 ⟨15, .ca (.k (.cl 26 [])) [(.t 12), (.t 14)], none, false⟩,
 ⟨16, .nt (.t 15), none, false⟩])
 (.ite (.t 16)
 (.seq
 (.reg false [⟨4, .mv (.k (.sc (.bool false))), none, false⟩])
 .ret)
 .skip))
 (.seq
 (.reg false [⟨4, .mv (.k (.sc (.bool true))), none, false⟩])
 .ret))))⟩
attribute [simp] i10
set_option maxRecDepth 1000000 in
theorem c10 : cFn Tryz.prog 10 [[]] = some i10 := by kernel_rfl
theorem e10 : enterOk Tryz.prog 10 = true := by kernel_rfl
def i11 : Ev.Fn := ⟨2, 14, [.tmp 4],
 (.seq
 (.reg false [⟨2, .bx (.t 0), none, false⟩,
 ⟨4, .mv (.k (.sc (.int .i64 0))), none, false⟩])
 (.seq
 (.rgw [⟨5, .fa 0 (.t 2), none, false⟩,
 ⟨6, .ld 4 true (.t 5), none, false⟩,
 ⟨7, .mv (.t 1), none, false⟩,
 ⟨8, .cw 27 [] [(.t 6), (.t 7)], none, false⟩,
 ⟨1, .mv (.t 8), none, false⟩])
 (.seq
 (.rgw [⟨9, .fa 4 (.t 2), none, false⟩,
 ⟨10, .ld 1 false (.t 9), none, false⟩,
 ⟨11, .mv (.t 1), none, false⟩,
 ⟨12, .cw 28 [] [(.t 10), (.t 11)], none, false⟩,
 ⟨1, .mv (.t 12), none, false⟩])
 (.seq
 (.reg false [⟨13, .mv (.t 1), none, false⟩,
 ⟨4, .mv (.t 13), none, false⟩])
 .ret))))⟩
attribute [simp] i11
set_option maxRecDepth 1000000 in
theorem c11 : cFn Tryz.prog 11 [[27, 28]] = some i11 := by kernel_rfl
theorem e11 : enterOk Tryz.prog 11 = true := by kernel_rfl
def w12_1 : IC :=
(.seq
 (.seq
 (.reg false [⟨6, .mv (.t 5), none, false⟩,
 ⟨7, .mv (.t 0), none, false⟩,
 ⟨8, .ln false (.t 7), none, false⟩,
 ⟨9, .ar .lss false (.t 6) (.t 8), none, false⟩])
 (.ite (.t 9)
 .skip
 (.exit 0)))
 (.seq
 (.block 1
 (.rgw [⟨12, .mv (.t 0), none, false⟩,
 ⟨13, .mv (.t 5), none, false⟩,
 ⟨14, .ia 1 (.t 12) (.t 13), none, false⟩,
 ⟨15, .ld 1 false (.t 14), none, false⟩,
 ⟨16, .mv (.t 1), none, false⟩,
 ⟨17, .cw 29 [] [(.t 15), (.t 16)], none, false⟩,
 ⟨1, .mv (.t 17), none, false⟩]))
 (.reg false [⟨10, .mv (.t 5), none, false⟩,
 ⟨11, .ar .add false (.t 10) (.k (.sc (.int .i64 1))), none, false⟩,
 ⟨5, .mv (.t 11), none, false⟩])))
def b12_1 : IC := w12_1
theorem u12_1 (call : CallF) (st : St) : evC call b12_1 st = evC call w12_1 st := rfl
attribute [simp] u12_1 w12_1
def i12 : Ev.Fn := ⟨2, 19, [.tmp 4],
 (.seq
 (.reg false [⟨4, .mv (.k (.sc (.int .i64 0))), none, false⟩])
 (.seq
 (.seq
 (.reg false [⟨5, .mv (.k (.sc (.int .i64 0))), none, false⟩])
 (.cln [1, 100000] [4, 100000]
 (.block 0
 (.loop [0, 1, 5, 100000] b12_1))))
 (.seq
 (.reg false [⟨18, .mv (.t 1), none, false⟩,
 ⟨4, .mv (.t 18), none, false⟩])
 .ret)))⟩
attribute [simp] i12
set_option maxRecDepth 1000000 in
theorem c12 : cFn Tryz.prog 12 [[29], [0, 1, 5, 100000], [1, 100000], [4, 100000]] = some i12 := by kernel_rfl
theorem e12 : enterOk Tryz.prog 12 = true := by kernel_rfl
def w13_1 : IC :=
(.seq
 (.seq
 (.reg false [⟨6, .mv (.t 5), none, false⟩,
 ⟨7, .mv (.t 0), none, false⟩,
 ⟨8, .ln false (.t 7), none, false⟩,
 ⟨9, .ar .lss false (.t 6) (.t 8), none, false⟩])
 (.ite (.t 9)
 .skip
 (.exit 0)))
 (.seq
 (.block 1
 (.seq
 (.reg false [⟨12, .mv (.t 0), none, false⟩,
 ⟨13, .mv (.t 5), none, false⟩,
 ⟨14, .ia 1 (.t 12) (.t 13), none, false⟩,
 ⟨15, .ld 1 false (.t 14), none, false⟩,
 ⟨16, .mv (.t 1), none, false⟩,
 ⟨17, .ca (.k (.cl 30 [])) [(.t 15), (.t 16)], none, false⟩,
 ⟨1, .mv (.t 17), none, false⟩])
 (.seq
 (.reg false [⟨18, .mv (.t 1), none, false⟩,
 ⟨19, .ar .lss false (.t 18) (.k (.sc (.int .i64 0))), none, false⟩])
 (.ite (.t 19)
 (.seq
 (.reg false [⟨4, .mv (.k (.sc (.int .i64 (-1)))), none, false⟩])
 .ret)
 .skip))))
 (.reg false [⟨10, .mv (.t 5), none, false⟩,
 ⟨11, .ar .add false (.t 10) (.k (.sc (.int .i64 1))), none, false⟩,
 ⟨5, .mv (.t 11), none, false⟩])))
def b13_1 : IC := w13_1
theorem u13_1 (call : CallF) (st : St) : evC call b13_1 st = evC call w13_1 st := rfl
attribute [simp] u13_1 w13_1
def i13 : Ev.Fn := ⟨2, 21, [.tmp 4],
 (.seq
 (.reg false [⟨4, .mv (.k (.sc (.int .i64 0))), none, false⟩])
 (.seq
 (.seq
 (.reg false [⟨5, .mv (.k (.sc (.int .i64 0))), none, false⟩])
 (.cln [1] [4]
 (.block 0
 (.loop [0, 1, 5] b13_1))))
 (.seq
 (.reg false [⟨20, .mv (.t 1), none, false⟩,
 ⟨4, .mv (.t 20), none, false⟩])
 .ret)))⟩
attribute [simp] i13
set_option maxRecDepth 1000000 in
theorem c13 : cFn Tryz.prog 13 [[], [0, 1, 5], [1], [4]] = some i13 := by kernel_rfl
theorem e13 : enterOk Tryz.prog 13 = true := by kernel_rfl
def w14_1 : IC :=
(.seq
 (.seq
 (.reg false [⟨16, .mv (.t 8), none, false⟩,
 ⟨17, .mv (.t 6), none, false⟩,
 ⟨18, .ln false (.t 17), none, false⟩,
 ⟨19, .ar .lss false (.t 16) (.t 18), none, false⟩])
 (.ite (.t 19)
 .skip
 (.exit 0)))
 (.seq
 (.block 1
 (.seq
 (.reg false [⟨22, .mv (.t 6), none, false⟩,
 ⟨23, .mv (.t 8), none, false⟩,
 ⟨24, .ia 1 (.t 22) (.t 23), none, false⟩,
 ⟨25, .ld 1 false (.t 24), none, false⟩,
 ⟨26, .ia 1 (.t 25) (.k (.sc (.int .i64 2))), none, false⟩,
 ⟨27, .ld 1 false (.t 26), none, false⟩,
 ⟨28, .mv (.t 1), none, false⟩,
 ⟨29, .ar .lss false (.t 27) (.t 28), none, false⟩])
 (.ite (.t 29)
 (.reg true [⟨30, .mv (.t 7), none, false⟩,
 ⟨31, .mv (.t 6), none, false⟩,
 ⟨32, .mv (.t 8), none, false⟩,
 ⟨33, .ia 1 (.t 31) (.t 32), none, false⟩,
 ⟨34, .ld 1 false (.t 33), none, false⟩,
 ⟨35, .ia 1 (.t 34) (.k (.sc (.int .i64 0))), none, false⟩,
 ⟨36, .ld 1 false (.t 35), none, false⟩,
 ⟨37, .mv (.t 6), none, false⟩,
 ⟨38, .mv (.t 8), none, false⟩,
 ⟨39, .ia 1 (.t 37) (.t 38), none, false⟩,
 ⟨40, .ld 1 false (.t 39), none, false⟩,
 ⟨41, .ia 1 (.t 40) (.k (.sc (.int .i64 1))), none, false⟩,
 ⟨42, .ld 1 false (.t 41), none, false⟩,
 ⟨43, .bs 2 1 [(.sc (.int .i64 0))] 2 [(0, (.t 36)), (1, (.t 42))], none, false⟩,
 ⟨44, .bw 58 1 [.nl] 1 [(0, (.t 43))], none, false⟩,
 ⟨45, .ap 58 1 false (.t 30) (.t 44), none, false⟩,
 ⟨7, .mv (.t 45), none, false⟩])
 .skip)))
 (.reg false [⟨20, .mv (.t 8), none, false⟩,
 ⟨21, .ar .add false (.t 20) (.k (.sc (.int .i64 1))), none, false⟩,
 ⟨8, .mv (.t 21), none, false⟩])))
def b14_1 : IC := w14_1
theorem u14_1 (call : CallF) (st : St) : evC call b14_1 st = evC call w14_1 st := rfl
attribute [simp] u14_1 w14_1
def i14 : Ev.Fn := ⟨2, 47, [.tmp 4, .tmp 5],
 (.seq
 (.reg false [⟨2, .bx (.t 0), none, false⟩,
 ⟨4, .mv (.k .nl), none, false⟩,
 ⟨5, .mv (.k (.sc (.int .i64 0))), none, false⟩])
 (.seq
 (.seq
 (.reg false [⟨9, .ca (.k (.cl 18 [])) [(.t 2)], none, false⟩,
 ⟨10, .nt (.t 9), none, false⟩])
 (.ite (.t 10)
 (.seq
 (.reg false [⟨4, .mv (.k .nl), none, false⟩,
 ⟨5, .mv (.k (.sc (.int .i64 1))), none, false⟩])
 .ret)
 .skip))
 (.seq
 (.seq
 (.reg false [⟨11, .mv (.t 1), none, false⟩,
 ⟨12, .ca (.k (.cl 31 [])) [(.t 11), (.k (.sc (.int .i64 0))), (.k (.sc (.int .i64 115)))], none, false⟩,
 ⟨13, .nt (.t 12), none, false⟩])
 (.ite (.t 13)
 (.seq
 (.reg false [⟨4, .mv (.k .nl), none, false⟩,
 ⟨5, .mv (.k (.sc (.int .i64 2))), none, false⟩])
 .ret)
 .skip))
 (.seq
 (.reg false [⟨14, .ca (.k (.cl 19 [])) [(.t 2)], none, false⟩,
 ⟨6, .mv (.t 14), none, false⟩])
 (.seq
 (.reg false [⟨15, .bw 58 1 [.nl] 0 [], none, false⟩,
 ⟨7, .mv (.t 15), none, false⟩])
 (.seq
 (.seq
 (.reg false [⟨8, .mv (.k (.sc (.int .i64 0))), none, false⟩])
 (.cln [7] [4, 5]
 (.block 0
 (.loop [1, 6, 7, 8] b14_1))))
 (.seq
 (.reg false [⟨46, .mv (.t 7), none, false⟩,
 ⟨4, .mv (.t 46), none, false⟩,
 ⟨5, .mv (.k (.sc (.int .i64 0))), none, false⟩])
 .ret)))))))⟩
attribute [simp] i14
set_option maxRecDepth 1000000 in
theorem c14 : cFn Tryz.prog 14 [[], [1, 6, 7, 8], [7], [4, 5]] = some i14 := by kernel_rfl
theorem e14 : enterOk Tryz.prog 14 = true := by kernel_rfl
def w15_1 : IC :=
(.seq
 (.reg false [⟨22, .ar .lss false (.t 21) (.t 20), none, false⟩])
 (.seq
 (.ite (.t 22)
 .skip
 (.exit 1))
 (.seq
 (.block 2
 (.seq
 (.reg false [⟨23, .ia 1 (.t 19) (.t 21), none, false⟩,
 ⟨24, .ld 1 false (.t 23), none, false⟩,
 ⟨8, .mv (.t 24), none, false⟩])
 (.seq
 (.reg false [⟨25, .mv (.t 8), none, false⟩,
 ⟨26, .ia 1 (.t 25) (.k (.sc (.int .i64 2))), none, false⟩,
 ⟨27, .ld 1 false (.t 26), none, false⟩,
 ⟨28, .mv (.t 1), none, false⟩,
 ⟨29, .ar .lss false (.t 27) (.t 28), none, false⟩])
 (.ite (.t 29)
 (.reg true [⟨30, .mv (.t 6), none, false⟩,
 ⟨31, .mv (.t 8), none, false⟩,
 ⟨32, .ia 1 (.t 31) (.k (.sc (.int .i64 0))), none, false⟩,
 ⟨33, .ld 1 false (.t 32), none, false⟩,
 ⟨34, .mv (.t 8), none, false⟩,
 ⟨35, .ia 1 (.t 34) (.k (.sc (.int .i64 1))), none, false⟩,
 ⟨36, .ld 1 false (.t 35), none, false⟩,
 ⟨37, .bs 2 1 [(.sc (.int .i64 0))] 2 [(0, (.t 33)), (1, (.t 36))], none, false⟩,
 ⟨38, .bw 58 1 [.nl] 1 [(0, (.t 37))], none, false⟩,
 ⟨39, .ap 58 1 false (.t 30) (.t 38), none, false⟩,
 ⟨6, .mv (.t 39), none, false⟩])
 .skip))))
 (.reg false [⟨40, .ar .add false (.t 21) (.k (.sc (.int .i64 1))), none, false⟩,
 ⟨21, .mv (.t 40), none, false⟩]))))
def b15_1 : IC := w15_1
theorem u15_1 (call : CallF) (st : St) : evC call b15_1 st = evC call w15_1 st := rfl
attribute [simp] u15_1 w15_1
def i15 : Ev.Fn := ⟨2, 42, [.tmp 4, .tmp 5],
 (.seq
 (.reg false [⟨2, .bx (.t 0), none, false⟩,
 ⟨4, .mv (.k .nl), none, false⟩,
 ⟨5, .mv (.k (.sc (.int .i64 0))), none, false⟩])
 (.seq
 (.block 0
 (.seq
 (.reg false [⟨10, .ld 5 true (.t 2), none, false⟩,
 ⟨11, .ca (.k (.cl 22 [])) [(.t 10)], none, false⟩,
 ⟨12, .nt (.t 11), none, false⟩,
 ⟨9, .mv (.t 12), none, false⟩])
 (.ite (.t 9)
 (.seq
 (.reg false [⟨4, .mv (.k .nl), none, false⟩,
 ⟨5, .mv (.k (.sc (.int .i64 1))), none, false⟩])
 .ret)
 (.seq
 (.reg false [⟨14, .mv (.t 1), none, false⟩,
 ⟨15, .ca (.k (.cl 32 [])) [(.t 14), (.k (.sc (.int .i64 0))), (.k (.sc (.int .i64 115)))], none, false⟩,
 ⟨16, .nt (.t 15), none, false⟩,
 ⟨13, .mv (.t 16), none, false⟩])
 (.ite (.t 13)
 (.seq
 (.reg false [⟨4, .mv (.k .nl), none, false⟩,
 ⟨5, .mv (.k (.sc (.int .i64 2))), none, false⟩])
 .ret)
 .skip)))))
 (.seq
 (.reg false [⟨17, .bw 58 1 [.nl] 0 [], none, false⟩,
 ⟨6, .mv (.t 17), none, false⟩])
 (.seq
 (.seq
 (.reg false [⟨18, .ld 5 true (.t 2), none, false⟩,
 ⟨19, .ca (.k (.cl 23 [])) [(.t 18)], none, false⟩,
 ⟨20, .ln false (.t 19), none, false⟩,
 ⟨21, .mv (.k (.sc (.int .i64 0))), none, false⟩])
 (.cln [6] [4, 5]
 (.block 1
 (.loop [1, 6, 19, 20, 21] b15_1))))
 (.seq
 (.reg false [⟨41, .mv (.t 6), none, false⟩,
 ⟨4, .mv (.t 41), none, false⟩,
 ⟨5, .mv (.k (.sc (.int .i64 0))), none, false⟩])
 .ret)))))⟩
attribute [simp] i15
set_option maxRecDepth 1000000 in
theorem c15 : cFn Tryz.prog 15 [[], [1, 6, 19, 20, 21], [6], [4, 5]] = some i15 := by kernel_rfl
theorem e15 : enterOk Tryz.prog 15 = true := by kernel_rfl
def i16 : Ev.Fn := ⟨2, 18, [.tmp 4],
 (.seq
 (.reg false [⟨2, .bx (.t 0), none, false⟩,
 ⟨4, .mv (.k (.sc (.int .i64 0))), none, false⟩])
 (.seq
 (.reg false [⟨5, .fa 2 (.t 2), none, false⟩,
 ⟨6, .ld 1 false (.t 5), none, false⟩,
 ⟨7, .mv (.t 1), none, false⟩,
 ⟨8, .ca (.k (.cl 33 [])) [(.t 6), (.t 7)], none, false⟩,
 ⟨1, .mv (.t 8), none, false⟩])
 (.seq
 (.seq
 (.reg false [⟨9, .mv (.t 1), none, false⟩,
 ⟨10, .ar .lss false (.t 9) (.k (.sc (.int .i64 0))), none, false⟩])
 (.ite (.t 10)
 (.seq
 (.reg false [⟨4, .mv (.k (.sc (.int .i64 (-1)))), none, false⟩])
 .ret)
 .skip))
 (.seq
 (.reg false [⟨11, .fa 3 (.t 2), none, false⟩,
 ⟨12, .ld 1 false (.t 11), none, false⟩,
 ⟨13, .mv (.t 1), none, false⟩,
 ⟨14, .ca (.k (.cl 34 [])) [(.t 12), (.t 13)], none, false⟩,
 ⟨1, .mv (.t 14), none, false⟩])
 (.seq
 (.seq
 (.reg false [⟨15, .mv (.t 1), none, false⟩,
 ⟨16, .ar .lss false (.t 15) (.k (.sc (.int .i64 0))), none, false⟩])
 (.ite (.t 16)
 (.seq
 (.reg false [⟨4, .mv (.k (.sc (.int .i64 (-1)))), none, false⟩])
 .ret)
 .skip))
 (.seq
 (.reg false [⟨17, .mv (.t 1), none, false⟩,
 ⟨4, .mv (.t 17), none, false⟩])
 .ret))))))⟩
attribute [simp] i16
set_option maxRecDepth 1000000 in
theorem c16 : cFn Tryz.prog 16 [[]] = some i16 := by kernel_rfl
theorem e16 : enterOk Tryz.prog 16 = true := by kernel_rfl
def w17_1 : IC :=
(.seq
 (.seq
 (.reg false [⟨12, .mv (.t 5), none, false⟩,
 ⟨13, .mv (.t 0), none, false⟩,
 ⟨14, .ln false (.t 13), none, false⟩,
 ⟨15, .ar .lss false (.t 12) (.t 14), none, false⟩])
 (.ite (.t 15)
 .skip
 (.exit 0)))
 (.seq
 (.block 1
 (.seq
 (.reg false [⟨18, .mv (.t 0), none, false⟩,
 ⟨19, .mv (.t 5), none, false⟩,
 ⟨20, .ia 3 (.t 18) (.t 19), none, false⟩,
 ⟨21, .ld 3 true (.t 20), none, false⟩,
 ⟨22, .mv (.t 1), none, false⟩,
 ⟨23, .ca (.k (.cl 35 [])) [(.t 21), (.t 22)], none, false⟩,
 ⟨1, .mv (.t 23), none, false⟩])
 (.seq
 (.reg false [⟨24, .mv (.t 1), none, false⟩,
 ⟨25, .ar .lss false (.t 24) (.k (.sc (.int .i64 0))), none, false⟩])
 (.ite (.t 25)
 (.seq
 (.reg false [⟨4, .mv (.k (.sc (.int .i64 (-1)))), none, false⟩])
 .ret)
 .skip))))
 (.reg false [⟨16, .mv (.t 5), none, false⟩,
 ⟨17, .ar .add false (.t 16) (.k (.sc (.int .i64 1))), none, false⟩,
 ⟨5, .mv (.t 17), none, false⟩])))
def b17_1 : IC := w17_1
theorem u17_1 (call : CallF) (st : St) : evC call b17_1 st = evC call w17_1 st := rfl
attribute [simp] u17_1 w17_1
def i17 : Ev.Fn := ⟨2, 27, [.tmp 4],
 (.seq
 (.reg false [⟨4, .mv (.k (.sc (.int .i64 0))), none, false⟩])
 (.seq
 (.reg false [⟨6, .mv (.t 1), none, false⟩,
 ⟨7, .mv (.t 0), none, false⟩,
 ⟨8, .ln false (.t 7), none, false⟩,
 ⟨9, .ar .sub false (.t 6) (.t 8), none, false⟩,
 ⟨1, .mv (.t 9), none, false⟩])
 (.seq
 (.seq
 (.reg false [⟨10, .mv (.t 1), none, false⟩,
 ⟨11, .ar .lss false (.t 10) (.k (.sc (.int .i64 0))), none, false⟩])
 (.ite (.t 11)
 (.seq
 (.reg false [⟨4, .mv (.k (.sc (.int .i64 (-1)))), none, false⟩])
 .ret)
 .skip))
 (.seq
 (.seq
 (.reg false [⟨5, .mv (.k (.sc (.int .i64 0))), none, false⟩])
 (.cln [1] [4]
 (.block 0
 (.loop [0, 1, 5] b17_1))))
 (.seq
 (.reg false [⟨26, .mv (.t 1), none, false⟩,
 ⟨4, .mv (.t 26), none, false⟩])
 .ret)))))⟩
attribute [simp] i17
set_option maxRecDepth 1000000 in
theorem c17 : cFn Tryz.prog 17 [[], [0, 1, 5], [1], [4]] = some i17 := by kernel_rfl
theorem e17 : enterOk Tryz.prog 17 = true := by kernel_rfl
def i18 : Ev.Fn := ⟨1, 28, [.tmp 2],
 (.seq
 (.reg false [⟨2, .mv (.k (.sc (.bool false))), none, false⟩])
 (.seq
 (.reg true [⟨3, .mv (.t 0), none, false⟩,
 ⟨4, .nc (.t 3), none, false⟩,
 ⟨5, .fa 0 (.t 4), none, false⟩,
 ⟨6, .ca (.k (.cl 36 [])) [(.t 5)], none, false⟩,
 ⟨7, .mv (.t 6), none, false⟩,
 ⟨8, .mv (.t 0), (some (7, true)), false⟩,
 ⟨9, .nc (.t 8), (some (7, true)), false⟩,
 ⟨10, .fa 4 (.t 9), (some (7, true)), false⟩,
 ⟨11, .ld 1 false (.t 10), (some (7, true)), false⟩,
 ⟨12, .ca (.k (.cl 37 [])) [(.t 11)], (some (7, true)), false⟩,
 ⟨13, .pk (.t 7) (.t 12) (.k (.sc (.bool false))), none, false⟩,
 ⟨14, .mv (.t 13), none, false⟩,
 ⟨15, .mv (.t 0), (some (14, true)), false⟩,
 ⟨16, .nc (.t 15), (some (14, true)), false⟩,
 ⟨17, .fa 4 (.t 16), (some (14, true)), false⟩,
 ⟨18, .ld 1 false (.t 17), (some (14, true)), false⟩,
 ⟨19, .ln false (.t 18), (some (14, true)), false⟩,
 ⟨20, .mv (.t 0), (some (14, true)), false⟩,
 ⟨21, .nc (.t 20), (some (14, true)), false⟩,
 ⟨22, .fa 0 (.t 21), (some (14, true)), false⟩,
 ⟨23, .fa 3 (.t 22), (some (14, true)), false⟩,
 ⟨24, .ld 1 false (.t 23), (some (14, true)), false⟩,
 ⟨25, .ln false (.t 24), (some (14, true)), false⟩,
 ⟨26, .ar .eql false (.t 19) (.t 25), (some (14, true)), false⟩,
 ⟨27, .pk (.t 14) (.t 26) (.k (.sc (.bool false))), none, false⟩,
 ⟨2, .mv (.t 27), none, false⟩])
 .ret))⟩
attribute [simp] i18
set_option maxRecDepth 1000000 in
theorem c18 : cFn Tryz.prog 18 [[]] = some i18 := by kernel_rfl
theorem e18 : enterOk Tryz.prog 18 = true := by kernel_rfl
def w19_1 : IC :=
(.seq
 (.seq
 (.reg false [⟨13, .mv (.t 5), none, false⟩,
 ⟨14, .mv (.t 4), none, false⟩,
 ⟨15, .ln false (.t 14), none, false⟩,
 ⟨16, .ar .lss false (.t 13) (.t 15), none, false⟩])
 (.ite (.t 16)
 .skip
 (.exit 0)))
 (.seq
 (.block 1
 (.seq
 (.reg false [⟨19, .mv (.t 4), none, false⟩,
 ⟨20, .mv (.t 5), none, false⟩,
 ⟨21, .ia 1 (.t 19) (.t 20), none, false⟩,
 ⟨22, .ld 1 false (.t 21), none, false⟩,
 ⟨23, .ia 1 (.t 22) (.k (.sc (.int .i64 0))), none, false⟩,
 ⟨24, .ld 1 false (.t 23), none, false⟩,
 ⟨6, .mv (.t 24), none, false⟩])
 (.seq
 (.reg false [⟨25, .mv (.t 4), none, false⟩,
 ⟨26, .mv (.t 5), none, false⟩,
 ⟨27, .ia 1 (.t 25) (.t 26), none, false⟩,
 ⟨28, .ld 1 false (.t 27), none, false⟩,
 ⟨29, .ia 1 (.t 28) (.k (.sc (.int .i64 1))), none, false⟩,
 ⟨30, .ld 1 false (.t 29), none, false⟩,
 ⟨7, .mv (.t 30), none, false⟩])
 (.reg true [⟨31, .mv (.t 3), none, false⟩,
 ⟨32, .mv (.t 6), none, false⟩,
 ⟨33, .mv (.t 7), none, false⟩,
 ⟨34, .mv (.t 0), none, false⟩,
 ⟨35, .nc (.t 34), none, false⟩,
 ⟨36, .fa 4 (.t 35), none, false⟩,
 ⟨37, .ld 1 false (.t 36), none, false⟩,
 ⟨38, .mv (.t 6), none, false⟩,
 ⟨39, .ia 3 (.t 37) (.t 38), none, false⟩,
 ⟨40, .mv (.t 0), none, false⟩,
 ⟨41, .nc (.t 40), none, false⟩,
 ⟨42, .fa 4 (.t 41), none, false⟩,
 ⟨43, .ld 1 false (.t 42), none, false⟩,
 ⟨44, .mv (.t 7), none, false⟩,
 ⟨45, .ia 3 (.t 43) (.t 44), none, false⟩,
 ⟨46, .ca (.k (.cl 39 [])) [(.t 39), (.t 45)], none, false⟩,
 ⟨47, .bs 2 1 [(.sc (.int .i64 0))] 3 [(0, (.t 32)), (1, (.t 33)), (2, (.t 46))], none, false⟩,
 ⟨48, .bw 58 1 [.nl] 1 [(0, (.t 47))], none, false⟩,
 ⟨49, .ap 58 1 false (.t 31) (.t 48), none, false⟩,
 ⟨3, .mv (.t 49), none, false⟩]))))
 (.reg false [⟨17, .mv (.t 5), none, false⟩,
 ⟨18, .ar .add false (.t 17) (.k (.sc (.int .i64 1))), none, false⟩,
 ⟨5, .mv (.t 18), none, false⟩])))
def b19_1 : IC := w19_1
theorem u19_1 (call : CallF) (st : St) : evC call b19_1 st = evC call w19_1 st := rfl
attribute [simp] u19_1 w19_1
def i19 : Ev.Fn := ⟨1, 51, [.tmp 2],
 (.seq
 (.reg false [⟨2, .mv (.k .nl), none, false⟩])
 (.seq
 (.reg false [⟨8, .bw 58 1 [.nl] 0 [], none, false⟩,
 ⟨3, .mv (.t 8), none, false⟩])
 (.seq
 (.reg false [⟨9, .mv (.t 0), none, false⟩,
 ⟨10, .nc (.t 9), none, false⟩,
 ⟨11, .fa 0 (.t 10), none, false⟩,
 ⟨12, .ca (.k (.cl 38 [])) [(.t 11)], none, false⟩,
 ⟨4, .mv (.t 12), none, false⟩])
 (.seq
 (.seq
 (.reg false [⟨5, .mv (.k (.sc (.int .i64 0))), none, false⟩])
 (.cln [3] [2]
 (.block 0
 (.loop [0, 3, 4, 5] b19_1))))
 (.seq
 (.reg false [⟨50, .mv (.t 3), none, false⟩,
 ⟨2, .mv (.t 50), none, false⟩])
 .ret)))))⟩
attribute [simp] i19
set_option maxRecDepth 1000000 in
theorem c19 : cFn Tryz.prog 19 [[], [0, 3, 4, 5], [3], [2]] = some i19 := by kernel_rfl
theorem e19 : enterOk Tryz.prog 19 = true := by kernel_rfl
def i20 : Ev.Fn := ⟨1, 19, [.cell 2 4 true],
 (.seq
 (.reg false [⟨1, .bx (.t 0), none, false⟩,
 ⟨2, .al [(.sc (.int .i64 0)), (.sc (.int .i64 0)), .nl, .nl], none, false⟩])
 (.seq
 (.reg false [⟨3, .al [(.sc (.int .i64 0)), (.sc (.int .i64 0)), .nl, .nl], none, false⟩])
 (.seq
 (.reg false [⟨4, .fa 0 (.t 1), none, false⟩,
 ⟨5, .ld 1 false (.t 4), none, false⟩,
 ⟨6, .fa 0 (.t 3), none, false⟩,
 ⟨1, .so 1 (.t 6) (.t 5), none, true⟩])
 (.seq
 (.reg false [⟨7, .fa 1 (.t 1), none, false⟩,
 ⟨8, .ld 1 false (.t 7), none, false⟩,
 ⟨9, .fa 1 (.t 3), none, false⟩,
 ⟨1, .so 1 (.t 9) (.t 8), none, true⟩])
 (.seq
 (.reg false [⟨10, .fa 2 (.t 1), none, false⟩,
 ⟨11, .ld 1 false (.t 10), none, false⟩,
 ⟨12, .ca (.k (.cl 40 [])) [(.t 11)], none, false⟩,
 ⟨13, .fa 2 (.t 3), none, false⟩,
 ⟨1, .so 1 (.t 13) (.t 12), none, true⟩])
 (.seq
 (.reg false [⟨14, .fa 3 (.t 1), none, false⟩,
 ⟨15, .ld 1 false (.t 14), none, false⟩,
 ⟨16, .ca (.k (.cl 41 [])) [(.t 15)], none, false⟩,
 ⟨17, .fa 3 (.t 3), none, false⟩,
 ⟨1, .so 1 (.t 17) (.t 16), none, true⟩])
 (.seq
 (.reg false [⟨18, .ld 4 true (.t 3), none, false⟩,
 ⟨1, .so 4 (.t 2) (.t 18), none, true⟩])
 .ret)))))))⟩
attribute [simp] i20
set_option maxRecDepth 1000000 in
theorem c20 : cFn Tryz.prog 20 [[]] = some i20 := by kernel_rfl
theorem e20 : enterOk Tryz.prog 20 = true := by kernel_rfl
def w21_1 : IC :=
(.seq
 (.seq
 (.reg false [⟨8, .mv (.t 4), none, false⟩,
 ⟨9, .mv (.t 0), none, false⟩,
 ⟨10, .ln false (.t 9), none, false⟩,
 ⟨11, .ar .lss false (.t 8) (.t 10), none, false⟩])
 (.ite (.t 11)
 .skip
 (.exit 0)))
 (.seq
 (.block 1
 (.reg false [⟨14, .mv (.t 3), none, false⟩,
 ⟨15, .mv (.t 4), none, false⟩,
 ⟨16, .mv (.t 0), none, false⟩,
 ⟨17, .mv (.t 4), none, false⟩,
 ⟨18, .ia 3 (.t 16) (.t 17), none, false⟩,
 ⟨19, .ld 3 true (.t 18), none, false⟩,
 ⟨20, .ca (.k (.cl 42 [])) [(.t 19)], none, false⟩,
 ⟨21, .ia 3 (.t 14) (.t 15), none, false⟩,
 ⟨1, .so 3 (.t 21) (.t 20), none, true⟩]))
 (.reg false [⟨12, .mv (.t 4), none, false⟩,
 ⟨13, .ar .add false (.t 12) (.k (.sc (.int .i64 1))), none, false⟩,
 ⟨4, .mv (.t 13), none, false⟩])))
def b21_1 : IC := w21_1
theorem u21_1 (call : CallF) (st : St) : evC call b21_1 st = evC call w21_1 st := rfl
attribute [simp] u21_1 w21_1
def i21 : Ev.Fn := ⟨1, 23, [.tmp 2],
 (.seq
 (.reg false [⟨2, .mv (.k .nl), none, false⟩])
 (.seq
 (.reg false [⟨5, .mv (.t 0), none, false⟩,
 ⟨6, .ln false (.t 5), none, false⟩,
 ⟨7, .ms 76 3 [(.sc (.string ⟨#[]⟩)), (.sc (.int .i64 0)), (.sc (.int .i64 0))] (.t 6), none, false⟩,
 ⟨3, .mv (.t 7), none, false⟩])
 (.seq
 (.seq
 (.reg false [⟨4, .mv (.k (.sc (.int .i64 0))), none, false⟩])
 (.cln [3] [2]
 (.block 0
 (.loop [0, 3, 4] b21_1))))
 (.seq
 (.reg false [⟨22, .mv (.t 3), none, false⟩,
 ⟨2, .mv (.t 22), none, false⟩])
 .ret))))⟩
attribute [simp] i21
set_option maxRecDepth 1000000 in
theorem c21 : cFn Tryz.prog 21 [[], [0, 3, 4], [3], [2]] = some i21 := by kernel_rfl
theorem e21 : enterOk Tryz.prog 21 = true := by kernel_rfl
def i22 : Ev.Fn := ⟨1, 21, [.tmp 2],
 (.seq
 (.reg false [⟨1, .bx (.t 0), none, false⟩,
 ⟨2, .mv (.k (.sc (.bool false))), none, false⟩])
 (.seq
 (.reg false [⟨3, .fa 0 (.t 1), none, false⟩,
 ⟨4, .ld 4 true (.t 3), none, false⟩,
 ⟨5, .ca (.k (.cl 43 [])) [(.t 4)], none, false⟩,
 ⟨6, .mv (.t 5), none, false⟩,
 ⟨7, .fa 4 (.t 1), (some (6, true)), false⟩,
 ⟨8, .ld 1 false (.t 7), (some (6, true)), false⟩,
 ⟨9, .ln false (.t 8), (some (6, true)), false⟩,
 ⟨10, .fa 0 (.t 1), (some (6, true)), false⟩,
 ⟨11, .fa 3 (.t 10), (some (6, true)), false⟩,
 ⟨12, .ld 1 false (.t 11), (some (6, true)), false⟩,
 ⟨13, .ln false (.t 12), (some (6, true)), false⟩,
 ⟨14, .ar .eql false (.t 9) (.t 13), (some (6, true)), false⟩,
 ⟨15, .pk (.t 6) (.t 14) (.k (.sc (.bool false))), none, false⟩,
 ⟨16, .mv (.t 15), none, false⟩,
 ⟨17, .fa 4 (.t 1), (some (16, true)), false⟩,
 ⟨18, .ld 1 false (.t 17), (some (16, true)), false⟩,
 ⟨19, .ca (.k (.cl 44 [])) [(.t 18)], (some (16, true)), false⟩,
 ⟨20, .pk (.t 16) (.t 19) (.k (.sc (.bool false))), none, false⟩,
 ⟨2, .mv (.t 20), none, false⟩])
 .ret))⟩
attribute [simp] i22
set_option maxRecDepth 1000000 in
theorem c22 : cFn Tryz.prog 22 [[]] = some i22 := by kernel_rfl
theorem e22 : enterOk Tryz.prog 22 = true := by kernel_rfl
def w23_2 : IC :=
(.seq
 (.reg false [⟨21, .ar .lss false (.t 20) (.t 19), none, false⟩])
 (.seq
 (.ite (.t 21)
 .skip
 (.exit 2))
 (.seq
 (.block 3
 (.seq
 (.reg false [⟨22, .ia 1 (.t 18) (.t 20), none, false⟩,
 ⟨23, .ld 1 false (.t 22), none, false⟩,
 ⟨7, .mv (.t 23), none, false⟩])
 (.seq
 (.reg false [⟨24, .mv (.t 7), none, false⟩,
 ⟨25, .mv (.t 4), none, false⟩,
 ⟨26, .ar .gtr false (.t 24) (.t 25), none, false⟩])
 (.ite (.t 26)
 (.reg true [⟨27, .mv (.t 3), none, false⟩,
 ⟨28, .mv (.t 4), none, false⟩,
 ⟨29, .mv (.t 7), none, false⟩,
 ⟨30, .fa 4 (.t 1), none, false⟩,
 ⟨31, .ld 1 false (.t 30), none, false⟩,
 ⟨32, .mv (.t 4), none, false⟩,
 ⟨33, .ia 3 (.t 31) (.t 32), none, false⟩,
 ⟨34, .ld 3 true (.t 33), none, false⟩,
 ⟨35, .fa 4 (.t 1), none, false⟩,
 ⟨36, .ld 1 false (.t 35), none, false⟩,
 ⟨37, .mv (.t 7), none, false⟩,
 ⟨38, .ia 3 (.t 36) (.t 37), none, false⟩,
 ⟨39, .ld 3 true (.t 38), none, false⟩,
 ⟨40, .ca (.k (.cl 46 [])) [(.t 34), (.t 39)], none, false⟩,
 ⟨41, .bs 2 1 [(.sc (.int .i64 0))] 3 [(0, (.t 28)), (1, (.t 29)), (2, (.t 40))], none, false⟩,
 ⟨42, .bw 58 1 [.nl] 1 [(0, (.t 41))], none, false⟩,
 ⟨43, .ap 58 1 false (.t 27) (.t 42), none, false⟩,
 ⟨3, .mv (.t 43), none, false⟩])
 .skip))))
 (.reg false [⟨44, .ar .add false (.t 20) (.k (.sc (.int .i64 1))), none, false⟩,
 ⟨20, .mv (.t 44), none, false⟩]))))
def b23_2 : IC := w23_2
theorem u23_2 (call : CallF) (st : St) : evC call b23_2 st = evC call w23_2 st := rfl
attribute [simp] u23_2 w23_2
def w23_1 : IC :=
(.seq
 (.reg false [⟨14, .ar .lss false (.t 13) (.t 12), none, false⟩])
 (.seq
 (.ite (.t 14)
 .skip
 (.exit 0))
 (.seq
 (.block 1
 (.seq
 (.reg false [⟨15, .mv (.t 13), none, false⟩,
 ⟨16, .ia 1 (.t 11) (.t 13), none, false⟩,
 ⟨17, .ld 1 false (.t 16), none, false⟩,
 ⟨4, .mv (.t 15), none, false⟩,
 ⟨5, .mv (.t 17), none, false⟩])
 (.seq
 (.reg false [⟨18, .mv (.t 5), none, false⟩,
 ⟨19, .ln false (.t 18), none, false⟩,
 ⟨20, .mv (.k (.sc (.int .i64 0))), none, false⟩])
 (.cln [1, 3, 11, 12, 13] [2]
 (.block 2
 (.loop [1, 3, 4, 11, 12, 13, 18, 19, 20] b23_2))))))
 (.reg false [⟨45, .ar .add false (.t 13) (.k (.sc (.int .i64 1))), none, false⟩,
 ⟨13, .mv (.t 45), none, false⟩]))))
def b23_1 : IC := w23_1
theorem u23_1 (call : CallF) (st : St) : evC call b23_1 st = evC call w23_1 st := rfl
attribute [simp] u23_1 w23_1
def i23 : Ev.Fn := ⟨1, 47, [.tmp 2],
 (.seq
 (.reg false [⟨1, .bx (.t 0), none, false⟩,
 ⟨2, .mv (.k .nl), none, false⟩])
 (.seq
 (.reg false [⟨8, .bw 58 1 [.nl] 0 [], none, false⟩,
 ⟨3, .mv (.t 8), none, false⟩])
 (.seq
 (.seq
 (.reg false [⟨9, .fa 0 (.t 1), none, false⟩,
 ⟨10, .ld 4 true (.t 9), none, false⟩,
 ⟨11, .ca (.k (.cl 45 [])) [(.t 10)], none, false⟩,
 ⟨12, .ln false (.t 11), none, false⟩,
 ⟨13, .mv (.k (.sc (.int .i64 0))), none, false⟩])
 (.cln [3] [2]
 (.block 0
 (.loop [1, 3, 11, 12, 13] b23_1))))
 (.seq
 (.reg false [⟨46, .mv (.t 3), none, false⟩,
 ⟨2, .mv (.t 46), none, false⟩])
 .ret))))⟩
attribute [simp] i23
set_option maxRecDepth 1000000 in
theorem c23 : cFn Tryz.prog 23 [[], [1, 3, 11, 12, 13], [1, 3, 4, 11, 12, 13, 18, 19, 20], [1, 3, 11, 12, 13], [2], [3], [2]] = some i23 := by kernel_rfl
theorem e23 : enterOk Tryz.prog 23 = true := by kernel_rfl
def w24_1 : IC :=
(.seq
 (.seq
 (.reg false [⟨11, .mv (.t 5), none, false⟩,
 ⟨12, .mv (.t 0), none, false⟩,
 ⟨13, .ln false (.t 12), none, false⟩,
 ⟨14, .ar .lss false (.t 11) (.t 13), none, false⟩])
 (.ite (.t 14)
 .skip
 (.exit 0)))
 (.seq
 (.block 1
 (.seq
 (.reg true [⟨17, .mv (.t 0), none, false⟩,
 ⟨18, .mv (.t 5), none, false⟩,
 ⟨19, .ia 1 (.t 17) (.t 18), none, false⟩,
 ⟨20, .ld 1 false (.t 19), none, false⟩,
 ⟨21, .mv (.t 1), none, false⟩,
 ⟨22, .mv (.t 5), none, false⟩,
 ⟨23, .ia 1 (.t 21) (.t 22), none, false⟩,
 ⟨24, .ld 1 false (.t 23), none, false⟩,
 ⟨25, .ar .neq false (.t 20) (.t 24), none, false⟩])
 (.ite (.t 25)
 (.seq
 (.reg false [⟨4, .mv (.k (.sc (.bool false))), none, false⟩])
 .ret)
 .skip)))
 (.reg false [⟨15, .mv (.t 5), none, false⟩,
 ⟨16, .ar .add false (.t 15) (.k (.sc (.int .i64 1))), none, false⟩,
 ⟨5, .mv (.t 16), none, false⟩])))
def b24_1 : IC := w24_1
theorem u24_1 (call : CallF) (st : St) : evC call b24_1 st = evC call w24_1 st := rfl
attribute [simp] u24_1 w24_1
def i24 : Ev.Fn := ⟨2, 26, [.tmp 4],
 (.seq
 (.reg false [⟨4, .mv (.k (.sc (.bool false))), none, false⟩])
 (.seq
 (.seq
 (.reg false [⟨6, .mv (.t 0), none, false⟩,
 ⟨7, .ln false (.t 6), none, false⟩,
 ⟨8, .mv (.t 1), none, false⟩,
 ⟨9, .ln false (.t 8), none, false⟩,
 ⟨10, .ar .neq false (.t 7) (.t 9), none, false⟩])
 (.ite (.t 10)
 (.seq
 (.reg false [⟨4, .mv (.k (.sc (.bool false))), none, false⟩])
 .ret)
 .skip))
 (.seq
 (.seq
 (.reg false [⟨5, .mv (.k (.sc (.int .i64 0))), none, false⟩])
 (.cln [] [4]
 (.block 0
 (.loop [0, 1, 5] b24_1))))
 (.seq
 (.reg false [⟨4, .mv (.k (.sc (.bool true))), none, false⟩])
 .ret))))⟩
attribute [simp] i24
set_option maxRecDepth 1000000 in
theorem c24 : cFn Tryz.prog 24 [[], [0, 1, 5], [], [4]] = some i24 := by kernel_rfl
theorem e24 : enterOk Tryz.prog 24 = true := by kernel_rfl
def i25 : Ev.Fn := ⟨2, 27, [.tmp 4],
 (.seq
 (.reg false [⟨2, .bx (.t 0), none, false⟩,
 ⟨3, .bx (.t 1), none, false⟩,
 ⟨4, .mv (.k (.sc (.bool false))), none, false⟩])
 (.seq
 (.seq
 (.reg false [⟨5, .fa 0 (.t 2), none, false⟩,
 ⟨6, .ld 1 false (.t 5), none, false⟩,
 ⟨7, .fa 0 (.t 3), none, false⟩,
 ⟨8, .ld 1 false (.t 7), none, false⟩,
 ⟨9, .ar .neq false (.t 6) (.t 8), none, false⟩])
 (.ite (.t 9)
 (.seq
 (.reg false [⟨4, .mv (.k (.sc (.bool false))), none, false⟩])
 .ret)
 .skip))
 (.seq
 (.seq
 (.reg false [⟨10, .fa 1 (.t 2), none, false⟩,
 ⟨11, .ld 1 false (.t 10), none, false⟩,
 ⟨12, .fa 1 (.t 3), none, false⟩,
 ⟨13, .ld 1 false (.t 12), none, false⟩,
 ⟨14, .ar .neq false (.t 11) (.t 13), none, false⟩])
 (.ite (.t 14)
 (.seq
 (.reg false [⟨4, .mv (.k (.sc (.bool false))), none, false⟩])
 .ret)
 .skip))
 (.seq
 (.seq
 (.reg false [⟨15, .fa 2 (.t 2), none, false⟩,
 ⟨16, .ld 1 false (.t 15), none, false⟩,
 ⟨17, .fa 2 (.t 3), none, false⟩,
 ⟨18, .ld 1 false (.t 17), none, false⟩,
 ⟨19, .ca (.k (.cl 47 [])) [(.t 16), (.t 18)], none, false⟩,
 ⟨20, .nt (.t 19), none, false⟩])
 (.ite (.t 20)
 (.seq
 (.reg false [⟨4, .mv (.k (.sc (.bool false))), none, false⟩])
 .ret)
 .skip))
 (.seq
 (.seq
 (.reg false [⟨21, .fa 3 (.t 2), none, false⟩,
 ⟨22, .ld 1 false (.t 21), none, false⟩,
 ⟨23, .fa 3 (.t 3), none, false⟩,
 ⟨24, .ld 1 false (.t 23), none, false⟩,
 ⟨25, .ca (.k (.cl 48 [])) [(.t 22), (.t 24)], none, false⟩,
 ⟨26, .nt (.t 25), none, false⟩])
 (.ite (.t 26)
 (.seq
 (.reg false [⟨4, .mv (.k (.sc (.bool false))), none, false⟩])
 .ret)
 .skip))
 (.seq
 (.reg false [⟨4, .mv (.k (.sc (.bool true))), none, false⟩])
 .ret))))))⟩
attribute [simp] i25
set_option maxRecDepth 1000000 in
theorem c25 : cFn Tryz.prog 25 [[]] = some i25 := by kernel_rfl
theorem e25 : enterOk Tryz.prog 25 = true := by kernel_rfl
def w26_1 : IC :=
(.seq
 (.seq
 (.reg false [⟨11, .mv (.t 5), none, false⟩,
 ⟨12, .mv (.t 0), none, false⟩,
 ⟨13, .ln false (.t 12), none, false⟩,
 ⟨14, .ar .lss false (.t 11) (.t 13), none, false⟩])
 (.ite (.t 14)
 .skip
 (.exit 0)))
 (.seq
 (.block 1
 (.seq
 (.reg true [⟨17, .mv (.t 0), none, false⟩,
 ⟨18, .mv (.t 5), none, false⟩,
 ⟨19, .ia 3 (.t 17) (.t 18), none, false⟩,
 ⟨20, .ld 3 true (.t 19), none, false⟩,
 ⟨21, .mv (.t 1), none, false⟩,
 ⟨22, .mv (.t 5), none, false⟩,
 ⟨23, .ia 3 (.t 21) (.t 22), none, false⟩,
 ⟨24, .ld 3 true (.t 23), none, false⟩,
 ⟨25, .ca (.k (.cl 49 [])) [(.t 20), (.t 24)], none, false⟩,
 ⟨26, .nt (.t 25), none, false⟩])
 (.ite (.t 26)
 (.seq
 (.reg false [⟨4, .mv (.k (.sc (.bool false))), none, false⟩])
 .ret)
 .skip)))
 (.reg false [⟨15, .mv (.t 5), none, false⟩,
 ⟨16, .ar .add false (.t 15) (.k (.sc (.int .i64 1))), none, false⟩,
 ⟨5, .mv (.t 16), none, false⟩])))
def b26_1 : IC := w26_1
theorem u26_1 (call : CallF) (st : St) : evC call b26_1 st = evC call w26_1 st := rfl
attribute [simp] u26_1 w26_1
def i26 : Ev.Fn := ⟨2, 27, [.tmp 4],
 (.seq
 (.reg false [⟨4, .mv (.k (.sc (.bool false))), none, false⟩])
 (.seq
 (.seq
 (.reg false [⟨6, .mv (.t 0), none, false⟩,
 ⟨7, .ln false (.t 6), none, false⟩,
 ⟨8, .mv (.t 1), none, false⟩,
 ⟨9, .ln false (.t 8), none, false⟩,
 ⟨10, .ar .neq false (.t 7) (.t 9), none, false⟩])
 (.ite (.t 10)
 (.seq
 (.reg false [⟨4, .mv (.k (.sc (.bool false))), none, false⟩])
 .ret)
 .skip))
 (.seq
 (.seq
 (.reg false [⟨5, .mv (.k (.sc (.int .i64 0))), none, false⟩])
 (.cln [] [4]
 (.block 0
 (.loop [0, 1, 5] b26_1))))
 (.seq
 (.reg false [⟨4, .mv (.k (.sc (.bool true))), none, false⟩])
 .ret))))⟩
attribute [simp] i26
set_option maxRecDepth 1000000 in
theorem c26 : cFn Tryz.prog 26 [[], [0, 1, 5], [], [4]] = some i26 := by kernel_rfl
theorem e26 : enterOk Tryz.prog 26 = true := by kernel_rfl
def i27 : Ev.Fn := ⟨2, 14, [.tmp 4],
 (.seq
 (.reg false [⟨2, .bx (.t 0), none, false⟩,
 ⟨4, .mv (.k (.sc (.int .i64 0))), none, false⟩])
 (.seq
 (.rgw [⟨5, .fa 2 (.t 2), none, false⟩,
 ⟨6, .ld 1 false (.t 5), none, false⟩,
 ⟨7, .mv (.t 1), none, false⟩,
 ⟨8, .cw 50 [] [(.t 6), (.t 7)], none, false⟩,
 ⟨1, .mv (.t 8), none, false⟩])
 (.seq
 (.rgw [⟨9, .fa 3 (.t 2), none, false⟩,
 ⟨10, .ld 1 false (.t 9), none, false⟩,
 ⟨11, .mv (.t 1), none, false⟩,
 ⟨12, .cw 51 [] [(.t 10), (.t 11)], none, false⟩,
 ⟨1, .mv (.t 12), none, false⟩])
 (.seq
 (.reg false [⟨13, .mv (.t 1), none, false⟩,
 ⟨4, .mv (.t 13), none, false⟩])
 .ret))))⟩
attribute [simp] i27
set_option maxRecDepth 1000000 in
theorem c27 : cFn Tryz.prog 27 [[50, 51]] = some i27 := by kernel_rfl
theorem e27 : enterOk Tryz.prog 27 = true := by kernel_rfl
def w28_1 : IC :=
(.seq
 (.seq
 (.reg false [⟨6, .mv (.t 5), none, false⟩,
 ⟨7, .mv (.t 0), none, false⟩,
 ⟨8, .ln false (.t 7), none, false⟩,
 ⟨9, .ar .lss false (.t 6) (.t 8), none, false⟩])
 (.ite (.t 9)
 .skip
 (.exit 0)))
 (.seq
 (.block 1
 (.seq
 (.reg false [⟨12, .mv (.t 0), none, false⟩,
 ⟨13, .mv (.t 5), none, false⟩,
 ⟨14, .mv (.t 1), none, false⟩,
 ⟨15, .ca (.k (.cl 52 [])) [(.t 14)], none, false⟩,
 ⟨16, .ia 3 (.t 12) (.t 13), none, false⟩,
 ⟨17, .fa 0 (.t 16), none, false⟩,
 ⟨1, .so 1 (.t 17) (.t 15), none, true⟩])
 (.seq
 (.reg false [⟨18, .mv (.t 1), none, false⟩,
 ⟨19, .ar .add false (.t 18) (.k (.sc (.int .i64 1))), none, false⟩,
 ⟨1, .mv (.t 19), none, false⟩])
 (.seq
 (.reg false [⟨20, .mv (.t 0), none, false⟩,
 ⟨21, .mv (.t 5), none, false⟩,
 ⟨22, .mv (.t 1), none, false⟩,
 ⟨23, .ia 3 (.t 20) (.t 21), none, false⟩,
 ⟨24, .fa 1 (.t 23), none, false⟩,
 ⟨1, .so 1 (.t 24) (.t 22), none, true⟩])
 (.seq
 (.reg false [⟨25, .mv (.t 1), none, false⟩,
 ⟨26, .ar .add false (.t 25) (.k (.sc (.int .i64 1))), none, false⟩,
 ⟨1, .mv (.t 26), none, false⟩])
 (.seq
 (.reg false [⟨27, .mv (.t 0), none, false⟩,
 ⟨28, .mv (.t 5), none, false⟩,
 ⟨29, .mv (.t 1), none, false⟩,
 ⟨30, .ia 3 (.t 27) (.t 28), none, false⟩,
 ⟨31, .fa 2 (.t 30), none, false⟩,
 ⟨1, .so 1 (.t 31) (.t 29), none, true⟩])
 (.reg false [⟨32, .mv (.t 1), none, false⟩,
 ⟨33, .ar .add false (.t 32) (.k (.sc (.int .i64 1))), none, false⟩,
 ⟨1, .mv (.t 33), none, false⟩])))))))
 (.reg false [⟨10, .mv (.t 5), none, false⟩,
 ⟨11, .ar .add false (.t 10) (.k (.sc (.int .i64 1))), none, false⟩,
 ⟨5, .mv (.t 11), none, false⟩])))
def b28_1 : IC := w28_1
theorem u28_1 (call : CallF) (st : St) : evC call b28_1 st = evC call w28_1 st := rfl
attribute [simp] u28_1 w28_1
def i28 : Ev.Fn := ⟨2, 35, [.tmp 4],
 (.seq
 (.reg false [⟨4, .mv (.k (.sc (.int .i64 0))), none, false⟩])
 (.seq
 (.seq
 (.reg false [⟨5, .mv (.k (.sc (.int .i64 0))), none, false⟩])
 (.cln [1, 100000] [4, 100000]
 (.block 0
 (.loop [0, 1, 5, 100000] b28_1))))
 (.seq
 (.reg false [⟨34, .mv (.t 1), none, false⟩,
 ⟨4, .mv (.t 34), none, false⟩])
 .ret)))⟩
attribute [simp] i28
set_option maxRecDepth 1000000 in
theorem c28 : cFn Tryz.prog 28 [[], [0, 1, 5, 100000], [1, 100000], [4, 100000]] = some i28 := by kernel_rfl
theorem e28 : enterOk Tryz.prog 28 = true := by kernel_rfl
def w29_1 : IC :=
(.seq
 (.seq
 (.reg false [⟨6, .mv (.t 5), none, false⟩,
 ⟨7, .mv (.t 0), none, false⟩,
 ⟨8, .ln false (.t 7), none, false⟩,
 ⟨9, .ar .lss false (.t 6) (.t 8), none, false⟩])
 (.ite (.t 9)
 .skip
 (.exit 0)))
 (.seq
 (.block 1
 (.seq
 (.reg false [⟨12, .mv (.t 0), none, false⟩,
 ⟨13, .mv (.t 5), none, false⟩,
 ⟨14, .mv (.t 1), none, false⟩,
 ⟨15, .ia 1 (.t 12) (.t 13), none, false⟩,
 ⟨1, .so 1 (.t 15) (.t 14), none, true⟩])
 (.reg false [⟨16, .mv (.t 1), none, false⟩,
 ⟨17, .ar .add false (.t 16) (.k (.sc (.int .i64 1))), none, false⟩,
 ⟨1, .mv (.t 17), none, false⟩])))
 (.reg false [⟨10, .mv (.t 5), none, false⟩,
 ⟨11, .ar .add false (.t 10) (.k (.sc (.int .i64 1))), none, false⟩,
 ⟨5, .mv (.t 11), none, false⟩])))
def b29_1 : IC := w29_1
theorem u29_1 (call : CallF) (st : St) : evC call b29_1 st = evC call w29_1 st := rfl
attribute [simp] u29_1 w29_1
def i29 : Ev.Fn := ⟨2, 19, [.tmp 4],
 (.seq
 (.reg false [⟨4, .mv (.k (.sc (.int .i64 0))), none, false⟩])
 (.seq
 (.seq
 (.reg false [⟨5, .mv (.k (.sc (.int .i64 0))), none, false⟩])
 (.cln [1, 100000] [4, 100000]
 (.block 0
 (.loop [0, 1, 5, 100000] b29_1))))
 (.seq
 (.reg false [⟨18, .mv (.t 1), none, false⟩,
 ⟨4, .mv (.t 18), none, false⟩])
 .ret)))⟩
attribute [simp] i29
set_option maxRecDepth 1000000 in
theorem c29 : cFn Tryz.prog 29 [[], [0, 1, 5, 100000], [1, 100000], [4, 100000]] = some i29 := by kernel_rfl
theorem e29 : enterOk Tryz.prog 29 = true := by kernel_rfl
def w30_1 : IC :=
(.seq
 (.seq
 (.reg false [⟨6, .mv (.t 5), none, false⟩,
 ⟨7, .mv (.t 0), none, false⟩,
 ⟨8, .ln false (.t 7), none, false⟩,
 ⟨9, .ar .lss false (.t 6) (.t 8), none, false⟩])
 (.ite (.t 9)
 .skip
 (.exit 0)))
 (.seq
 (.block 1
 (.seq
 (.seq
 (.reg false [⟨12, .mv (.t 0), none, false⟩,
 ⟨13, .mv (.t 5), none, false⟩,
 ⟨14, .ia 1 (.t 12) (.t 13), none, false⟩,
 ⟨15, .ld 1 false (.t 14), none, false⟩,
 ⟨16, .mv (.t 1), none, false⟩,
 ⟨17, .ar .neq false (.t 15) (.t 16), none, false⟩])
 (.ite (.t 17)
 (.seq
 (.reg false [⟨4, .mv (.k (.sc (.int .i64 (-1)))), none, false⟩])
 .ret)
 .skip))
 (.reg false [⟨18, .mv (.t 1), none, false⟩,
 ⟨19, .ar .add false (.t 18) (.k (.sc (.int .i64 1))), none, false⟩,
 ⟨1, .mv (.t 19), none, false⟩])))
 (.reg false [⟨10, .mv (.t 5), none, false⟩,
 ⟨11, .ar .add false (.t 10) (.k (.sc (.int .i64 1))), none, false⟩,
 ⟨5, .mv (.t 11), none, false⟩])))
def b30_1 : IC := w30_1
theorem u30_1 (call : CallF) (st : St) : evC call b30_1 st = evC call w30_1 st := rfl
attribute [simp] u30_1 w30_1
def i30 : Ev.Fn := ⟨2, 21, [.tmp 4],
 (.seq
 (.reg false [⟨4, .mv (.k (.sc (.int .i64 0))), none, false⟩])
 (.seq
 (.seq
 (.reg false [⟨5, .mv (.k (.sc (.int .i64 0))), none, false⟩])
 (.cln [1] [4]
 (.block 0
 (.loop [0, 1, 5] b30_1))))
 (.seq
 (.reg false [⟨20, .mv (.t 1), none, false⟩,
 ⟨4, .mv (.t 20), none, false⟩])
 .ret)))⟩
attribute [simp] i30
set_option maxRecDepth 1000000 in
theorem c30 : cFn Tryz.prog 30 [[], [0, 1, 5], [1], [4]] = some i30 := by kernel_rfl
theorem e30 : enterOk Tryz.prog 30 = true := by kernel_rfl
def i31 : Ev.Fn := ⟨3, 15, [.tmp 6],
 (.seq
 (.reg false [⟨6, .mv (.k (.sc (.bool false))), none, false⟩])
 (.seq
 (.reg false [⟨7, .mv (.t 0), none, false⟩,
 ⟨8, .mv (.t 1), none, false⟩,
 ⟨9, .ar .geq false (.t 7) (.t 8), none, false⟩,
 ⟨10, .mv (.t 9), none, false⟩,
 ⟨11, .mv (.t 0), (some (10, true)), false⟩,
 ⟨12, .mv (.t 2), (some (10, true)), false⟩,
 ⟨13, .ar .leq false (.t 11) (.t 12), (some (10, true)), false⟩,
 ⟨14, .pk (.t 10) (.t 13) (.k (.sc (.bool false))), none, false⟩,
 ⟨6, .mv (.t 14), none, false⟩])
 .ret))⟩
attribute [simp] i31
set_option maxRecDepth 1000000 in
theorem c31 : cFn Tryz.prog 31 [[]] = some i31 := by kernel_rfl
theorem e31 : enterOk Tryz.prog 31 = true := by kernel_rfl
def i32 : Ev.Fn := ⟨3, 15, [.tmp 6],
 (.seq
 (.reg false [⟨6, .mv (.k (.sc (.bool false))), none, false⟩])
 (.seq
 (.reg false [⟨7, .mv (.t 0), none, false⟩,
 ⟨8, .mv (.t 1), none, false⟩,
 ⟨9, .ar .geq false (.t 7) (.t 8), none, false⟩,
 ⟨10, .mv (.t 9), none, false⟩,
 ⟨11, .mv (.t 0), (some (10, true)), false⟩,
 ⟨12, .mv (.t 2), (some (10, true)), false⟩,
 ⟨13, .ar .leq false (.t 11) (.t 12), (some (10, true)), false⟩,
 ⟨14, .pk (.t 10) (.t 13) (.k (.sc (.bool false))), none, false⟩,
 ⟨6, .mv (.t 14), none, false⟩])
 .ret))⟩
attribute [simp] i32
set_option maxRecDepth 1000000 in
theorem c32 : cFn Tryz.prog 32 [[]] = some i32 := by kernel_rfl
theorem e32 : enterOk Tryz.prog 32 = true := by kernel_rfl
def i33 : Ev.Fn := ⟨2, 12, [.tmp 4],
 (.seq
 (.reg false [⟨4, .mv (.k (.sc (.int .i64 0))), none, false⟩])
 (.seq
 (.reg false [⟨5, .mv (.t 1), none, false⟩,
 ⟨6, .mv (.t 0), none, false⟩,
 ⟨7, .ln false (.t 6), none, false⟩,
 ⟨8, .ar .sub false (.t 5) (.t 7), none, false⟩,
 ⟨1, .mv (.t 8), none, false⟩])
 (.seq
 (.seq
 (.reg false [⟨9, .mv (.t 1), none, false⟩,
 ⟨10, .ar .lss false (.t 9) (.k (.sc (.int .i64 0))), none, false⟩])
 (.ite (.t 10)
 (.seq
 (.reg false [⟨4, .mv (.k (.sc (.int .i64 (-1)))), none, false⟩])
 .ret)
 .skip))
 (.seq
 (.reg false [⟨11, .mv (.t 1), none, false⟩,
 ⟨4, .mv (.t 11), none, false⟩])
 .ret))))⟩
attribute [simp] i33
set_option maxRecDepth 1000000 in
theorem c33 : cFn Tryz.prog 33 [[]] = some i33 := by kernel_rfl
theorem e33 : enterOk Tryz.prog 33 = true := by kernel_rfl
def w34_1 : IC :=
(.seq
 (.seq
 (.reg false [⟨12, .mv (.t 5), none, false⟩,
 ⟨13, .mv (.t 0), none, false⟩,
 ⟨14, .ln false (.t 13), none, false⟩,
 ⟨15, .ar .lss false (.t 12) (.t 14), none, false⟩])
 (.ite (.t 15)
 .skip
 (.exit 0)))
 (.seq
 (.block 1
 (.seq
 (.reg false [⟨18, .mv (.t 0), none, false⟩,
 ⟨19, .mv (.t 5), none, false⟩,
 ⟨20, .ia 2 (.t 18) (.t 19), none, false⟩,
 ⟨21, .ld 2 true (.t 20), none, false⟩,
 ⟨22, .mv (.t 1), none, false⟩,
 ⟨23, .ca (.k (.cl 53 [])) [(.t 21), (.t 22)], none, false⟩,
 ⟨1, .mv (.t 23), none, false⟩])
 (.seq
 (.reg false [⟨24, .mv (.t 1), none, false⟩,
 ⟨25, .ar .lss false (.t 24) (.k (.sc (.int .i64 0))), none, false⟩])
 (.ite (.t 25)
 (.seq
 (.reg false [⟨4, .mv (.k (.sc (.int .i64 (-1)))), none, false⟩])
 .ret)
 .skip))))
 (.reg false [⟨16, .mv (.t 5), none, false⟩,
 ⟨17, .ar .add false (.t 16) (.k (.sc (.int .i64 1))), none, false⟩,
 ⟨5, .mv (.t 17), none, false⟩])))
def b34_1 : IC := w34_1
theorem u34_1 (call : CallF) (st : St) : evC call b34_1 st = evC call w34_1 st := rfl
attribute [simp] u34_1 w34_1
def i34 : Ev.Fn := ⟨2, 27, [.tmp 4],
 (.seq
 (.reg false [⟨4, .mv (.k (.sc (.int .i64 0))), none, false⟩])
 (.seq
 (.reg false [⟨6, .mv (.t 1), none, false⟩,
 ⟨7, .mv (.t 0), none, false⟩,
 ⟨8, .ln false (.t 7), none, false⟩,
 ⟨9, .ar .sub false (.t 6) (.t 8), none, false⟩,
 ⟨1, .mv (.t 9), none, false⟩])
 (.seq
 (.seq
 (.reg false [⟨10, .mv (.t 1), none, false⟩,
 ⟨11, .ar .lss false (.t 10) (.k (.sc (.int .i64 0))), none, false⟩])
 (.ite (.t 11)
 (.seq
 (.reg false [⟨4, .mv (.k (.sc (.int .i64 (-1)))), none, false⟩])
 .ret)
 .skip))
 (.seq
 (.seq
 (.reg false [⟨5, .mv (.k (.sc (.int .i64 0))), none, false⟩])
 (.cln [1] [4]
 (.block 0
 (.loop [0, 1, 5] b34_1))))
 (.seq
 (.reg false [⟨26, .mv (.t 1), none, false⟩,
 ⟨4, .mv (.t 26), none, false⟩])
 .ret)))))⟩
attribute [simp] i34
set_option maxRecDepth 1000000 in
theorem c34 : cFn Tryz.prog 34 [[], [0, 1, 5], [1], [4]] = some i34 := by kernel_rfl
theorem e34 : enterOk Tryz.prog 34 = true := by kernel_rfl
def i35 : Ev.Fn := ⟨2, 13, [.tmp 4],
 (.seq
 (.reg false [⟨2, .bx (.t 0), none, false⟩,
 ⟨4, .mv (.k (.sc (.int .i64 0))), none, false⟩])
 (.seq
 (.reg false [⟨5, .mv (.t 1), none, false⟩,
 ⟨6, .fa 0 (.t 2), none, false⟩,
 ⟨7, .ld 1 false (.t 6), none, false⟩,
 ⟨8, .ln true (.t 7), none, false⟩,
 ⟨9, .ar .sub false (.t 5) (.t 8), none, false⟩,
 ⟨1, .mv (.t 9), none, false⟩])
 (.seq
 (.seq
 (.reg false [⟨10, .mv (.t 1), none, false⟩,
 ⟨11, .ar .lss false (.t 10) (.k (.sc (.int .i64 0))), none, false⟩])
 (.ite (.t 11)
 (.seq
 (.reg false [⟨4, .mv (.k (.sc (.int .i64 (-1)))), none, false⟩])
 .ret)
 .skip))
 (.seq
 (.reg false [⟨12, .mv (.t 1), none, false⟩,
 ⟨4, .mv (.t 12), none, false⟩])
 .ret))))⟩
attribute [simp] i35
set_option maxRecDepth 1000000 in
theorem c35 : cFn Tryz.prog 35 [[]] = some i35 := by kernel_rfl
theorem e35 : enterOk Tryz.prog 35 = true := by kernel_rfl
def w36_1 : IC :=
(.seq
 (.seq
 (.reg false [⟨33, .mv (.t 3), none, false⟩,
 ⟨34, .mv (.t 0), none, false⟩,
 ⟨35, .nc (.t 34), none, false⟩,
 ⟨36, .fa 3 (.t 35), none, false⟩,
 ⟨37, .ld 1 false (.t 36), none, false⟩,
 ⟨38, .ln false (.t 37), none, false⟩,
 ⟨39, .ar .lss false (.t 33) (.t 38), none, false⟩])
 (.ite (.t 39)
 .skip
 (.exit 0)))
 (.seq
 (.block 1
 (.seq
 (.seq
 (.reg true [⟨42, .mv (.t 0), none, false⟩,
 ⟨43, .nc (.t 42), none, false⟩,
 ⟨44, .fa 3 (.t 43), none, false⟩,
 ⟨45, .ld 1 false (.t 44), none, false⟩,
 ⟨46, .mv (.t 3), none, false⟩,
 ⟨47, .ia 2 (.t 45) (.t 46), none, false⟩,
 ⟨48, .fa 0 (.t 47), none, false⟩,
 ⟨49, .ld 1 false (.t 48), none, false⟩,
 ⟨50, .ca (.k (.cl 55 [])) [(.t 49)], none, false⟩,
 ⟨51, .nt (.t 50), none, false⟩,
 ⟨52, .mv (.t 51), none, false⟩,
 ⟨53, .mv (.t 3), (some (52, false)), false⟩,
 ⟨54, .ar .gtr false (.t 53) (.k (.sc (.int .i64 0))), (some (52, false)), false⟩,
 ⟨55, .mv (.t 54), (some (52, false)), false⟩,
 ⟨56, .mv (.t 0), (some (55, true)), false⟩,
 ⟨57, .nc (.t 56), (some (55, true)), false⟩,
 ⟨58, .fa 3 (.t 57), (some (55, true)), false⟩,
 ⟨59, .ld 1 false (.t 58), (some (55, true)), false⟩,
 ⟨60, .mv (.t 3), (some (55, true)), false⟩,
 ⟨61, .ar .sub false (.t 60) (.k (.sc (.int .i64 1))), (some (55, true)), false⟩,
 ⟨62, .ia 2 (.t 59) (.t 61), (some (55, true)), false⟩,
 ⟨63, .fa 0 (.t 62), (some (55, true)), false⟩,
 ⟨64, .ld 1 false (.t 63), (some (55, true)), false⟩,
 ⟨65, .mv (.t 0), (some (55, true)), false⟩,
 ⟨66, .nc (.t 65), (some (55, true)), false⟩,
 ⟨67, .fa 3 (.t 66), (some (55, true)), false⟩,
 ⟨68, .ld 1 false (.t 67), (some (55, true)), false⟩,
 ⟨69, .mv (.t 3), (some (55, true)), false⟩,
 ⟨70, .ia 2 (.t 68) (.t 69), (some (55, true)), false⟩,
 ⟨71, .fa 0 (.t 70), (some (55, true)), false⟩,
 ⟨72, .ld 1 false (.t 71), (some (55, true)), false⟩,
 ⟨73, .ar .geq false (.t 64) (.t 72), (some (55, true)), false⟩,
 ⟨74, .pk (.t 55) (.t 73) (.k (.sc (.bool false))), (some (52, false)), false⟩,
 ⟨75, .pk (.t 52) (.k (.sc (.bool true))) (.t 74), none, false⟩])
 (.ite (.t 75)
 (.seq
 (.reg false [⟨2, .mv (.k (.sc (.bool false))), none, false⟩])
 .ret)
 .skip))
 (.seq
 (.reg false [⟨77, .mv (.t 0), none, false⟩,
 ⟨78, .mv (.t 0), none, false⟩,
 ⟨79, .nc (.t 78), none, false⟩,
 ⟨80, .fa 3 (.t 79), none, false⟩,
 ⟨81, .ld 1 false (.t 80), none, false⟩,
 ⟨82, .mv (.t 3), none, false⟩,
 ⟨83, .ia 2 (.t 81) (.t 82), none, false⟩,
 ⟨84, .fa 1 (.t 83), none, false⟩,
 ⟨85, .ld 1 false (.t 84), none, false⟩,
 ⟨86, .ca (.k (.cl 56 [])) [(.t 77), (.t 85)], none, false⟩,
 ⟨76, .mv (.t 86), none, false⟩,
 ⟨87, .xt (.t 76) 0, none, false⟩,
 ⟨88, .xt (.t 76) 1, none, false⟩,
 ⟨4, .mv (.t 87), none, false⟩,
 ⟨5, .mv (.t 88), none, false⟩])
 (.seq
 (.reg false [⟨89, .mv (.t 5), none, false⟩,
 ⟨90, .nt (.t 89), none, false⟩,
 ⟨91, .mv (.t 90), none, false⟩,
 ⟨92, .mv (.t 4), (some (91, false)), false⟩,
 ⟨93, .ca (.k (.cl 57 [])) [(.t 92)], (some (91, false)), false⟩,
 ⟨94, .nt (.t 93), (some (91, false)), false⟩,
 ⟨95, .pk (.t 91) (.k (.sc (.bool true))) (.t 94), none, false⟩])
 (.ite (.t 95)
 (.seq
 (.reg false [⟨2, .mv (.k (.sc (.bool false))), none, false⟩])
 .ret)
 .skip)))))
 (.reg false [⟨40, .mv (.t 3), none, false⟩,
 ⟨41, .ar .add false (.t 40) (.k (.sc (.int .i64 1))), none, false⟩,
 ⟨3, .mv (.t 41), none, false⟩])))
def b36_1 : IC := w36_1
theorem u36_1 (call : CallF) (st : St) : evC call b36_1 st = evC call w36_1 st := rfl
attribute [simp] u36_1 w36_1
def i36 : Ev.Fn := ⟨1, 96, [.tmp 2],
 (.seq
 (.reg false [⟨2, .mv (.k (.sc (.bool false))), none, false⟩])
 (.seq
 (.seq
 (.reg false [⟨6, .mv (.t 0), none, false⟩,
 ⟨7, .nc (.t 6), none, false⟩,
 ⟨8, .fa 0 (.t 7), none, false⟩,
 ⟨9, .ld 1 false (.t 8), none, false⟩,
 ⟨10, .ca (.k (.cl 31 [])) [(.t 9), (.k (.sc (.int .i64 10))), (.k (.sc (.int .i64 20000)))], none, false⟩,
 ⟨11, .nt (.t 10), none, false⟩,
 ⟨12, .mv (.t 11), none, false⟩,
 ⟨13, .mv (.t 0), (some (12, false)), false⟩,
 ⟨14, .nc (.t 13), (some (12, false)), false⟩,
 ⟨15, .fa 1 (.t 14), (some (12, false)), false⟩,
 ⟨16, .ld 1 false (.t 15), (some (12, false)), false⟩,
 ⟨17, .ca (.k (.cl 31 [])) [(.t 16), (.k (.sc (.int .i64 10))), (.k (.sc (.int .i64 20000)))], (some (12, false)), false⟩,
 ⟨18, .nt (.t 17), (some (12, false)), false⟩,
 ⟨19, .pk (.t 12) (.k (.sc (.bool true))) (.t 18), none, false⟩,
 ⟨20, .mv (.t 19), none, false⟩,
 ⟨21, .mv (.t 0), (some (20, false)), false⟩,
 ⟨22, .ca (.k (.cl 54 [])) [(.t 21)], (some (20, false)), false⟩,
 ⟨23, .nt (.t 22), (some (20, false)), false⟩,
 ⟨24, .pk (.t 20) (.k (.sc (.bool true))) (.t 23), none, false⟩,
 ⟨25, .mv (.t 24), none, false⟩,
 ⟨26, .mv (.t 0), (some (25, false)), false⟩,
 ⟨27, .nc (.t 26), (some (25, false)), false⟩,
 ⟨28, .fa 3 (.t 27), (some (25, false)), false⟩,
 ⟨29, .ld 1 false (.t 28), (some (25, false)), false⟩,
 ⟨30, .ln false (.t 29), (some (25, false)), false⟩,
 ⟨31, .ar .gtr false (.t 30) (.k (.sc (.int .i64 24))), (some (25, false)), false⟩,
 ⟨32, .pk (.t 25) (.k (.sc (.bool true))) (.t 31), none, false⟩])
 (.ite (.t 32)
 (.seq
 (.reg false [⟨2, .mv (.k (.sc (.bool false))), none, false⟩])
 .ret)
 .skip))
 (.seq
 (.seq
 (.reg false [⟨3, .mv (.k (.sc (.int .i64 0))), none, false⟩])
 (.cln [] [2]
 (.block 0
 (.loop [0, 3] b36_1))))
 (.seq
 (.reg false [⟨2, .mv (.k (.sc (.bool true))), none, false⟩])
 .ret))))⟩
attribute [simp] i36
set_option maxRecDepth 1000000 in
theorem c36 : cFn Tryz.prog 36 [[], [0, 3], [], [2]] = some i36 := by kernel_rfl
theorem e36 : enterOk Tryz.prog 36 = true := by kernel_rfl
def w37_1 : IC :=
(.seq
 (.seq
 (.reg false [⟨4, .mv (.t 3), none, false⟩,
 ⟨5, .mv (.t 0), none, false⟩,
 ⟨6, .ln false (.t 5), none, false⟩,
 ⟨7, .ar .lss false (.t 4) (.t 6), none, false⟩])
 (.ite (.t 7)
 .skip
 (.exit 0)))
 (.seq
 (.block 1
 (.seq
 (.reg false [⟨10, .mv (.t 0), none, false⟩,
 ⟨11, .mv (.t 3), none, false⟩,
 ⟨12, .ia 3 (.t 10) (.t 11), none, false⟩,
 ⟨13, .ca (.k (.cl 58 [])) [(.t 12)], none, false⟩,
 ⟨14, .nt (.t 13), none, false⟩])
 (.ite (.t 14)
 (.seq
 (.reg false [⟨2, .mv (.k (.sc (.bool false))), none, false⟩])
 .ret)
 .skip)))
 (.reg false [⟨8, .mv (.t 3), none, false⟩,
 ⟨9, .ar .add false (.t 8) (.k (.sc (.int .i64 1))), none, false⟩,
 ⟨3, .mv (.t 9), none, false⟩])))
def b37_1 : IC := w37_1
theorem u37_1 (call : CallF) (st : St) : evC call b37_1 st = evC call w37_1 st := rfl
attribute [simp] u37_1 w37_1
def i37 : Ev.Fn := ⟨1, 15, [.tmp 2],
 (.seq
 (.reg false [⟨2, .mv (.k (.sc (.bool false))), none, false⟩])
 (.seq
 (.seq
 (.reg false [⟨3, .mv (.k (.sc (.int .i64 0))), none, false⟩])
 (.cln [] [2]
 (.block 0
 (.loop [0, 3] b37_1))))
 (.seq
 (.reg false [⟨2, .mv (.k (.sc (.bool true))), none, false⟩])
 .ret)))⟩
attribute [simp] i37
set_option maxRecDepth 1000000 in
theorem c37 : cFn Tryz.prog 37 [[], [0, 3], [], [2]] = some i37 := by kernel_rfl
theorem e37 : enterOk Tryz.prog 37 = true := by kernel_rfl
def w38_2 : IC :=
(.seq
 (.seq
 (.reg false [⟨20, .mv (.t 6), none, false⟩,
 ⟨21, .mv (.t 5), none, false⟩,
 ⟨22, .ln false (.t 21), none, false⟩,
 ⟨23, .ar .lss false (.t 20) (.t 22), none, false⟩])
 (.ite (.t 23)
 .skip
 (.exit 2)))
 (.seq
 (.block 3
 (.seq
 (.reg false [⟨26, .mv (.t 5), none, false⟩,
 ⟨27, .mv (.t 6), none, false⟩,
 ⟨28, .ia 1 (.t 26) (.t 27), none, false⟩,
 ⟨29, .ld 1 false (.t 28), none, false⟩,
 ⟨30, .mv (.t 4), none, false⟩,
 ⟨31, .ar .gtr false (.t 29) (.t 30), none, false⟩])
 (.ite (.t 31)
 (.reg false [⟨32, .mv (.t 3), none, false⟩,
 ⟨33, .mv (.t 4), none, false⟩,
 ⟨34, .mv (.t 5), none, false⟩,
 ⟨35, .mv (.t 6), none, false⟩,
 ⟨36, .ia 1 (.t 34) (.t 35), none, false⟩,
 ⟨37, .ld 1 false (.t 36), none, false⟩,
 ⟨38, .bs 2 1 [(.sc (.int .i64 0))] 2 [(0, (.t 33)), (1, (.t 37))], none, false⟩,
 ⟨39, .bw 58 1 [.nl] 1 [(0, (.t 38))], none, false⟩,
 ⟨40, .ap 58 1 false (.t 32) (.t 39), none, false⟩,
 ⟨3, .mv (.t 40), none, false⟩])
 .skip)))
 (.reg false [⟨24, .mv (.t 6), none, false⟩,
 ⟨25, .ar .add false (.t 24) (.k (.sc (.int .i64 1))), none, false⟩,
 ⟨6, .mv (.t 25), none, false⟩])))
def b38_2 : IC := w38_2
theorem u38_2 (call : CallF) (st : St) : evC call b38_2 st = evC call w38_2 st := rfl
attribute [simp] u38_2 w38_2
def w38_1 : IC :=
(.seq
 (.seq
 (.reg false [⟨8, .mv (.t 4), none, false⟩,
 ⟨9, .mv (.t 0), none, false⟩,
 ⟨10, .nc (.t 9), none, false⟩,
 ⟨11, .fa 3 (.t 10), none, false⟩,
 ⟨12, .ld 1 false (.t 11), none, false⟩,
 ⟨13, .ln false (.t 12), none, false⟩,
 ⟨14, .ar .lss false (.t 8) (.t 13), none, false⟩])
 (.ite (.t 14)
 .skip
 (.exit 0)))
 (.seq
 (.block 1
 (.seq
 (.reg false [⟨17, .mv (.t 0), none, false⟩,
 ⟨18, .mv (.t 4), none, false⟩,
 ⟨19, .ca (.k (.cl 59 [])) [(.t 17), (.t 18)], none, false⟩,
 ⟨5, .mv (.t 19), none, false⟩])
 (.seq
 (.reg false [⟨6, .mv (.k (.sc (.int .i64 0))), none, false⟩])
 (.cln [0, 3, 4] [2]
 (.block 2
 (.loop [0, 3, 4, 5, 6] b38_2))))))
 (.reg false [⟨15, .mv (.t 4), none, false⟩,
 ⟨16, .ar .add false (.t 15) (.k (.sc (.int .i64 1))), none, false⟩,
 ⟨4, .mv (.t 16), none, false⟩])))
def b38_1 : IC := w38_1
theorem u38_1 (call : CallF) (st : St) : evC call b38_1 st = evC call w38_1 st := rfl
attribute [simp] u38_1 w38_1
def i38 : Ev.Fn := ⟨1, 42, [.tmp 2],
 (.seq
 (.reg false [⟨2, .mv (.k .nl), none, false⟩])
 (.seq
 (.reg false [⟨7, .bw 58 1 [.nl] 0 [], none, false⟩,
 ⟨3, .mv (.t 7), none, false⟩])
 (.seq
 (.seq
 (.reg false [⟨4, .mv (.k (.sc (.int .i64 0))), none, false⟩])
 (.cln [3] [2]
 (.block 0
 (.loop [0, 3, 4] b38_1))))
 (.seq
 (.reg false [⟨41, .mv (.t 3), none, false⟩,
 ⟨2, .mv (.t 41), none, false⟩])
 .ret))))⟩
attribute [simp] i38
set_option maxRecDepth 1000000 in
theorem c38 : cFn Tryz.prog 38 [[], [0, 3, 4], [0, 3, 4, 5, 6], [0, 3, 4], [2], [3], [2]] = some i38 := by kernel_rfl
theorem e38 : enterOk Tryz.prog 38 = true := by kernel_rfl
def i39 : Ev.Fn := ⟨2, 35, [.tmp 4],
 (.seq
 (.reg false [⟨4, .mv (.k (.sc (.int .i64 0))), none, false⟩])
 (.seq
 (.reg true [⟨5, .mv (.t 0), none, false⟩,
 ⟨6, .nc (.t 5), none, false⟩,
 ⟨7, .fa 1 (.t 6), none, false⟩,
 ⟨8, .ld 1 false (.t 7), none, false⟩,
 ⟨9, .mv (.t 1), none, false⟩,
 ⟨10, .nc (.t 9), none, false⟩,
 ⟨11, .fa 1 (.t 10), none, false⟩,
 ⟨12, .ld 1 false (.t 11), none, false⟩,
 ⟨13, .ar .sub false (.t 8) (.t 12), none, false⟩,
 ⟨14, .mv (.t 1), none, false⟩,
 ⟨15, .nc (.t 14), none, false⟩,
 ⟨16, .fa 1 (.t 15), none, false⟩,
 ⟨17, .ld 1 false (.t 16), none, false⟩,
 ⟨18, .mv (.t 0), none, false⟩,
 ⟨19, .nc (.t 18), none, false⟩,
 ⟨20, .fa 1 (.t 19), none, false⟩,
 ⟨21, .ld 1 false (.t 20), none, false⟩,
 ⟨22, .ar .sub false (.t 17) (.t 21), none, false⟩,
 ⟨23, .ca (.k (.cl 60 [])) [(.t 13), (.t 22)], none, false⟩,
 ⟨24, .mv (.t 0), none, false⟩,
 ⟨25, .nc (.t 24), none, false⟩,
 ⟨26, .fa 2 (.t 25), none, false⟩,
 ⟨27, .ld 1 false (.t 26), none, false⟩,
 ⟨28, .mv (.t 1), none, false⟩,
 ⟨29, .nc (.t 28), none, false⟩,
 ⟨30, .fa 2 (.t 29), none, false⟩,
 ⟨31, .ld 1 false (.t 30), none, false⟩,
 ⟨32, .ca (.k (.cl 61 [])) [(.t 27), (.t 31)], none, false⟩,
 ⟨33, .ar .quo false (.t 32) (.k (.sc (.int .i64 6))), none, false⟩,
 ⟨34, .ar .add false (.t 23) (.t 33), none, false⟩,
 ⟨4, .mv (.t 34), none, false⟩])
 .ret))⟩
attribute [simp] i39
set_option maxRecDepth 1000000 in
theorem c39 : cFn Tryz.prog 39 [[]] = some i39 := by kernel_rfl
theorem e39 : enterOk Tryz.prog 39 = true := by kernel_rfl
def w40_1 : IC :=
(.seq
 (.seq
 (.reg false [⟨8, .mv (.t 4), none, false⟩,
 ⟨9, .mv (.t 0), none, false⟩,
 ⟨10, .ln false (.t 9), none, false⟩,
 ⟨11, .ar .lss false (.t 8) (.t 10), none, false⟩])
 (.ite (.t 11)
 .skip
 (.exit 0)))
 (.seq
 (.block 1
 (.reg false [⟨14, .mv (.t 3), none, false⟩,
 ⟨15, .mv (.t 4), none, false⟩,
 ⟨16, .mv (.t 0), none, false⟩,
 ⟨17, .mv (.t 4), none, false⟩,
 ⟨18, .ia 2 (.t 16) (.t 17), none, false⟩,
 ⟨19, .ld 2 true (.t 18), none, false⟩,
 ⟨20, .ca (.k (.cl 62 [])) [(.t 19)], none, false⟩,
 ⟨21, .ia 2 (.t 14) (.t 15), none, false⟩,
 ⟨1, .so 2 (.t 21) (.t 20), none, true⟩]))
 (.reg false [⟨12, .mv (.t 4), none, false⟩,
 ⟨13, .ar .add false (.t 12) (.k (.sc (.int .i64 1))), none, false⟩,
 ⟨4, .mv (.t 13), none, false⟩])))
def b40_1 : IC := w40_1
theorem u40_1 (call : CallF) (st : St) : evC call b40_1 st = evC call w40_1 st := rfl
attribute [simp] u40_1 w40_1
def i40 : Ev.Fn := ⟨1, 23, [.tmp 2],
 (.seq
 (.reg false [⟨2, .mv (.k .nl), none, false⟩])
 (.seq
 (.reg false [⟨5, .mv (.t 0), none, false⟩,
 ⟨6, .ln false (.t 5), none, false⟩,
 ⟨7, .ms 101 2 [(.sc (.int .i64 0)), (.sc (.int .i64 0))] (.t 6), none, false⟩,
 ⟨3, .mv (.t 7), none, false⟩])
 (.seq
 (.seq
 (.reg false [⟨4, .mv (.k (.sc (.int .i64 0))), none, false⟩])
 (.cln [3] [2]
 (.block 0
 (.loop [0, 3, 4] b40_1))))
 (.seq
 (.reg false [⟨22, .mv (.t 3), none, false⟩,
 ⟨2, .mv (.t 22), none, false⟩])
 .ret))))⟩
attribute [simp] i40
set_option maxRecDepth 1000000 in
theorem c40 : cFn Tryz.prog 40 [[], [0, 3, 4], [3], [2]] = some i40 := by kernel_rfl
theorem e40 : enterOk Tryz.prog 40 = true := by kernel_rfl
def w41_1 : IC :=
(.seq
 (.seq
 (.reg false [⟨8, .mv (.t 4), none, false⟩,
 ⟨9, .mv (.t 0), none, false⟩,
 ⟨10, .ln false (.t 9), none, false⟩,
 ⟨11, .ar .lss false (.t 8) (.t 10), none, false⟩])
 (.ite (.t 11)
 .skip
 (.exit 0)))
 (.seq
 (.block 1
 (.reg false [⟨14, .mv (.t 3), none, false⟩,
 ⟨15, .mv (.t 4), none, false⟩,
 ⟨16, .mv (.t 0), none, false⟩,
 ⟨17, .mv (.t 4), none, false⟩,
 ⟨18, .ia 2 (.t 16) (.t 17), none, false⟩,
 ⟨19, .ld 2 true (.t 18), none, false⟩,
 ⟨20, .ca (.k (.cl 63 [])) [(.t 19)], none, false⟩,
 ⟨21, .ia 2 (.t 14) (.t 15), none, false⟩,
 ⟨1, .so 2 (.t 21) (.t 20), none, true⟩]))
 (.reg false [⟨12, .mv (.t 4), none, false⟩,
 ⟨13, .ar .add false (.t 12) (.k (.sc (.int .i64 1))), none, false⟩,
 ⟨4, .mv (.t 13), none, false⟩])))
def b41_1 : IC := w41_1
theorem u41_1 (call : CallF) (st : St) : evC call b41_1 st = evC call w41_1 st := rfl
attribute [simp] u41_1 w41_1
def i41 : Ev.Fn := ⟨1, 23, [.tmp 2],
 (.seq
 (.reg false [⟨2, .mv (.k .nl), none, false⟩])
 (.seq
 (.reg false [⟨5, .mv (.t 0), none, false⟩,
 ⟨6, .ln false (.t 5), none, false⟩,
 ⟨7, .ms 93 2 [(.sc (.string ⟨#[]⟩)), .nl] (.t 6), none, false⟩,
 ⟨3, .mv (.t 7), none, false⟩])
 (.seq
 (.seq
 (.reg false [⟨4, .mv (.k (.sc (.int .i64 0))), none, false⟩])
 (.cln [3] [2]
 (.block 0
 (.loop [0, 3, 4] b41_1))))
 (.seq
 (.reg false [⟨22, .mv (.t 3), none, false⟩,
 ⟨2, .mv (.t 22), none, false⟩])
 .ret))))⟩
attribute [simp] i41
set_option maxRecDepth 1000000 in
theorem c41 : cFn Tryz.prog 41 [[], [0, 3, 4], [3], [2]] = some i41 := by kernel_rfl
theorem e41 : enterOk Tryz.prog 41 = true := by kernel_rfl
def i42 : Ev.Fn := ⟨1, 14, [.cell 2 3 true],
 (.seq
 (.reg false [⟨1, .bx (.t 0), none, false⟩,
 ⟨2, .al [(.sc (.string ⟨#[]⟩)), (.sc (.int .i64 0)), (.sc (.int .i64 0))], none, false⟩])
 (.seq
 (.reg false [⟨3, .al [(.sc (.string ⟨#[]⟩)), (.sc (.int .i64 0)), (.sc (.int .i64 0))], none, false⟩])
 (.seq
 (.reg false [⟨4, .fa 0 (.t 1), none, false⟩,
 ⟨5, .ld 1 false (.t 4), none, false⟩,
 ⟨6, .fa 0 (.t 3), none, false⟩,
 ⟨1, .so 1 (.t 6) (.t 5), none, true⟩])
 (.seq
 (.reg false [⟨7, .fa 1 (.t 1), none, false⟩,
 ⟨8, .ld 1 false (.t 7), none, false⟩,
 ⟨9, .fa 1 (.t 3), none, false⟩,
 ⟨1, .so 1 (.t 9) (.t 8), none, true⟩])
 (.seq
 (.reg false [⟨10, .fa 2 (.t 1), none, false⟩,
 ⟨11, .ld 1 false (.t 10), none, false⟩,
 ⟨12, .fa 2 (.t 3), none, false⟩,
 ⟨1, .so 1 (.t 12) (.t 11), none, true⟩])
 (.seq
 (.reg false [⟨13, .ld 3 true (.t 3), none, false⟩,
 ⟨1, .so 3 (.t 2) (.t 13), none, true⟩])
 .ret))))))⟩
attribute [simp] i42
set_option maxRecDepth 1000000 in
theorem c42 : cFn Tryz.prog 42 [[]] = some i42 := by kernel_rfl
theorem e42 : enterOk Tryz.prog 42 = true := by kernel_rfl
def w43_1 : IC :=
(.seq
 (.reg false [⟨35, .ar .lss false (.t 34) (.t 33), none, false⟩])
 (.seq
 (.ite (.t 35)
 .skip
 (.exit 0))
 (.seq
 (.block 1
 (.seq
 (.reg false [⟨36, .mv (.t 34), none, false⟩,
 ⟨37, .ia 2 (.t 32) (.t 34), none, false⟩,
 ⟨38, .ld 2 true (.t 37), none, false⟩,
 ⟨4, .al [(.sc (.int .i64 0)), (.sc (.int .i64 0))], none, false⟩,
 ⟨3, .mv (.t 36), none, false⟩,
 ⟨1, .so 2 (.t 4) (.t 38), none, true⟩])
 (.seq
 (.reg true [⟨39, .fa 0 (.t 4), none, false⟩,
 ⟨40, .ld 1 false (.t 39), none, false⟩,
 ⟨41, .fa 0 (.t 1), none, false⟩,
 ⟨42, .ld 1 false (.t 41), none, false⟩,
 ⟨43, .ca (.k (.cl 32 [])) [(.t 40), (.k (.sc (.int .i64 0))), (.t 42)], none, false⟩,
 ⟨44, .nt (.t 43), none, false⟩,
 ⟨45, .mv (.t 44), none, false⟩,
 ⟨46, .fa 1 (.t 4), (some (45, false)), false⟩,
 ⟨47, .ld 1 false (.t 46), (some (45, false)), false⟩,
 ⟨48, .fa 1 (.t 1), (some (45, false)), false⟩,
 ⟨49, .ld 1 false (.t 48), (some (45, false)), false⟩,
 ⟨50, .ca (.k (.cl 32 [])) [(.t 47), (.k (.sc (.int .i64 0))), (.t 49)], (some (45, false)), false⟩,
 ⟨51, .nt (.t 50), (some (45, false)), false⟩,
 ⟨52, .pk (.t 45) (.k (.sc (.bool true))) (.t 51), none, false⟩,
 ⟨53, .mv (.t 52), none, false⟩,
 ⟨54, .fa 2 (.t 1), (some (53, false)), false⟩,
 ⟨55, .ld 1 false (.t 54), (some (53, false)), false⟩,
 ⟨56, .mv (.t 3), (some (53, false)), false⟩,
 ⟨57, .sl 2 (.t 55) none (some (.t 56)), (some (53, false)), false⟩,
 ⟨58, .ld 2 true (.t 4), (some (53, false)), false⟩,
 ⟨59, .ca (.k (.cl 64 [])) [(.t 57), (.t 58)], (some (53, false)), false⟩,
 ⟨60, .pk (.t 53) (.k (.sc (.bool true))) (.t 59), none, false⟩])
 (.ite (.t 60)
 (.seq
 (.reg false [⟨2, .mv (.k (.sc (.bool false))), none, false⟩])
 .ret)
 .skip))))
 (.reg false [⟨61, .ar .add false (.t 34) (.k (.sc (.int .i64 1))), none, false⟩,
 ⟨34, .mv (.t 61), none, false⟩]))))
def b43_1 : IC := w43_1
theorem u43_1 (call : CallF) (st : St) : evC call b43_1 st = evC call w43_1 st := rfl
attribute [simp] u43_1 w43_1
def w43_2 : IC :=
(.seq
 (.reg false [⟨66, .ar .lss false (.t 65) (.t 64), none, false⟩])
 (.seq
 (.ite (.t 66)
 .skip
 (.exit 2))
 (.seq
 (.block 3
 (.seq
 (.reg false [⟨67, .mv (.t 65), none, false⟩,
 ⟨68, .ia 2 (.t 63) (.t 65), none, false⟩,
 ⟨69, .ld 2 true (.t 68), none, false⟩,
 ⟨6, .al [(.sc (.string ⟨#[]⟩)), .nl], none, false⟩,
 ⟨5, .mv (.t 67), none, false⟩,
 ⟨1, .so 2 (.t 6) (.t 69), none, true⟩])
 (.seq
 (.seq
 (.reg true [⟨70, .fa 0 (.t 6), none, false⟩,
 ⟨71, .ld 1 false (.t 70), none, false⟩,
 ⟨72, .ca (.k (.cl 65 [])) [(.t 71)], none, false⟩,
 ⟨73, .nt (.t 72), none, false⟩,
 ⟨74, .mv (.t 73), none, false⟩,
 ⟨75, .mv (.t 5), (some (74, false)), false⟩,
 ⟨76, .ar .gtr false (.t 75) (.k (.sc (.int .i64 0))), (some (74, false)), false⟩,
 ⟨77, .mv (.t 76), (some (74, false)), false⟩,
 ⟨78, .fa 3 (.t 1), (some (77, true)), false⟩,
 ⟨79, .ld 1 false (.t 78), (some (77, true)), false⟩,
 ⟨80, .mv (.t 5), (some (77, true)), false⟩,
 ⟨81, .ar .sub false (.t 80) (.k (.sc (.int .i64 1))), (some (77, true)), false⟩,
 ⟨82, .ia 2 (.t 79) (.t 81), (some (77, true)), false⟩,
 ⟨83, .fa 0 (.t 82), (some (77, true)), false⟩,
 ⟨84, .ld 1 false (.t 83), (some (77, true)), false⟩,
 ⟨85, .fa 0 (.t 6), (some (77, true)), false⟩,
 ⟨86, .ld 1 false (.t 85), (some (77, true)), false⟩,
 ⟨87, .ar .geq false (.t 84) (.t 86), (some (77, true)), false⟩,
 ⟨88, .pk (.t 77) (.t 87) (.k (.sc (.bool false))), (some (74, false)), false⟩,
 ⟨89, .pk (.t 74) (.k (.sc (.bool true))) (.t 88), none, false⟩])
 (.ite (.t 89)
 (.seq
 (.reg false [⟨2, .mv (.k (.sc (.bool false))), none, false⟩])
 .ret)
 .skip))
 (.seq
 (.reg false [⟨91, .fa 2 (.t 1), none, false⟩,
 ⟨92, .ld 1 false (.t 91), none, false⟩,
 ⟨93, .fa 1 (.t 6), none, false⟩,
 ⟨94, .ld 1 false (.t 93), none, false⟩,
 ⟨95, .ca (.k (.cl 66 [])) [(.t 92), (.t 94)], none, false⟩,
 ⟨90, .mv (.t 95), none, false⟩,
 ⟨96, .xt (.t 90) 0, none, false⟩,
 ⟨97, .xt (.t 90) 1, none, false⟩,
 ⟨7, .mv (.t 96), none, false⟩,
 ⟨8, .mv (.t 97), none, false⟩])
 (.seq
 (.reg false [⟨98, .mv (.t 8), none, false⟩,
 ⟨99, .nt (.t 98), none, false⟩,
 ⟨100, .mv (.t 99), none, false⟩,
 ⟨101, .mv (.t 7), (some (100, false)), false⟩,
 ⟨102, .ca (.k (.cl 67 [])) [(.t 101)], (some (100, false)), false⟩,
 ⟨103, .nt (.t 102), (some (100, false)), false⟩,
 ⟨104, .pk (.t 100) (.k (.sc (.bool true))) (.t 103), none, false⟩])
 (.ite (.t 104)
 (.seq
 (.reg false [⟨2, .mv (.k (.sc (.bool false))), none, false⟩])
 .ret)
 .skip))))))
 (.reg false [⟨105, .ar .add false (.t 65) (.k (.sc (.int .i64 1))), none, false⟩,
 ⟨65, .mv (.t 105), none, false⟩]))))
def b43_2 : IC := w43_2
theorem u43_2 (call : CallF) (st : St) : evC call b43_2 st = evC call w43_2 st := rfl
attribute [simp] u43_2 w43_2
def i43 : Ev.Fn := ⟨1, 106, [.tmp 2],
 (.seq
 (.reg false [⟨1, .bx (.t 0), none, false⟩,
 ⟨2, .mv (.k (.sc (.bool false))), none, false⟩])
 (.seq
 (.seq
 (.reg false [⟨9, .fa 0 (.t 1), none, false⟩,
 ⟨10, .ld 1 false (.t 9), none, false⟩,
 ⟨11, .ca (.k (.cl 32 [])) [(.t 10), (.k (.sc (.int .i64 10))), (.k (.sc (.int .i64 20000)))], none, false⟩,
 ⟨12, .nt (.t 11), none, false⟩,
 ⟨13, .mv (.t 12), none, false⟩,
 ⟨14, .fa 1 (.t 1), (some (13, false)), false⟩,
 ⟨15, .ld 1 false (.t 14), (some (13, false)), false⟩,
 ⟨16, .ca (.k (.cl 32 [])) [(.t 15), (.k (.sc (.int .i64 10))), (.k (.sc (.int .i64 20000)))], (some (13, false)), false⟩,
 ⟨17, .nt (.t 16), (some (13, false)), false⟩,
 ⟨18, .pk (.t 13) (.k (.sc (.bool true))) (.t 17), none, false⟩,
 ⟨19, .mv (.t 18), none, false⟩,
 ⟨20, .fa 2 (.t 1), (some (19, false)), false⟩,
 ⟨21, .ld 1 false (.t 20), (some (19, false)), false⟩,
 ⟨22, .ln false (.t 21), (some (19, false)), false⟩,
 ⟨23, .ar .gtr false (.t 22) (.k (.sc (.int .i64 48))), (some (19, false)), false⟩,
 ⟨24, .pk (.t 19) (.k (.sc (.bool true))) (.t 23), none, false⟩,
 ⟨25, .mv (.t 24), none, false⟩,
 ⟨26, .fa 3 (.t 1), (some (25, false)), false⟩,
 ⟨27, .ld 1 false (.t 26), (some (25, false)), false⟩,
 ⟨28, .ln false (.t 27), (some (25, false)), false⟩,
 ⟨29, .ar .gtr false (.t 28) (.k (.sc (.int .i64 24))), (some (25, false)), false⟩,
 ⟨30, .pk (.t 25) (.k (.sc (.bool true))) (.t 29), none, false⟩])
 (.ite (.t 30)
 (.seq
 (.reg false [⟨2, .mv (.k (.sc (.bool false))), none, false⟩])
 .ret)
 .skip))
 (.seq
 (.seq
 (.reg false [⟨31, .fa 2 (.t 1), none, false⟩,
 ⟨32, .ld 1 false (.t 31), none, false⟩,
 ⟨33, .ln false (.t 32), none, false⟩,
 ⟨34, .mv (.k (.sc (.int .i64 0))), none, false⟩])
 (.cln [1] [2]
 (.block 0
 (.loop [1, 32, 33, 34] b43_1))))
 (.seq
 (.seq
 (.reg false [⟨62, .fa 3 (.t 1), none, false⟩,
 ⟨63, .ld 1 false (.t 62), none, false⟩,
 ⟨64, .ln false (.t 63), none, false⟩,
 ⟨65, .mv (.k (.sc (.int .i64 0))), none, false⟩])
 (.cln [] [2]
 (.block 2
 (.loop [1, 63, 64, 65] b43_2))))
 (.seq
 (.reg false [⟨2, .mv (.k (.sc (.bool true))), none, false⟩])
 .ret)))))⟩
attribute [simp] i43
set_option maxRecDepth 1000000 in
theorem c43 : cFn Tryz.prog 43 [[], [1, 32, 33, 34], [1], [2], [1, 63, 64, 65], [], [2]] = some i43 := by kernel_rfl
theorem e43 : enterOk Tryz.prog 43 = true := by kernel_rfl
def i44 : Ev.Fn := ⟨1, 6, [.tmp 2],
 (.seq
 (.reg false [⟨2, .mv (.k (.sc (.bool false))), none, false⟩])
 (.seq
 (.reg false [⟨3, .mv (.t 0), none, false⟩,
 ⟨4, .ca (.k (.cl 68 [])) [(.t 3), (.k (.cl 69 []))], none, false⟩,
 ⟨5, .nt (.t 4), none, false⟩,
 ⟨2, .mv (.t 5), none, false⟩])
 .ret))⟩
attribute [simp] i44
set_option maxRecDepth 1000000 in
theorem c44 : cFn Tryz.prog 44 [[]] = some i44 := by kernel_rfl
theorem e44 : enterOk Tryz.prog 44 = true := by kernel_rfl
def w45_1 : IC :=
(.seq
 (.reg false [⟨14, .ar .lss false (.t 13) (.t 12), none, false⟩])
 (.seq
 (.ite (.t 14)
 .skip
 (.exit 0))
 (.seq
 (.block 1
 (.seq
 (.reg false [⟨15, .ia 2 (.t 11) (.t 13), none, false⟩,
 ⟨16, .ld 2 true (.t 15), none, false⟩,
 ⟨5, .al [(.sc (.string ⟨#[]⟩)), .nl], none, false⟩,
 ⟨1, .so 2 (.t 5) (.t 16), none, true⟩])
 (.rgc [.nx 20 3] [⟨17, .ld 1 false (.t 3), none, false⟩,
 ⟨18, .fa 1 (.t 5), none, false⟩,
 ⟨19, .ld 1 false (.t 18), none, false⟩,
 ⟨20, .ca (.k (.cl 71 [])) [(.t 19)], none, false⟩,
 ⟨21, .bw 110 1 [.nl] 1 [(0, (.t 20))], none, false⟩,
 ⟨22, .ap 110 1 false (.t 17) (.t 21), none, false⟩,
 ⟨0, .so 1 (.t 3) (.t 22), none, true⟩])))
 (.reg false [⟨23, .ar .add false (.t 13) (.k (.sc (.int .i64 1))), none, false⟩,
 ⟨13, .mv (.t 23), none, false⟩]))))
def b45_1 : IC := w45_1
theorem u45_1 (call : CallF) (st : St) : evC call b45_1 st = evC call w45_1 st := rfl
attribute [simp] u45_1 w45_1
def w45_3 : IC :=
(.seq
 (.reg false [⟨35, .ar .lss false (.t 34) (.t 33), none, false⟩])
 (.seq
 (.ite (.t 35)
 .skip
 (.exit 4))
 (.seq
 (.block 5
 (.seq
 (.reg false [⟨36, .mv (.t 34), none, false⟩,
 ⟨8, .al [(.sc (.int .i64 0))], none, false⟩,
 ⟨1, .so 1 (.t 8) (.t 36), none, true⟩])
 (.seq
 (.reg false [⟨37, .mv (.t 7), none, false⟩,
 ⟨38, .ld 1 false (.t 8), none, false⟩,
 ⟨39, .ar .neq false (.t 37) (.t 38), none, false⟩,
 ⟨40, .mv (.t 39), none, false⟩,
 ⟨41, .ld 1 false (.t 3), (some (40, true)), false⟩,
 ⟨42, .mv (.t 7), (some (40, true)), false⟩,
 ⟨43, .ia 1 (.t 41) (.t 42), (some (40, true)), false⟩,
 ⟨44, .ld 1 false (.t 43), (some (40, true)), false⟩,
 ⟨45, .mf 73 [(.t 3), (.t 8)], (some (40, true)), false⟩,
 ⟨46, .ca (.k (.cl 72 [])) [(.t 44), (.t 45)], (some (40, true)), false⟩,
 ⟨47, .pk (.t 40) (.t 46) (.k (.sc (.bool false))), none, false⟩])
 (.ite (.t 47)
 (.reg true [⟨48, .mv (.t 6), none, false⟩,
 ⟨49, .mv (.t 7), none, false⟩,
 ⟨50, .mv (.t 6), none, false⟩,
 ⟨51, .mv (.t 7), none, false⟩,
 ⟨52, .ia 1 (.t 50) (.t 51), none, false⟩,
 ⟨53, .ld 1 false (.t 52), none, false⟩,
 ⟨54, .ld 1 false (.t 8), none, false⟩,
 ⟨55, .bs 2 1 [(.sc (.int .i64 0))] 1 [(0, (.t 54))], none, false⟩,
 ⟨56, .ap 2 1 false (.t 53) (.t 55), none, false⟩,
 ⟨57, .ia 1 (.t 48) (.t 49), none, false⟩,
 ⟨1, .so 1 (.t 57) (.t 56), none, true⟩])
 .skip))))
 (.reg false [⟨58, .ar .add false (.t 34) (.k (.sc (.int .i64 1))), none, false⟩,
 ⟨34, .mv (.t 58), none, false⟩]))))
def b45_3 : IC := w45_3
theorem u45_3 (call : CallF) (st : St) : evC call b45_3 st = evC call w45_3 st := rfl
attribute [simp] u45_3 w45_3
def w45_2 : IC :=
(.seq
 (.reg false [⟨30, .ar .lss false (.t 29) (.t 28), none, false⟩])
 (.seq
 (.ite (.t 30)
 .skip
 (.exit 2))
 (.seq
 (.block 3
 (.seq
 (.reg false [⟨31, .mv (.t 29), none, false⟩,
 ⟨7, .mv (.t 31), none, false⟩])
 (.seq
 (.reg false [⟨32, .ld 1 false (.t 3), none, false⟩,
 ⟨33, .ln false (.t 32), none, false⟩,
 ⟨34, .mv (.k (.sc (.int .i64 0))), none, false⟩])
 (.cln [3, 6, 28, 29] [2]
 (.block 4
 (.loop [3, 6, 7, 28, 29, 33, 34] b45_3))))))
 (.reg false [⟨59, .ar .add false (.t 29) (.k (.sc (.int .i64 1))), none, false⟩,
 ⟨29, .mv (.t 59), none, false⟩]))))
def b45_2 : IC := w45_2
theorem u45_2 (call : CallF) (st : St) : evC call b45_2 st = evC call w45_2 st := rfl
attribute [simp] u45_2 w45_2
def i45 : Ev.Fn := ⟨1, 61, [.tmp 2],
 (.seq
 (.reg false [⟨1, .bx (.t 0), none, false⟩,
 ⟨2, .mv (.k .nl), none, false⟩])
 (.seq
 (.reg false [⟨9, .bw 110 1 [.nl] 0 [], none, false⟩,
 ⟨3, .al [.nl], none, false⟩,
 ⟨1, .so 1 (.t 3) (.t 9), none, true⟩])
 (.seq
 (.seq
 (.reg false [⟨10, .fa 3 (.t 1), none, false⟩,
 ⟨11, .ld 1 false (.t 10), none, false⟩,
 ⟨12, .ln false (.t 11), none, false⟩,
 ⟨13, .mv (.k (.sc (.int .i64 0))), none, false⟩])
 (.cln [3] [2]
 (.block 0
 (.loop [3, 11, 12, 13] b45_1))))
 (.seq
 (.reg false [⟨24, .ld 1 false (.t 3), none, false⟩,
 ⟨25, .ln false (.t 24), none, false⟩,
 ⟨26, .ms 58 1 [.nl] (.t 25), none, false⟩,
 ⟨6, .mv (.t 26), none, false⟩])
 (.seq
 (.seq
 (.reg false [⟨27, .ld 1 false (.t 3), none, false⟩,
 ⟨28, .ln false (.t 27), none, false⟩,
 ⟨29, .mv (.k (.sc (.int .i64 0))), none, false⟩])
 (.cln [6] [2]
 (.block 2
 (.loop [3, 6, 28, 29] b45_2))))
 (.seq
 (.reg false [⟨60, .mv (.t 6), none, false⟩,
 ⟨2, .mv (.t 60), none, false⟩])
 .ret))))))⟩
attribute [simp] i45
set_option maxRecDepth 1000000 in
theorem c45 : cFn Tryz.prog 45 [[], [3, 11, 12, 13], [3], [2], [3, 6, 28, 29], [3, 6, 7, 28, 29, 33, 34], [3, 6, 28, 29], [2], [6], [2]] = some i45 := by kernel_rfl
theorem e45 : enterOk Tryz.prog 45 = true := by kernel_rfl
def i46 : Ev.Fn := ⟨2, 29, [.tmp 4],
 (.seq
 (.reg false [⟨2, .bx (.t 0), none, false⟩,
 ⟨3, .bx (.t 1), none, false⟩,
 ⟨4, .mv (.k (.sc (.int .i64 0))), none, false⟩])
 (.seq
 (.reg false [⟨8, .fa 2 (.t 2), none, false⟩,
 ⟨9, .ld 1 false (.t 8), none, false⟩,
 ⟨10, .fa 2 (.t 3), none, false⟩,
 ⟨11, .ld 1 false (.t 10), none, false⟩,
 ⟨12, .ca (.k (.cl 75 [])) [(.t 9), (.t 11)], none, false⟩,
 ⟨7, .mv (.t 12), none, false⟩,
 ⟨13, .xt (.t 7) 0, none, false⟩,
 ⟨14, .xt (.t 7) 1, none, false⟩,
 ⟨5, .mv (.t 13), none, false⟩,
 ⟨6, .mv (.t 14), none, false⟩])
 (.seq
 (.reg false [⟨15, .fa 1 (.t 2), none, false⟩,
 ⟨16, .ld 1 false (.t 15), none, false⟩,
 ⟨17, .fa 1 (.t 3), none, false⟩,
 ⟨18, .ld 1 false (.t 17), none, false⟩,
 ⟨19, .ar .sub false (.t 16) (.t 18), none, false⟩,
 ⟨20, .fa 1 (.t 3), none, false⟩,
 ⟨21, .ld 1 false (.t 20), none, false⟩,
 ⟨22, .fa 1 (.t 2), none, false⟩,
 ⟨23, .ld 1 false (.t 22), none, false⟩,
 ⟨24, .ar .sub false (.t 21) (.t 23), none, false⟩,
 ⟨25, .mx (.t 19) (.t 24), none, false⟩,
 ⟨26, .mv (.t 5), none, false⟩,
 ⟨27, .ar .quo false (.t 26) (.k (.sc (.int .i64 6))), none, false⟩,
 ⟨28, .ar .add false (.t 25) (.t 27), none, false⟩,
 ⟨4, .mv (.t 28), none, false⟩])
 .ret)))⟩
attribute [simp] i46
set_option maxRecDepth 1000000 in
theorem c46 : cFn Tryz.prog 46 [[]] = some i46 := by kernel_rfl
theorem e46 : enterOk Tryz.prog 46 = true := by kernel_rfl
def w47_1 : IC :=
(.seq
 (.seq
 (.reg false [⟨11, .mv (.t 5), none, false⟩,
 ⟨12, .mv (.t 0), none, false⟩,
 ⟨13, .ln false (.t 12), none, false⟩,
 ⟨14, .ar .lss false (.t 11) (.t 13), none, false⟩])
 (.ite (.t 14)
 .skip
 (.exit 0)))
 (.seq
 (.block 1
 (.seq
 (.reg true [⟨17, .mv (.t 0), none, false⟩,
 ⟨18, .mv (.t 5), none, false⟩,
 ⟨19, .ia 2 (.t 17) (.t 18), none, false⟩,
 ⟨20, .ld 2 true (.t 19), none, false⟩,
 ⟨21, .mv (.t 1), none, false⟩,
 ⟨22, .mv (.t 5), none, false⟩,
 ⟨23, .ia 2 (.t 21) (.t 22), none, false⟩,
 ⟨24, .ld 2 true (.t 23), none, false⟩,
 ⟨25, .ca (.k (.cl 76 [])) [(.t 20), (.t 24)], none, false⟩,
 ⟨26, .nt (.t 25), none, false⟩])
 (.ite (.t 26)
 (.seq
 (.reg false [⟨4, .mv (.k (.sc (.bool false))), none, false⟩])
 .ret)
 .skip)))
 (.reg false [⟨15, .mv (.t 5), none, false⟩,
 ⟨16, .ar .add false (.t 15) (.k (.sc (.int .i64 1))), none, false⟩,
 ⟨5, .mv (.t 16), none, false⟩])))
def b47_1 : IC := w47_1
theorem u47_1 (call : CallF) (st : St) : evC call b47_1 st = evC call w47_1 st := rfl
attribute [simp] u47_1 w47_1
def i47 : Ev.Fn := ⟨2, 27, [.tmp 4],
 (.seq
 (.reg false [⟨4, .mv (.k (.sc (.bool false))), none, false⟩])
 (.seq
 (.seq
 (.reg false [⟨6, .mv (.t 0), none, false⟩,
 ⟨7, .ln false (.t 6), none, false⟩,
 ⟨8, .mv (.t 1), none, false⟩,
 ⟨9, .ln false (.t 8), none, false⟩,
 ⟨10, .ar .neq false (.t 7) (.t 9), none, false⟩])
 (.ite (.t 10)
 (.seq
 (.reg false [⟨4, .mv (.k (.sc (.bool false))), none, false⟩])
 .ret)
 .skip))
 (.seq
 (.seq
 (.reg false [⟨5, .mv (.k (.sc (.int .i64 0))), none, false⟩])
 (.cln [] [4]
 (.block 0
 (.loop [0, 1, 5] b47_1))))
 (.seq
 (.reg false [⟨4, .mv (.k (.sc (.bool true))), none, false⟩])
 .ret))))⟩
attribute [simp] i47
set_option maxRecDepth 1000000 in
theorem c47 : cFn Tryz.prog 47 [[], [0, 1, 5], [], [4]] = some i47 := by kernel_rfl
theorem e47 : enterOk Tryz.prog 47 = true := by kernel_rfl
def w48_1 : IC :=
(.seq
 (.seq
 (.reg false [⟨11, .mv (.t 5), none, false⟩,
 ⟨12, .mv (.t 0), none, false⟩,
 ⟨13, .ln false (.t 12), none, false⟩,
 ⟨14, .ar .lss false (.t 11) (.t 13), none, false⟩])
 (.ite (.t 14)
 .skip
 (.exit 0)))
 (.seq
 (.block 1
 (.seq
 (.reg true [⟨17, .mv (.t 0), none, false⟩,
 ⟨18, .mv (.t 5), none, false⟩,
 ⟨19, .ia 2 (.t 17) (.t 18), none, false⟩,
 ⟨20, .ld 2 true (.t 19), none, false⟩,
 ⟨21, .mv (.t 1), none, false⟩,
 ⟨22, .mv (.t 5), none, false⟩,
 ⟨23, .ia 2 (.t 21) (.t 22), none, false⟩,
 ⟨24, .ld 2 true (.t 23), none, false⟩,
 ⟨25, .ca (.k (.cl 77 [])) [(.t 20), (.t 24)], none, false⟩,
 ⟨26, .nt (.t 25), none, false⟩])
 (.ite (.t 26)
 (.seq
 (.reg false [⟨4, .mv (.k (.sc (.bool false))), none, false⟩])
 .ret)
 .skip)))
 (.reg false [⟨15, .mv (.t 5), none, false⟩,
 ⟨16, .ar .add false (.t 15) (.k (.sc (.int .i64 1))), none, false⟩,
 ⟨5, .mv (.t 16), none, false⟩])))
def b48_1 : IC := w48_1
theorem u48_1 (call : CallF) (st : St) : evC call b48_1 st = evC call w48_1 st := rfl
attribute [simp] u48_1 w48_1
def i48 : Ev.Fn := ⟨2, 27, [.tmp 4],
 (.seq
 (.reg false [⟨4, .mv (.k (.sc (.bool false))), none, false⟩])
 (.seq
 (.seq
 (.reg false [⟨6, .mv (.t 0), none, false⟩,
 ⟨7, .ln false (.t 6), none, false⟩,
 ⟨8, .mv (.t 1), none, false⟩,
 ⟨9, .ln false (.t 8), none, false⟩,
 ⟨10, .ar .neq false (.t 7) (.t 9), none, false⟩])
 (.ite (.t 10)
 (.seq
 (.reg false [⟨4, .mv (.k (.sc (.bool false))), none, false⟩])
 .ret)
 .skip))
 (.seq
 (.seq
 (.reg false [⟨5, .mv (.k (.sc (.int .i64 0))), none, false⟩])
 (.cln [] [4]
 (.block 0
 (.loop [0, 1, 5] b48_1))))
 (.seq
 (.reg false [⟨4, .mv (.k (.sc (.bool true))), none, false⟩])
 .ret))))⟩
attribute [simp] i48
set_option maxRecDepth 1000000 in
theorem c48 : cFn Tryz.prog 48 [[], [0, 1, 5], [], [4]] = some i48 := by kernel_rfl
theorem e48 : enterOk Tryz.prog 48 = true := by kernel_rfl
def i49 : Ev.Fn := ⟨2, 20, [.tmp 4],
 (.seq
 (.reg false [⟨2, .bx (.t 0), none, false⟩,
 ⟨3, .bx (.t 1), none, false⟩,
 ⟨4, .mv (.k (.sc (.bool false))), none, false⟩])
 (.seq
 (.seq
 (.reg false [⟨5, .fa 0 (.t 2), none, false⟩,
 ⟨6, .ld 1 false (.t 5), none, false⟩,
 ⟨7, .fa 0 (.t 3), none, false⟩,
 ⟨8, .ld 1 false (.t 7), none, false⟩,
 ⟨9, .ar .neq false (.t 6) (.t 8), none, false⟩])
 (.ite (.t 9)
 (.seq
 (.reg false [⟨4, .mv (.k (.sc (.bool false))), none, false⟩])
 .ret)
 .skip))
 (.seq
 (.seq
 (.reg false [⟨10, .fa 1 (.t 2), none, false⟩,
 ⟨11, .ld 1 false (.t 10), none, false⟩,
 ⟨12, .fa 1 (.t 3), none, false⟩,
 ⟨13, .ld 1 false (.t 12), none, false⟩,
 ⟨14, .ar .neq false (.t 11) (.t 13), none, false⟩])
 (.ite (.t 14)
 (.seq
 (.reg false [⟨4, .mv (.k (.sc (.bool false))), none, false⟩])
 .ret)
 .skip))
 (.seq
 (.seq
 (.reg false [⟨15, .fa 2 (.t 2), none, false⟩,
 ⟨16, .ld 1 false (.t 15), none, false⟩,
 ⟨17, .fa 2 (.t 3), none, false⟩,
 ⟨18, .ld 1 false (.t 17), none, false⟩,
 ⟨19, .ar .neq false (.t 16) (.t 18), none, false⟩])
 (.ite (.t 19)
 (.seq
 (.reg false [⟨4, .mv (.k (.sc (.bool false))), none, false⟩])
 .ret)
 .skip))
 (.seq
 (.reg false [⟨4, .mv (.k (.sc (.bool true))), none, false⟩])
 .ret)))))⟩
attribute [simp] i49
set_option maxRecDepth 1000000 in
theorem c49 : cFn Tryz.prog 49 [[]] = some i49 := by kernel_rfl
theorem e49 : enterOk Tryz.prog 49 = true := by kernel_rfl
def w50_1 : IC :=
(.seq
 (.seq
 (.reg false [⟨6, .mv (.t 5), none, false⟩,
 ⟨7, .mv (.t 0), none, false⟩,
 ⟨8, .ln false (.t 7), none, false⟩,
 ⟨9, .ar .lss false (.t 6) (.t 8), none, false⟩])
 (.ite (.t 9)
 .skip
 (.exit 0)))
 (.seq
 (.block 1
 (.seq
 (.reg false [⟨12, .mv (.t 0), none, false⟩,
 ⟨13, .mv (.t 5), none, false⟩,
 ⟨14, .mv (.t 1), none, false⟩,
 ⟨15, .ia 2 (.t 12) (.t 13), none, false⟩,
 ⟨16, .fa 0 (.t 15), none, false⟩,
 ⟨1, .so 1 (.t 16) (.t 14), none, true⟩])
 (.seq
 (.reg false [⟨17, .mv (.t 1), none, false⟩,
 ⟨18, .ar .add false (.t 17) (.k (.sc (.int .i64 1))), none, false⟩,
 ⟨1, .mv (.t 18), none, false⟩])
 (.seq
 (.reg false [⟨19, .mv (.t 0), none, false⟩,
 ⟨20, .mv (.t 5), none, false⟩,
 ⟨21, .mv (.t 1), none, false⟩,
 ⟨22, .ia 2 (.t 19) (.t 20), none, false⟩,
 ⟨23, .fa 1 (.t 22), none, false⟩,
 ⟨1, .so 1 (.t 23) (.t 21), none, true⟩])
 (.reg false [⟨24, .mv (.t 1), none, false⟩,
 ⟨25, .ar .add false (.t 24) (.k (.sc (.int .i64 1))), none, false⟩,
 ⟨1, .mv (.t 25), none, false⟩])))))
 (.reg false [⟨10, .mv (.t 5), none, false⟩,
 ⟨11, .ar .add false (.t 10) (.k (.sc (.int .i64 1))), none, false⟩,
 ⟨5, .mv (.t 11), none, false⟩])))
def b50_1 : IC := w50_1
theorem u50_1 (call : CallF) (st : St) : evC call b50_1 st = evC call w50_1 st := rfl
attribute [simp] u50_1 w50_1
def i50 : Ev.Fn := ⟨2, 27, [.tmp 4],
 (.seq
 (.reg false [⟨4, .mv (.k (.sc (.int .i64 0))), none, false⟩])
 (.seq
 (.seq
 (.reg false [⟨5, .mv (.k (.sc (.int .i64 0))), none, false⟩])
 (.cln [1, 100000] [4, 100000]
 (.block 0
 (.loop [0, 1, 5, 100000] b50_1))))
 (.seq
 (.reg false [⟨26, .mv (.t 1), none, false⟩,
 ⟨4, .mv (.t 26), none, false⟩])
 .ret)))⟩
attribute [simp] i50
set_option maxRecDepth 1000000 in
theorem c50 : cFn Tryz.prog 50 [[], [0, 1, 5, 100000], [1, 100000], [4, 100000]] = some i50 := by kernel_rfl
theorem e50 : enterOk Tryz.prog 50 = true := by kernel_rfl
def w51_1 : IC :=
(.seq
 (.seq
 (.reg false [⟨6, .mv (.t 5), none, false⟩,
 ⟨7, .mv (.t 0), none, false⟩,
 ⟨8, .ln false (.t 7), none, false⟩,
 ⟨9, .ar .lss false (.t 6) (.t 8), none, false⟩])
 (.ite (.t 9)
 .skip
 (.exit 0)))
 (.seq
 (.block 1
 (.seq
 (.reg false [⟨12, .mv (.t 0), none, false⟩,
 ⟨13, .mv (.t 5), none, false⟩,
 ⟨14, .mv (.t 1), none, false⟩,
 ⟨15, .ca (.k (.cl 52 [])) [(.t 14)], none, false⟩,
 ⟨16, .ia 2 (.t 12) (.t 13), none, false⟩,
 ⟨17, .fa 0 (.t 16), none, false⟩,
 ⟨1, .so 1 (.t 17) (.t 15), none, true⟩])
 (.seq
 (.reg false [⟨18, .mv (.t 1), none, false⟩,
 ⟨19, .ar .add false (.t 18) (.k (.sc (.int .i64 1))), none, false⟩,
 ⟨1, .mv (.t 19), none, false⟩])
 (.rgw [⟨20, .mv (.t 0), none, false⟩,
 ⟨21, .mv (.t 5), none, false⟩,
 ⟨22, .ia 2 (.t 20) (.t 21), none, false⟩,
 ⟨23, .fa 1 (.t 22), none, false⟩,
 ⟨24, .ld 1 false (.t 23), none, false⟩,
 ⟨25, .mv (.t 1), none, false⟩,
 ⟨26, .cw 29 [] [(.t 24), (.t 25)], none, false⟩,
 ⟨1, .mv (.t 26), none, false⟩]))))
 (.reg false [⟨10, .mv (.t 5), none, false⟩,
 ⟨11, .ar .add false (.t 10) (.k (.sc (.int .i64 1))), none, false⟩,
 ⟨5, .mv (.t 11), none, false⟩])))
def b51_1 : IC := w51_1
theorem u51_1 (call : CallF) (st : St) : evC call b51_1 st = evC call w51_1 st := rfl
attribute [simp] u51_1 w51_1
def i51 : Ev.Fn := ⟨2, 28, [.tmp 4],
 (.seq
 (.reg false [⟨4, .mv (.k (.sc (.int .i64 0))), none, false⟩])
 (.seq
 (.seq
 (.reg false [⟨5, .mv (.k (.sc (.int .i64 0))), none, false⟩])
 (.cln [1, 100000] [4, 100000]
 (.block 0
 (.loop [0, 1, 5, 100000] b51_1))))
 (.seq
 (.reg false [⟨27, .mv (.t 1), none, false⟩,
 ⟨4, .mv (.t 27), none, false⟩])
 .ret)))⟩
attribute [simp] i51
set_option maxRecDepth 1000000 in
theorem c51 : cFn Tryz.prog 51 [[29], [0, 1, 5, 100000], [1, 100000], [4, 100000]] = some i51 := by kernel_rfl
theorem e51 : enterOk Tryz.prog 51 = true := by kernel_rfl
def w52_1 : IC :=
(.seq
 (.seq
 (.reg false [⟨6, .mv (.t 0), none, false⟩,
 ⟨7, .ar .gtr false (.t 6) (.k (.sc (.int .i64 0))), none, false⟩])
 (.ite (.t 7)
 .skip
 (.exit 0)))
 (.block 1
 (.seq
 (.reg false [⟨8, .mv (.t 0), none, false⟩,
 ⟨9, .ar .rem false (.t 8) (.k (.sc (.int .i64 10))), none, false⟩,
 ⟨10, .ar .add false (.k (.sc (.int .i64 48))) (.t 9), none, false⟩,
 ⟨11, .cv .u8 (.t 10), none, false⟩,
 ⟨12, .bs 5 1 [(.sc (.int .u8 0))] 1 [(0, (.t 11))], none, false⟩,
 ⟨13, .by (.t 12), none, false⟩,
 ⟨14, .mv (.t 3), none, false⟩,
 ⟨15, .ar .add false (.t 13) (.t 14), none, false⟩,
 ⟨3, .mv (.t 15), none, false⟩])
 (.reg false [⟨16, .mv (.t 0), none, false⟩,
 ⟨17, .ar .quo false (.t 16) (.k (.sc (.int .i64 10))), none, false⟩,
 ⟨0, .mv (.t 17), none, false⟩]))))
def b52_1 : IC := w52_1
theorem u52_1 (call : CallF) (st : St) : evC call b52_1 st = evC call w52_1 st := rfl
attribute [simp] u52_1 w52_1
def i52 : Ev.Fn := ⟨1, 20, [.tmp 2],
 (.seq
 (.reg false [⟨2, .mv (.k (.sc (.string ⟨#[]⟩))), none, false⟩])
 (.seq
 (.seq
 (.reg false [⟨4, .mv (.t 0), none, false⟩,
 ⟨5, .ar .leq false (.t 4) (.k (.sc (.int .i64 0))), none, false⟩])
 (.ite (.t 5)
 (.seq
 (.reg false [⟨2, .mv (.k (.sc (.string ⟨#[109, 48]⟩))), none, false⟩])
 .ret)
 .skip))
 (.seq
 (.reg false [⟨3, .mv (.k (.sc (.string ⟨#[]⟩))), none, false⟩])
 (.seq
 (.cln [3] [2]
 (.block 0
 (.loop [0, 3] b52_1)))
 (.seq
 (.reg false [⟨18, .mv (.t 3), none, false⟩,
 ⟨19, .ar .add false (.k (.sc (.string ⟨#[109]⟩))) (.t 18), none, false⟩,
 ⟨2, .mv (.t 19), none, false⟩])
 .ret)))))⟩
attribute [simp] i52
set_option maxRecDepth 1000000 in
theorem c52 : cFn Tryz.prog 52 [[], [0, 3], [3], [2]] = some i52 := by kernel_rfl
theorem e52 : enterOk Tryz.prog 52 = true := by kernel_rfl
def i53 : Ev.Fn := ⟨2, 19, [.tmp 4],
 (.seq
 (.reg false [⟨2, .bx (.t 0), none, false⟩,
 ⟨4, .mv (.k (.sc (.int .i64 0))), none, false⟩])
 (.seq
 (.reg false [⟨5, .mv (.t 1), none, false⟩,
 ⟨6, .fa 0 (.t 2), none, false⟩,
 ⟨7, .ld 1 false (.t 6), none, false⟩,
 ⟨8, .ln true (.t 7), none, false⟩,
 ⟨9, .ar .sub false (.t 5) (.t 8), none, false⟩,
 ⟨1, .mv (.t 9), none, false⟩])
 (.seq
 (.seq
 (.reg false [⟨10, .mv (.t 1), none, false⟩,
 ⟨11, .ar .lss false (.t 10) (.k (.sc (.int .i64 0))), none, false⟩])
 (.ite (.t 11)
 (.seq
 (.reg false [⟨4, .mv (.k (.sc (.int .i64 (-1)))), none, false⟩])
 .ret)
 .skip))
 (.seq
 (.reg false [⟨12, .fa 1 (.t 2), none, false⟩,
 ⟨13, .ld 1 false (.t 12), none, false⟩,
 ⟨14, .mv (.t 1), none, false⟩,
 ⟨15, .ca (.k (.cl 78 [])) [(.t 13), (.t 14)], none, false⟩,
 ⟨1, .mv (.t 15), none, false⟩])
 (.seq
 (.seq
 (.reg false [⟨16, .mv (.t 1), none, false⟩,
 ⟨17, .ar .lss false (.t 16) (.k (.sc (.int .i64 0))), none, false⟩])
 (.ite (.t 17)
 (.seq
 (.reg false [⟨4, .mv (.k (.sc (.int .i64 (-1)))), none, false⟩])
 .ret)
 .skip))
 (.seq
 (.reg false [⟨18, .mv (.t 1), none, false⟩,
 ⟨4, .mv (.t 18), none, false⟩])
 .ret))))))⟩
attribute [simp] i53
set_option maxRecDepth 1000000 in
theorem c53 : cFn Tryz.prog 53 [[]] = some i53 := by kernel_rfl
theorem e53 : enterOk Tryz.prog 53 = true := by kernel_rfl
def w54_2 : IC :=
(.seq
 (.seq
 (.reg false [⟨50, .mv (.t 4), none, false⟩,
 ⟨51, .mv (.t 3), none, false⟩,
 ⟨52, .ar .lss false (.t 50) (.t 51), none, false⟩])
 (.ite (.t 52)
 .skip
 (.exit 2)))
 (.seq
 (.block 3
 (.seq
 (.reg true [⟨55, .mv (.t 0), none, false⟩,
 ⟨56, .nc (.t 55), none, false⟩,
 ⟨57, .fa 2 (.t 56), none, false⟩,
 ⟨58, .ld 1 false (.t 57), none, false⟩,
 ⟨59, .mv (.t 3), none, false⟩,
 ⟨60, .ia 2 (.t 58) (.t 59), none, false⟩,
 ⟨61, .ld 2 true (.t 60), none, false⟩,
 ⟨62, .mv (.t 0), none, false⟩,
 ⟨63, .nc (.t 62), none, false⟩,
 ⟨64, .fa 2 (.t 63), none, false⟩,
 ⟨65, .ld 1 false (.t 64), none, false⟩,
 ⟨66, .mv (.t 4), none, false⟩,
 ⟨67, .ia 2 (.t 65) (.t 66), none, false⟩,
 ⟨68, .ld 2 true (.t 67), none, false⟩,
 ⟨69, .eq false [1, 1] (.t 61) (.t 68), none, false⟩])
 (.ite (.t 69)
 (.seq
 (.reg false [⟨2, .mv (.k (.sc (.bool false))), none, false⟩])
 .ret)
 .skip)))
 (.reg false [⟨53, .mv (.t 4), none, false⟩,
 ⟨54, .ar .add false (.t 53) (.k (.sc (.int .i64 1))), none, false⟩,
 ⟨4, .mv (.t 54), none, false⟩])))
def b54_2 : IC := w54_2
theorem u54_2 (call : CallF) (st : St) : evC call b54_2 st = evC call w54_2 st := rfl
attribute [simp] u54_2 w54_2
def w54_1 : IC :=
(.seq
 (.seq
 (.reg false [⟨11, .mv (.t 3), none, false⟩,
 ⟨12, .mv (.t 0), none, false⟩,
 ⟨13, .nc (.t 12), none, false⟩,
 ⟨14, .fa 2 (.t 13), none, false⟩,
 ⟨15, .ld 1 false (.t 14), none, false⟩,
 ⟨16, .ln false (.t 15), none, false⟩,
 ⟨17, .ar .lss false (.t 11) (.t 16), none, false⟩])
 (.ite (.t 17)
 .skip
 (.exit 0)))
 (.seq
 (.block 1
 (.seq
 (.seq
 (.reg true [⟨20, .mv (.t 0), none, false⟩,
 ⟨21, .nc (.t 20), none, false⟩,
 ⟨22, .fa 2 (.t 21), none, false⟩,
 ⟨23, .ld 1 false (.t 22), none, false⟩,
 ⟨24, .mv (.t 3), none, false⟩,
 ⟨25, .ia 2 (.t 23) (.t 24), none, false⟩,
 ⟨26, .fa 0 (.t 25), none, false⟩,
 ⟨27, .ld 1 false (.t 26), none, false⟩,
 ⟨28, .mv (.t 0), none, false⟩,
 ⟨29, .nc (.t 28), none, false⟩,
 ⟨30, .fa 0 (.t 29), none, false⟩,
 ⟨31, .ld 1 false (.t 30), none, false⟩,
 ⟨32, .ca (.k (.cl 31 [])) [(.t 27), (.k (.sc (.int .i64 0))), (.t 31)], none, false⟩,
 ⟨33, .nt (.t 32), none, false⟩,
 ⟨34, .mv (.t 33), none, false⟩,
 ⟨35, .mv (.t 0), (some (34, false)), false⟩,
 ⟨36, .nc (.t 35), (some (34, false)), false⟩,
 ⟨37, .fa 2 (.t 36), (some (34, false)), false⟩,
 ⟨38, .ld 1 false (.t 37), (some (34, false)), false⟩,
 ⟨39, .mv (.t 3), (some (34, false)), false⟩,
 ⟨40, .ia 2 (.t 38) (.t 39), (some (34, false)), false⟩,
 ⟨41, .fa 1 (.t 40), (some (34, false)), false⟩,
 ⟨42, .ld 1 false (.t 41), (some (34, false)), false⟩,
 ⟨43, .mv (.t 0), (some (34, false)), false⟩,
 ⟨44, .nc (.t 43), (some (34, false)), false⟩,
 ⟨45, .fa 1 (.t 44), (some (34, false)), false⟩,
 ⟨46, .ld 1 false (.t 45), (some (34, false)), false⟩,
 ⟨47, .ca (.k (.cl 31 [])) [(.t 42), (.k (.sc (.int .i64 0))), (.t 46)], (some (34, false)), false⟩,
 ⟨48, .nt (.t 47), (some (34, false)), false⟩,
 ⟨49, .pk (.t 34) (.k (.sc (.bool true))) (.t 48), none, false⟩])
 (.ite (.t 49)
 (.seq
 (.reg false [⟨2, .mv (.k (.sc (.bool false))), none, false⟩])
 .ret)
 .skip))
 (.seq
 (.reg false [⟨4, .mv (.k (.sc (.int .i64 0))), none, false⟩])
 (.cln [0, 3] [2]
 (.block 2
 (.loop [0, 3, 4] b54_2))))))
 (.reg false [⟨18, .mv (.t 3), none, false⟩,
 ⟨19, .ar .add false (.t 18) (.k (.sc (.int .i64 1))), none, false⟩,
 ⟨3, .mv (.t 19), none, false⟩])))
def b54_1 : IC := w54_1
theorem u54_1 (call : CallF) (st : St) : evC call b54_1 st = evC call w54_1 st := rfl
attribute [simp] u54_1 w54_1
def i54 : Ev.Fn := ⟨1, 70, [.tmp 2],
 (.seq
 (.reg false [⟨2, .mv (.k (.sc (.bool false))), none, false⟩])
 (.seq
 (.seq
 (.reg false [⟨5, .mv (.t 0), none, false⟩,
 ⟨6, .nc (.t 5), none, false⟩,
 ⟨7, .fa 2 (.t 6), none, false⟩,
 ⟨8, .ld 1 false (.t 7), none, false⟩,
 ⟨9, .ln false (.t 8), none, false⟩,
 ⟨10, .ar .gtr false (.t 9) (.k (.sc (.int .i64 48))), none, false⟩])
 (.ite (.t 10)
 (.seq
 (.reg false [⟨2, .mv (.k (.sc (.bool false))), none, false⟩])
 .ret)
 .skip))
 (.seq
 (.seq
 (.reg false [⟨3, .mv (.k (.sc (.int .i64 0))), none, false⟩])
 (.cln [] [2]
 (.block 0
 (.loop [0, 3] b54_1))))
 (.seq
 (.reg false [⟨2, .mv (.k (.sc (.bool true))), none, false⟩])
 .ret))))⟩
attribute [simp] i54
set_option maxRecDepth 1000000 in
theorem c54 : cFn Tryz.prog 54 [[], [0, 3], [0, 3, 4], [0, 3], [2], [], [2]] = some i54 := by kernel_rfl
theorem e54 : enterOk Tryz.prog 54 = true := by kernel_rfl
def w55_1 : IC :=
(.seq
 (.seq
 (.reg false [⟨17, .mv (.t 3), none, false⟩,
 ⟨18, .mv (.t 0), none, false⟩,
 ⟨19, .ln true (.t 18), none, false⟩,
 ⟨20, .ar .lss false (.t 17) (.t 19), none, false⟩])
 (.ite (.t 20)
 .skip
 (.exit 0)))
 (.seq
 (.block 1
 (.seq
 (.reg false [⟨23, .mv (.t 0), none, false⟩,
 ⟨24, .mv (.t 3), none, false⟩,
 ⟨25, .ix (.t 23) (.t 24), none, false⟩,
 ⟨26, .ca (.k (.cl 79 [])) [(.t 25)], none, false⟩,
 ⟨27, .nt (.t 26), none, false⟩,
 ⟨28, .mv (.t 27), none, false⟩,
 ⟨29, .mv (.t 0), (some (28, true)), false⟩,
 ⟨30, .mv (.t 3), (some (28, true)), false⟩,
 ⟨31, .ix (.t 29) (.t 30), (some (28, true)), false⟩,
 ⟨32, .ca (.k (.cl 80 [])) [(.t 31)], (some (28, true)), false⟩,
 ⟨33, .nt (.t 32), (some (28, true)), false⟩,
 ⟨34, .pk (.t 28) (.t 33) (.k (.sc (.bool false))), none, false⟩])
 (.ite (.t 34)
 (.seq
 (.reg false [⟨2, .mv (.k (.sc (.bool false))), none, false⟩])
 .ret)
 .skip)))
 (.reg false [⟨21, .mv (.t 3), none, false⟩,
 ⟨22, .ar .add false (.t 21) (.k (.sc (.int .i64 1))), none, false⟩,
 ⟨3, .mv (.t 22), none, false⟩])))
def b55_1 : IC := w55_1
theorem u55_1 (call : CallF) (st : St) : evC call b55_1 st = evC call w55_1 st := rfl
attribute [simp] u55_1 w55_1
def i55 : Ev.Fn := ⟨1, 35, [.tmp 2],
 (.seq
 (.reg false [⟨2, .mv (.k (.sc (.bool false))), none, false⟩])
 (.seq
 (.seq
 (.reg false [⟨4, .mv (.t 0), none, false⟩,
 ⟨5, .ar .eql false (.t 4) (.k (.sc (.string ⟨#[]⟩))), none, false⟩,
 ⟨6, .mv (.t 5), none, false⟩,
 ⟨7, .mv (.t 0), (some (6, false)), false⟩,
 ⟨8, .ln true (.t 7), (some (6, false)), false⟩,
 ⟨9, .ar .gtr false (.t 8) (.k (.sc (.int .i64 10))), (some (6, false)), false⟩,
 ⟨10, .pk (.t 6) (.k (.sc (.bool true))) (.t 9), none, false⟩,
 ⟨11, .mv (.t 10), none, false⟩,
 ⟨12, .mv (.t 0), (some (11, false)), false⟩,
 ⟨13, .ix (.t 12) (.k (.sc (.int .i64 0))), (some (11, false)), false⟩,
 ⟨14, .ca (.k (.cl 79 [])) [(.t 13)], (some (11, false)), false⟩,
 ⟨15, .nt (.t 14), (some (11, false)), false⟩,
 ⟨16, .pk (.t 11) (.k (.sc (.bool true))) (.t 15), none, false⟩])
 (.ite (.t 16)
 (.seq
 (.reg false [⟨2, .mv (.k (.sc (.bool false))), none, false⟩])
 .ret)
 .skip))
 (.seq
 (.seq
 (.reg false [⟨3, .mv (.k (.sc (.int .i64 0))), none, false⟩])
 (.cln [] [2]
 (.block 0
 (.loop [0, 3] b55_1))))
 (.seq
 (.reg false [⟨2, .mv (.k (.sc (.bool true))), none, false⟩])
 .ret))))⟩
attribute [simp] i55
set_option maxRecDepth 1000000 in
theorem c55 : cFn Tryz.prog 55 [[], [0, 3], [], [2]] = some i55 := by kernel_rfl
theorem e55 : enterOk Tryz.prog 55 = true := by kernel_rfl
def w56_1 : IC :=
(.seq
 (.seq
 (.reg false [⟨9, .mv (.t 7), none, false⟩,
 ⟨10, .mv (.t 1), none, false⟩,
 ⟨11, .ln false (.t 10), none, false⟩,
 ⟨12, .ar .lss false (.t 9) (.t 11), none, false⟩])
 (.ite (.t 12)
 .skip
 (.exit 0)))
 (.seq
 (.block 1
 (.seq
 (.seq
 (.reg true [⟨15, .mv (.t 1), none, false⟩,
 ⟨16, .mv (.t 7), none, false⟩,
 ⟨17, .ia 1 (.t 15) (.t 16), none, false⟩,
 ⟨18, .ld 1 false (.t 17), none, false⟩,
 ⟨19, .mv (.t 0), none, false⟩,
 ⟨20, .nc (.t 19), none, false⟩,
 ⟨21, .fa 2 (.t 20), none, false⟩,
 ⟨22, .ld 1 false (.t 21), none, false⟩,
 ⟨23, .ln false (.t 22), none, false⟩,
 ⟨24, .ar .sub false (.t 23) (.k (.sc (.int .i64 1))), none, false⟩,
 ⟨25, .ca (.k (.cl 31 [])) [(.t 18), (.k (.sc (.int .i64 0))), (.t 24)], none, false⟩,
 ⟨26, .nt (.t 25), none, false⟩])
 (.ite (.t 26)
 (.seq
 (.reg false [⟨4, .mv (.k .nl), none, false⟩,
 ⟨5, .mv (.k (.sc (.bool false))), none, false⟩])
 .ret)
 .skip))
 (.reg true [⟨27, .mv (.t 6), none, false⟩,
 ⟨28, .mv (.t 0), none, false⟩,
 ⟨29, .nc (.t 28), none, false⟩,
 ⟨30, .fa 2 (.t 29), none, false⟩,
 ⟨31, .ld 1 false (.t 30), none, false⟩,
 ⟨32, .mv (.t 1), none, false⟩,
 ⟨33, .mv (.t 7), none, false⟩,
 ⟨34, .ia 1 (.t 32) (.t 33), none, false⟩,
 ⟨35, .ld 1 false (.t 34), none, false⟩,
 ⟨36, .ia 2 (.t 31) (.t 35), none, false⟩,
 ⟨37, .ld 2 true (.t 36), none, false⟩,
 ⟨38, .bs 101 2 [(.sc (.int .i64 0)), (.sc (.int .i64 0))] 1 [(0, (.t 37))], none, false⟩,
 ⟨39, .ap 101 2 false (.t 27) (.t 38), none, false⟩,
 ⟨6, .mv (.t 39), none, false⟩])))
 (.reg false [⟨13, .mv (.t 7), none, false⟩,
 ⟨14, .ar .add false (.t 13) (.k (.sc (.int .i64 1))), none, false⟩,
 ⟨7, .mv (.t 14), none, false⟩])))
def b56_1 : IC := w56_1
theorem u56_1 (call : CallF) (st : St) : evC call b56_1 st = evC call w56_1 st := rfl
attribute [simp] u56_1 w56_1
def i56 : Ev.Fn := ⟨2, 41, [.tmp 4, .tmp 5],
 (.seq
 (.reg false [⟨4, .mv (.k .nl), none, false⟩,
 ⟨5, .mv (.k (.sc (.bool false))), none, false⟩])
 (.seq
 (.reg false [⟨8, .bs 101 2 [(.sc (.int .i64 0)), (.sc (.int .i64 0))] 0 [], none, false⟩,
 ⟨6, .mv (.t 8), none, false⟩])
 (.seq
 (.seq
 (.reg false [⟨7, .mv (.k (.sc (.int .i64 0))), none, false⟩])
 (.cln [6] [4, 5]
 (.block 0
 (.loop [0, 1, 6, 7] b56_1))))
 (.seq
 (.reg false [⟨40, .mv (.t 6), none, false⟩,
 ⟨4, .mv (.t 40), none, false⟩,
 ⟨5, .mv (.k (.sc (.bool true))), none, false⟩])
 .ret))))⟩
attribute [simp] i56
set_option maxRecDepth 1000000 in
theorem c56 : cFn Tryz.prog 56 [[], [0, 1, 6, 7], [6], [4, 5]] = some i56 := by kernel_rfl
theorem e56 : enterOk Tryz.prog 56 = true := by kernel_rfl
end Go.Proofs.YtmhddfikpfkeoaaGreat.walkS
