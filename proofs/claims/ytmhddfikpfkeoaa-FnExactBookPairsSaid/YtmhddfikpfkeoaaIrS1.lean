/- The functions that some rows reach, turned; no conditions. -/
import Derived.Test.YtmhddfikpfkeoaaEv2
import Derived.KernelRfl
import Derived.Test.YtmhddfikpfkeoaaProg
namespace Go.Proofs.Ytmhddfikpfkeoaa.walkS
open Go Go.Proofs.Ytmhddfikpfkeoaa.Ev
def i3 : Ev.Fn := ⟨2, 104, [.tmp 4],
 (.seq
 (.reg false [⟨4, .mv (.k (.sc (.bool false))), none, false⟩])
 (.seq
 (.seq
 (.reg false [⟨16, .mv (.t 1), none, false⟩,
 ⟨17, .ln true (.t 16), none, false⟩,
 ⟨18, .ar .gtr false (.t 17) (.k (.sc (.int .i64 1048576))), none, false⟩])
 (.ite (.t 18)
 (.seq
 (.reg false [⟨4, .mv (.k (.sc (.bool true))), none, false⟩])
 .ret)
 .skip))
 (.seq
 (.reg false [⟨5, .mv (.k (.sc (.int .i64 1048576))), none, false⟩])
 (.seq
 (.reg false [⟨19, .mv (.t 0), none, false⟩,
 ⟨20, .mv (.t 5), none, false⟩,
 ⟨21, .ca (.k (.cl 11 [])) [(.t 19), (.t 20)], none, false⟩,
 ⟨5, .mv (.t 21), none, false⟩])
 (.seq
 (.seq
 (.reg false [⟨22, .mv (.t 5), none, false⟩,
 ⟨23, .ar .lss false (.t 22) (.k (.sc (.int .i64 0))), none, false⟩])
 (.ite (.t 23)
 (.seq
 (.reg false [⟨4, .mv (.k (.sc (.bool true))), none, false⟩])
 .ret)
 .skip))
 (.seq
 (.reg false [⟨25, .mv (.t 0), none, false⟩,
 ⟨26, .ca (.k (.cl 13 [])) [(.t 25)], none, false⟩,
 ⟨27, .mv (.t 1), none, false⟩,
 ⟨28, .ca (.k (.cl 12 [])) [(.t 26), (.t 27)], none, false⟩,
 ⟨24, .mv (.t 28), none, false⟩,
 ⟨29, .xt (.t 24) 0, none, false⟩,
 ⟨30, .xt (.t 24) 1, none, false⟩,
 ⟨6, .mv (.t 29), none, false⟩,
 ⟨7, .mv (.t 30), none, false⟩])
 (.seq
 (.reg false [⟨31, .mv (.t 0), none, false⟩,
 ⟨32, .ca (.k (.cl 13 [])) [(.t 31)], none, false⟩,
 ⟨8, .mv (.t 32), none, false⟩])
 (.seq
 (.reg false [⟨34, .mv (.t 8), none, false⟩,
 ⟨35, .mv (.t 1), none, false⟩,
 ⟨36, .ca (.k (.cl 14 [])) [(.t 34), (.t 35)], none, false⟩,
 ⟨33, .mv (.t 36), none, false⟩,
 ⟨37, .xt (.t 33) 0, none, false⟩,
 ⟨38, .xt (.t 33) 1, none, false⟩,
 ⟨9, .mv (.t 37), none, false⟩,
 ⟨10, .mv (.t 38), none, false⟩])
 (.seq
 (.seq
 (.reg false [⟨39, .mv (.t 9), none, false⟩,
 ⟨40, .mv (.t 6), none, false⟩,
 ⟨41, .ca (.k (.cl 15 [])) [(.t 39), (.t 40)], none, false⟩,
 ⟨42, .nt (.t 41), none, false⟩,
 ⟨43, .mv (.t 42), none, false⟩,
 ⟨44, .mv (.t 10), (some (43, false)), false⟩,
 ⟨45, .mv (.t 7), (some (43, false)), false⟩,
 ⟨46, .ar .neq false (.t 44) (.t 45), (some (43, false)), false⟩,
 ⟨47, .pk (.t 43) (.k (.sc (.bool true))) (.t 46), none, false⟩])
 (.ite (.t 47)
 (.seq
 (.reg false [⟨4, .mv (.k (.sc (.bool false))), none, false⟩])
 .ret)
 .skip))
 (.seq
 (.seq
 (.reg false [⟨48, .mv (.t 8), none, false⟩,
 ⟨49, .mv (.t 0), none, false⟩,
 ⟨50, .ca (.k (.cl 13 [])) [(.t 49)], none, false⟩,
 ⟨51, .ca (.k (.cl 16 [])) [(.t 48), (.t 50)], none, false⟩,
 ⟨52, .nt (.t 51), none, false⟩])
 (.ite (.t 52)
 (.seq
 (.reg false [⟨4, .mv (.k (.sc (.bool false))), none, false⟩])
 .ret)
 .skip))
 (.seq
 (.reg false [⟨11, .mv (.k (.sc (.int .i64 1))), none, false⟩])
 (.seq
 (.rgw [⟨53, .mv (.t 8), none, false⟩,
 ⟨54, .mv (.t 11), none, false⟩,
 ⟨55, .cw 17 [] [(.t 53), (.t 54)], none, false⟩,
 ⟨11, .mv (.t 55), none, false⟩])
 (.seq
 (.seq
 (.reg false [⟨56, .mv (.t 11), none, false⟩,
 ⟨57, .ar .lss false (.t 56) (.k (.sc (.int .i64 0))), none, false⟩,
 ⟨58, .mv (.t 57), none, false⟩,
 ⟨59, .mv (.t 9), (some (58, false)), false⟩,
 ⟨60, .mv (.t 6), (some (58, false)), false⟩,
 ⟨61, .ca (.k (.cl 15 [])) [(.t 59), (.t 60)], (some (58, false)), false⟩,
 ⟨62, .nt (.t 61), (some (58, false)), false⟩,
 ⟨63, .pk (.t 58) (.k (.sc (.bool true))) (.t 62), none, false⟩,
 ⟨64, .mv (.t 63), none, false⟩,
 ⟨65, .mv (.t 10), (some (64, false)), false⟩,
 ⟨66, .mv (.t 7), (some (64, false)), false⟩,
 ⟨67, .ar .neq false (.t 65) (.t 66), (some (64, false)), false⟩,
 ⟨68, .pk (.t 64) (.k (.sc (.bool true))) (.t 67), none, false⟩])
 (.ite (.t 68)
 (.seq
 (.reg false [⟨4, .mv (.k (.sc (.bool false))), none, false⟩])
 .ret)
 .skip))
 (.seq
 (.reg false [⟨12, .mv (.k (.sc (.int .i64 1))), none, false⟩])
 (.seq
 (.rgw [⟨69, .mv (.t 9), none, false⟩,
 ⟨70, .mv (.t 12), none, false⟩,
 ⟨71, .cw 18 [] [(.t 69), (.t 70)], none, false⟩,
 ⟨12, .mv (.t 71), none, false⟩])
 (.seq
 (.reg false [⟨13, .mv (.k (.sc (.int .i64 1))), none, false⟩])
 (.seq
 (.reg false [⟨72, .mv (.t 9), none, false⟩,
 ⟨73, .mv (.t 13), none, false⟩,
 ⟨74, .ca (.k (.cl 19 [])) [(.t 72), (.t 73)], none, false⟩,
 ⟨13, .mv (.t 74), none, false⟩])
 (.seq
 (.seq
 (.reg false [⟨75, .mv (.t 13), none, false⟩,
 ⟨76, .ar .lss false (.t 75) (.k (.sc (.int .i64 0))), none, false⟩])
 (.ite (.t 76)
 (.seq
 (.reg false [⟨4, .mv (.k (.sc (.bool false))), none, false⟩])
 .ret)
 .skip))
 (.seq
 (.seq
 (.reg false [⟨77, .mv (.t 13), none, false⟩,
 ⟨78, .mv (.t 12), none, false⟩,
 ⟨79, .ar .neq false (.t 77) (.t 78), none, false⟩])
 (.ite (.t 79)
 (.seq
 (.reg false [⟨4, .mv (.k (.sc (.bool false))), none, false⟩])
 .ret)
 .skip))
 (.seq
 (.reg false [⟨81, .mv (.t 0), none, false⟩,
 ⟨82, .ca (.k (.cl 13 [])) [(.t 81)], none, false⟩,
 ⟨83, .mv (.t 1), none, false⟩,
 ⟨84, .ca (.k (.cl 14 [])) [(.t 82), (.t 83)], none, false⟩,
 ⟨80, .mv (.t 84), none, false⟩,
 ⟨85, .xt (.t 80) 0, none, false⟩,
 ⟨86, .xt (.t 80) 1, none, false⟩,
 ⟨14, .mv (.t 85), none, false⟩,
 ⟨15, .mv (.t 86), none, false⟩])
 (.seq
 (.seq
 (.reg false [⟨87, .mv (.t 14), none, false⟩,
 ⟨88, .mv (.t 6), none, false⟩,
 ⟨89, .ca (.k (.cl 15 [])) [(.t 87), (.t 88)], none, false⟩,
 ⟨90, .nt (.t 89), none, false⟩,
 ⟨91, .mv (.t 90), none, false⟩,
 ⟨92, .mv (.t 15), (some (91, false)), false⟩,
 ⟨93, .mv (.t 7), (some (91, false)), false⟩,
 ⟨94, .ar .neq false (.t 92) (.t 93), (some (91, false)), false⟩,
 ⟨95, .pk (.t 91) (.k (.sc (.bool true))) (.t 94), none, false⟩])
 (.ite (.t 95)
 (.seq
 (.reg false [⟨4, .mv (.k (.sc (.bool false))), none, false⟩])
 .ret)
 .skip))
 (.seq
 (.reg false [⟨13, .mv (.k (.sc (.int .i64 1))), none, false⟩])
 (.seq
 (.reg false [⟨96, .mv (.t 9), none, false⟩,
 ⟨97, .mv (.t 13), none, false⟩,
 ⟨98, .ca (.k (.cl 19 [])) [(.t 96), (.t 97)], none, false⟩,
 ⟨13, .mv (.t 98), none, false⟩])
 (.seq
 (.seq
 (.reg false [⟨99, .mv (.t 13), none, false⟩,
 ⟨100, .ar .lss false (.t 99) (.k (.sc (.int .i64 0))), none, false⟩])
 (.ite (.t 100)
 (.seq
 (.reg false [⟨4, .mv (.k (.sc (.bool false))), none, false⟩])
 .ret)
 .skip))
 (.seq
 (.seq
 (.reg false [⟨101, .mv (.t 13), none, false⟩,
 ⟨102, .mv (.t 12), none, false⟩,
 ⟨103, .ar .neq false (.t 101) (.t 102), none, false⟩])
 (.ite (.t 103)
 (.seq
 (.reg false [⟨4, .mv (.k (.sc (.bool false))), none, false⟩])
 .ret)
 .skip))
 (.seq
 (.reg false [⟨4, .mv (.k (.sc (.bool true))), none, false⟩])
 .ret))))))))))))))))))))))))))⟩
attribute [simp] i3
set_option maxRecDepth 1000000 in
theorem c3 : cFn Try.prog 3 [[17, 18]] = some i3 := by kernel_rfl
theorem e3 : enterOk Try.prog 3 = true := by kernel_rfl
def i4 : Ev.Fn := ⟨2, 104, [.tmp 4],
 (.seq
 (.reg false [⟨4, .mv (.k (.sc (.bool false))), none, false⟩])
 (.seq
 (.seq
 (.reg false [⟨16, .mv (.t 1), none, false⟩,
 ⟨17, .ln true (.t 16), none, false⟩,
 ⟨18, .ar .gtr false (.t 17) (.k (.sc (.int .i64 1048576))), none, false⟩])
 (.ite (.t 18)
 (.seq
 (.reg false [⟨4, .mv (.k (.sc (.bool true))), none, false⟩])
 .ret)
 .skip))
 (.seq
 (.reg false [⟨5, .mv (.k (.sc (.int .i64 1048576))), none, false⟩])
 (.seq
 (.reg false [⟨19, .mv (.t 0), none, false⟩,
 ⟨20, .mv (.t 5), none, false⟩,
 ⟨21, .ca (.k (.cl 11 [])) [(.t 19), (.t 20)], none, false⟩,
 ⟨5, .mv (.t 21), none, false⟩])
 (.seq
 (.seq
 (.reg false [⟨22, .mv (.t 5), none, false⟩,
 ⟨23, .ar .lss false (.t 22) (.k (.sc (.int .i64 0))), none, false⟩])
 (.ite (.t 23)
 (.seq
 (.reg false [⟨4, .mv (.k (.sc (.bool true))), none, false⟩])
 .ret)
 .skip))
 (.seq
 (.reg false [⟨25, .mv (.t 0), none, false⟩,
 ⟨26, .ca (.k (.cl 13 [])) [(.t 25)], none, false⟩,
 ⟨27, .mv (.t 1), none, false⟩,
 ⟨28, .ca (.k (.cl 20 [])) [(.t 26), (.t 27)], none, false⟩,
 ⟨24, .mv (.t 28), none, false⟩,
 ⟨29, .xt (.t 24) 0, none, false⟩,
 ⟨30, .xt (.t 24) 1, none, false⟩,
 ⟨6, .mv (.t 29), none, false⟩,
 ⟨7, .mv (.t 30), none, false⟩])
 (.seq
 (.reg false [⟨31, .mv (.t 0), none, false⟩,
 ⟨32, .ca (.k (.cl 13 [])) [(.t 31)], none, false⟩,
 ⟨8, .mv (.t 32), none, false⟩])
 (.seq
 (.reg false [⟨34, .mv (.t 8), none, false⟩,
 ⟨35, .mv (.t 1), none, false⟩,
 ⟨36, .ca (.k (.cl 21 [])) [(.t 34), (.t 35)], none, false⟩,
 ⟨33, .mv (.t 36), none, false⟩,
 ⟨37, .xt (.t 33) 0, none, false⟩,
 ⟨38, .xt (.t 33) 1, none, false⟩,
 ⟨9, .mv (.t 37), none, false⟩,
 ⟨10, .mv (.t 38), none, false⟩])
 (.seq
 (.seq
 (.reg false [⟨39, .mv (.t 9), none, false⟩,
 ⟨40, .mv (.t 6), none, false⟩,
 ⟨41, .ca (.k (.cl 22 [])) [(.t 39), (.t 40)], none, false⟩,
 ⟨42, .nt (.t 41), none, false⟩,
 ⟨43, .mv (.t 42), none, false⟩,
 ⟨44, .mv (.t 10), (some (43, false)), false⟩,
 ⟨45, .mv (.t 7), (some (43, false)), false⟩,
 ⟨46, .ar .neq false (.t 44) (.t 45), (some (43, false)), false⟩,
 ⟨47, .pk (.t 43) (.k (.sc (.bool true))) (.t 46), none, false⟩])
 (.ite (.t 47)
 (.seq
 (.reg false [⟨4, .mv (.k (.sc (.bool false))), none, false⟩])
 .ret)
 .skip))
 (.seq
 (.seq
 (.reg false [⟨48, .mv (.t 8), none, false⟩,
 ⟨49, .mv (.t 0), none, false⟩,
 ⟨50, .ca (.k (.cl 13 [])) [(.t 49)], none, false⟩,
 ⟨51, .ca (.k (.cl 16 [])) [(.t 48), (.t 50)], none, false⟩,
 ⟨52, .nt (.t 51), none, false⟩])
 (.ite (.t 52)
 (.seq
 (.reg false [⟨4, .mv (.k (.sc (.bool false))), none, false⟩])
 .ret)
 .skip))
 (.seq
 (.reg false [⟨11, .mv (.k (.sc (.int .i64 1))), none, false⟩])
 (.seq
 (.rgw [⟨53, .mv (.t 8), none, false⟩,
 ⟨54, .mv (.t 11), none, false⟩,
 ⟨55, .cw 17 [] [(.t 53), (.t 54)], none, false⟩,
 ⟨11, .mv (.t 55), none, false⟩])
 (.seq
 (.seq
 (.reg false [⟨56, .mv (.t 11), none, false⟩,
 ⟨57, .ar .lss false (.t 56) (.k (.sc (.int .i64 0))), none, false⟩,
 ⟨58, .mv (.t 57), none, false⟩,
 ⟨59, .mv (.t 9), (some (58, false)), false⟩,
 ⟨60, .mv (.t 6), (some (58, false)), false⟩,
 ⟨61, .ca (.k (.cl 22 [])) [(.t 59), (.t 60)], (some (58, false)), false⟩,
 ⟨62, .nt (.t 61), (some (58, false)), false⟩,
 ⟨63, .pk (.t 58) (.k (.sc (.bool true))) (.t 62), none, false⟩,
 ⟨64, .mv (.t 63), none, false⟩,
 ⟨65, .mv (.t 10), (some (64, false)), false⟩,
 ⟨66, .mv (.t 7), (some (64, false)), false⟩,
 ⟨67, .ar .neq false (.t 65) (.t 66), (some (64, false)), false⟩,
 ⟨68, .pk (.t 64) (.k (.sc (.bool true))) (.t 67), none, false⟩])
 (.ite (.t 68)
 (.seq
 (.reg false [⟨4, .mv (.k (.sc (.bool false))), none, false⟩])
 .ret)
 .skip))
 (.seq
 (.reg false [⟨12, .mv (.k (.sc (.int .i64 1))), none, false⟩])
 (.seq
 (.rgw [⟨69, .mv (.t 9), none, false⟩,
 ⟨70, .mv (.t 12), none, false⟩,
 ⟨71, .cw 23 [] [(.t 69), (.t 70)], none, false⟩,
 ⟨12, .mv (.t 71), none, false⟩])
 (.seq
 (.reg false [⟨13, .mv (.k (.sc (.int .i64 1))), none, false⟩])
 (.seq
 (.reg false [⟨72, .mv (.t 9), none, false⟩,
 ⟨73, .mv (.t 13), none, false⟩,
 ⟨74, .ca (.k (.cl 24 [])) [(.t 72), (.t 73)], none, false⟩,
 ⟨13, .mv (.t 74), none, false⟩])
 (.seq
 (.seq
 (.reg false [⟨75, .mv (.t 13), none, false⟩,
 ⟨76, .ar .lss false (.t 75) (.k (.sc (.int .i64 0))), none, false⟩])
 (.ite (.t 76)
 (.seq
 (.reg false [⟨4, .mv (.k (.sc (.bool false))), none, false⟩])
 .ret)
 .skip))
 (.seq
 (.seq
 (.reg false [⟨77, .mv (.t 13), none, false⟩,
 ⟨78, .mv (.t 12), none, false⟩,
 ⟨79, .ar .neq false (.t 77) (.t 78), none, false⟩])
 (.ite (.t 79)
 (.seq
 (.reg false [⟨4, .mv (.k (.sc (.bool false))), none, false⟩])
 .ret)
 .skip))
 (.seq
 (.reg false [⟨81, .mv (.t 0), none, false⟩,
 ⟨82, .ca (.k (.cl 13 [])) [(.t 81)], none, false⟩,
 ⟨83, .mv (.t 1), none, false⟩,
 ⟨84, .ca (.k (.cl 21 [])) [(.t 82), (.t 83)], none, false⟩,
 ⟨80, .mv (.t 84), none, false⟩,
 ⟨85, .xt (.t 80) 0, none, false⟩,
 ⟨86, .xt (.t 80) 1, none, false⟩,
 ⟨14, .mv (.t 85), none, false⟩,
 ⟨15, .mv (.t 86), none, false⟩])
 (.seq
 (.seq
 (.reg false [⟨87, .mv (.t 14), none, false⟩,
 ⟨88, .mv (.t 6), none, false⟩,
 ⟨89, .ca (.k (.cl 22 [])) [(.t 87), (.t 88)], none, false⟩,
 ⟨90, .nt (.t 89), none, false⟩,
 ⟨91, .mv (.t 90), none, false⟩,
 ⟨92, .mv (.t 15), (some (91, false)), false⟩,
 ⟨93, .mv (.t 7), (some (91, false)), false⟩,
 ⟨94, .ar .neq false (.t 92) (.t 93), (some (91, false)), false⟩,
 ⟨95, .pk (.t 91) (.k (.sc (.bool true))) (.t 94), none, false⟩])
 (.ite (.t 95)
 (.seq
 (.reg false [⟨4, .mv (.k (.sc (.bool false))), none, false⟩])
 .ret)
 .skip))
 (.seq
 (.reg false [⟨13, .mv (.k (.sc (.int .i64 1))), none, false⟩])
 (.seq
 (.reg false [⟨96, .mv (.t 9), none, false⟩,
 ⟨97, .mv (.t 13), none, false⟩,
 ⟨98, .ca (.k (.cl 24 [])) [(.t 96), (.t 97)], none, false⟩,
 ⟨13, .mv (.t 98), none, false⟩])
 (.seq
 (.seq
 (.reg false [⟨99, .mv (.t 13), none, false⟩,
 ⟨100, .ar .lss false (.t 99) (.k (.sc (.int .i64 0))), none, false⟩])
 (.ite (.t 100)
 (.seq
 (.reg false [⟨4, .mv (.k (.sc (.bool false))), none, false⟩])
 .ret)
 .skip))
 (.seq
 (.seq
 (.reg false [⟨101, .mv (.t 13), none, false⟩,
 ⟨102, .mv (.t 12), none, false⟩,
 ⟨103, .ar .neq false (.t 101) (.t 102), none, false⟩])
 (.ite (.t 103)
 (.seq
 (.reg false [⟨4, .mv (.k (.sc (.bool false))), none, false⟩])
 .ret)
 .skip))
 (.seq
 (.reg false [⟨4, .mv (.k (.sc (.bool true))), none, false⟩])
 .ret))))))))))))))))))))))))))⟩
attribute [simp] i4
set_option maxRecDepth 1000000 in
theorem c4 : cFn Try.prog 4 [[17, 23]] = some i4 := by kernel_rfl
theorem e4 : enterOk Try.prog 4 = true := by kernel_rfl
def w11_1 : IC :=
(.seq
 (.seq
 (.reg false [⟨12, .mv (.t 5), none, false⟩,
 ⟨13, .mv (.t 0), none, false⟩,
 ⟨14, .ln false (.t 13), none, false⟩,
 ⟨15, .ar .lss false (.t 12) (.t 14), none, false⟩])
 (.ite (.t 15)
 .skip
 (.exit 0)))
 (.seq
 (.block 1
 (.seq
 (.reg false [⟨18, .mv (.t 0), none, false⟩,
 ⟨19, .mv (.t 5), none, false⟩,
 ⟨20, .ia 9 (.t 18) (.t 19), none, false⟩,
 ⟨21, .ld 9 true (.t 20), none, false⟩,
 ⟨22, .mv (.t 1), none, false⟩,
 ⟨23, .ca (.k (.cl 36 [])) [(.t 21), (.t 22)], none, false⟩,
 ⟨1, .mv (.t 23), none, false⟩])
 (.seq
 (.reg false [⟨24, .mv (.t 1), none, false⟩,
 ⟨25, .ar .lss false (.t 24) (.k (.sc (.int .i64 0))), none, false⟩])
 (.ite (.t 25)
 (.seq
 (.reg false [⟨4, .mv (.k (.sc (.int .i64 (-1)))), none, false⟩])
 .ret)
 .skip))))
 (.reg false [⟨16, .mv (.t 5), none, false⟩,
 ⟨17, .ar .add false (.t 16) (.k (.sc (.int .i64 1))), none, false⟩,
 ⟨5, .mv (.t 17), none, false⟩])))
def b11_1 : IC := w11_1
theorem u11_1 (call : CallF) (st : St) : evC call b11_1 st = evC call w11_1 st := rfl
attribute [simp] u11_1 w11_1
def i11 : Ev.Fn := ⟨2, 27, [.tmp 4],
 (.seq
 (.reg false [⟨4, .mv (.k (.sc (.int .i64 0))), none, false⟩])
 (.seq
 (.reg false [⟨6, .mv (.t 1), none, false⟩,
 ⟨7, .mv (.t 0), none, false⟩,
 ⟨8, .ln false (.t 7), none, false⟩,
 ⟨9, .ar .sub false (.t 6) (.t 8), none, false⟩,
 ⟨1, .mv (.t 9), none, false⟩])
 (.seq
 (.seq
 (.reg false [⟨10, .mv (.t 1), none, false⟩,
 ⟨11, .ar .lss false (.t 10) (.k (.sc (.int .i64 0))), none, false⟩])
 (.ite (.t 11)
 (.seq
 (.reg false [⟨4, .mv (.k (.sc (.int .i64 (-1)))), none, false⟩])
 .ret)
 .skip))
 (.seq
 (.seq
 (.reg false [⟨5, .mv (.k (.sc (.int .i64 0))), none, false⟩])
 (.cln [1] [4]
 (.block 0
 (.loop [0, 1, 5] b11_1))))
 (.seq
 (.reg false [⟨26, .mv (.t 1), none, false⟩,
 ⟨4, .mv (.t 26), none, false⟩])
 .ret)))))⟩
attribute [simp] i11
set_option maxRecDepth 1000000 in
theorem c11 : cFn Try.prog 11 [[], [0, 1, 5], [1], [4]] = some i11 := by kernel_rfl
theorem e11 : enterOk Try.prog 11 = true := by kernel_rfl
def w12_1 : IC :=
(.seq
 (.seq
 (.reg false [⟨26, .mv (.t 10), none, false⟩,
 ⟨27, .mv (.t 6), none, false⟩,
 ⟨28, .ln false (.t 27), none, false⟩,
 ⟨29, .ar .lss false (.t 26) (.t 28), none, false⟩])
 (.ite (.t 29)
 .skip
 (.exit 0)))
 (.seq
 (.block 1
 (.seq
 (.reg false [⟨32, .mv (.t 9), none, false⟩,
 ⟨33, .ln false (.t 32), none, false⟩,
 ⟨11, .mv (.t 33), none, false⟩])
 (.seq
 (.seq
 (.reg true [⟨34, .mv (.t 11), none, false⟩,
 ⟨35, .ar .gtr false (.t 34) (.k (.sc (.int .i64 0))), none, false⟩,
 ⟨36, .mv (.t 35), none, false⟩,
 ⟨37, .mv (.t 0), (some (36, true)), false⟩,
 ⟨38, .mv (.t 9), (some (36, true)), false⟩,
 ⟨39, .mv (.t 11), (some (36, true)), false⟩,
 ⟨40, .ar .sub false (.t 39) (.k (.sc (.int .i64 1))), (some (36, true)), false⟩,
 ⟨41, .ia 1 (.t 38) (.t 40), (some (36, true)), false⟩,
 ⟨42, .ld 1 false (.t 41), (some (36, true)), false⟩,
 ⟨43, .ia 9 (.t 37) (.t 42), (some (36, true)), false⟩,
 ⟨44, .fa 2 (.t 43), (some (36, true)), false⟩,
 ⟨45, .ld 1 false (.t 44), (some (36, true)), false⟩,
 ⟨46, .mv (.t 0), (some (36, true)), false⟩,
 ⟨47, .mv (.t 6), (some (36, true)), false⟩,
 ⟨48, .mv (.t 10), (some (36, true)), false⟩,
 ⟨49, .ia 1 (.t 47) (.t 48), (some (36, true)), false⟩,
 ⟨50, .ld 1 false (.t 49), (some (36, true)), false⟩,
 ⟨51, .ia 9 (.t 46) (.t 50), (some (36, true)), false⟩,
 ⟨52, .fa 2 (.t 51), (some (36, true)), false⟩,
 ⟨53, .ld 1 false (.t 52), (some (36, true)), false⟩,
 ⟨54, .ar .eql false (.t 45) (.t 53), (some (36, true)), false⟩,
 ⟨55, .pk (.t 36) (.t 54) (.k (.sc (.bool false))), none, false⟩])
 (.ite (.t 55)
 (.exit 1)
 .skip))
 (.seq
 (.seq
 (.reg true [⟨56, .mv (.t 11), none, false⟩,
 ⟨57, .ar .gtr false (.t 56) (.k (.sc (.int .i64 0))), none, false⟩,
 ⟨58, .mv (.t 57), none, false⟩,
 ⟨59, .mv (.t 0), (some (58, true)), false⟩,
 ⟨60, .mv (.t 9), (some (58, true)), false⟩,
 ⟨61, .mv (.t 11), (some (58, true)), false⟩,
 ⟨62, .ar .sub false (.t 61) (.k (.sc (.int .i64 1))), (some (58, true)), false⟩,
 ⟨63, .ia 1 (.t 60) (.t 62), (some (58, true)), false⟩,
 ⟨64, .ld 1 false (.t 63), (some (58, true)), false⟩,
 ⟨65, .ia 9 (.t 59) (.t 64), (some (58, true)), false⟩,
 ⟨66, .fa 2 (.t 65), (some (58, true)), false⟩,
 ⟨67, .ld 1 false (.t 66), (some (58, true)), false⟩,
 ⟨68, .ar .add false (.t 67) (.k (.sc (.int .i64 1))), (some (58, true)), false⟩,
 ⟨69, .mv (.t 0), (some (58, true)), false⟩,
 ⟨70, .mv (.t 6), (some (58, true)), false⟩,
 ⟨71, .mv (.t 10), (some (58, true)), false⟩,
 ⟨72, .ia 1 (.t 70) (.t 71), (some (58, true)), false⟩,
 ⟨73, .ld 1 false (.t 72), (some (58, true)), false⟩,
 ⟨74, .ia 9 (.t 69) (.t 73), (some (58, true)), false⟩,
 ⟨75, .fa 2 (.t 74), (some (58, true)), false⟩,
 ⟨76, .ld 1 false (.t 75), (some (58, true)), false⟩,
 ⟨77, .ar .neq false (.t 68) (.t 76), (some (58, true)), false⟩,
 ⟨78, .pk (.t 58) (.t 77) (.k (.sc (.bool false))), none, false⟩])
 (.ite (.t 78)
 (.reg false [⟨79, .bs 2 1 [(.sc (.int .i64 0))] 0 [], none, false⟩,
 ⟨9, .mv (.t 79), none, false⟩])
 .skip))
 (.seq
 (.reg false [⟨80, .mv (.t 9), none, false⟩,
 ⟨81, .mv (.t 6), none, false⟩,
 ⟨82, .mv (.t 10), none, false⟩,
 ⟨83, .ia 1 (.t 81) (.t 82), none, false⟩,
 ⟨84, .ld 1 false (.t 83), none, false⟩,
 ⟨85, .bs 2 1 [(.sc (.int .i64 0))] 1 [(0, (.t 84))], none, false⟩,
 ⟨86, .ap 2 1 false (.t 80) (.t 85), none, false⟩,
 ⟨9, .mv (.t 86), none, false⟩])
 (.seq
 (.reg false [⟨87, .mv (.t 9), none, false⟩,
 ⟨88, .ln false (.t 87), none, false⟩,
 ⟨89, .mv (.t 8), none, false⟩,
 ⟨90, .ln false (.t 89), none, false⟩,
 ⟨91, .ar .gtr false (.t 88) (.t 90), none, false⟩])
 (.ite (.t 91)
 (.reg false [⟨92, .mv (.t 9), none, false⟩,
 ⟨93, .ca (.k (.cl 59 [])) [(.t 92)], none, false⟩,
 ⟨8, .mv (.t 93), none, false⟩])
 .skip)))))))
 (.reg false [⟨30, .mv (.t 10), none, false⟩,
 ⟨31, .ar .add false (.t 30) (.k (.sc (.int .i64 1))), none, false⟩,
 ⟨10, .mv (.t 31), none, false⟩])))
def b12_1 : IC := w12_1
theorem u12_1 (call : CallF) (st : St) : evC call b12_1 st = evC call w12_1 st := rfl
attribute [simp] u12_1 w12_1
def i12 : Ev.Fn := ⟨2, 95, [.tmp 4, .tmp 5],
 (.seq
 (.reg false [⟨4, .mv (.k .nl), none, false⟩,
 ⟨5, .mv (.k (.sc (.int .i64 0))), none, false⟩])
 (.seq
 (.seq
 (.reg false [⟨12, .mv (.t 0), none, false⟩,
 ⟨13, .ca (.k (.cl 57 [])) [(.t 12)], none, false⟩,
 ⟨14, .nt (.t 13), none, false⟩])
 (.ite (.t 14)
 (.seq
 (.reg false [⟨4, .mv (.k .nl), none, false⟩,
 ⟨5, .mv (.k (.sc (.int .i64 1))), none, false⟩])
 .ret)
 .skip))
 (.seq
 (.reg false [⟨16, .mv (.t 0), none, false⟩,
 ⟨17, .mv (.t 1), none, false⟩,
 ⟨18, .ca (.k (.cl 58 [])) [(.t 16), (.t 17)], none, false⟩,
 ⟨15, .mv (.t 18), none, false⟩,
 ⟨19, .xt (.t 15) 0, none, false⟩,
 ⟨20, .xt (.t 15) 1, none, false⟩,
 ⟨6, .mv (.t 19), none, false⟩,
 ⟨7, .mv (.t 20), none, false⟩])
 (.seq
 (.seq
 (.reg false [⟨21, .mv (.t 7), none, false⟩,
 ⟨22, .ar .neq false (.t 21) (.k (.sc (.int .i64 0))), none, false⟩])
 (.ite (.t 22)
 (.seq
 (.reg false [⟨23, .mv (.t 7), none, false⟩,
 ⟨4, .mv (.k .nl), none, false⟩,
 ⟨5, .mv (.t 23), none, false⟩])
 .ret)
 .skip))
 (.seq
 (.reg false [⟨24, .bs 2 1 [(.sc (.int .i64 0))] 0 [], none, false⟩,
 ⟨8, .mv (.t 24), none, false⟩])
 (.seq
 (.reg false [⟨25, .bs 2 1 [(.sc (.int .i64 0))] 0 [], none, false⟩,
 ⟨9, .mv (.t 25), none, false⟩])
 (.seq
 (.seq
 (.reg false [⟨10, .mv (.k (.sc (.int .i64 0))), none, false⟩])
 (.cln [8] [4, 5]
 (.block 0
 (.loop [0, 6, 8, 9, 10] b12_1))))
 (.seq
 (.reg false [⟨94, .mv (.t 8), none, false⟩,
 ⟨4, .mv (.t 94), none, false⟩,
 ⟨5, .mv (.k (.sc (.int .i64 0))), none, false⟩])
 .ret))))))))⟩
attribute [simp] i12
set_option maxRecDepth 1000000 in
theorem c12 : cFn Try.prog 12 [[], [0, 6, 8, 9, 10], [8], [4, 5]] = some i12 := by kernel_rfl
theorem e12 : enterOk Try.prog 12 = true := by kernel_rfl
def w13_1 : IC :=
(.seq
 (.seq
 (.reg false [⟨8, .mv (.t 4), none, false⟩,
 ⟨9, .mv (.t 0), none, false⟩,
 ⟨10, .ln false (.t 9), none, false⟩,
 ⟨11, .ar .lss false (.t 8) (.t 10), none, false⟩])
 (.ite (.t 11)
 .skip
 (.exit 0)))
 (.seq
 (.block 1
 (.reg false [⟨14, .mv (.t 3), none, false⟩,
 ⟨15, .mv (.t 4), none, false⟩,
 ⟨16, .mv (.t 0), none, false⟩,
 ⟨17, .mv (.t 4), none, false⟩,
 ⟨18, .ia 9 (.t 16) (.t 17), none, false⟩,
 ⟨19, .ld 9 true (.t 18), none, false⟩,
 ⟨20, .ca (.k (.cl 38 [])) [(.t 19)], none, false⟩,
 ⟨21, .ia 9 (.t 14) (.t 15), none, false⟩,
 ⟨1, .so 9 (.t 21) (.t 20), none, true⟩]))
 (.reg false [⟨12, .mv (.t 4), none, false⟩,
 ⟨13, .ar .add false (.t 12) (.k (.sc (.int .i64 1))), none, false⟩,
 ⟨4, .mv (.t 13), none, false⟩])))
def b13_1 : IC := w13_1
theorem u13_1 (call : CallF) (st : St) : evC call b13_1 st = evC call w13_1 st := rfl
attribute [simp] u13_1 w13_1
def i13 : Ev.Fn := ⟨1, 23, [.tmp 2],
 (.seq
 (.reg false [⟨2, .mv (.k .nl), none, false⟩])
 (.seq
 (.reg false [⟨5, .mv (.t 0), none, false⟩,
 ⟨6, .ln false (.t 5), none, false⟩,
 ⟨7, .ms 78 9 [(.sc (.string ⟨#[]⟩)), (.sc (.string ⟨#[]⟩)), (.sc (.int .i64 0)), (.sc (.string ⟨#[]⟩)), (.sc (.int .i64 0)), (.sc (.int .i64 0)), (.sc (.int .i64 0)), (.sc (.int .i64 0)), .nl] (.t 6), none, false⟩,
 ⟨3, .mv (.t 7), none, false⟩])
 (.seq
 (.seq
 (.reg false [⟨4, .mv (.k (.sc (.int .i64 0))), none, false⟩])
 (.cln [3] [2]
 (.block 0
 (.loop [0, 3, 4] b13_1))))
 (.seq
 (.reg false [⟨22, .mv (.t 3), none, false⟩,
 ⟨2, .mv (.t 22), none, false⟩])
 .ret))))⟩
attribute [simp] i13
set_option maxRecDepth 1000000 in
theorem c13 : cFn Try.prog 13 [[], [0, 3, 4], [3], [2]] = some i13 := by kernel_rfl
theorem e13 : enterOk Try.prog 13 = true := by kernel_rfl
def w14_1 : IC :=
(.seq
 (.reg false [⟨28, .ar .lss false (.t 27) (.t 26), none, false⟩])
 (.seq
 (.ite (.t 28)
 .skip
 (.exit 0))
 (.seq
 (.block 1
 (.seq
 (.reg false [⟨29, .ia 1 (.t 25) (.t 27), none, false⟩,
 ⟨30, .ld 1 false (.t 29), none, false⟩,
 ⟨11, .mv (.t 30), none, false⟩])
 (.seq
 (.seq
 (.reg false [⟨31, .mv (.t 9), none, false⟩,
 ⟨32, .ln false (.t 31), none, false⟩,
 ⟨12, .mv (.t 32), none, false⟩])
 (.seq
 (.reg false [⟨33, .mv (.t 12), none, false⟩,
 ⟨34, .ar .gtr false (.t 33) (.k (.sc (.int .i64 0))), none, false⟩])
 (.ite (.t 34)
 (.seq
 (.reg true [⟨35, .mv (.t 0), none, false⟩,
 ⟨36, .mv (.t 11), none, false⟩,
 ⟨37, .ia 9 (.t 35) (.t 36), none, false⟩,
 ⟨38, .fa 2 (.t 37), none, false⟩,
 ⟨39, .ld 1 false (.t 38), none, false⟩,
 ⟨40, .mv (.t 0), none, false⟩,
 ⟨41, .mv (.t 9), none, false⟩,
 ⟨42, .mv (.t 12), none, false⟩,
 ⟨43, .ar .sub false (.t 42) (.k (.sc (.int .i64 1))), none, false⟩,
 ⟨44, .ia 1 (.t 41) (.t 43), none, false⟩,
 ⟨45, .ld 1 false (.t 44), none, false⟩,
 ⟨46, .ia 9 (.t 40) (.t 45), none, false⟩,
 ⟨47, .fa 2 (.t 46), none, false⟩,
 ⟨48, .ld 1 false (.t 47), none, false⟩,
 ⟨49, .ar .sub false (.t 39) (.t 48), none, false⟩,
 ⟨13, .mv (.t 49), none, false⟩])
 (.seq
 (.seq
 (.reg false [⟨50, .mv (.t 13), none, false⟩,
 ⟨51, .ar .eql false (.t 50) (.k (.sc (.int .i64 0))), none, false⟩])
 (.ite (.t 51)
 (.exit 1)
 .skip))
 (.seq
 (.reg false [⟨52, .mv (.t 13), none, false⟩,
 ⟨53, .ar .gtr false (.t 52) (.k (.sc (.int .i64 1))), none, false⟩])
 (.ite (.t 53)
 (.reg false [⟨54, .bs 2 1 [(.sc (.int .i64 0))] 0 [], none, false⟩,
 ⟨9, .mv (.t 54), none, false⟩])
 .skip))))
 .skip)))
 (.seq
 (.reg false [⟨55, .mv (.t 9), none, false⟩,
 ⟨56, .mv (.t 11), none, false⟩,
 ⟨57, .bs 2 1 [(.sc (.int .i64 0))] 1 [(0, (.t 56))], none, false⟩,
 ⟨58, .ap 2 1 false (.t 55) (.t 57), none, false⟩,
 ⟨9, .mv (.t 58), none, false⟩])
 (.seq
 (.reg false [⟨59, .mv (.t 9), none, false⟩,
 ⟨60, .ln false (.t 59), none, false⟩,
 ⟨61, .mv (.t 8), none, false⟩,
 ⟨62, .ln false (.t 61), none, false⟩,
 ⟨63, .ar .gtr false (.t 60) (.t 62), none, false⟩])
 (.ite (.t 63)
 (.reg false [⟨64, .mv (.t 9), none, false⟩,
 ⟨65, .ca (.k (.cl 61 [])) [(.t 64)], none, false⟩,
 ⟨8, .mv (.t 65), none, false⟩])
 .skip))))))
 (.reg false [⟨66, .ar .add false (.t 27) (.k (.sc (.int .i64 1))), none, false⟩,
 ⟨27, .mv (.t 66), none, false⟩]))))
def b14_1 : IC := w14_1
theorem u14_1 (call : CallF) (st : St) : evC call b14_1 st = evC call w14_1 st := rfl
attribute [simp] u14_1 w14_1
def i14 : Ev.Fn := ⟨2, 68, [.tmp 4, .tmp 5],
 (.seq
 (.reg false [⟨4, .mv (.k .nl), none, false⟩,
 ⟨5, .mv (.k (.sc (.int .i64 0))), none, false⟩])
 (.seq
 (.reg false [⟨15, .mv (.t 0), none, false⟩,
 ⟨16, .mv (.t 1), none, false⟩,
 ⟨17, .ca (.k (.cl 60 [])) [(.t 15), (.t 16)], none, false⟩,
 ⟨14, .mv (.t 17), none, false⟩,
 ⟨18, .xt (.t 14) 0, none, false⟩,
 ⟨19, .xt (.t 14) 1, none, false⟩,
 ⟨6, .mv (.t 18), none, false⟩,
 ⟨7, .mv (.t 19), none, false⟩])
 (.seq
 (.seq
 (.reg false [⟨20, .mv (.t 7), none, false⟩,
 ⟨21, .ar .neq false (.t 20) (.k (.sc (.int .i64 0))), none, false⟩])
 (.ite (.t 21)
 (.seq
 (.reg false [⟨22, .mv (.t 7), none, false⟩,
 ⟨4, .mv (.k .nl), none, false⟩,
 ⟨5, .mv (.t 22), none, false⟩])
 .ret)
 .skip))
 (.seq
 (.reg false [⟨23, .bs 2 1 [(.sc (.int .i64 0))] 0 [], none, false⟩,
 ⟨24, .bs 2 1 [(.sc (.int .i64 0))] 0 [], none, false⟩,
 ⟨8, .mv (.t 23), none, false⟩,
 ⟨9, .mv (.t 24), none, false⟩])
 (.seq
 (.seq
 (.reg false [⟨25, .mv (.t 6), none, false⟩,
 ⟨26, .ln false (.t 25), none, false⟩,
 ⟨27, .mv (.k (.sc (.int .i64 0))), none, false⟩])
 (.cln [8] [4, 5]
 (.block 0
 (.loop [0, 8, 9, 25, 26, 27] b14_1))))
 (.seq
 (.reg false [⟨67, .mv (.t 8), none, false⟩,
 ⟨4, .mv (.t 67), none, false⟩,
 ⟨5, .mv (.k (.sc (.int .i64 0))), none, false⟩])
 .ret))))))⟩
attribute [simp] i14
set_option maxRecDepth 1000000 in
theorem c14 : cFn Try.prog 14 [[], [0, 8, 9, 25, 26, 27], [8], [4, 5]] = some i14 := by kernel_rfl
theorem e14 : enterOk Try.prog 14 = true := by kernel_rfl
def w15_1 : IC :=
(.seq
 (.seq
 (.reg false [⟨11, .mv (.t 5), none, false⟩,
 ⟨12, .mv (.t 0), none, false⟩,
 ⟨13, .ln false (.t 12), none, false⟩,
 ⟨14, .ar .lss false (.t 11) (.t 13), none, false⟩])
 (.ite (.t 14)
 .skip
 (.exit 0)))
 (.seq
 (.block 1
 (.seq
 (.reg true [⟨17, .mv (.t 0), none, false⟩,
 ⟨18, .mv (.t 5), none, false⟩,
 ⟨19, .ia 1 (.t 17) (.t 18), none, false⟩,
 ⟨20, .ld 1 false (.t 19), none, false⟩,
 ⟨21, .mv (.t 1), none, false⟩,
 ⟨22, .mv (.t 5), none, false⟩,
 ⟨23, .ia 1 (.t 21) (.t 22), none, false⟩,
 ⟨24, .ld 1 false (.t 23), none, false⟩,
 ⟨25, .ar .neq false (.t 20) (.t 24), none, false⟩])
 (.ite (.t 25)
 (.seq
 (.reg false [⟨4, .mv (.k (.sc (.bool false))), none, false⟩])
 .ret)
 .skip)))
 (.reg false [⟨15, .mv (.t 5), none, false⟩,
 ⟨16, .ar .add false (.t 15) (.k (.sc (.int .i64 1))), none, false⟩,
 ⟨5, .mv (.t 16), none, false⟩])))
def b15_1 : IC := w15_1
theorem u15_1 (call : CallF) (st : St) : evC call b15_1 st = evC call w15_1 st := rfl
attribute [simp] u15_1 w15_1
def i15 : Ev.Fn := ⟨2, 26, [.tmp 4],
 (.seq
 (.reg false [⟨4, .mv (.k (.sc (.bool false))), none, false⟩])
 (.seq
 (.seq
 (.reg false [⟨6, .mv (.t 0), none, false⟩,
 ⟨7, .ln false (.t 6), none, false⟩,
 ⟨8, .mv (.t 1), none, false⟩,
 ⟨9, .ln false (.t 8), none, false⟩,
 ⟨10, .ar .neq false (.t 7) (.t 9), none, false⟩])
 (.ite (.t 10)
 (.seq
 (.reg false [⟨4, .mv (.k (.sc (.bool false))), none, false⟩])
 .ret)
 .skip))
 (.seq
 (.seq
 (.reg false [⟨5, .mv (.k (.sc (.int .i64 0))), none, false⟩])
 (.cln [] [4]
 (.block 0
 (.loop [0, 1, 5] b15_1))))
 (.seq
 (.reg false [⟨4, .mv (.k (.sc (.bool true))), none, false⟩])
 .ret))))⟩
attribute [simp] i15
set_option maxRecDepth 1000000 in
theorem c15 : cFn Try.prog 15 [[], [0, 1, 5], [], [4]] = some i15 := by kernel_rfl
theorem e15 : enterOk Try.prog 15 = true := by kernel_rfl
def w16_1 : IC :=
(.seq
 (.seq
 (.reg false [⟨11, .mv (.t 5), none, false⟩,
 ⟨12, .mv (.t 0), none, false⟩,
 ⟨13, .ln false (.t 12), none, false⟩,
 ⟨14, .ar .lss false (.t 11) (.t 13), none, false⟩])
 (.ite (.t 14)
 .skip
 (.exit 0)))
 (.seq
 (.block 1
 (.seq
 (.reg true [⟨17, .mv (.t 0), none, false⟩,
 ⟨18, .mv (.t 5), none, false⟩,
 ⟨19, .ia 9 (.t 17) (.t 18), none, false⟩,
 ⟨20, .ld 9 true (.t 19), none, false⟩,
 ⟨21, .mv (.t 1), none, false⟩,
 ⟨22, .mv (.t 5), none, false⟩,
 ⟨23, .ia 9 (.t 21) (.t 22), none, false⟩,
 ⟨24, .ld 9 true (.t 23), none, false⟩,
 ⟨25, .ca (.k (.cl 41 [])) [(.t 20), (.t 24)], none, false⟩,
 ⟨26, .nt (.t 25), none, false⟩])
 (.ite (.t 26)
 (.seq
 (.reg false [⟨4, .mv (.k (.sc (.bool false))), none, false⟩])
 .ret)
 .skip)))
 (.reg false [⟨15, .mv (.t 5), none, false⟩,
 ⟨16, .ar .add false (.t 15) (.k (.sc (.int .i64 1))), none, false⟩,
 ⟨5, .mv (.t 16), none, false⟩])))
def b16_1 : IC := w16_1
theorem u16_1 (call : CallF) (st : St) : evC call b16_1 st = evC call w16_1 st := rfl
attribute [simp] u16_1 w16_1
def i16 : Ev.Fn := ⟨2, 27, [.tmp 4],
 (.seq
 (.reg false [⟨4, .mv (.k (.sc (.bool false))), none, false⟩])
 (.seq
 (.seq
 (.reg false [⟨6, .mv (.t 0), none, false⟩,
 ⟨7, .ln false (.t 6), none, false⟩,
 ⟨8, .mv (.t 1), none, false⟩,
 ⟨9, .ln false (.t 8), none, false⟩,
 ⟨10, .ar .neq false (.t 7) (.t 9), none, false⟩])
 (.ite (.t 10)
 (.seq
 (.reg false [⟨4, .mv (.k (.sc (.bool false))), none, false⟩])
 .ret)
 .skip))
 (.seq
 (.seq
 (.reg false [⟨5, .mv (.k (.sc (.int .i64 0))), none, false⟩])
 (.cln [] [4]
 (.block 0
 (.loop [0, 1, 5] b16_1))))
 (.seq
 (.reg false [⟨4, .mv (.k (.sc (.bool true))), none, false⟩])
 .ret))))⟩
attribute [simp] i16
set_option maxRecDepth 1000000 in
theorem c16 : cFn Try.prog 16 [[], [0, 1, 5], [], [4]] = some i16 := by kernel_rfl
theorem e16 : enterOk Try.prog 16 = true := by kernel_rfl
def w17_1 : IC :=
(.seq
 (.seq
 (.reg false [⟨6, .mv (.t 5), none, false⟩,
 ⟨7, .mv (.t 0), none, false⟩,
 ⟨8, .ln false (.t 7), none, false⟩,
 ⟨9, .ar .lss false (.t 6) (.t 8), none, false⟩])
 (.ite (.t 9)
 .skip
 (.exit 0)))
 (.seq
 (.block 1
 (.seq
 (.reg false [⟨12, .mv (.t 0), none, false⟩,
 ⟨13, .mv (.t 5), none, false⟩,
 ⟨14, .mv (.t 1), none, false⟩,
 ⟨15, .ca (.k (.cl 62 [])) [(.t 14)], none, false⟩,
 ⟨16, .ia 9 (.t 12) (.t 13), none, false⟩,
 ⟨17, .fa 0 (.t 16), none, false⟩,
 ⟨1, .so 1 (.t 17) (.t 15), none, true⟩])
 (.seq
 (.reg false [⟨18, .mv (.t 1), none, false⟩,
 ⟨19, .ar .add false (.t 18) (.k (.sc (.int .i64 1))), none, false⟩,
 ⟨1, .mv (.t 19), none, false⟩])
 (.seq
 (.reg false [⟨20, .mv (.t 0), none, false⟩,
 ⟨21, .mv (.t 5), none, false⟩,
 ⟨22, .mv (.t 1), none, false⟩,
 ⟨23, .ca (.k (.cl 62 [])) [(.t 22)], none, false⟩,
 ⟨24, .ia 9 (.t 20) (.t 21), none, false⟩,
 ⟨25, .fa 1 (.t 24), none, false⟩,
 ⟨1, .so 1 (.t 25) (.t 23), none, true⟩])
 (.seq
 (.reg false [⟨26, .mv (.t 1), none, false⟩,
 ⟨27, .ar .add false (.t 26) (.k (.sc (.int .i64 1))), none, false⟩,
 ⟨1, .mv (.t 27), none, false⟩])
 (.seq
 (.reg false [⟨28, .mv (.t 0), none, false⟩,
 ⟨29, .mv (.t 5), none, false⟩,
 ⟨30, .mv (.t 1), none, false⟩,
 ⟨31, .ia 9 (.t 28) (.t 29), none, false⟩,
 ⟨32, .fa 2 (.t 31), none, false⟩,
 ⟨1, .so 1 (.t 32) (.t 30), none, true⟩])
 (.seq
 (.reg false [⟨33, .mv (.t 1), none, false⟩,
 ⟨34, .ar .add false (.t 33) (.k (.sc (.int .i64 1))), none, false⟩,
 ⟨1, .mv (.t 34), none, false⟩])
 (.seq
 (.reg false [⟨35, .mv (.t 0), none, false⟩,
 ⟨36, .mv (.t 5), none, false⟩,
 ⟨37, .mv (.t 1), none, false⟩,
 ⟨38, .ca (.k (.cl 62 [])) [(.t 37)], none, false⟩,
 ⟨39, .ia 9 (.t 35) (.t 36), none, false⟩,
 ⟨40, .fa 3 (.t 39), none, false⟩,
 ⟨41, .fa 0 (.t 40), none, false⟩,
 ⟨1, .so 1 (.t 41) (.t 38), none, true⟩])
 (.seq
 (.reg false [⟨42, .mv (.t 1), none, false⟩,
 ⟨43, .ar .add false (.t 42) (.k (.sc (.int .i64 1))), none, false⟩,
 ⟨1, .mv (.t 43), none, false⟩])
 (.seq
 (.reg false [⟨44, .mv (.t 0), none, false⟩,
 ⟨45, .mv (.t 5), none, false⟩,
 ⟨46, .mv (.t 1), none, false⟩,
 ⟨47, .ia 9 (.t 44) (.t 45), none, false⟩,
 ⟨48, .fa 3 (.t 47), none, false⟩,
 ⟨49, .fa 1 (.t 48), none, false⟩,
 ⟨1, .so 1 (.t 49) (.t 46), none, true⟩])
 (.seq
 (.reg false [⟨50, .mv (.t 1), none, false⟩,
 ⟨51, .ar .add false (.t 50) (.k (.sc (.int .i64 1))), none, false⟩,
 ⟨1, .mv (.t 51), none, false⟩])
 (.seq
 (.reg false [⟨52, .mv (.t 0), none, false⟩,
 ⟨53, .mv (.t 5), none, false⟩,
 ⟨54, .mv (.t 1), none, false⟩,
 ⟨55, .ia 9 (.t 52) (.t 53), none, false⟩,
 ⟨56, .fa 3 (.t 55), none, false⟩,
 ⟨57, .fa 2 (.t 56), none, false⟩,
 ⟨1, .so 1 (.t 57) (.t 54), none, true⟩])
 (.seq
 (.reg false [⟨58, .mv (.t 1), none, false⟩,
 ⟨59, .ar .add false (.t 58) (.k (.sc (.int .i64 1))), none, false⟩,
 ⟨1, .mv (.t 59), none, false⟩])
 (.seq
 (.reg false [⟨60, .mv (.t 0), none, false⟩,
 ⟨61, .mv (.t 5), none, false⟩,
 ⟨62, .mv (.t 1), none, false⟩,
 ⟨63, .ia 9 (.t 60) (.t 61), none, false⟩,
 ⟨64, .fa 6 (.t 63), none, false⟩,
 ⟨1, .so 1 (.t 64) (.t 62), none, true⟩])
 (.seq
 (.reg false [⟨65, .mv (.t 1), none, false⟩,
 ⟨66, .ar .add false (.t 65) (.k (.sc (.int .i64 1))), none, false⟩,
 ⟨1, .mv (.t 66), none, false⟩])
 (.seq
 (.reg false [⟨67, .mv (.t 0), none, false⟩,
 ⟨68, .mv (.t 5), none, false⟩,
 ⟨69, .mv (.t 1), none, false⟩,
 ⟨70, .ia 9 (.t 67) (.t 68), none, false⟩,
 ⟨71, .fa 7 (.t 70), none, false⟩,
 ⟨1, .so 1 (.t 71) (.t 69), none, true⟩])
 (.seq
 (.reg false [⟨72, .mv (.t 1), none, false⟩,
 ⟨73, .ar .add false (.t 72) (.k (.sc (.int .i64 1))), none, false⟩,
 ⟨1, .mv (.t 73), none, false⟩])
 (.rgw [⟨74, .mv (.t 0), none, false⟩,
 ⟨75, .mv (.t 5), none, false⟩,
 ⟨76, .ia 9 (.t 74) (.t 75), none, false⟩,
 ⟨77, .fa 8 (.t 76), none, false⟩,
 ⟨78, .ld 1 false (.t 77), none, false⟩,
 ⟨79, .mv (.t 1), none, false⟩,
 ⟨80, .cw 63 [] [(.t 78), (.t 79)], none, false⟩,
 ⟨1, .mv (.t 80), none, false⟩]))))))))))))))))))
 (.reg false [⟨10, .mv (.t 5), none, false⟩,
 ⟨11, .ar .add false (.t 10) (.k (.sc (.int .i64 1))), none, false⟩,
 ⟨5, .mv (.t 11), none, false⟩])))
def b17_1 : IC := w17_1
theorem u17_1 (call : CallF) (st : St) : evC call b17_1 st = evC call w17_1 st := rfl
attribute [simp] u17_1 w17_1
def i17 : Ev.Fn := ⟨2, 82, [.tmp 4],
 (.seq
 (.reg false [⟨4, .mv (.k (.sc (.int .i64 0))), none, false⟩])
 (.seq
 (.seq
 (.reg false [⟨5, .mv (.k (.sc (.int .i64 0))), none, false⟩])
 (.cln [1, 100000] [4, 100000]
 (.block 0
 (.loop [0, 1, 5, 100000] b17_1))))
 (.seq
 (.reg false [⟨81, .mv (.t 1), none, false⟩,
 ⟨4, .mv (.t 81), none, false⟩])
 .ret)))⟩
attribute [simp] i17
set_option maxRecDepth 1000000 in
theorem c17 : cFn Try.prog 17 [[63], [0, 1, 5, 100000], [1, 100000], [4, 100000]] = some i17 := by kernel_rfl
theorem e17 : enterOk Try.prog 17 = true := by kernel_rfl
def w18_1 : IC :=
(.seq
 (.seq
 (.reg false [⟨6, .mv (.t 5), none, false⟩,
 ⟨7, .mv (.t 0), none, false⟩,
 ⟨8, .ln false (.t 7), none, false⟩,
 ⟨9, .ar .lss false (.t 6) (.t 8), none, false⟩])
 (.ite (.t 9)
 .skip
 (.exit 0)))
 (.seq
 (.block 1
 (.seq
 (.reg false [⟨12, .mv (.t 0), none, false⟩,
 ⟨13, .mv (.t 5), none, false⟩,
 ⟨14, .mv (.t 1), none, false⟩,
 ⟨15, .ia 1 (.t 12) (.t 13), none, false⟩,
 ⟨1, .so 1 (.t 15) (.t 14), none, true⟩])
 (.reg false [⟨16, .mv (.t 1), none, false⟩,
 ⟨17, .ar .add false (.t 16) (.k (.sc (.int .i64 1))), none, false⟩,
 ⟨1, .mv (.t 17), none, false⟩])))
 (.reg false [⟨10, .mv (.t 5), none, false⟩,
 ⟨11, .ar .add false (.t 10) (.k (.sc (.int .i64 1))), none, false⟩,
 ⟨5, .mv (.t 11), none, false⟩])))
def b18_1 : IC := w18_1
theorem u18_1 (call : CallF) (st : St) : evC call b18_1 st = evC call w18_1 st := rfl
attribute [simp] u18_1 w18_1
def i18 : Ev.Fn := ⟨2, 19, [.tmp 4],
 (.seq
 (.reg false [⟨4, .mv (.k (.sc (.int .i64 0))), none, false⟩])
 (.seq
 (.seq
 (.reg false [⟨5, .mv (.k (.sc (.int .i64 0))), none, false⟩])
 (.cln [1, 100000] [4, 100000]
 (.block 0
 (.loop [0, 1, 5, 100000] b18_1))))
 (.seq
 (.reg false [⟨18, .mv (.t 1), none, false⟩,
 ⟨4, .mv (.t 18), none, false⟩])
 .ret)))⟩
attribute [simp] i18
set_option maxRecDepth 1000000 in
theorem c18 : cFn Try.prog 18 [[], [0, 1, 5, 100000], [1, 100000], [4, 100000]] = some i18 := by kernel_rfl
theorem e18 : enterOk Try.prog 18 = true := by kernel_rfl
def w19_1 : IC :=
(.seq
 (.seq
 (.reg false [⟨6, .mv (.t 5), none, false⟩,
 ⟨7, .mv (.t 0), none, false⟩,
 ⟨8, .ln false (.t 7), none, false⟩,
 ⟨9, .ar .lss false (.t 6) (.t 8), none, false⟩])
 (.ite (.t 9)
 .skip
 (.exit 0)))
 (.seq
 (.block 1
 (.seq
 (.seq
 (.reg false [⟨12, .mv (.t 0), none, false⟩,
 ⟨13, .mv (.t 5), none, false⟩,
 ⟨14, .ia 1 (.t 12) (.t 13), none, false⟩,
 ⟨15, .ld 1 false (.t 14), none, false⟩,
 ⟨16, .mv (.t 1), none, false⟩,
 ⟨17, .ar .neq false (.t 15) (.t 16), none, false⟩])
 (.ite (.t 17)
 (.seq
 (.reg false [⟨4, .mv (.k (.sc (.int .i64 (-1)))), none, false⟩])
 .ret)
 .skip))
 (.reg false [⟨18, .mv (.t 1), none, false⟩,
 ⟨19, .ar .add false (.t 18) (.k (.sc (.int .i64 1))), none, false⟩,
 ⟨1, .mv (.t 19), none, false⟩])))
 (.reg false [⟨10, .mv (.t 5), none, false⟩,
 ⟨11, .ar .add false (.t 10) (.k (.sc (.int .i64 1))), none, false⟩,
 ⟨5, .mv (.t 11), none, false⟩])))
def b19_1 : IC := w19_1
theorem u19_1 (call : CallF) (st : St) : evC call b19_1 st = evC call w19_1 st := rfl
attribute [simp] u19_1 w19_1
def i19 : Ev.Fn := ⟨2, 21, [.tmp 4],
 (.seq
 (.reg false [⟨4, .mv (.k (.sc (.int .i64 0))), none, false⟩])
 (.seq
 (.seq
 (.reg false [⟨5, .mv (.k (.sc (.int .i64 0))), none, false⟩])
 (.cln [1] [4]
 (.block 0
 (.loop [0, 1, 5] b19_1))))
 (.seq
 (.reg false [⟨20, .mv (.t 1), none, false⟩,
 ⟨4, .mv (.t 20), none, false⟩])
 .ret)))⟩
attribute [simp] i19
set_option maxRecDepth 1000000 in
theorem c19 : cFn Try.prog 19 [[], [0, 1, 5], [1], [4]] = some i19 := by kernel_rfl
theorem e19 : enterOk Try.prog 19 = true := by kernel_rfl
def w20_1 : IC :=
(.seq
 (.seq
 (.reg false [⟨23, .mv (.t 9), none, false⟩,
 ⟨24, .ar .add false (.t 23) (.k (.sc (.int .i64 1))), none, false⟩,
 ⟨25, .mv (.t 6), none, false⟩,
 ⟨26, .ln false (.t 25), none, false⟩,
 ⟨27, .ar .lss false (.t 24) (.t 26), none, false⟩])
 (.ite (.t 27)
 .skip
 (.exit 0)))
 (.seq
 (.block 1
 (.seq
 (.reg true [⟨30, .mv (.t 0), none, false⟩,
 ⟨31, .mv (.t 6), none, false⟩,
 ⟨32, .mv (.t 9), none, false⟩,
 ⟨33, .ia 1 (.t 31) (.t 32), none, false⟩,
 ⟨34, .ld 1 false (.t 33), none, false⟩,
 ⟨35, .ia 9 (.t 30) (.t 34), none, false⟩,
 ⟨36, .fa 2 (.t 35), none, false⟩,
 ⟨37, .ld 1 false (.t 36), none, false⟩,
 ⟨38, .ar .add false (.t 37) (.k (.sc (.int .i64 1))), none, false⟩,
 ⟨39, .mv (.t 0), none, false⟩,
 ⟨40, .mv (.t 6), none, false⟩,
 ⟨41, .mv (.t 9), none, false⟩,
 ⟨42, .ar .add false (.t 41) (.k (.sc (.int .i64 1))), none, false⟩,
 ⟨43, .ia 1 (.t 40) (.t 42), none, false⟩,
 ⟨44, .ld 1 false (.t 43), none, false⟩,
 ⟨45, .ia 9 (.t 39) (.t 44), none, false⟩,
 ⟨46, .fa 2 (.t 45), none, false⟩,
 ⟨47, .ld 1 false (.t 46), none, false⟩,
 ⟨48, .ar .eql false (.t 38) (.t 47), none, false⟩])
 (.ite (.t 48)
 (.seq
 (.rgc [] [⟨49, .mv (.t 8), none, false⟩,
 ⟨50, .mv (.t 6), none, false⟩,
 ⟨51, .mv (.t 9), none, false⟩,
 ⟨52, .ia 1 (.t 50) (.t 51), none, false⟩,
 ⟨53, .ld 1 false (.t 52), none, false⟩,
 ⟨54, .mv (.t 6), none, false⟩,
 ⟨55, .mv (.t 9), none, false⟩,
 ⟨56, .ar .add false (.t 55) (.k (.sc (.int .i64 1))), none, false⟩,
 ⟨57, .ia 1 (.t 54) (.t 56), none, false⟩,
 ⟨58, .ld 1 false (.t 57), none, false⟩,
 ⟨59, .bs 2 1 [(.sc (.int .i64 0))] 2 [(0, (.t 53)), (1, (.t 58))], none, false⟩,
 ⟨60, .bw 24 1 [.nl] 1 [(0, (.t 59))], none, false⟩,
 ⟨61, .ap 24 1 false (.t 49) (.t 60), none, false⟩,
 ⟨8, .mv (.t 61), none, false⟩])
 (.reg false [⟨62, .mv (.t 9), none, false⟩,
 ⟨63, .ar .add false (.t 62) (.k (.sc (.int .i64 1))), none, false⟩,
 ⟨9, .mv (.t 63), none, false⟩]))
 .skip)))
 (.reg false [⟨28, .mv (.t 9), none, false⟩,
 ⟨29, .ar .add false (.t 28) (.k (.sc (.int .i64 1))), none, false⟩,
 ⟨9, .mv (.t 29), none, false⟩])))
def b20_1 : IC := w20_1
theorem u20_1 (call : CallF) (st : St) : evC call b20_1 st = evC call w20_1 st := rfl
attribute [simp] u20_1 w20_1
def i20 : Ev.Fn := ⟨2, 65, [.tmp 4, .tmp 5],
 (.seq
 (.reg false [⟨4, .mv (.k .nl), none, false⟩,
 ⟨5, .mv (.k (.sc (.int .i64 0))), none, false⟩])
 (.seq
 (.seq
 (.reg false [⟨10, .mv (.t 0), none, false⟩,
 ⟨11, .ca (.k (.cl 57 [])) [(.t 10)], none, false⟩,
 ⟨12, .nt (.t 11), none, false⟩])
 (.ite (.t 12)
 (.seq
 (.reg false [⟨4, .mv (.k .nl), none, false⟩,
 ⟨5, .mv (.k (.sc (.int .i64 1))), none, false⟩])
 .ret)
 .skip))
 (.seq
 (.reg false [⟨14, .mv (.t 0), none, false⟩,
 ⟨15, .mv (.t 1), none, false⟩,
 ⟨16, .ca (.k (.cl 58 [])) [(.t 14), (.t 15)], none, false⟩,
 ⟨13, .mv (.t 16), none, false⟩,
 ⟨17, .xt (.t 13) 0, none, false⟩,
 ⟨18, .xt (.t 13) 1, none, false⟩,
 ⟨6, .mv (.t 17), none, false⟩,
 ⟨7, .mv (.t 18), none, false⟩])
 (.seq
 (.seq
 (.reg false [⟨19, .mv (.t 7), none, false⟩,
 ⟨20, .ar .neq false (.t 19) (.k (.sc (.int .i64 0))), none, false⟩])
 (.ite (.t 20)
 (.seq
 (.reg false [⟨21, .mv (.t 7), none, false⟩,
 ⟨4, .mv (.k .nl), none, false⟩,
 ⟨5, .mv (.t 21), none, false⟩])
 .ret)
 .skip))
 (.seq
 (.reg false [⟨22, .bw 24 1 [.nl] 0 [], none, false⟩,
 ⟨8, .mv (.t 22), none, false⟩])
 (.seq
 (.seq
 (.reg false [⟨9, .mv (.k (.sc (.int .i64 0))), none, false⟩])
 (.cln [8] [4, 5]
 (.block 0
 (.loop [0, 6, 8, 9] b20_1))))
 (.seq
 (.reg false [⟨64, .mv (.t 8), none, false⟩,
 ⟨4, .mv (.t 64), none, false⟩,
 ⟨5, .mv (.k (.sc (.int .i64 0))), none, false⟩])
 .ret)))))))⟩
attribute [simp] i20
set_option maxRecDepth 1000000 in
theorem c20 : cFn Try.prog 20 [[], [0, 6, 8, 9], [8], [4, 5]] = some i20 := by kernel_rfl
theorem e20 : enterOk Try.prog 20 = true := by kernel_rfl
def w21_1 : IC :=
(.seq
 (.seq
 (.reg false [⟨20, .mv (.t 9), none, false⟩,
 ⟨21, .ar .add false (.t 20) (.k (.sc (.int .i64 1))), none, false⟩,
 ⟨22, .mv (.t 6), none, false⟩,
 ⟨23, .ln false (.t 22), none, false⟩,
 ⟨24, .ar .lss false (.t 21) (.t 23), none, false⟩])
 (.ite (.t 24)
 .skip
 (.exit 0)))
 (.seq
 (.block 1
 (.seq
 (.reg true [⟨27, .mv (.t 0), none, false⟩,
 ⟨28, .mv (.t 6), none, false⟩,
 ⟨29, .mv (.t 9), none, false⟩,
 ⟨30, .ar .add false (.t 29) (.k (.sc (.int .i64 1))), none, false⟩,
 ⟨31, .ia 1 (.t 28) (.t 30), none, false⟩,
 ⟨32, .ld 1 false (.t 31), none, false⟩,
 ⟨33, .ia 9 (.t 27) (.t 32), none, false⟩,
 ⟨34, .fa 2 (.t 33), none, false⟩,
 ⟨35, .ld 1 false (.t 34), none, false⟩,
 ⟨36, .mv (.t 0), none, false⟩,
 ⟨37, .mv (.t 6), none, false⟩,
 ⟨38, .mv (.t 9), none, false⟩,
 ⟨39, .ia 1 (.t 37) (.t 38), none, false⟩,
 ⟨40, .ld 1 false (.t 39), none, false⟩,
 ⟨41, .ia 9 (.t 36) (.t 40), none, false⟩,
 ⟨42, .fa 2 (.t 41), none, false⟩,
 ⟨43, .ld 1 false (.t 42), none, false⟩,
 ⟨44, .ar .add false (.t 43) (.k (.sc (.int .i64 1))), none, false⟩,
 ⟨45, .ar .eql false (.t 35) (.t 44), none, false⟩])
 (.ite (.t 45)
 (.seq
 (.rgc [] [⟨46, .mv (.t 8), none, false⟩,
 ⟨47, .mv (.t 6), none, false⟩,
 ⟨48, .mv (.t 9), none, false⟩,
 ⟨49, .ia 1 (.t 47) (.t 48), none, false⟩,
 ⟨50, .ld 1 false (.t 49), none, false⟩,
 ⟨51, .mv (.t 6), none, false⟩,
 ⟨52, .mv (.t 9), none, false⟩,
 ⟨53, .ar .add false (.t 52) (.k (.sc (.int .i64 1))), none, false⟩,
 ⟨54, .ia 1 (.t 51) (.t 53), none, false⟩,
 ⟨55, .ld 1 false (.t 54), none, false⟩,
 ⟨56, .bs 2 1 [(.sc (.int .i64 0))] 2 [(0, (.t 50)), (1, (.t 55))], none, false⟩,
 ⟨57, .bw 24 1 [.nl] 1 [(0, (.t 56))], none, false⟩,
 ⟨58, .ap 24 1 false (.t 46) (.t 57), none, false⟩,
 ⟨8, .mv (.t 58), none, false⟩])
 (.reg false [⟨59, .mv (.t 9), none, false⟩,
 ⟨60, .ar .add false (.t 59) (.k (.sc (.int .i64 1))), none, false⟩,
 ⟨9, .mv (.t 60), none, false⟩]))
 .skip)))
 (.reg false [⟨25, .mv (.t 9), none, false⟩,
 ⟨26, .ar .add false (.t 25) (.k (.sc (.int .i64 1))), none, false⟩,
 ⟨9, .mv (.t 26), none, false⟩])))
def b21_1 : IC := w21_1
theorem u21_1 (call : CallF) (st : St) : evC call b21_1 st = evC call w21_1 st := rfl
attribute [simp] u21_1 w21_1
def i21 : Ev.Fn := ⟨2, 62, [.tmp 4, .tmp 5],
 (.seq
 (.reg false [⟨4, .mv (.k .nl), none, false⟩,
 ⟨5, .mv (.k (.sc (.int .i64 0))), none, false⟩])
 (.seq
 (.reg false [⟨11, .mv (.t 0), none, false⟩,
 ⟨12, .mv (.t 1), none, false⟩,
 ⟨13, .ca (.k (.cl 60 [])) [(.t 11), (.t 12)], none, false⟩,
 ⟨10, .mv (.t 13), none, false⟩,
 ⟨14, .xt (.t 10) 0, none, false⟩,
 ⟨15, .xt (.t 10) 1, none, false⟩,
 ⟨6, .mv (.t 14), none, false⟩,
 ⟨7, .mv (.t 15), none, false⟩])
 (.seq
 (.seq
 (.reg false [⟨16, .mv (.t 7), none, false⟩,
 ⟨17, .ar .neq false (.t 16) (.k (.sc (.int .i64 0))), none, false⟩])
 (.ite (.t 17)
 (.seq
 (.reg false [⟨18, .mv (.t 7), none, false⟩,
 ⟨4, .mv (.k .nl), none, false⟩,
 ⟨5, .mv (.t 18), none, false⟩])
 .ret)
 .skip))
 (.seq
 (.reg false [⟨19, .bw 24 1 [.nl] 0 [], none, false⟩,
 ⟨8, .mv (.t 19), none, false⟩])
 (.seq
 (.seq
 (.reg false [⟨9, .mv (.k (.sc (.int .i64 0))), none, false⟩])
 (.cln [8] [4, 5]
 (.block 0
 (.loop [0, 6, 8, 9] b21_1))))
 (.seq
 (.reg false [⟨61, .mv (.t 8), none, false⟩,
 ⟨4, .mv (.t 61), none, false⟩,
 ⟨5, .mv (.k (.sc (.int .i64 0))), none, false⟩])
 .ret))))))⟩
attribute [simp] i21
set_option maxRecDepth 1000000 in
theorem c21 : cFn Try.prog 21 [[], [0, 6, 8, 9], [8], [4, 5]] = some i21 := by kernel_rfl
theorem e21 : enterOk Try.prog 21 = true := by kernel_rfl
def w22_1 : IC :=
(.seq
 (.seq
 (.reg false [⟨11, .mv (.t 5), none, false⟩,
 ⟨12, .mv (.t 0), none, false⟩,
 ⟨13, .ln false (.t 12), none, false⟩,
 ⟨14, .ar .lss false (.t 11) (.t 13), none, false⟩])
 (.ite (.t 14)
 .skip
 (.exit 0)))
 (.seq
 (.block 1
 (.seq
 (.reg true [⟨17, .mv (.t 0), none, false⟩,
 ⟨18, .mv (.t 5), none, false⟩,
 ⟨19, .ia 1 (.t 17) (.t 18), none, false⟩,
 ⟨20, .ld 1 false (.t 19), none, false⟩,
 ⟨21, .mv (.t 1), none, false⟩,
 ⟨22, .mv (.t 5), none, false⟩,
 ⟨23, .ia 1 (.t 21) (.t 22), none, false⟩,
 ⟨24, .ld 1 false (.t 23), none, false⟩,
 ⟨25, .ca (.k (.cl 15 [])) [(.t 20), (.t 24)], none, false⟩,
 ⟨26, .nt (.t 25), none, false⟩])
 (.ite (.t 26)
 (.seq
 (.reg false [⟨4, .mv (.k (.sc (.bool false))), none, false⟩])
 .ret)
 .skip)))
 (.reg false [⟨15, .mv (.t 5), none, false⟩,
 ⟨16, .ar .add false (.t 15) (.k (.sc (.int .i64 1))), none, false⟩,
 ⟨5, .mv (.t 16), none, false⟩])))
def b22_1 : IC := w22_1
theorem u22_1 (call : CallF) (st : St) : evC call b22_1 st = evC call w22_1 st := rfl
attribute [simp] u22_1 w22_1
def i22 : Ev.Fn := ⟨2, 27, [.tmp 4],
 (.seq
 (.reg false [⟨4, .mv (.k (.sc (.bool false))), none, false⟩])
 (.seq
 (.seq
 (.reg false [⟨6, .mv (.t 0), none, false⟩,
 ⟨7, .ln false (.t 6), none, false⟩,
 ⟨8, .mv (.t 1), none, false⟩,
 ⟨9, .ln false (.t 8), none, false⟩,
 ⟨10, .ar .neq false (.t 7) (.t 9), none, false⟩])
 (.ite (.t 10)
 (.seq
 (.reg false [⟨4, .mv (.k (.sc (.bool false))), none, false⟩])
 .ret)
 .skip))
 (.seq
 (.seq
 (.reg false [⟨5, .mv (.k (.sc (.int .i64 0))), none, false⟩])
 (.cln [] [4]
 (.block 0
 (.loop [0, 1, 5] b22_1))))
 (.seq
 (.reg false [⟨4, .mv (.k (.sc (.bool true))), none, false⟩])
 .ret))))⟩
attribute [simp] i22
set_option maxRecDepth 1000000 in
theorem c22 : cFn Try.prog 22 [[], [0, 1, 5], [], [4]] = some i22 := by kernel_rfl
theorem e22 : enterOk Try.prog 22 = true := by kernel_rfl
def w23_1 : IC :=
(.seq
 (.seq
 (.reg false [⟨6, .mv (.t 5), none, false⟩,
 ⟨7, .mv (.t 0), none, false⟩,
 ⟨8, .ln false (.t 7), none, false⟩,
 ⟨9, .ar .lss false (.t 6) (.t 8), none, false⟩])
 (.ite (.t 9)
 .skip
 (.exit 0)))
 (.seq
 (.block 1
 (.rgw [⟨12, .mv (.t 0), none, false⟩,
 ⟨13, .mv (.t 5), none, false⟩,
 ⟨14, .ia 1 (.t 12) (.t 13), none, false⟩,
 ⟨15, .ld 1 false (.t 14), none, false⟩,
 ⟨16, .mv (.t 1), none, false⟩,
 ⟨17, .cw 18 [] [(.t 15), (.t 16)], none, false⟩,
 ⟨1, .mv (.t 17), none, false⟩]))
 (.reg false [⟨10, .mv (.t 5), none, false⟩,
 ⟨11, .ar .add false (.t 10) (.k (.sc (.int .i64 1))), none, false⟩,
 ⟨5, .mv (.t 11), none, false⟩])))
def b23_1 : IC := w23_1
theorem u23_1 (call : CallF) (st : St) : evC call b23_1 st = evC call w23_1 st := rfl
attribute [simp] u23_1 w23_1
def i23 : Ev.Fn := ⟨2, 19, [.tmp 4],
 (.seq
 (.reg false [⟨4, .mv (.k (.sc (.int .i64 0))), none, false⟩])
 (.seq
 (.seq
 (.reg false [⟨5, .mv (.k (.sc (.int .i64 0))), none, false⟩])
 (.cln [1, 100000] [4, 100000]
 (.block 0
 (.loop [0, 1, 5, 100000] b23_1))))
 (.seq
 (.reg false [⟨18, .mv (.t 1), none, false⟩,
 ⟨4, .mv (.t 18), none, false⟩])
 .ret)))⟩
attribute [simp] i23
set_option maxRecDepth 1000000 in
theorem c23 : cFn Try.prog 23 [[18], [0, 1, 5, 100000], [1, 100000], [4, 100000]] = some i23 := by kernel_rfl
theorem e23 : enterOk Try.prog 23 = true := by kernel_rfl
def w24_1 : IC :=
(.seq
 (.seq
 (.reg false [⟨6, .mv (.t 5), none, false⟩,
 ⟨7, .mv (.t 0), none, false⟩,
 ⟨8, .ln false (.t 7), none, false⟩,
 ⟨9, .ar .lss false (.t 6) (.t 8), none, false⟩])
 (.ite (.t 9)
 .skip
 (.exit 0)))
 (.seq
 (.block 1
 (.seq
 (.reg false [⟨12, .mv (.t 0), none, false⟩,
 ⟨13, .mv (.t 5), none, false⟩,
 ⟨14, .ia 1 (.t 12) (.t 13), none, false⟩,
 ⟨15, .ld 1 false (.t 14), none, false⟩,
 ⟨16, .mv (.t 1), none, false⟩,
 ⟨17, .ca (.k (.cl 19 [])) [(.t 15), (.t 16)], none, false⟩,
 ⟨1, .mv (.t 17), none, false⟩])
 (.seq
 (.reg false [⟨18, .mv (.t 1), none, false⟩,
 ⟨19, .ar .lss false (.t 18) (.k (.sc (.int .i64 0))), none, false⟩])
 (.ite (.t 19)
 (.seq
 (.reg false [⟨4, .mv (.k (.sc (.int .i64 (-1)))), none, false⟩])
 .ret)
 .skip))))
 (.reg false [⟨10, .mv (.t 5), none, false⟩,
 ⟨11, .ar .add false (.t 10) (.k (.sc (.int .i64 1))), none, false⟩,
 ⟨5, .mv (.t 11), none, false⟩])))
def b24_1 : IC := w24_1
theorem u24_1 (call : CallF) (st : St) : evC call b24_1 st = evC call w24_1 st := rfl
attribute [simp] u24_1 w24_1
def i24 : Ev.Fn := ⟨2, 21, [.tmp 4],
 (.seq
 (.reg false [⟨4, .mv (.k (.sc (.int .i64 0))), none, false⟩])
 (.seq
 (.seq
 (.reg false [⟨5, .mv (.k (.sc (.int .i64 0))), none, false⟩])
 (.cln [1] [4]
 (.block 0
 (.loop [0, 1, 5] b24_1))))
 (.seq
 (.reg false [⟨20, .mv (.t 1), none, false⟩,
 ⟨4, .mv (.t 20), none, false⟩])
 .ret)))⟩
attribute [simp] i24
set_option maxRecDepth 1000000 in
theorem c24 : cFn Try.prog 24 [[], [0, 1, 5], [1], [4]] = some i24 := by kernel_rfl
theorem e24 : enterOk Try.prog 24 = true := by kernel_rfl
def i30 : Ev.Fn := ⟨2, 13, [.tmp 4],
 (.seq
 (.reg false [⟨2, .bx (.t 0), none, false⟩,
 ⟨4, .mv (.k (.sc (.int .i64 0))), none, false⟩])
 (.seq
 (.reg false [⟨5, .mv (.t 1), none, false⟩,
 ⟨6, .fa 0 (.t 2), none, false⟩,
 ⟨7, .ld 1 false (.t 6), none, false⟩,
 ⟨8, .ln true (.t 7), none, false⟩,
 ⟨9, .ar .sub false (.t 5) (.t 8), none, false⟩,
 ⟨1, .mv (.t 9), none, false⟩])
 (.seq
 (.seq
 (.reg false [⟨10, .mv (.t 1), none, false⟩,
 ⟨11, .ar .lss false (.t 10) (.k (.sc (.int .i64 0))), none, false⟩])
 (.ite (.t 11)
 (.seq
 (.reg false [⟨4, .mv (.k (.sc (.int .i64 (-1)))), none, false⟩])
 .ret)
 .skip))
 (.seq
 (.reg false [⟨12, .mv (.t 1), none, false⟩,
 ⟨4, .mv (.t 12), none, false⟩])
 .ret))))⟩
attribute [simp] i30
set_option maxRecDepth 1000000 in
theorem c30 : cFn Try.prog 30 [[]] = some i30 := by kernel_rfl
theorem e30 : enterOk Try.prog 30 = true := by kernel_rfl
def i32 : Ev.Fn := ⟨1, 14, [.cell 2 3 true],
 (.seq
 (.reg false [⟨1, .bx (.t 0), none, false⟩,
 ⟨2, .al [(.sc (.string ⟨#[]⟩)), (.sc (.int .i64 0)), (.sc (.int .i64 0))], none, false⟩])
 (.seq
 (.reg false [⟨3, .al [(.sc (.string ⟨#[]⟩)), (.sc (.int .i64 0)), (.sc (.int .i64 0))], none, false⟩])
 (.seq
 (.reg false [⟨4, .fa 0 (.t 1), none, false⟩,
 ⟨5, .ld 1 false (.t 4), none, false⟩,
 ⟨6, .fa 0 (.t 3), none, false⟩,
 ⟨1, .so 1 (.t 6) (.t 5), none, true⟩])
 (.seq
 (.reg false [⟨7, .fa 1 (.t 1), none, false⟩,
 ⟨8, .ld 1 false (.t 7), none, false⟩,
 ⟨9, .fa 1 (.t 3), none, false⟩,
 ⟨1, .so 1 (.t 9) (.t 8), none, true⟩])
 (.seq
 (.reg false [⟨10, .fa 2 (.t 1), none, false⟩,
 ⟨11, .ld 1 false (.t 10), none, false⟩,
 ⟨12, .fa 2 (.t 3), none, false⟩,
 ⟨1, .so 1 (.t 12) (.t 11), none, true⟩])
 (.seq
 (.reg false [⟨13, .ld 3 true (.t 3), none, false⟩,
 ⟨1, .so 3 (.t 2) (.t 13), none, true⟩])
 .ret))))))⟩
attribute [simp] i32
set_option maxRecDepth 1000000 in
theorem c32 : cFn Try.prog 32 [[]] = some i32 := by kernel_rfl
theorem e32 : enterOk Try.prog 32 = true := by kernel_rfl
def i36 : Ev.Fn := ⟨2, 32, [.tmp 4],
 (.seq
 (.reg false [⟨2, .bx (.t 0), none, false⟩,
 ⟨4, .mv (.k (.sc (.int .i64 0))), none, false⟩])
 (.seq
 (.reg false [⟨5, .mv (.t 1), none, false⟩,
 ⟨6, .fa 0 (.t 2), none, false⟩,
 ⟨7, .ld 1 false (.t 6), none, false⟩,
 ⟨8, .ln true (.t 7), none, false⟩,
 ⟨9, .ar .sub false (.t 5) (.t 8), none, false⟩,
 ⟨1, .mv (.t 9), none, false⟩])
 (.seq
 (.seq
 (.reg false [⟨10, .mv (.t 1), none, false⟩,
 ⟨11, .ar .lss false (.t 10) (.k (.sc (.int .i64 0))), none, false⟩])
 (.ite (.t 11)
 (.seq
 (.reg false [⟨4, .mv (.k (.sc (.int .i64 (-1)))), none, false⟩])
 .ret)
 .skip))
 (.seq
 (.reg false [⟨12, .mv (.t 1), none, false⟩,
 ⟨13, .fa 1 (.t 2), none, false⟩,
 ⟨14, .ld 1 false (.t 13), none, false⟩,
 ⟨15, .ln true (.t 14), none, false⟩,
 ⟨16, .ar .sub false (.t 12) (.t 15), none, false⟩,
 ⟨1, .mv (.t 16), none, false⟩])
 (.seq
 (.seq
 (.reg false [⟨17, .mv (.t 1), none, false⟩,
 ⟨18, .ar .lss false (.t 17) (.k (.sc (.int .i64 0))), none, false⟩])
 (.ite (.t 18)
 (.seq
 (.reg false [⟨4, .mv (.k (.sc (.int .i64 (-1)))), none, false⟩])
 .ret)
 .skip))
 (.seq
 (.reg false [⟨19, .fa 3 (.t 2), none, false⟩,
 ⟨20, .ld 3 true (.t 19), none, false⟩,
 ⟨21, .mv (.t 1), none, false⟩,
 ⟨22, .ca (.k (.cl 30 [])) [(.t 20), (.t 21)], none, false⟩,
 ⟨1, .mv (.t 22), none, false⟩])
 (.seq
 (.seq
 (.reg false [⟨23, .mv (.t 1), none, false⟩,
 ⟨24, .ar .lss false (.t 23) (.k (.sc (.int .i64 0))), none, false⟩])
 (.ite (.t 24)
 (.seq
 (.reg false [⟨4, .mv (.k (.sc (.int .i64 (-1)))), none, false⟩])
 .ret)
 .skip))
 (.seq
 (.reg false [⟨25, .fa 8 (.t 2), none, false⟩,
 ⟨26, .ld 1 false (.t 25), none, false⟩,
 ⟨27, .mv (.t 1), none, false⟩,
 ⟨28, .ca (.k (.cl 79 [])) [(.t 26), (.t 27)], none, false⟩,
 ⟨1, .mv (.t 28), none, false⟩])
 (.seq
 (.seq
 (.reg false [⟨29, .mv (.t 1), none, false⟩,
 ⟨30, .ar .lss false (.t 29) (.k (.sc (.int .i64 0))), none, false⟩])
 (.ite (.t 30)
 (.seq
 (.reg false [⟨4, .mv (.k (.sc (.int .i64 (-1)))), none, false⟩])
 .ret)
 .skip))
 (.seq
 (.reg false [⟨31, .mv (.t 1), none, false⟩,
 ⟨4, .mv (.t 31), none, false⟩])
 .ret))))))))))⟩
attribute [simp] i36
set_option maxRecDepth 1000000 in
theorem c36 : cFn Try.prog 36 [[]] = some i36 := by kernel_rfl
theorem e36 : enterOk Try.prog 36 = true := by kernel_rfl
def i38 : Ev.Fn := ⟨1, 28, [.cell 2 9 true],
 (.seq
 (.reg false [⟨1, .bx (.t 0), none, false⟩,
 ⟨2, .al [(.sc (.string ⟨#[]⟩)), (.sc (.string ⟨#[]⟩)), (.sc (.int .i64 0)), (.sc (.string ⟨#[]⟩)), (.sc (.int .i64 0)), (.sc (.int .i64 0)), (.sc (.int .i64 0)), (.sc (.int .i64 0)), .nl], none, false⟩])
 (.seq
 (.reg false [⟨3, .al [(.sc (.string ⟨#[]⟩)), (.sc (.string ⟨#[]⟩)), (.sc (.int .i64 0)), (.sc (.string ⟨#[]⟩)), (.sc (.int .i64 0)), (.sc (.int .i64 0)), (.sc (.int .i64 0)), (.sc (.int .i64 0)), .nl], none, false⟩])
 (.seq
 (.reg false [⟨4, .fa 0 (.t 1), none, false⟩,
 ⟨5, .ld 1 false (.t 4), none, false⟩,
 ⟨6, .fa 0 (.t 3), none, false⟩,
 ⟨1, .so 1 (.t 6) (.t 5), none, true⟩])
 (.seq
 (.reg false [⟨7, .fa 1 (.t 1), none, false⟩,
 ⟨8, .ld 1 false (.t 7), none, false⟩,
 ⟨9, .fa 1 (.t 3), none, false⟩,
 ⟨1, .so 1 (.t 9) (.t 8), none, true⟩])
 (.seq
 (.reg false [⟨10, .fa 2 (.t 1), none, false⟩,
 ⟨11, .ld 1 false (.t 10), none, false⟩,
 ⟨12, .fa 2 (.t 3), none, false⟩,
 ⟨1, .so 1 (.t 12) (.t 11), none, true⟩])
 (.seq
 (.reg false [⟨13, .fa 3 (.t 1), none, false⟩,
 ⟨14, .ld 3 true (.t 13), none, false⟩,
 ⟨15, .ca (.k (.cl 32 [])) [(.t 14)], none, false⟩,
 ⟨16, .fa 3 (.t 3), none, false⟩,
 ⟨1, .so 3 (.t 16) (.t 15), none, true⟩])
 (.seq
 (.reg false [⟨17, .fa 6 (.t 1), none, false⟩,
 ⟨18, .ld 1 false (.t 17), none, false⟩,
 ⟨19, .fa 6 (.t 3), none, false⟩,
 ⟨1, .so 1 (.t 19) (.t 18), none, true⟩])
 (.seq
 (.reg false [⟨20, .fa 7 (.t 1), none, false⟩,
 ⟨21, .ld 1 false (.t 20), none, false⟩,
 ⟨22, .fa 7 (.t 3), none, false⟩,
 ⟨1, .so 1 (.t 22) (.t 21), none, true⟩])
 (.seq
 (.reg false [⟨23, .fa 8 (.t 1), none, false⟩,
 ⟨24, .ld 1 false (.t 23), none, false⟩,
 ⟨25, .ca (.k (.cl 82 [])) [(.t 24)], none, false⟩,
 ⟨26, .fa 8 (.t 3), none, false⟩,
 ⟨1, .so 1 (.t 26) (.t 25), none, true⟩])
 (.seq
 (.reg false [⟨27, .ld 9 true (.t 3), none, false⟩,
 ⟨1, .so 9 (.t 2) (.t 27), none, true⟩])
 .ret))))))))))⟩
attribute [simp] i38
set_option maxRecDepth 1000000 in
theorem c38 : cFn Try.prog 38 [[]] = some i38 := by kernel_rfl
theorem e38 : enterOk Try.prog 38 = true := by kernel_rfl
def i40 : Ev.Fn := ⟨2, 25, [.tmp 4],
 (.seq
 (.reg false [⟨2, .bx (.t 0), none, false⟩,
 ⟨3, .bx (.t 1), none, false⟩,
 ⟨4, .mv (.k (.sc (.bool false))), none, false⟩])
 (.seq
 (.seq
 (.reg false [⟨5, .fa 0 (.t 2), none, false⟩,
 ⟨6, .ld 1 false (.t 5), none, false⟩,
 ⟨7, .fa 0 (.t 3), none, false⟩,
 ⟨8, .ld 1 false (.t 7), none, false⟩,
 ⟨9, .ar .neq false (.t 6) (.t 8), none, false⟩])
 (.ite (.t 9)
 (.seq
 (.reg false [⟨4, .mv (.k (.sc (.bool false))), none, false⟩])
 .ret)
 .skip))
 (.seq
 (.seq
 (.reg false [⟨10, .fa 1 (.t 2), none, false⟩,
 ⟨11, .ld 1 false (.t 10), none, false⟩,
 ⟨12, .fa 1 (.t 3), none, false⟩,
 ⟨13, .ld 1 false (.t 12), none, false⟩,
 ⟨14, .ar .neq false (.t 11) (.t 13), none, false⟩])
 (.ite (.t 14)
 (.seq
 (.reg false [⟨4, .mv (.k (.sc (.bool false))), none, false⟩])
 .ret)
 .skip))
 (.seq
 (.seq
 (.reg false [⟨15, .fa 2 (.t 2), none, false⟩,
 ⟨16, .ld 1 false (.t 15), none, false⟩,
 ⟨17, .fa 2 (.t 3), none, false⟩,
 ⟨18, .ld 1 false (.t 17), none, false⟩,
 ⟨19, .ar .neq false (.t 16) (.t 18), none, false⟩])
 (.ite (.t 19)
 (.seq
 (.reg false [⟨4, .mv (.k (.sc (.bool false))), none, false⟩])
 .ret)
 .skip))
 (.seq
 (.seq
 (.reg false [⟨20, .fa 3 (.t 2), none, false⟩,
 ⟨21, .ld 1 false (.t 20), none, false⟩,
 ⟨22, .fa 3 (.t 3), none, false⟩,
 ⟨23, .ld 1 false (.t 22), none, false⟩,
 ⟨24, .ar .neq false (.t 21) (.t 23), none, false⟩])
 (.ite (.t 24)
 (.seq
 (.reg false [⟨4, .mv (.k (.sc (.bool false))), none, false⟩])
 .ret)
 .skip))
 (.seq
 (.reg false [⟨4, .mv (.k (.sc (.bool true))), none, false⟩])
 .ret))))))⟩
attribute [simp] i40
set_option maxRecDepth 1000000 in
theorem c40 : cFn Try.prog 40 [[]] = some i40 := by kernel_rfl
theorem e40 : enterOk Try.prog 40 = true := by kernel_rfl
def i41 : Ev.Fn := ⟨2, 42, [.tmp 4],
 (.seq
 (.reg false [⟨2, .bx (.t 0), none, false⟩,
 ⟨3, .bx (.t 1), none, false⟩,
 ⟨4, .mv (.k (.sc (.bool false))), none, false⟩])
 (.seq
 (.seq
 (.reg false [⟨5, .fa 0 (.t 2), none, false⟩,
 ⟨6, .ld 1 false (.t 5), none, false⟩,
 ⟨7, .fa 0 (.t 3), none, false⟩,
 ⟨8, .ld 1 false (.t 7), none, false⟩,
 ⟨9, .ar .neq false (.t 6) (.t 8), none, false⟩])
 (.ite (.t 9)
 (.seq
 (.reg false [⟨4, .mv (.k (.sc (.bool false))), none, false⟩])
 .ret)
 .skip))
 (.seq
 (.seq
 (.reg false [⟨10, .fa 1 (.t 2), none, false⟩,
 ⟨11, .ld 1 false (.t 10), none, false⟩,
 ⟨12, .fa 1 (.t 3), none, false⟩,
 ⟨13, .ld 1 false (.t 12), none, false⟩,
 ⟨14, .ar .neq false (.t 11) (.t 13), none, false⟩])
 (.ite (.t 14)
 (.seq
 (.reg false [⟨4, .mv (.k (.sc (.bool false))), none, false⟩])
 .ret)
 .skip))
 (.seq
 (.seq
 (.reg false [⟨15, .fa 2 (.t 2), none, false⟩,
 ⟨16, .ld 1 false (.t 15), none, false⟩,
 ⟨17, .fa 2 (.t 3), none, false⟩,
 ⟨18, .ld 1 false (.t 17), none, false⟩,
 ⟨19, .ar .neq false (.t 16) (.t 18), none, false⟩])
 (.ite (.t 19)
 (.seq
 (.reg false [⟨4, .mv (.k (.sc (.bool false))), none, false⟩])
 .ret)
 .skip))
 (.seq
 (.seq
 (.reg false [⟨20, .fa 3 (.t 2), none, false⟩,
 ⟨21, .ld 3 true (.t 20), none, false⟩,
 ⟨22, .fa 3 (.t 3), none, false⟩,
 ⟨23, .ld 3 true (.t 22), none, false⟩,
 ⟨24, .ca (.k (.cl 88 [])) [(.t 21), (.t 23)], none, false⟩,
 ⟨25, .nt (.t 24), none, false⟩])
 (.ite (.t 25)
 (.seq
 (.reg false [⟨4, .mv (.k (.sc (.bool false))), none, false⟩])
 .ret)
 .skip))
 (.seq
 (.seq
 (.reg false [⟨26, .fa 6 (.t 2), none, false⟩,
 ⟨27, .ld 1 false (.t 26), none, false⟩,
 ⟨28, .fa 6 (.t 3), none, false⟩,
 ⟨29, .ld 1 false (.t 28), none, false⟩,
 ⟨30, .ar .neq false (.t 27) (.t 29), none, false⟩])
 (.ite (.t 30)
 (.seq
 (.reg false [⟨4, .mv (.k (.sc (.bool false))), none, false⟩])
 .ret)
 .skip))
 (.seq
 (.seq
 (.reg false [⟨31, .fa 7 (.t 2), none, false⟩,
 ⟨32, .ld 1 false (.t 31), none, false⟩,
 ⟨33, .fa 7 (.t 3), none, false⟩,
 ⟨34, .ld 1 false (.t 33), none, false⟩,
 ⟨35, .ar .neq false (.t 32) (.t 34), none, false⟩])
 (.ite (.t 35)
 (.seq
 (.reg false [⟨4, .mv (.k (.sc (.bool false))), none, false⟩])
 .ret)
 .skip))
 (.seq
 (.seq
 (.reg false [⟨36, .fa 8 (.t 2), none, false⟩,
 ⟨37, .ld 1 false (.t 36), none, false⟩,
 ⟨38, .fa 8 (.t 3), none, false⟩,
 ⟨39, .ld 1 false (.t 38), none, false⟩,
 ⟨40, .ca (.k (.cl 89 [])) [(.t 37), (.t 39)], none, false⟩,
 ⟨41, .nt (.t 40), none, false⟩])
 (.ite (.t 41)
 (.seq
 (.reg false [⟨4, .mv (.k (.sc (.bool false))), none, false⟩])
 .ret)
 .skip))
 (.seq
 (.reg false [⟨4, .mv (.k (.sc (.bool true))), none, false⟩])
 .ret)))))))))⟩
attribute [simp] i41
set_option maxRecDepth 1000000 in
theorem c41 : cFn Try.prog 41 [[]] = some i41 := by kernel_rfl
theorem e41 : enterOk Try.prog 41 = true := by kernel_rfl
def i57 : Ev.Fn := ⟨1, 5, [.tmp 2],
 (.seq
 (.reg false [⟨2, .mv (.k (.sc (.bool false))), none, false⟩])
 (.seq
 (.reg false [⟨3, .mv (.t 0), none, false⟩,
 ⟨4, .ca (.k (.cl 122 [])) [(.t 3)], none, false⟩,
 ⟨2, .mv (.t 4), none, false⟩])
 .ret))⟩
attribute [simp] i57
set_option maxRecDepth 1000000 in
theorem c57 : cFn Try.prog 57 [[]] = some i57 := by kernel_rfl
theorem e57 : enterOk Try.prog 57 = true := by kernel_rfl
def i58 : Ev.Fn := ⟨2, 17, [.tmp 4, .tmp 5],
 (.seq
 (.reg false [⟨4, .mv (.k .nl), none, false⟩,
 ⟨5, .mv (.k (.sc (.int .i64 0))), none, false⟩])
 (.seq
 (.seq
 (.reg false [⟨7, .mv (.t 0), none, false⟩,
 ⟨8, .ca (.k (.cl 122 [])) [(.t 7)], none, false⟩,
 ⟨9, .nt (.t 8), none, false⟩])
 (.ite (.t 9)
 (.seq
 (.reg false [⟨4, .mv (.k .nl), none, false⟩,
 ⟨5, .mv (.k (.sc (.int .i64 1))), none, false⟩])
 .ret)
 .skip))
 (.seq
 (.reg false [⟨10, .mv (.t 0), none, false⟩,
 ⟨11, .mv (.t 1), none, false⟩,
 ⟨12, .ca (.k (.cl 123 [])) [(.t 10), (.t 11)], none, false⟩,
 ⟨6, .mv (.t 12), none, false⟩])
 (.seq
 (.seq
 (.reg false [⟨13, .mv (.t 6), none, false⟩,
 ⟨14, .ln false (.t 13), none, false⟩,
 ⟨15, .ar .eql false (.t 14) (.k (.sc (.int .i64 0))), none, false⟩])
 (.ite (.t 15)
 (.seq
 (.reg false [⟨4, .mv (.k .nl), none, false⟩,
 ⟨5, .mv (.k (.sc (.int .i64 3))), none, false⟩])
 .ret)
 .skip))
 (.seq
 (.reg false [⟨16, .mv (.t 6), none, false⟩,
 ⟨4, .mv (.t 16), none, false⟩,
 ⟨5, .mv (.k (.sc (.int .i64 0))), none, false⟩])
 .ret)))))⟩
attribute [simp] i58
set_option maxRecDepth 1000000 in
theorem c58 : cFn Try.prog 58 [[]] = some i58 := by kernel_rfl
theorem e58 : enterOk Try.prog 58 = true := by kernel_rfl
def i59 : Ev.Fn := ⟨1, 6, [.tmp 2],
 (.seq
 (.reg false [⟨2, .mv (.k .nl), none, false⟩])
 (.seq
 (.reg false [⟨3, .bs 2 1 [(.sc (.int .i64 0))] 0 [], none, false⟩,
 ⟨4, .mv (.t 0), none, false⟩,
 ⟨5, .ap 2 1 false (.t 3) (.t 4), none, false⟩,
 ⟨2, .mv (.t 5), none, false⟩])
 .ret))⟩
attribute [simp] i59
set_option maxRecDepth 1000000 in
theorem c59 : cFn Try.prog 59 [[]] = some i59 := by kernel_rfl
theorem e59 : enterOk Try.prog 59 = true := by kernel_rfl
def w60_1 : IC :=
(.seq
 (.reg false [⟨16, .ar .lss false (.t 15) (.t 14), none, false⟩])
 (.seq
 (.ite (.t 16)
 .skip
 (.exit 0))
 (.seq
 (.block 1
 (.seq
 (.reg false [⟨17, .mv (.t 15), none, false⟩,
 ⟨18, .ia 9 (.t 13) (.t 15), none, false⟩,
 ⟨19, .ld 9 true (.t 18), none, false⟩,
 ⟨8, .al [(.sc (.string ⟨#[]⟩)), (.sc (.string ⟨#[]⟩)), (.sc (.int .i64 0)), (.sc (.string ⟨#[]⟩)), (.sc (.int .i64 0)), (.sc (.int .i64 0)), (.sc (.int .i64 0)), (.sc (.int .i64 0)), .nl], none, false⟩,
 ⟨7, .mv (.t 17), none, false⟩,
 ⟨1, .so 9 (.t 8) (.t 19), none, true⟩])
 (.seq
 (.reg false [⟨20, .fa 1 (.t 8), none, false⟩,
 ⟨21, .ld 1 false (.t 20), none, false⟩,
 ⟨22, .mv (.t 1), none, false⟩,
 ⟨23, .ar .eql false (.t 21) (.t 22), none, false⟩])
 (.ite (.t 23)
 (.reg false [⟨24, .mv (.t 6), none, false⟩,
 ⟨25, .mv (.t 7), none, false⟩,
 ⟨26, .bs 2 1 [(.sc (.int .i64 0))] 1 [(0, (.t 25))], none, false⟩,
 ⟨27, .ap 2 1 false (.t 24) (.t 26), none, false⟩,
 ⟨6, .mv (.t 27), none, false⟩])
 .skip))))
 (.reg false [⟨28, .ar .add false (.t 15) (.k (.sc (.int .i64 1))), none, false⟩,
 ⟨15, .mv (.t 28), none, false⟩]))))
def b60_1 : IC := w60_1
theorem u60_1 (call : CallF) (st : St) : evC call b60_1 st = evC call w60_1 st := rfl
attribute [simp] u60_1 w60_1
def i60 : Ev.Fn := ⟨2, 36, [.tmp 4, .tmp 5],
 (.seq
 (.reg false [⟨2, .bx (.t 0), none, false⟩,
 ⟨4, .mv (.k .nl), none, false⟩,
 ⟨5, .mv (.k (.sc (.int .i64 0))), none, false⟩])
 (.seq
 (.seq
 (.reg false [⟨9, .ld 1 false (.t 2), none, false⟩,
 ⟨10, .ca (.k (.cl 93 [])) [(.t 9)], none, false⟩,
 ⟨11, .nt (.t 10), none, false⟩])
 (.ite (.t 11)
 (.seq
 (.reg false [⟨4, .mv (.k .nl), none, false⟩,
 ⟨5, .mv (.k (.sc (.int .i64 1))), none, false⟩])
 .ret)
 .skip))
 (.seq
 (.reg false [⟨12, .bs 2 1 [(.sc (.int .i64 0))] 0 [], none, false⟩,
 ⟨6, .mv (.t 12), none, false⟩])
 (.seq
 (.seq
 (.reg false [⟨13, .ld 1 false (.t 2), none, false⟩,
 ⟨14, .ln false (.t 13), none, false⟩,
 ⟨15, .mv (.k (.sc (.int .i64 0))), none, false⟩])
 (.cln [2, 6] [4, 5]
 (.block 0
 (.loop [1, 2, 6, 13, 14, 15] b60_1))))
 (.seq
 (.seq
 (.reg false [⟨29, .mv (.t 6), none, false⟩,
 ⟨30, .ln false (.t 29), none, false⟩,
 ⟨31, .ar .eql false (.t 30) (.k (.sc (.int .i64 0))), none, false⟩])
 (.ite (.t 31)
 (.seq
 (.reg false [⟨4, .mv (.k .nl), none, false⟩,
 ⟨5, .mv (.k (.sc (.int .i64 3))), none, false⟩])
 .ret)
 .skip))
 (.seq
 (.rgw [⟨32, .mv (.t 6), none, false⟩,
 ⟨33, .mf 125 [(.t 2)], none, false⟩,
 ⟨34, .cw 124 [] [(.t 32), (.t 33)], none, false⟩])
 (.seq
 (.reg false [⟨35, .mv (.t 6), none, false⟩,
 ⟨4, .mv (.t 35), none, false⟩,
 ⟨5, .mv (.k (.sc (.int .i64 0))), none, false⟩])
 .ret)))))))⟩
attribute [simp] i60
set_option maxRecDepth 1000000 in
theorem c60 : cFn Try.prog 60 [[124], [1, 2, 6, 13, 14, 15], [2, 6], [4, 5]] = some i60 := by kernel_rfl
theorem e60 : enterOk Try.prog 60 = true := by kernel_rfl
def i61 : Ev.Fn := ⟨1, 8, [.tmp 2],
 (.seq
 (.reg false [⟨2, .mv (.k .nl), none, false⟩])
 (.seq
 (.seq
 (.reg false [⟨3, .mv (.t 0), none, false⟩,
 ⟨4, .isn false (.t 3), none, false⟩])
 (.ite (.t 4)
 (.seq
 (.reg false [⟨2, .mv (.k .nl), none, false⟩])
 .ret)
 .skip))
 (.seq
 (.reg false [⟨5, .bs 2 1 [(.sc (.int .i64 0))] 0 [], none, false⟩,
 ⟨6, .mv (.t 0), none, false⟩,
 ⟨7, .ap 2 1 false (.t 5) (.t 6), none, false⟩,
 ⟨2, .mv (.t 7), none, false⟩])
 .ret)))⟩
attribute [simp] i61
set_option maxRecDepth 1000000 in
theorem c61 : cFn Try.prog 61 [[]] = some i61 := by kernel_rfl
theorem e61 : enterOk Try.prog 61 = true := by kernel_rfl
def w62_1 : IC :=
(.seq
 (.seq
 (.reg false [⟨6, .mv (.t 0), none, false⟩,
 ⟨7, .ar .gtr false (.t 6) (.k (.sc (.int .i64 0))), none, false⟩])
 (.ite (.t 7)
 .skip
 (.exit 0)))
 (.block 1
 (.seq
 (.reg false [⟨8, .mv (.t 0), none, false⟩,
 ⟨9, .ar .rem false (.t 8) (.k (.sc (.int .i64 10))), none, false⟩,
 ⟨10, .ar .add false (.k (.sc (.int .i64 48))) (.t 9), none, false⟩,
 ⟨11, .cv .u8 (.t 10), none, false⟩,
 ⟨12, .bs 5 1 [(.sc (.int .u8 0))] 1 [(0, (.t 11))], none, false⟩,
 ⟨13, .by (.t 12), none, false⟩,
 ⟨14, .mv (.t 3), none, false⟩,
 ⟨15, .ar .add false (.t 13) (.t 14), none, false⟩,
 ⟨3, .mv (.t 15), none, false⟩])
 (.reg false [⟨16, .mv (.t 0), none, false⟩,
 ⟨17, .ar .quo false (.t 16) (.k (.sc (.int .i64 10))), none, false⟩,
 ⟨0, .mv (.t 17), none, false⟩]))))
def b62_1 : IC := w62_1
theorem u62_1 (call : CallF) (st : St) : evC call b62_1 st = evC call w62_1 st := rfl
attribute [simp] u62_1 w62_1
def i62 : Ev.Fn := ⟨1, 20, [.tmp 2],
 (.seq
 (.reg false [⟨2, .mv (.k (.sc (.string ⟨#[]⟩))), none, false⟩])
 (.seq
 (.seq
 (.reg false [⟨4, .mv (.t 0), none, false⟩,
 ⟨5, .ar .leq false (.t 4) (.k (.sc (.int .i64 0))), none, false⟩])
 (.ite (.t 5)
 (.seq
 (.reg false [⟨2, .mv (.k (.sc (.string ⟨#[109, 48]⟩))), none, false⟩])
 .ret)
 .skip))
 (.seq
 (.reg false [⟨3, .mv (.k (.sc (.string ⟨#[]⟩))), none, false⟩])
 (.seq
 (.cln [3] [2]
 (.block 0
 (.loop [0, 3] b62_1)))
 (.seq
 (.reg false [⟨18, .mv (.t 3), none, false⟩,
 ⟨19, .ar .add false (.k (.sc (.string ⟨#[109]⟩))) (.t 18), none, false⟩,
 ⟨2, .mv (.t 19), none, false⟩])
 .ret)))))⟩
attribute [simp] i62
set_option maxRecDepth 1000000 in
theorem c62 : cFn Try.prog 62 [[], [0, 3], [3], [2]] = some i62 := by kernel_rfl
theorem e62 : enterOk Try.prog 62 = true := by kernel_rfl
def w63_1 : IC :=
(.seq
 (.seq
 (.reg false [⟨6, .mv (.t 5), none, false⟩,
 ⟨7, .mv (.t 0), none, false⟩,
 ⟨8, .ln false (.t 7), none, false⟩,
 ⟨9, .ar .lss false (.t 6) (.t 8), none, false⟩])
 (.ite (.t 9)
 .skip
 (.exit 0)))
 (.seq
 (.block 1
 (.seq
 (.reg false [⟨12, .mv (.t 0), none, false⟩,
 ⟨13, .mv (.t 5), none, false⟩,
 ⟨14, .mv (.t 1), none, false⟩,
 ⟨15, .ia 4 (.t 12) (.t 13), none, false⟩,
 ⟨16, .fa 0 (.t 15), none, false⟩,
 ⟨1, .so 1 (.t 16) (.t 14), none, true⟩])
 (.seq
 (.reg false [⟨17, .mv (.t 1), none, false⟩,
 ⟨18, .ar .add false (.t 17) (.k (.sc (.int .i64 1))), none, false⟩,
 ⟨1, .mv (.t 18), none, false⟩])
 (.seq
 (.reg false [⟨19, .mv (.t 0), none, false⟩,
 ⟨20, .mv (.t 5), none, false⟩,
 ⟨21, .mv (.t 1), none, false⟩,
 ⟨22, .ia 4 (.t 19) (.t 20), none, false⟩,
 ⟨23, .fa 1 (.t 22), none, false⟩,
 ⟨1, .so 1 (.t 23) (.t 21), none, true⟩])
 (.seq
 (.reg false [⟨24, .mv (.t 1), none, false⟩,
 ⟨25, .ar .add false (.t 24) (.k (.sc (.int .i64 1))), none, false⟩,
 ⟨1, .mv (.t 25), none, false⟩])
 (.seq
 (.reg false [⟨26, .mv (.t 0), none, false⟩,
 ⟨27, .mv (.t 5), none, false⟩,
 ⟨28, .mv (.t 1), none, false⟩,
 ⟨29, .ia 4 (.t 26) (.t 27), none, false⟩,
 ⟨30, .fa 2 (.t 29), none, false⟩,
 ⟨1, .so 1 (.t 30) (.t 28), none, true⟩])
 (.seq
 (.reg false [⟨31, .mv (.t 1), none, false⟩,
 ⟨32, .ar .add false (.t 31) (.k (.sc (.int .i64 1))), none, false⟩,
 ⟨1, .mv (.t 32), none, false⟩])
 (.seq
 (.reg false [⟨33, .mv (.t 0), none, false⟩,
 ⟨34, .mv (.t 5), none, false⟩,
 ⟨35, .mv (.t 1), none, false⟩,
 ⟨36, .ia 4 (.t 33) (.t 34), none, false⟩,
 ⟨37, .fa 3 (.t 36), none, false⟩,
 ⟨1, .so 1 (.t 37) (.t 35), none, true⟩])
 (.reg false [⟨38, .mv (.t 1), none, false⟩,
 ⟨39, .ar .add false (.t 38) (.k (.sc (.int .i64 1))), none, false⟩,
 ⟨1, .mv (.t 39), none, false⟩])))))))))
 (.reg false [⟨10, .mv (.t 5), none, false⟩,
 ⟨11, .ar .add false (.t 10) (.k (.sc (.int .i64 1))), none, false⟩,
 ⟨5, .mv (.t 11), none, false⟩])))
def b63_1 : IC := w63_1
theorem u63_1 (call : CallF) (st : St) : evC call b63_1 st = evC call w63_1 st := rfl
attribute [simp] u63_1 w63_1
def i63 : Ev.Fn := ⟨2, 41, [.tmp 4],
 (.seq
 (.reg false [⟨4, .mv (.k (.sc (.int .i64 0))), none, false⟩])
 (.seq
 (.seq
 (.reg false [⟨5, .mv (.k (.sc (.int .i64 0))), none, false⟩])
 (.cln [1, 100000] [4, 100000]
 (.block 0
 (.loop [0, 1, 5, 100000] b63_1))))
 (.seq
 (.reg false [⟨40, .mv (.t 1), none, false⟩,
 ⟨4, .mv (.t 40), none, false⟩])
 .ret)))⟩
attribute [simp] i63
set_option maxRecDepth 1000000 in
theorem c63 : cFn Try.prog 63 [[], [0, 1, 5, 100000], [1, 100000], [4, 100000]] = some i63 := by kernel_rfl
theorem e63 : enterOk Try.prog 63 = true := by kernel_rfl
def i71 : Ev.Fn := ⟨1, 42, [.tmp 2],
 (.seq
 (.reg false [⟨2, .mv (.k (.sc (.bool false))), none, false⟩])
 (.seq
 (.reg false [⟨5, .mv (.t 0), none, false⟩,
 ⟨6, .nc (.t 5), none, false⟩,
 ⟨7, .fa 0 (.t 6), none, false⟩,
 ⟨8, .ld 1 false (.t 7), none, false⟩,
 ⟨9, .ca (.k (.cl 134 [])) [(.t 8)], none, false⟩,
 ⟨3, .mv (.t 9), none, false⟩])
 (.seq
 (.seq
 (.reg false [⟨10, .mv (.t 3), none, false⟩,
 ⟨11, .ar .lss false (.t 10) (.k (.sc (.int .i64 0))), none, false⟩,
 ⟨12, .mv (.t 11), none, false⟩,
 ⟨13, .mv (.t 0), (some (12, false)), false⟩,
 ⟨14, .nc (.t 13), (some (12, false)), false⟩,
 ⟨15, .fa 1 (.t 14), (some (12, false)), false⟩,
 ⟨16, .ld 1 false (.t 15), (some (12, false)), false⟩,
 ⟨17, .ca (.k (.cl 135 [])) [(.t 16), (.k (.sc (.int .i64 0))), (.k (.sc (.int .i64 100)))], (some (12, false)), false⟩,
 ⟨18, .nt (.t 17), (some (12, false)), false⟩,
 ⟨19, .pk (.t 12) (.k (.sc (.bool true))) (.t 18), none, false⟩])
 (.ite (.t 19)
 (.seq
 (.reg false [⟨2, .mv (.k (.sc (.bool false))), none, false⟩])
 .ret)
 .skip))
 (.seq
 (.reg false [⟨20, .ca (.k (.cl 136 [])) [], none, false⟩,
 ⟨21, .mv (.t 3), none, false⟩,
 ⟨22, .ia 1 (.t 20) (.t 21), none, false⟩,
 ⟨23, .ld 1 false (.t 22), none, false⟩,
 ⟨24, .ia 1 (.t 23) (.k (.sc (.int .i64 0))), none, false⟩,
 ⟨25, .ld 1 false (.t 24), none, false⟩,
 ⟨4, .mv (.t 25), none, false⟩])
 (.seq
 (.reg false [⟨26, .mv (.t 0), none, false⟩,
 ⟨27, .nc (.t 26), none, false⟩,
 ⟨28, .fa 1 (.t 27), none, false⟩,
 ⟨29, .ld 1 false (.t 28), none, false⟩,
 ⟨30, .mv (.t 4), none, false⟩,
 ⟨31, .ar .sub false (.t 30) (.k (.sc (.int .i64 15))), none, false⟩,
 ⟨32, .mv (.t 4), none, false⟩,
 ⟨33, .ar .add false (.t 32) (.k (.sc (.int .i64 15))), none, false⟩,
 ⟨34, .ca (.k (.cl 135 [])) [(.t 29), (.t 31), (.t 33)], none, false⟩,
 ⟨35, .mv (.t 34), none, false⟩,
 ⟨36, .mv (.t 0), (some (35, true)), false⟩,
 ⟨37, .nc (.t 36), (some (35, true)), false⟩,
 ⟨38, .fa 2 (.t 37), (some (35, true)), false⟩,
 ⟨39, .ld 1 false (.t 38), (some (35, true)), false⟩,
 ⟨40, .ca (.k (.cl 137 [])) [(.t 39)], (some (35, true)), false⟩,
 ⟨41, .pk (.t 35) (.t 40) (.k (.sc (.bool false))), none, false⟩,
 ⟨2, .mv (.t 41), none, false⟩])
 .ret)))))⟩
attribute [simp] i71
set_option maxRecDepth 1000000 in
theorem c71 : cFn Try.prog 71 [[]] = some i71 := by kernel_rfl
theorem e71 : enterOk Try.prog 71 = true := by kernel_rfl
def i74 : Ev.Fn := ⟨1, 29, [.tmp 2],
 (.seq
 (.reg false [⟨1, .bx (.t 0), none, false⟩,
 ⟨2, .mv (.k (.sc (.bool false))), none, false⟩])
 (.seq
 (.reg false [⟨6, .fa 0 (.t 1), none, false⟩,
 ⟨7, .ld 1 false (.t 6), none, false⟩,
 ⟨8, .ca (.k (.cl 139 [])) [(.t 7)], none, false⟩,
 ⟨5, .mv (.t 8), none, false⟩,
 ⟨9, .xt (.t 5) 0, none, false⟩,
 ⟨10, .xt (.t 5) 1, none, false⟩,
 ⟨3, .mv (.t 9), none, false⟩,
 ⟨4, .mv (.t 10), none, false⟩])
 (.seq
 (.reg false [⟨11, .mv (.t 4), none, false⟩,
 ⟨12, .mv (.t 11), none, false⟩,
 ⟨13, .fa 1 (.t 1), (some (12, true)), false⟩,
 ⟨14, .ld 1 false (.t 13), (some (12, true)), false⟩,
 ⟨15, .ca (.k (.cl 75 [])) [(.t 14), (.k (.sc (.int .i64 0))), (.k (.sc (.int .i64 100)))], (some (12, true)), false⟩,
 ⟨16, .pk (.t 12) (.t 15) (.k (.sc (.bool false))), none, false⟩,
 ⟨17, .mv (.t 16), none, false⟩,
 ⟨18, .fa 1 (.t 1), (some (17, true)), false⟩,
 ⟨19, .ld 1 false (.t 18), (some (17, true)), false⟩,
 ⟨20, .mv (.t 3), (some (17, true)), false⟩,
 ⟨21, .ar .sub false (.t 19) (.t 20), (some (17, true)), false⟩,
 ⟨22, .ca (.k (.cl 75 [])) [(.t 21), (.k (.sc (.int .i64 (-15)))), (.k (.sc (.int .i64 15)))], (some (17, true)), false⟩,
 ⟨23, .pk (.t 17) (.t 22) (.k (.sc (.bool false))), none, false⟩,
 ⟨24, .mv (.t 23), none, false⟩,
 ⟨25, .fa 2 (.t 1), (some (24, true)), false⟩,
 ⟨26, .ld 1 false (.t 25), (some (24, true)), false⟩,
 ⟨27, .ca (.k (.cl 75 [])) [(.t 26), (.k (.sc (.int .i64 0))), (.k (.sc (.int .i64 179)))], (some (24, true)), false⟩,
 ⟨28, .pk (.t 24) (.t 27) (.k (.sc (.bool false))), none, false⟩,
 ⟨2, .mv (.t 28), none, false⟩])
 .ret)))⟩
attribute [simp] i74
set_option maxRecDepth 1000000 in
theorem c74 : cFn Try.prog 74 [[]] = some i74 := by kernel_rfl
theorem e74 : enterOk Try.prog 74 = true := by kernel_rfl
def i75 : Ev.Fn := ⟨3, 15, [.tmp 6],
 (.seq
 (.reg false [⟨6, .mv (.k (.sc (.bool false))), none, false⟩])
 (.seq
 (.reg false [⟨7, .mv (.t 0), none, false⟩,
 ⟨8, .mv (.t 1), none, false⟩,
 ⟨9, .ar .geq false (.t 7) (.t 8), none, false⟩,
 ⟨10, .mv (.t 9), none, false⟩,
 ⟨11, .mv (.t 0), (some (10, true)), false⟩,
 ⟨12, .mv (.t 2), (some (10, true)), false⟩,
 ⟨13, .ar .leq false (.t 11) (.t 12), (some (10, true)), false⟩,
 ⟨14, .pk (.t 10) (.t 13) (.k (.sc (.bool false))), none, false⟩,
 ⟨6, .mv (.t 14), none, false⟩])
 .ret))⟩
attribute [simp] i75
set_option maxRecDepth 1000000 in
theorem c75 : cFn Try.prog 75 [[]] = some i75 := by kernel_rfl
theorem e75 : enterOk Try.prog 75 = true := by kernel_rfl
def i79 : Ev.Fn := ⟨2, 12, [.tmp 4],
 (.seq
 (.reg false [⟨4, .mv (.k (.sc (.int .i64 0))), none, false⟩])
 (.seq
 (.reg false [⟨5, .mv (.t 1), none, false⟩,
 ⟨6, .mv (.t 0), none, false⟩,
 ⟨7, .ln false (.t 6), none, false⟩,
 ⟨8, .ar .sub false (.t 5) (.t 7), none, false⟩,
 ⟨1, .mv (.t 8), none, false⟩])
 (.seq
 (.seq
 (.reg false [⟨9, .mv (.t 1), none, false⟩,
 ⟨10, .ar .lss false (.t 9) (.k (.sc (.int .i64 0))), none, false⟩])
 (.ite (.t 10)
 (.seq
 (.reg false [⟨4, .mv (.k (.sc (.int .i64 (-1)))), none, false⟩])
 .ret)
 .skip))
 (.seq
 (.reg false [⟨11, .mv (.t 1), none, false⟩,
 ⟨4, .mv (.t 11), none, false⟩])
 .ret))))⟩
attribute [simp] i79
set_option maxRecDepth 1000000 in
theorem c79 : cFn Try.prog 79 [[]] = some i79 := by kernel_rfl
theorem e79 : enterOk Try.prog 79 = true := by kernel_rfl
def w80_1 : IC :=
(.seq
 (.seq
 (.reg false [⟨55, .mv (.t 3), none, false⟩,
 ⟨56, .mv (.t 0), none, false⟩,
 ⟨57, .nc (.t 56), none, false⟩,
 ⟨58, .fa 8 (.t 57), none, false⟩,
 ⟨59, .ld 1 false (.t 58), none, false⟩,
 ⟨60, .ln false (.t 59), none, false⟩,
 ⟨61, .ar .lss false (.t 55) (.t 60), none, false⟩])
 (.ite (.t 61)
 .skip
 (.exit 0)))
 (.seq
 (.block 1
 (.seq
 (.reg true [⟨64, .mv (.t 0), none, false⟩,
 ⟨65, .nc (.t 64), none, false⟩,
 ⟨66, .fa 8 (.t 65), none, false⟩,
 ⟨67, .ld 1 false (.t 66), none, false⟩,
 ⟨68, .mv (.t 3), none, false⟩,
 ⟨69, .ia 4 (.t 67) (.t 68), none, false⟩,
 ⟨70, .mv (.t 0), none, false⟩,
 ⟨71, .nc (.t 70), none, false⟩,
 ⟨72, .fa 6 (.t 71), none, false⟩,
 ⟨73, .ld 1 false (.t 72), none, false⟩,
 ⟨74, .mv (.t 0), none, false⟩,
 ⟨75, .nc (.t 74), none, false⟩,
 ⟨76, .fa 7 (.t 75), none, false⟩,
 ⟨77, .ld 1 false (.t 76), none, false⟩,
 ⟨78, .ca (.k (.cl 143 [])) [(.t 69), (.t 73), (.t 77)], none, false⟩,
 ⟨79, .nt (.t 78), none, false⟩])
 (.ite (.t 79)
 (.seq
 (.reg false [⟨2, .mv (.k (.sc (.bool false))), none, false⟩])
 .ret)
 .skip)))
 (.reg false [⟨62, .mv (.t 3), none, false⟩,
 ⟨63, .ar .add false (.t 62) (.k (.sc (.int .i64 1))), none, false⟩,
 ⟨3, .mv (.t 63), none, false⟩])))
def b80_1 : IC := w80_1
theorem u80_1 (call : CallF) (st : St) : evC call b80_1 st = evC call w80_1 st := rfl
attribute [simp] u80_1 w80_1
def i80 : Ev.Fn := ⟨1, 80, [.tmp 2],
 (.seq
 (.reg false [⟨2, .mv (.k (.sc (.bool false))), none, false⟩])
 (.seq
 (.seq
 (.reg false [⟨4, .mv (.t 0), none, false⟩,
 ⟨5, .nc (.t 4), none, false⟩,
 ⟨6, .fa 0 (.t 5), none, false⟩,
 ⟨7, .ld 1 false (.t 6), none, false⟩,
 ⟨8, .ca (.k (.cl 142 [])) [(.t 7)], none, false⟩,
 ⟨9, .nt (.t 8), none, false⟩,
 ⟨10, .mv (.t 9), none, false⟩,
 ⟨11, .mv (.t 0), (some (10, false)), false⟩,
 ⟨12, .nc (.t 11), (some (10, false)), false⟩,
 ⟨13, .fa 1 (.t 12), (some (10, false)), false⟩,
 ⟨14, .ld 1 false (.t 13), (some (10, false)), false⟩,
 ⟨15, .ca (.k (.cl 142 [])) [(.t 14)], (some (10, false)), false⟩,
 ⟨16, .nt (.t 15), (some (10, false)), false⟩,
 ⟨17, .pk (.t 10) (.k (.sc (.bool true))) (.t 16), none, false⟩,
 ⟨18, .mv (.t 17), none, false⟩,
 ⟨19, .mv (.t 0), (some (18, false)), false⟩,
 ⟨20, .nc (.t 19), (some (18, false)), false⟩,
 ⟨21, .fa 2 (.t 20), (some (18, false)), false⟩,
 ⟨22, .ld 1 false (.t 21), (some (18, false)), false⟩,
 ⟨23, .ca (.k (.cl 135 [])) [(.t 22), (.k (.sc (.int .i64 0))), (.k (.sc (.int .i64 999)))], (some (18, false)), false⟩,
 ⟨24, .nt (.t 23), (some (18, false)), false⟩,
 ⟨25, .pk (.t 18) (.k (.sc (.bool true))) (.t 24), none, false⟩,
 ⟨26, .mv (.t 25), none, false⟩,
 ⟨27, .mv (.t 0), (some (26, false)), false⟩,
 ⟨28, .nc (.t 27), (some (26, false)), false⟩,
 ⟨29, .fa 3 (.t 28), (some (26, false)), false⟩,
 ⟨30, .ca (.k (.cl 71 [])) [(.t 29)], (some (26, false)), false⟩,
 ⟨31, .nt (.t 30), (some (26, false)), false⟩,
 ⟨32, .pk (.t 26) (.k (.sc (.bool true))) (.t 31), none, false⟩])
 (.ite (.t 32)
 (.seq
 (.reg false [⟨2, .mv (.k (.sc (.bool false))), none, false⟩])
 .ret)
 .skip))
 (.seq
 (.seq
 (.reg false [⟨33, .mv (.t 0), none, false⟩,
 ⟨34, .nc (.t 33), none, false⟩,
 ⟨35, .fa 6 (.t 34), none, false⟩,
 ⟨36, .ld 1 false (.t 35), none, false⟩,
 ⟨37, .ca (.k (.cl 135 [])) [(.t 36), (.k (.sc (.int .i64 10))), (.k (.sc (.int .i64 20000)))], none, false⟩,
 ⟨38, .nt (.t 37), none, false⟩,
 ⟨39, .mv (.t 38), none, false⟩,
 ⟨40, .mv (.t 0), (some (39, false)), false⟩,
 ⟨41, .nc (.t 40), (some (39, false)), false⟩,
 ⟨42, .fa 7 (.t 41), (some (39, false)), false⟩,
 ⟨43, .ld 1 false (.t 42), (some (39, false)), false⟩,
 ⟨44, .ca (.k (.cl 135 [])) [(.t 43), (.k (.sc (.int .i64 10))), (.k (.sc (.int .i64 20000)))], (some (39, false)), false⟩,
 ⟨45, .nt (.t 44), (some (39, false)), false⟩,
 ⟨46, .pk (.t 39) (.k (.sc (.bool true))) (.t 45), none, false⟩,
 ⟨47, .mv (.t 46), none, false⟩,
 ⟨48, .mv (.t 0), (some (47, false)), false⟩,
 ⟨49, .nc (.t 48), (some (47, false)), false⟩,
 ⟨50, .fa 8 (.t 49), (some (47, false)), false⟩,
 ⟨51, .ld 1 false (.t 50), (some (47, false)), false⟩,
 ⟨52, .ln false (.t 51), (some (47, false)), false⟩,
 ⟨53, .ar .gtr false (.t 52) (.k (.sc (.int .i64 6))), (some (47, false)), false⟩,
 ⟨54, .pk (.t 47) (.k (.sc (.bool true))) (.t 53), none, false⟩])
 (.ite (.t 54)
 (.seq
 (.reg false [⟨2, .mv (.k (.sc (.bool false))), none, false⟩])
 .ret)
 .skip))
 (.seq
 (.seq
 (.reg false [⟨3, .mv (.k (.sc (.int .i64 0))), none, false⟩])
 (.cln [] [2]
 (.block 0
 (.loop [0, 3] b80_1))))
 (.seq
 (.reg false [⟨2, .mv (.k (.sc (.bool true))), none, false⟩])
 .ret)))))⟩
attribute [simp] i80
set_option maxRecDepth 1000000 in
theorem c80 : cFn Try.prog 80 [[], [0, 3], [], [2]] = some i80 := by kernel_rfl
theorem e80 : enterOk Try.prog 80 = true := by kernel_rfl
def w82_1 : IC :=
(.seq
 (.seq
 (.reg false [⟨8, .mv (.t 4), none, false⟩,
 ⟨9, .mv (.t 0), none, false⟩,
 ⟨10, .ln false (.t 9), none, false⟩,
 ⟨11, .ar .lss false (.t 8) (.t 10), none, false⟩])
 (.ite (.t 11)
 .skip
 (.exit 0)))
 (.seq
 (.block 1
 (.reg false [⟨14, .mv (.t 3), none, false⟩,
 ⟨15, .mv (.t 4), none, false⟩,
 ⟨16, .mv (.t 0), none, false⟩,
 ⟨17, .mv (.t 4), none, false⟩,
 ⟨18, .ia 4 (.t 16) (.t 17), none, false⟩,
 ⟨19, .ld 4 true (.t 18), none, false⟩,
 ⟨20, .ca (.k (.cl 147 [])) [(.t 19)], none, false⟩,
 ⟨21, .ia 4 (.t 14) (.t 15), none, false⟩,
 ⟨1, .so 4 (.t 21) (.t 20), none, true⟩]))
 (.reg false [⟨12, .mv (.t 4), none, false⟩,
 ⟨13, .ar .add false (.t 12) (.k (.sc (.int .i64 1))), none, false⟩,
 ⟨4, .mv (.t 13), none, false⟩])))
def b82_1 : IC := w82_1
theorem u82_1 (call : CallF) (st : St) : evC call b82_1 st = evC call w82_1 st := rfl
attribute [simp] u82_1 w82_1
def i82 : Ev.Fn := ⟨1, 23, [.tmp 2],
 (.seq
 (.reg false [⟨2, .mv (.k .nl), none, false⟩])
 (.seq
 (.reg false [⟨5, .mv (.t 0), none, false⟩,
 ⟨6, .ln false (.t 5), none, false⟩,
 ⟨7, .ms 73 4 [(.sc (.int .i64 0)), (.sc (.int .i64 0)), (.sc (.int .i64 0)), (.sc (.int .i64 0))] (.t 6), none, false⟩,
 ⟨3, .mv (.t 7), none, false⟩])
 (.seq
 (.seq
 (.reg false [⟨4, .mv (.k (.sc (.int .i64 0))), none, false⟩])
 (.cln [3] [2]
 (.block 0
 (.loop [0, 3, 4] b82_1))))
 (.seq
 (.reg false [⟨22, .mv (.t 3), none, false⟩,
 ⟨2, .mv (.t 22), none, false⟩])
 .ret))))⟩
attribute [simp] i82
set_option maxRecDepth 1000000 in
theorem c82 : cFn Try.prog 82 [[], [0, 3, 4], [3], [2]] = some i82 := by kernel_rfl
theorem e82 : enterOk Try.prog 82 = true := by kernel_rfl
def i83 : Ev.Fn := ⟨1, 46, [.tmp 2],
 (.seq
 (.reg false [⟨1, .bx (.t 0), none, false⟩,
 ⟨2, .mv (.k (.sc (.bool false))), none, false⟩])
 (.seq
 (.seq
 (.reg false [⟨3, .fa 0 (.t 1), none, false⟩,
 ⟨4, .ld 1 false (.t 3), none, false⟩,
 ⟨5, .ca (.k (.cl 148 [])) [(.t 4)], none, false⟩,
 ⟨6, .nt (.t 5), none, false⟩,
 ⟨7, .mv (.t 6), none, false⟩,
 ⟨8, .fa 1 (.t 1), (some (7, false)), false⟩,
 ⟨9, .ld 1 false (.t 8), (some (7, false)), false⟩,
 ⟨10, .ca (.k (.cl 148 [])) [(.t 9)], (some (7, false)), false⟩,
 ⟨11, .nt (.t 10), (some (7, false)), false⟩,
 ⟨12, .pk (.t 7) (.k (.sc (.bool true))) (.t 11), none, false⟩,
 ⟨13, .mv (.t 12), none, false⟩,
 ⟨14, .fa 2 (.t 1), (some (13, false)), false⟩,
 ⟨15, .ld 1 false (.t 14), (some (13, false)), false⟩,
 ⟨16, .ca (.k (.cl 75 [])) [(.t 15), (.k (.sc (.int .i64 0))), (.k (.sc (.int .i64 999)))], (some (13, false)), false⟩,
 ⟨17, .nt (.t 16), (some (13, false)), false⟩,
 ⟨18, .pk (.t 13) (.k (.sc (.bool true))) (.t 17), none, false⟩,
 ⟨19, .mv (.t 18), none, false⟩,
 ⟨20, .fa 3 (.t 1), (some (19, false)), false⟩,
 ⟨21, .ld 3 true (.t 20), (some (19, false)), false⟩,
 ⟨22, .ca (.k (.cl 74 [])) [(.t 21)], (some (19, false)), false⟩,
 ⟨23, .nt (.t 22), (some (19, false)), false⟩,
 ⟨24, .pk (.t 19) (.k (.sc (.bool true))) (.t 23), none, false⟩])
 (.ite (.t 24)
 (.seq
 (.reg false [⟨2, .mv (.k (.sc (.bool false))), none, false⟩])
 .ret)
 .skip))
 (.seq
 (.seq
 (.reg false [⟨25, .fa 6 (.t 1), none, false⟩,
 ⟨26, .ld 1 false (.t 25), none, false⟩,
 ⟨27, .ca (.k (.cl 75 [])) [(.t 26), (.k (.sc (.int .i64 10))), (.k (.sc (.int .i64 20000)))], none, false⟩,
 ⟨28, .nt (.t 27), none, false⟩,
 ⟨29, .mv (.t 28), none, false⟩,
 ⟨30, .fa 7 (.t 1), (some (29, false)), false⟩,
 ⟨31, .ld 1 false (.t 30), (some (29, false)), false⟩,
 ⟨32, .ca (.k (.cl 75 [])) [(.t 31), (.k (.sc (.int .i64 10))), (.k (.sc (.int .i64 20000)))], (some (29, false)), false⟩,
 ⟨33, .nt (.t 32), (some (29, false)), false⟩,
 ⟨34, .pk (.t 29) (.k (.sc (.bool true))) (.t 33), none, false⟩,
 ⟨35, .mv (.t 34), none, false⟩,
 ⟨36, .fa 8 (.t 1), (some (35, false)), false⟩,
 ⟨37, .ld 1 false (.t 36), (some (35, false)), false⟩,
 ⟨38, .ln false (.t 37), (some (35, false)), false⟩,
 ⟨39, .ar .gtr false (.t 38) (.k (.sc (.int .i64 6))), (some (35, false)), false⟩,
 ⟨40, .pk (.t 35) (.k (.sc (.bool true))) (.t 39), none, false⟩])
 (.ite (.t 40)
 (.seq
 (.reg false [⟨2, .mv (.k (.sc (.bool false))), none, false⟩])
 .ret)
 .skip))
 (.seq
 (.reg false [⟨41, .fa 8 (.t 1), none, false⟩,
 ⟨42, .ld 1 false (.t 41), none, false⟩,
 ⟨43, .mf 149 [(.t 1)], none, false⟩,
 ⟨44, .ca (.k (.cl 84 [])) [(.t 42), (.t 43)], none, false⟩,
 ⟨45, .nt (.t 44), none, false⟩,
 ⟨2, .mv (.t 45), none, false⟩])
 .ret))))⟩
attribute [simp] i83
set_option maxRecDepth 1000000 in
theorem c83 : cFn Try.prog 83 [[]] = some i83 := by kernel_rfl
theorem e83 : enterOk Try.prog 83 = true := by kernel_rfl
def i84 : Ev.Fn := ⟨2, 9, [.tmp 4],
 (.seq
 (.reg false [⟨4, .mv (.k (.sc (.bool false))), none, false⟩])
 (.seq
 (.reg false [⟨5, .mv (.t 0), none, false⟩,
 ⟨6, .mv (.t 1), none, false⟩,
 ⟨7, .ca (.k (.cl 151 [])) [(.t 5), (.t 6)], none, false⟩,
 ⟨8, .ar .geq false (.t 7) (.k (.sc (.int .i64 0))), none, false⟩,
 ⟨4, .mv (.t 8), none, false⟩])
 .ret))⟩
attribute [simp] i84
set_option maxRecDepth 1000000 in
theorem c84 : cFn Try.prog 84 [[]] = some i84 := by kernel_rfl
theorem e84 : enterOk Try.prog 84 = true := by kernel_rfl
def i88 : Ev.Fn := ⟨2, 20, [.tmp 4],
 (.seq
 (.reg false [⟨2, .bx (.t 0), none, false⟩,
 ⟨3, .bx (.t 1), none, false⟩,
 ⟨4, .mv (.k (.sc (.bool false))), none, false⟩])
 (.seq
 (.seq
 (.reg false [⟨5, .fa 0 (.t 2), none, false⟩,
 ⟨6, .ld 1 false (.t 5), none, false⟩,
 ⟨7, .fa 0 (.t 3), none, false⟩,
 ⟨8, .ld 1 false (.t 7), none, false⟩,
 ⟨9, .ar .neq false (.t 6) (.t 8), none, false⟩])
 (.ite (.t 9)
 (.seq
 (.reg false [⟨4, .mv (.k (.sc (.bool false))), none, false⟩])
 .ret)
 .skip))
 (.seq
 (.seq
 (.reg false [⟨10, .fa 1 (.t 2), none, false⟩,
 ⟨11, .ld 1 false (.t 10), none, false⟩,
 ⟨12, .fa 1 (.t 3), none, false⟩,
 ⟨13, .ld 1 false (.t 12), none, false⟩,
 ⟨14, .ar .neq false (.t 11) (.t 13), none, false⟩])
 (.ite (.t 14)
 (.seq
 (.reg false [⟨4, .mv (.k (.sc (.bool false))), none, false⟩])
 .ret)
 .skip))
 (.seq
 (.seq
 (.reg false [⟨15, .fa 2 (.t 2), none, false⟩,
 ⟨16, .ld 1 false (.t 15), none, false⟩,
 ⟨17, .fa 2 (.t 3), none, false⟩,
 ⟨18, .ld 1 false (.t 17), none, false⟩,
 ⟨19, .ar .neq false (.t 16) (.t 18), none, false⟩])
 (.ite (.t 19)
 (.seq
 (.reg false [⟨4, .mv (.k (.sc (.bool false))), none, false⟩])
 .ret)
 .skip))
 (.seq
 (.reg false [⟨4, .mv (.k (.sc (.bool true))), none, false⟩])
 .ret)))))⟩
attribute [simp] i88
set_option maxRecDepth 1000000 in
theorem c88 : cFn Try.prog 88 [[]] = some i88 := by kernel_rfl
theorem e88 : enterOk Try.prog 88 = true := by kernel_rfl
def w89_1 : IC :=
(.seq
 (.seq
 (.reg false [⟨11, .mv (.t 5), none, false⟩,
 ⟨12, .mv (.t 0), none, false⟩,
 ⟨13, .ln false (.t 12), none, false⟩,
 ⟨14, .ar .lss false (.t 11) (.t 13), none, false⟩])
 (.ite (.t 14)
 .skip
 (.exit 0)))
 (.seq
 (.block 1
 (.seq
 (.reg true [⟨17, .mv (.t 0), none, false⟩,
 ⟨18, .mv (.t 5), none, false⟩,
 ⟨19, .ia 4 (.t 17) (.t 18), none, false⟩,
 ⟨20, .ld 4 true (.t 19), none, false⟩,
 ⟨21, .mv (.t 1), none, false⟩,
 ⟨22, .mv (.t 5), none, false⟩,
 ⟨23, .ia 4 (.t 21) (.t 22), none, false⟩,
 ⟨24, .ld 4 true (.t 23), none, false⟩,
 ⟨25, .ca (.k (.cl 40 [])) [(.t 20), (.t 24)], none, false⟩,
 ⟨26, .nt (.t 25), none, false⟩])
 (.ite (.t 26)
 (.seq
 (.reg false [⟨4, .mv (.k (.sc (.bool false))), none, false⟩])
 .ret)
 .skip)))
 (.reg false [⟨15, .mv (.t 5), none, false⟩,
 ⟨16, .ar .add false (.t 15) (.k (.sc (.int .i64 1))), none, false⟩,
 ⟨5, .mv (.t 16), none, false⟩])))
def b89_1 : IC := w89_1
theorem u89_1 (call : CallF) (st : St) : evC call b89_1 st = evC call w89_1 st := rfl
attribute [simp] u89_1 w89_1
def i89 : Ev.Fn := ⟨2, 27, [.tmp 4],
 (.seq
 (.reg false [⟨4, .mv (.k (.sc (.bool false))), none, false⟩])
 (.seq
 (.seq
 (.reg false [⟨6, .mv (.t 0), none, false⟩,
 ⟨7, .ln false (.t 6), none, false⟩,
 ⟨8, .mv (.t 1), none, false⟩,
 ⟨9, .ln false (.t 8), none, false⟩,
 ⟨10, .ar .neq false (.t 7) (.t 9), none, false⟩])
 (.ite (.t 10)
 (.seq
 (.reg false [⟨4, .mv (.k (.sc (.bool false))), none, false⟩])
 .ret)
 .skip))
 (.seq
 (.seq
 (.reg false [⟨5, .mv (.k (.sc (.int .i64 0))), none, false⟩])
 (.cln [] [4]
 (.block 0
 (.loop [0, 1, 5] b89_1))))
 (.seq
 (.reg false [⟨4, .mv (.k (.sc (.bool true))), none, false⟩])
 .ret))))⟩
attribute [simp] i89
set_option maxRecDepth 1000000 in
theorem c89 : cFn Try.prog 89 [[], [0, 1, 5], [], [4]] = some i89 := by kernel_rfl
theorem e89 : enterOk Try.prog 89 = true := by kernel_rfl
def w93_1 : IC :=
(.seq
 (.reg false [⟨8, .ar .lss false (.t 7) (.t 6), none, false⟩])
 (.seq
 (.ite (.t 8)
 .skip
 (.exit 0))
 (.seq
 (.block 1
 (.seq
 (.reg false [⟨9, .mv (.t 7), none, false⟩,
 ⟨10, .ia 9 (.t 5) (.t 7), none, false⟩,
 ⟨11, .ld 9 true (.t 10), none, false⟩,
 ⟨4, .al [(.sc (.string ⟨#[]⟩)), (.sc (.string ⟨#[]⟩)), (.sc (.int .i64 0)), (.sc (.string ⟨#[]⟩)), (.sc (.int .i64 0)), (.sc (.int .i64 0)), (.sc (.int .i64 0)), (.sc (.int .i64 0)), .nl], none, false⟩,
 ⟨3, .mv (.t 9), none, false⟩,
 ⟨1, .so 9 (.t 4) (.t 11), none, true⟩])
 (.seq
 (.reg true [⟨12, .ld 9 true (.t 4), none, false⟩,
 ⟨13, .ca (.k (.cl 83 [])) [(.t 12)], none, false⟩,
 ⟨14, .nt (.t 13), none, false⟩,
 ⟨15, .mv (.t 14), none, false⟩,
 ⟨16, .mv (.t 3), (some (15, false)), false⟩,
 ⟨17, .ar .gtr false (.t 16) (.k (.sc (.int .i64 0))), (some (15, false)), false⟩,
 ⟨18, .mv (.t 17), (some (15, false)), false⟩,
 ⟨19, .mv (.t 0), (some (18, true)), false⟩,
 ⟨20, .mv (.t 3), (some (18, true)), false⟩,
 ⟨21, .ar .sub false (.t 20) (.k (.sc (.int .i64 1))), (some (18, true)), false⟩,
 ⟨22, .ia 9 (.t 19) (.t 21), (some (18, true)), false⟩,
 ⟨23, .fa 0 (.t 22), (some (18, true)), false⟩,
 ⟨24, .ld 1 false (.t 23), (some (18, true)), false⟩,
 ⟨25, .fa 0 (.t 4), (some (18, true)), false⟩,
 ⟨26, .ld 1 false (.t 25), (some (18, true)), false⟩,
 ⟨27, .ar .geq false (.t 24) (.t 26), (some (18, true)), false⟩,
 ⟨28, .pk (.t 18) (.t 27) (.k (.sc (.bool false))), (some (15, false)), false⟩,
 ⟨29, .pk (.t 15) (.k (.sc (.bool true))) (.t 28), none, false⟩])
 (.ite (.t 29)
 (.seq
 (.reg false [⟨2, .mv (.k (.sc (.bool false))), none, false⟩])
 .ret)
 .skip))))
 (.reg false [⟨30, .ar .add false (.t 7) (.k (.sc (.int .i64 1))), none, false⟩,
 ⟨7, .mv (.t 30), none, false⟩]))))
def b93_1 : IC := w93_1
theorem u93_1 (call : CallF) (st : St) : evC call b93_1 st = evC call w93_1 st := rfl
attribute [simp] u93_1 w93_1
def i93 : Ev.Fn := ⟨1, 34, [.tmp 2],
 (.seq
 (.reg false [⟨2, .mv (.k (.sc (.bool false))), none, false⟩])
 (.seq
 (.seq
 (.reg false [⟨5, .mv (.t 0), none, false⟩,
 ⟨6, .ln false (.t 5), none, false⟩,
 ⟨7, .mv (.k (.sc (.int .i64 0))), none, false⟩])
 (.cln [0] [2]
 (.block 0
 (.loop [0, 5, 6, 7] b93_1))))
 (.seq
 (.reg false [⟨31, .mv (.t 0), none, false⟩,
 ⟨32, .ln false (.t 31), none, false⟩,
 ⟨33, .ar .leq false (.t 32) (.k (.sc (.int .i64 16))), none, false⟩,
 ⟨2, .mv (.t 33), none, false⟩])
 .ret)))⟩
attribute [simp] i93
set_option maxRecDepth 1000000 in
theorem c93 : cFn Try.prog 93 [[], [0, 5, 6, 7], [0], [2]] = some i93 := by kernel_rfl
theorem e93 : enterOk Try.prog 93 = true := by kernel_rfl
def w122_1 : IC :=
(.seq
 (.seq
 (.reg false [⟨4, .mv (.t 3), none, false⟩,
 ⟨5, .mv (.t 0), none, false⟩,
 ⟨6, .ln false (.t 5), none, false⟩,
 ⟨7, .ar .lss false (.t 4) (.t 6), none, false⟩])
 (.ite (.t 7)
 .skip
 (.exit 0)))
 (.seq
 (.block 1
 (.seq
 (.reg true [⟨10, .mv (.t 0), none, false⟩,
 ⟨11, .mv (.t 3), none, false⟩,
 ⟨12, .ia 9 (.t 10) (.t 11), none, false⟩,
 ⟨13, .ca (.k (.cl 80 [])) [(.t 12)], none, false⟩,
 ⟨14, .nt (.t 13), none, false⟩,
 ⟨15, .mv (.t 14), none, false⟩,
 ⟨16, .mv (.t 3), (some (15, false)), false⟩,
 ⟨17, .ar .gtr false (.t 16) (.k (.sc (.int .i64 0))), (some (15, false)), false⟩,
 ⟨18, .mv (.t 17), (some (15, false)), false⟩,
 ⟨19, .mv (.t 0), (some (18, true)), false⟩,
 ⟨20, .mv (.t 3), (some (18, true)), false⟩,
 ⟨21, .ar .sub false (.t 20) (.k (.sc (.int .i64 1))), (some (18, true)), false⟩,
 ⟨22, .ia 9 (.t 19) (.t 21), (some (18, true)), false⟩,
 ⟨23, .fa 0 (.t 22), (some (18, true)), false⟩,
 ⟨24, .ld 1 false (.t 23), (some (18, true)), false⟩,
 ⟨25, .mv (.t 0), (some (18, true)), false⟩,
 ⟨26, .mv (.t 3), (some (18, true)), false⟩,
 ⟨27, .ia 9 (.t 25) (.t 26), (some (18, true)), false⟩,
 ⟨28, .fa 0 (.t 27), (some (18, true)), false⟩,
 ⟨29, .ld 1 false (.t 28), (some (18, true)), false⟩,
 ⟨30, .ar .geq false (.t 24) (.t 29), (some (18, true)), false⟩,
 ⟨31, .pk (.t 18) (.t 30) (.k (.sc (.bool false))), (some (15, false)), false⟩,
 ⟨32, .pk (.t 15) (.k (.sc (.bool true))) (.t 31), none, false⟩])
 (.ite (.t 32)
 (.seq
 (.reg false [⟨2, .mv (.k (.sc (.bool false))), none, false⟩])
 .ret)
 .skip)))
 (.reg false [⟨8, .mv (.t 3), none, false⟩,
 ⟨9, .ar .add false (.t 8) (.k (.sc (.int .i64 1))), none, false⟩,
 ⟨3, .mv (.t 9), none, false⟩])))
def b122_1 : IC := w122_1
theorem u122_1 (call : CallF) (st : St) : evC call b122_1 st = evC call w122_1 st := rfl
attribute [simp] u122_1 w122_1
def i122 : Ev.Fn := ⟨1, 36, [.tmp 2],
 (.seq
 (.reg false [⟨2, .mv (.k (.sc (.bool false))), none, false⟩])
 (.seq
 (.seq
 (.reg false [⟨3, .mv (.k (.sc (.int .i64 0))), none, false⟩])
 (.cln [0] [2]
 (.block 0
 (.loop [0, 3] b122_1))))
 (.seq
 (.reg false [⟨33, .mv (.t 0), none, false⟩,
 ⟨34, .ln false (.t 33), none, false⟩,
 ⟨35, .ar .leq false (.t 34) (.k (.sc (.int .i64 16))), none, false⟩,
 ⟨2, .mv (.t 35), none, false⟩])
 .ret)))⟩
attribute [simp] i122
set_option maxRecDepth 1000000 in
theorem c122 : cFn Try.prog 122 [[], [0, 3], [0], [2]] = some i122 := by kernel_rfl
theorem e122 : enterOk Try.prog 122 = true := by kernel_rfl
def w123_2 : IC :=
(.seq
 (.seq
 (.reg true [⟨25, .mv (.t 7), none, false⟩,
 ⟨26, .ar .gtr false (.t 25) (.k (.sc (.int .i64 0))), none, false⟩,
 ⟨27, .mv (.t 26), none, false⟩,
 ⟨28, .mv (.t 0), (some (27, true)), false⟩,
 ⟨29, .mv (.t 5), (some (27, true)), false⟩,
 ⟨30, .mv (.t 7), (some (27, true)), false⟩,
 ⟨31, .ar .sub false (.t 30) (.k (.sc (.int .i64 1))), (some (27, true)), false⟩,
 ⟨32, .ia 1 (.t 29) (.t 31), (some (27, true)), false⟩,
 ⟨33, .ld 1 false (.t 32), (some (27, true)), false⟩,
 ⟨34, .ia 9 (.t 28) (.t 33), (some (27, true)), false⟩,
 ⟨35, .fa 2 (.t 34), (some (27, true)), false⟩,
 ⟨36, .ld 1 false (.t 35), (some (27, true)), false⟩,
 ⟨37, .mv (.t 0), (some (27, true)), false⟩,
 ⟨38, .mv (.t 6), (some (27, true)), false⟩,
 ⟨39, .ia 9 (.t 37) (.t 38), (some (27, true)), false⟩,
 ⟨40, .fa 2 (.t 39), (some (27, true)), false⟩,
 ⟨41, .ld 1 false (.t 40), (some (27, true)), false⟩,
 ⟨42, .ar .gtr false (.t 36) (.t 41), (some (27, true)), false⟩,
 ⟨43, .pk (.t 27) (.t 42) (.k (.sc (.bool false))), none, false⟩])
 (.ite (.t 43)
 .skip
 (.exit 2)))
 (.block 3
 (.reg false [⟨44, .mv (.t 7), none, false⟩,
 ⟨45, .ar .sub false (.t 44) (.k (.sc (.int .i64 1))), none, false⟩,
 ⟨7, .mv (.t 45), none, false⟩])))
def b123_2 : IC := w123_2
theorem u123_2 (call : CallF) (st : St) : evC call b123_2 st = evC call w123_2 st := rfl
attribute [simp] u123_2 w123_2
def w123_1 : IC :=
(.seq
 (.seq
 (.reg false [⟨10, .mv (.t 6), none, false⟩,
 ⟨11, .mv (.t 0), none, false⟩,
 ⟨12, .ln false (.t 11), none, false⟩,
 ⟨13, .ar .lss false (.t 10) (.t 12), none, false⟩])
 (.ite (.t 13)
 .skip
 (.exit 0)))
 (.seq
 (.block 1
 (.seq
 (.seq
 (.reg false [⟨16, .mv (.t 0), none, false⟩,
 ⟨17, .mv (.t 6), none, false⟩,
 ⟨18, .ia 9 (.t 16) (.t 17), none, false⟩,
 ⟨19, .fa 1 (.t 18), none, false⟩,
 ⟨20, .ld 1 false (.t 19), none, false⟩,
 ⟨21, .mv (.t 1), none, false⟩,
 ⟨22, .ar .neq false (.t 20) (.t 21), none, false⟩])
 (.ite (.t 22)
 (.exit 1)
 .skip))
 (.seq
 (.reg false [⟨23, .mv (.t 5), none, false⟩,
 ⟨24, .ln false (.t 23), none, false⟩,
 ⟨7, .mv (.t 24), none, false⟩])
 (.seq
 (.cln [0, 1, 5, 6, 7] [4]
 (.block 2
 (.loop [0, 1, 5, 6, 7] b123_2)))
 (.seq
 (.reg false [⟨46, .mv (.t 5), none, false⟩,
 ⟨47, .mv (.t 7), none, false⟩,
 ⟨48, .sl 1 (.t 46) none (some (.t 47)), none, false⟩,
 ⟨49, .ca (.k (.cl 59 [])) [(.t 48)], none, false⟩,
 ⟨8, .mv (.t 49), none, false⟩])
 (.seq
 (.reg false [⟨50, .mv (.t 8), none, false⟩,
 ⟨51, .mv (.t 6), none, false⟩,
 ⟨52, .bs 2 1 [(.sc (.int .i64 0))] 1 [(0, (.t 51))], none, false⟩,
 ⟨53, .ap 2 1 false (.t 50) (.t 52), none, false⟩,
 ⟨8, .mv (.t 53), none, false⟩])
 (.reg false [⟨54, .mv (.t 8), none, false⟩,
 ⟨55, .mv (.t 5), none, false⟩,
 ⟨56, .mv (.t 7), none, false⟩,
 ⟨57, .sl 1 (.t 55) (some (.t 56)) none, none, false⟩,
 ⟨58, .ap 2 1 false (.t 54) (.t 57), none, false⟩,
 ⟨5, .mv (.t 58), none, false⟩])))))))
 (.reg false [⟨14, .mv (.t 6), none, false⟩,
 ⟨15, .ar .add false (.t 14) (.k (.sc (.int .i64 1))), none, false⟩,
 ⟨6, .mv (.t 15), none, false⟩])))
def b123_1 : IC := w123_1
theorem u123_1 (call : CallF) (st : St) : evC call b123_1 st = evC call w123_1 st := rfl
attribute [simp] u123_1 w123_1
def i123 : Ev.Fn := ⟨2, 60, [.tmp 4],
 (.seq
 (.reg false [⟨4, .mv (.k .nl), none, false⟩])
 (.seq
 (.reg false [⟨9, .bs 2 1 [(.sc (.int .i64 0))] 0 [], none, false⟩,
 ⟨5, .mv (.t 9), none, false⟩])
 (.seq
 (.seq
 (.reg false [⟨6, .mv (.k (.sc (.int .i64 0))), none, false⟩])
 (.cln [5] [4]
 (.block 0
 (.loop [0, 1, 5, 6] b123_1))))
 (.seq
 (.reg false [⟨59, .mv (.t 5), none, false⟩,
 ⟨4, .mv (.t 59), none, false⟩])
 .ret))))⟩
attribute [simp] i123
set_option maxRecDepth 1000000 in
theorem c123 : cFn Try.prog 123 [[], [0, 1, 5, 6], [0, 1, 5, 6, 7], [0, 1, 5, 6, 7], [4], [5], [4]] = some i123 := by kernel_rfl
theorem e123 : enterOk Try.prog 123 = true := by kernel_rfl
def i124 : Ev.Fn := ⟨2, 9, [],
 (.rgw [⟨4, .mv (.t 0), none, false⟩,
 ⟨5, .mv (.t 0), none, false⟩,
 ⟨6, .ln false (.t 5), none, false⟩,
 ⟨7, .mv (.t 1), none, false⟩,
 ⟨8, .cw 183 [] [(.t 4), (.t 6), (.t 7)], none, false⟩])⟩
attribute [simp] i124
set_option maxRecDepth 1000000 in
theorem c124 : cFn Try.prog 124 [[183]] = some i124 := by kernel_rfl
theorem e124 : enterOk Try.prog 124 = true := by kernel_rfl
def i125 : Ev.Fn := ⟨3, 17, [.tmp 5],
 (.seq
 (.reg false [⟨5, .mv (.k (.sc (.int .i64 0))), none, false⟩])
 (.seq
 (.reg true [⟨6, .ld 1 false (.t 2), none, false⟩,
 ⟨7, .mv (.t 0), none, false⟩,
 ⟨8, .ia 9 (.t 6) (.t 7), none, false⟩,
 ⟨9, .fa 2 (.t 8), none, false⟩,
 ⟨10, .ld 1 false (.t 9), none, false⟩,
 ⟨11, .ld 1 false (.t 2), none, false⟩,
 ⟨12, .mv (.t 1), none, false⟩,
 ⟨13, .ia 9 (.t 11) (.t 12), none, false⟩,
 ⟨14, .fa 2 (.t 13), none, false⟩,
 ⟨15, .ld 1 false (.t 14), none, false⟩,
 ⟨16, .ar .sub false (.t 10) (.t 15), none, false⟩,
 ⟨5, .mv (.t 16), none, false⟩])
 .ret))⟩
attribute [simp] i125
set_option maxRecDepth 1000000 in
theorem c125 : cFn Try.prog 125 [[]] = some i125 := by kernel_rfl
theorem e125 : enterOk Try.prog 125 = true := by kernel_rfl
def w134_1 : IC :=
(.seq
 (.seq
 (.reg false [⟨6, .mv (.t 4), none, false⟩,
 ⟨7, .mv (.t 3), none, false⟩,
 ⟨8, .ln false (.t 7), none, false⟩,
 ⟨9, .ar .lss false (.t 6) (.t 8), none, false⟩])
 (.ite (.t 9)
 .skip
 (.exit 0)))
 (.seq
 (.block 1
 (.seq
 (.reg false [⟨12, .mv (.t 3), none, false⟩,
 ⟨13, .mv (.t 4), none, false⟩,
 ⟨14, .ia 1 (.t 12) (.t 13), none, false⟩,
 ⟨15, .ld 1 false (.t 14), none, false⟩,
 ⟨16, .mv (.t 0), none, false⟩,
 ⟨17, .ar .eql false (.t 15) (.t 16), none, false⟩])
 (.ite (.t 17)
 (.seq
 (.reg false [⟨18, .mv (.t 4), none, false⟩,
 ⟨2, .mv (.t 18), none, false⟩])
 .ret)
 .skip)))
 (.reg false [⟨10, .mv (.t 4), none, false⟩,
 ⟨11, .ar .add false (.t 10) (.k (.sc (.int .i64 1))), none, false⟩,
 ⟨4, .mv (.t 11), none, false⟩])))
def b134_1 : IC := w134_1
theorem u134_1 (call : CallF) (st : St) : evC call b134_1 st = evC call w134_1 st := rfl
attribute [simp] u134_1 w134_1
def i134 : Ev.Fn := ⟨1, 19, [.tmp 2],
 (.seq
 (.reg false [⟨2, .mv (.k (.sc (.int .i64 0))), none, false⟩])
 (.seq
 (.reg false [⟨5, .ca (.k (.cl 195 [])) [], none, false⟩,
 ⟨3, .mv (.t 5), none, false⟩])
 (.seq
 (.seq
 (.reg false [⟨4, .mv (.k (.sc (.int .i64 0))), none, false⟩])
 (.cln [] [2]
 (.block 0
 (.loop [0, 3, 4] b134_1))))
 (.seq
 (.reg false [⟨2, .mv (.k (.sc (.int .i64 (-1)))), none, false⟩])
 .ret))))⟩
attribute [simp] i134
set_option maxRecDepth 1000000 in
theorem c134 : cFn Try.prog 134 [[], [0, 3, 4], [], [2]] = some i134 := by kernel_rfl
theorem e134 : enterOk Try.prog 134 = true := by kernel_rfl
def i135 : Ev.Fn := ⟨3, 15, [.tmp 6],
 (.seq
 (.reg false [⟨6, .mv (.k (.sc (.bool false))), none, false⟩])
 (.seq
 (.reg false [⟨7, .mv (.t 0), none, false⟩,
 ⟨8, .mv (.t 1), none, false⟩,
 ⟨9, .ar .geq false (.t 7) (.t 8), none, false⟩,
 ⟨10, .mv (.t 9), none, false⟩,
 ⟨11, .mv (.t 0), (some (10, true)), false⟩,
 ⟨12, .mv (.t 2), (some (10, true)), false⟩,
 ⟨13, .ar .leq false (.t 11) (.t 12), (some (10, true)), false⟩,
 ⟨14, .pk (.t 10) (.t 13) (.k (.sc (.bool false))), none, false⟩,
 ⟨6, .mv (.t 14), none, false⟩])
 .ret))⟩
attribute [simp] i135
set_option maxRecDepth 1000000 in
theorem c135 : cFn Try.prog 135 [[]] = some i135 := by kernel_rfl
theorem e135 : enterOk Try.prog 135 = true := by kernel_rfl
def i136 : Ev.Fn := ⟨0, 12, [.tmp 0],
 (.seq
 (.reg false [⟨0, .mv (.k .nl), none, false⟩])
 (.seq
 (.reg false [⟨1, .bs 2 1 [(.sc (.int .i64 0))] 3 [(0, (.k (.sc (.int .i64 20)))), (1, (.k (.sc (.int .i64 40)))), (2, (.k (.sc (.int .i64 310))))], none, false⟩,
 ⟨2, .bs 2 1 [(.sc (.int .i64 0))] 3 [(0, (.k (.sc (.int .i64 35)))), (1, (.k (.sc (.int .i64 45)))), (2, (.k (.sc (.int .i64 410))))], none, false⟩,
 ⟨3, .bs 2 1 [(.sc (.int .i64 0))] 3 [(0, (.k (.sc (.int .i64 15)))), (1, (.k (.sc (.int .i64 33)))), (2, (.k (.sc (.int .i64 280))))], none, false⟩,
 ⟨4, .bs 2 1 [(.sc (.int .i64 0))] 3 [(0, (.k (.sc (.int .i64 50)))), (1, (.k (.sc (.int .i64 36)))), (2, (.k (.sc (.int .i64 240))))], none, false⟩,
 ⟨5, .bs 2 1 [(.sc (.int .i64 0))] 3 [(0, (.k (.sc (.int .i64 95)))), (1, (.k (.sc (.int .i64 85)))), (2, (.k (.sc (.int .i64 270))))], none, false⟩,
 ⟨6, .bs 2 1 [(.sc (.int .i64 0))] 3 [(0, (.k (.sc (.int .i64 5)))), (1, (.k (.sc (.int .i64 35)))), (2, (.k (.sc (.int .i64 370))))], none, false⟩,
 ⟨7, .bs 2 1 [(.sc (.int .i64 0))] 3 [(0, (.k (.sc (.int .i64 10)))), (1, (.k (.sc (.int .i64 42)))), (2, (.k (.sc (.int .i64 290))))], none, false⟩,
 ⟨8, .bs 2 1 [(.sc (.int .i64 0))] 3 [(0, (.k (.sc (.int .i64 40)))), (1, (.k (.sc (.int .i64 40)))), (2, (.k (.sc (.int .i64 330))))], none, false⟩,
 ⟨9, .bs 2 1 [(.sc (.int .i64 0))] 3 [(0, (.k (.sc (.int .i64 80)))), (1, (.k (.sc (.int .i64 60)))), (2, (.k (.sc (.int .i64 220))))], none, false⟩,
 ⟨10, .bs 2 1 [(.sc (.int .i64 0))] 3 [(0, (.k (.sc (.int .i64 70)))), (1, (.k (.sc (.int .i64 38)))), (2, (.k (.sc (.int .i64 260))))], none, false⟩,
 ⟨11, .bw 24 1 [.nl] 10 [(0, (.t 1)), (1, (.t 2)), (2, (.t 3)), (3, (.t 4)), (4, (.t 5)), (5, (.t 6)), (6, (.t 7)), (7, (.t 8)), (8, (.t 9)), (9, (.t 10))], none, false⟩,
 ⟨0, .mv (.t 11), none, false⟩])
 .ret))⟩
attribute [simp] i136
set_option maxRecDepth 1000000 in
theorem c136 : cFn Try.prog 136 [[]] = some i136 := by kernel_rfl
theorem e136 : enterOk Try.prog 136 = true := by kernel_rfl
def i137 : Ev.Fn := ⟨1, 5, [.tmp 2],
 (.seq
 (.reg false [⟨2, .mv (.k (.sc (.bool false))), none, false⟩])
 (.seq
 (.reg false [⟨3, .mv (.t 0), none, false⟩,
 ⟨4, .ca (.k (.cl 135 [])) [(.t 3), (.k (.sc (.int .i64 0))), (.k (.sc (.int .i64 179)))], none, false⟩,
 ⟨2, .mv (.t 4), none, false⟩])
 .ret))⟩
attribute [simp] i137
set_option maxRecDepth 1000000 in
theorem c137 : cFn Try.prog 137 [[]] = some i137 := by kernel_rfl
theorem e137 : enterOk Try.prog 137 = true := by kernel_rfl
def i139 : Ev.Fn := ⟨1, 18, [.tmp 2, .tmp 3],
 (.seq
 (.reg false [⟨2, .mv (.k (.sc (.int .i64 0))), none, false⟩,
 ⟨3, .mv (.k (.sc (.bool false))), none, false⟩])
 (.seq
 (.reg false [⟨9, .mv (.t 0), none, false⟩,
 ⟨10, .ca (.k (.cl 196 [])) [(.t 9)], none, false⟩,
 ⟨8, .mv (.t 10), none, false⟩,
 ⟨11, .xt (.t 8) 0, none, false⟩,
 ⟨12, .xt (.t 8) 1, none, false⟩,
 ⟨13, .xt (.t 8) 2, none, false⟩,
 ⟨14, .xt (.t 8) 3, none, false⟩,
 ⟨4, .mv (.t 11), none, false⟩,
 ⟨5, .mv (.t 12), none, false⟩,
 ⟨6, .mv (.t 13), none, false⟩,
 ⟨7, .mv (.t 14), none, false⟩])
 (.seq
 (.reg false [⟨15, .mv (.t 4), none, false⟩,
 ⟨16, .mv (.t 7), none, false⟩,
 ⟨17, .ar .eql false (.t 16) (.k (.sc (.int .i64 0))), none, false⟩,
 ⟨2, .mv (.t 15), none, false⟩,
 ⟨3, .mv (.t 17), none, false⟩])
 .ret)))⟩
attribute [simp] i139
set_option maxRecDepth 1000000 in
theorem c139 : cFn Try.prog 139 [[]] = some i139 := by kernel_rfl
theorem e139 : enterOk Try.prog 139 = true := by kernel_rfl
def w142_1 : IC :=
(.seq
 (.seq
 (.reg false [⟨17, .mv (.t 3), none, false⟩,
 ⟨18, .mv (.t 0), none, false⟩,
 ⟨19, .ln true (.t 18), none, false⟩,
 ⟨20, .ar .lss false (.t 17) (.t 19), none, false⟩])
 (.ite (.t 20)
 .skip
 (.exit 0)))
 (.seq
 (.block 1
 (.seq
 (.reg false [⟨23, .mv (.t 0), none, false⟩,
 ⟨24, .mv (.t 3), none, false⟩,
 ⟨25, .ix (.t 23) (.t 24), none, false⟩,
 ⟨26, .ca (.k (.cl 198 [])) [(.t 25)], none, false⟩,
 ⟨27, .nt (.t 26), none, false⟩,
 ⟨28, .mv (.t 27), none, false⟩,
 ⟨29, .mv (.t 0), (some (28, true)), false⟩,
 ⟨30, .mv (.t 3), (some (28, true)), false⟩,
 ⟨31, .ix (.t 29) (.t 30), (some (28, true)), false⟩,
 ⟨32, .ca (.k (.cl 199 [])) [(.t 31)], (some (28, true)), false⟩,
 ⟨33, .nt (.t 32), (some (28, true)), false⟩,
 ⟨34, .pk (.t 28) (.t 33) (.k (.sc (.bool false))), none, false⟩])
 (.ite (.t 34)
 (.seq
 (.reg false [⟨2, .mv (.k (.sc (.bool false))), none, false⟩])
 .ret)
 .skip)))
 (.reg false [⟨21, .mv (.t 3), none, false⟩,
 ⟨22, .ar .add false (.t 21) (.k (.sc (.int .i64 1))), none, false⟩,
 ⟨3, .mv (.t 22), none, false⟩])))
def b142_1 : IC := w142_1
theorem u142_1 (call : CallF) (st : St) : evC call b142_1 st = evC call w142_1 st := rfl
attribute [simp] u142_1 w142_1
def i142 : Ev.Fn := ⟨1, 35, [.tmp 2],
 (.seq
 (.reg false [⟨2, .mv (.k (.sc (.bool false))), none, false⟩])
 (.seq
 (.seq
 (.reg false [⟨4, .mv (.t 0), none, false⟩,
 ⟨5, .ar .eql false (.t 4) (.k (.sc (.string ⟨#[]⟩))), none, false⟩,
 ⟨6, .mv (.t 5), none, false⟩,
 ⟨7, .mv (.t 0), (some (6, false)), false⟩,
 ⟨8, .ln true (.t 7), (some (6, false)), false⟩,
 ⟨9, .ar .gtr false (.t 8) (.k (.sc (.int .i64 10))), (some (6, false)), false⟩,
 ⟨10, .pk (.t 6) (.k (.sc (.bool true))) (.t 9), none, false⟩,
 ⟨11, .mv (.t 10), none, false⟩,
 ⟨12, .mv (.t 0), (some (11, false)), false⟩,
 ⟨13, .ix (.t 12) (.k (.sc (.int .i64 0))), (some (11, false)), false⟩,
 ⟨14, .ca (.k (.cl 198 [])) [(.t 13)], (some (11, false)), false⟩,
 ⟨15, .nt (.t 14), (some (11, false)), false⟩,
 ⟨16, .pk (.t 11) (.k (.sc (.bool true))) (.t 15), none, false⟩])
 (.ite (.t 16)
 (.seq
 (.reg false [⟨2, .mv (.k (.sc (.bool false))), none, false⟩])
 .ret)
 .skip))
 (.seq
 (.seq
 (.reg false [⟨3, .mv (.k (.sc (.int .i64 0))), none, false⟩])
 (.cln [] [2]
 (.block 0
 (.loop [0, 3] b142_1))))
 (.seq
 (.reg false [⟨2, .mv (.k (.sc (.bool true))), none, false⟩])
 .ret))))⟩
attribute [simp] i142
set_option maxRecDepth 1000000 in
theorem c142 : cFn Try.prog 142 [[], [0, 3], [], [2]] = some i142 := by kernel_rfl
theorem e142 : enterOk Try.prog 142 = true := by kernel_rfl
def i143 : Ev.Fn := ⟨3, 47, [.tmp 6],
 (.seq
 (.reg false [⟨6, .mv (.k (.sc (.bool false))), none, false⟩])
 (.seq
 (.reg true [⟨7, .mv (.t 0), none, false⟩,
 ⟨8, .nc (.t 7), none, false⟩,
 ⟨9, .fa 0 (.t 8), none, false⟩,
 ⟨10, .ld 1 false (.t 9), none, false⟩,
 ⟨11, .mv (.t 1), none, false⟩,
 ⟨12, .ca (.k (.cl 135 [])) [(.t 10), (.k (.sc (.int .i64 0))), (.t 11)], none, false⟩,
 ⟨13, .mv (.t 12), none, false⟩,
 ⟨14, .mv (.t 0), (some (13, true)), false⟩,
 ⟨15, .nc (.t 14), (some (13, true)), false⟩,
 ⟨16, .fa 1 (.t 15), (some (13, true)), false⟩,
 ⟨17, .ld 1 false (.t 16), (some (13, true)), false⟩,
 ⟨18, .mv (.t 2), (some (13, true)), false⟩,
 ⟨19, .ca (.k (.cl 135 [])) [(.t 17), (.k (.sc (.int .i64 0))), (.t 18)], (some (13, true)), false⟩,
 ⟨20, .pk (.t 13) (.t 19) (.k (.sc (.bool false))), none, false⟩,
 ⟨21, .mv (.t 20), none, false⟩,
 ⟨22, .mv (.t 0), (some (21, true)), false⟩,
 ⟨23, .nc (.t 22), (some (21, true)), false⟩,
 ⟨24, .fa 2 (.t 23), (some (21, true)), false⟩,
 ⟨25, .ld 1 false (.t 24), (some (21, true)), false⟩,
 ⟨26, .mv (.t 1), (some (21, true)), false⟩,
 ⟨27, .mv (.t 0), (some (21, true)), false⟩,
 ⟨28, .nc (.t 27), (some (21, true)), false⟩,
 ⟨29, .fa 0 (.t 28), (some (21, true)), false⟩,
 ⟨30, .ld 1 false (.t 29), (some (21, true)), false⟩,
 ⟨31, .ar .sub false (.t 26) (.t 30), (some (21, true)), false⟩,
 ⟨32, .ca (.k (.cl 135 [])) [(.t 25), (.k (.sc (.int .i64 1))), (.t 31)], (some (21, true)), false⟩,
 ⟨33, .pk (.t 21) (.t 32) (.k (.sc (.bool false))), none, false⟩,
 ⟨34, .mv (.t 33), none, false⟩,
 ⟨35, .mv (.t 0), (some (34, true)), false⟩,
 ⟨36, .nc (.t 35), (some (34, true)), false⟩,
 ⟨37, .fa 3 (.t 36), (some (34, true)), false⟩,
 ⟨38, .ld 1 false (.t 37), (some (34, true)), false⟩,
 ⟨39, .mv (.t 2), (some (34, true)), false⟩,
 ⟨40, .mv (.t 0), (some (34, true)), false⟩,
 ⟨41, .nc (.t 40), (some (34, true)), false⟩,
 ⟨42, .fa 1 (.t 41), (some (34, true)), false⟩,
 ⟨43, .ld 1 false (.t 42), (some (34, true)), false⟩,
 ⟨44, .ar .sub false (.t 39) (.t 43), (some (34, true)), false⟩,
 ⟨45, .ca (.k (.cl 135 [])) [(.t 38), (.k (.sc (.int .i64 1))), (.t 44)], (some (34, true)), false⟩,
 ⟨46, .pk (.t 34) (.t 45) (.k (.sc (.bool false))), none, false⟩,
 ⟨6, .mv (.t 46), none, false⟩])
 .ret))⟩
attribute [simp] i143
set_option maxRecDepth 1000000 in
theorem c143 : cFn Try.prog 143 [[]] = some i143 := by kernel_rfl
theorem e143 : enterOk Try.prog 143 = true := by kernel_rfl
def i147 : Ev.Fn := ⟨1, 17, [.cell 2 4 true],
 (.seq
 (.reg false [⟨1, .bx (.t 0), none, false⟩,
 ⟨2, .al [(.sc (.int .i64 0)), (.sc (.int .i64 0)), (.sc (.int .i64 0)), (.sc (.int .i64 0))], none, false⟩])
 (.seq
 (.reg false [⟨3, .al [(.sc (.int .i64 0)), (.sc (.int .i64 0)), (.sc (.int .i64 0)), (.sc (.int .i64 0))], none, false⟩])
 (.seq
 (.reg false [⟨4, .fa 0 (.t 1), none, false⟩,
 ⟨5, .ld 1 false (.t 4), none, false⟩,
 ⟨6, .fa 0 (.t 3), none, false⟩,
 ⟨1, .so 1 (.t 6) (.t 5), none, true⟩])
 (.seq
 (.reg false [⟨7, .fa 1 (.t 1), none, false⟩,
 ⟨8, .ld 1 false (.t 7), none, false⟩,
 ⟨9, .fa 1 (.t 3), none, false⟩,
 ⟨1, .so 1 (.t 9) (.t 8), none, true⟩])
 (.seq
 (.reg false [⟨10, .fa 2 (.t 1), none, false⟩,
 ⟨11, .ld 1 false (.t 10), none, false⟩,
 ⟨12, .fa 2 (.t 3), none, false⟩,
 ⟨1, .so 1 (.t 12) (.t 11), none, true⟩])
 (.seq
 (.reg false [⟨13, .fa 3 (.t 1), none, false⟩,
 ⟨14, .ld 1 false (.t 13), none, false⟩,
 ⟨15, .fa 3 (.t 3), none, false⟩,
 ⟨1, .so 1 (.t 15) (.t 14), none, true⟩])
 (.seq
 (.reg false [⟨16, .ld 4 true (.t 3), none, false⟩,
 ⟨1, .so 4 (.t 2) (.t 16), none, true⟩])
 .ret)))))))⟩
attribute [simp] i147
set_option maxRecDepth 1000000 in
theorem c147 : cFn Try.prog 147 [[]] = some i147 := by kernel_rfl
theorem e147 : enterOk Try.prog 147 = true := by kernel_rfl
end Go.Proofs.Ytmhddfikpfkeoaa.walkS
