/- The functions that some rows reach, turned; no conditions. -/
import Derived.Test.YtojjkjbffihppaaEv2
import Derived.KernelRfl
import Derived.Test.YtojjkjbffihppaaProg
namespace Go.Proofs.Ytojjkjbffihppaa.walkS
open Go Go.Proofs.Ytojjkjbffihppaa.Ev
def i13 : Ev.Fn := ⟨2, 104, [.tmp 4],
 (.seq
 (.reg false [⟨4, .mv (.k (.sc (.bool false))), none, false⟩])
 (.seq
 (.seq
 (.reg false [⟨16, .mv (.t 1), none, false⟩,
 ⟨17, .ln true (.t 16), none, false⟩,
 ⟨18, .ar .gtr false (.t 17) (.k (.sc (.int .i64 1048576))), none, false⟩])
 (.ite (.t 18)
 (.seq
 (.reg false [⟨4, .mv (.k (.sc (.bool true))), none, false⟩])
 .ret)
 .skip))
 (.seq
 (.reg false [⟨5, .mv (.k (.sc (.int .i64 1048576))), none, false⟩])
 (.seq
 (.reg false [⟨19, .mv (.t 0), none, false⟩,
 ⟨20, .mv (.t 5), none, false⟩,
 ⟨21, .ca (.k (.cl 16 [])) [(.t 19), (.t 20)], none, false⟩,
 ⟨5, .mv (.t 21), none, false⟩])
 (.seq
 (.seq
 (.reg false [⟨22, .mv (.t 5), none, false⟩,
 ⟨23, .ar .lss false (.t 22) (.k (.sc (.int .i64 0))), none, false⟩])
 (.ite (.t 23)
 (.seq
 (.reg false [⟨4, .mv (.k (.sc (.bool true))), none, false⟩])
 .ret)
 .skip))
 (.seq
 (.reg false [⟨25, .mv (.t 0), none, false⟩,
 ⟨26, .ca (.k (.cl 18 [])) [(.t 25)], none, false⟩,
 ⟨27, .mv (.t 1), none, false⟩,
 ⟨28, .ca (.k (.cl 61 [])) [(.t 26), (.t 27)], none, false⟩,
 ⟨24, .mv (.t 28), none, false⟩,
 ⟨29, .xt (.t 24) 0, none, false⟩,
 ⟨30, .xt (.t 24) 1, none, false⟩,
 ⟨6, .mv (.t 29), none, false⟩,
 ⟨7, .mv (.t 30), none, false⟩])
 (.seq
 (.reg false [⟨31, .mv (.t 0), none, false⟩,
 ⟨32, .ca (.k (.cl 18 [])) [(.t 31)], none, false⟩,
 ⟨8, .mv (.t 32), none, false⟩])
 (.seq
 (.reg false [⟨34, .mv (.t 8), none, false⟩,
 ⟨35, .mv (.t 1), none, false⟩,
 ⟨36, .ca (.k (.cl 62 [])) [(.t 34), (.t 35)], none, false⟩,
 ⟨33, .mv (.t 36), none, false⟩,
 ⟨37, .xt (.t 33) 0, none, false⟩,
 ⟨38, .xt (.t 33) 1, none, false⟩,
 ⟨9, .mv (.t 37), none, false⟩,
 ⟨10, .mv (.t 38), none, false⟩])
 (.seq
 (.seq
 (.reg false [⟨39, .mv (.t 9), none, false⟩,
 ⟨40, .mv (.t 6), none, false⟩,
 ⟨41, .ca (.k (.cl 27 [])) [(.t 39), (.t 40)], none, false⟩,
 ⟨42, .nt (.t 41), none, false⟩,
 ⟨43, .mv (.t 42), none, false⟩,
 ⟨44, .mv (.t 10), (some (43, false)), false⟩,
 ⟨45, .mv (.t 7), (some (43, false)), false⟩,
 ⟨46, .ar .neq false (.t 44) (.t 45), (some (43, false)), false⟩,
 ⟨47, .pk (.t 43) (.k (.sc (.bool true))) (.t 46), none, false⟩])
 (.ite (.t 47)
 (.seq
 (.reg false [⟨4, .mv (.k (.sc (.bool false))), none, false⟩])
 .ret)
 .skip))
 (.seq
 (.seq
 (.reg false [⟨48, .mv (.t 8), none, false⟩,
 ⟨49, .mv (.t 0), none, false⟩,
 ⟨50, .ca (.k (.cl 18 [])) [(.t 49)], none, false⟩,
 ⟨51, .ca (.k (.cl 20 [])) [(.t 48), (.t 50)], none, false⟩,
 ⟨52, .nt (.t 51), none, false⟩])
 (.ite (.t 52)
 (.seq
 (.reg false [⟨4, .mv (.k (.sc (.bool false))), none, false⟩])
 .ret)
 .skip))
 (.seq
 (.reg false [⟨11, .mv (.k (.sc (.int .i64 1))), none, false⟩])
 (.seq
 (.rgw [⟨53, .mv (.t 8), none, false⟩,
 ⟨54, .mv (.t 11), none, false⟩,
 ⟨55, .cw 21 [] [(.t 53), (.t 54)], none, false⟩,
 ⟨11, .mv (.t 55), none, false⟩])
 (.seq
 (.seq
 (.reg false [⟨56, .mv (.t 11), none, false⟩,
 ⟨57, .ar .lss false (.t 56) (.k (.sc (.int .i64 0))), none, false⟩,
 ⟨58, .mv (.t 57), none, false⟩,
 ⟨59, .mv (.t 9), (some (58, false)), false⟩,
 ⟨60, .mv (.t 6), (some (58, false)), false⟩,
 ⟨61, .ca (.k (.cl 27 [])) [(.t 59), (.t 60)], (some (58, false)), false⟩,
 ⟨62, .nt (.t 61), (some (58, false)), false⟩,
 ⟨63, .pk (.t 58) (.k (.sc (.bool true))) (.t 62), none, false⟩,
 ⟨64, .mv (.t 63), none, false⟩,
 ⟨65, .mv (.t 10), (some (64, false)), false⟩,
 ⟨66, .mv (.t 7), (some (64, false)), false⟩,
 ⟨67, .ar .neq false (.t 65) (.t 66), (some (64, false)), false⟩,
 ⟨68, .pk (.t 64) (.k (.sc (.bool true))) (.t 67), none, false⟩])
 (.ite (.t 68)
 (.seq
 (.reg false [⟨4, .mv (.k (.sc (.bool false))), none, false⟩])
 .ret)
 .skip))
 (.seq
 (.reg false [⟨12, .mv (.k (.sc (.int .i64 1))), none, false⟩])
 (.seq
 (.rgw [⟨69, .mv (.t 9), none, false⟩,
 ⟨70, .mv (.t 12), none, false⟩,
 ⟨71, .cw 30 [] [(.t 69), (.t 70)], none, false⟩,
 ⟨12, .mv (.t 71), none, false⟩])
 (.seq
 (.reg false [⟨13, .mv (.k (.sc (.int .i64 1))), none, false⟩])
 (.seq
 (.reg false [⟨72, .mv (.t 9), none, false⟩,
 ⟨73, .mv (.t 13), none, false⟩,
 ⟨74, .ca (.k (.cl 31 [])) [(.t 72), (.t 73)], none, false⟩,
 ⟨13, .mv (.t 74), none, false⟩])
 (.seq
 (.seq
 (.reg false [⟨75, .mv (.t 13), none, false⟩,
 ⟨76, .ar .lss false (.t 75) (.k (.sc (.int .i64 0))), none, false⟩])
 (.ite (.t 76)
 (.seq
 (.reg false [⟨4, .mv (.k (.sc (.bool false))), none, false⟩])
 .ret)
 .skip))
 (.seq
 (.seq
 (.reg false [⟨77, .mv (.t 13), none, false⟩,
 ⟨78, .mv (.t 12), none, false⟩,
 ⟨79, .ar .neq false (.t 77) (.t 78), none, false⟩])
 (.ite (.t 79)
 (.seq
 (.reg false [⟨4, .mv (.k (.sc (.bool false))), none, false⟩])
 .ret)
 .skip))
 (.seq
 (.reg false [⟨81, .mv (.t 0), none, false⟩,
 ⟨82, .ca (.k (.cl 18 [])) [(.t 81)], none, false⟩,
 ⟨83, .mv (.t 1), none, false⟩,
 ⟨84, .ca (.k (.cl 62 [])) [(.t 82), (.t 83)], none, false⟩,
 ⟨80, .mv (.t 84), none, false⟩,
 ⟨85, .xt (.t 80) 0, none, false⟩,
 ⟨86, .xt (.t 80) 1, none, false⟩,
 ⟨14, .mv (.t 85), none, false⟩,
 ⟨15, .mv (.t 86), none, false⟩])
 (.seq
 (.seq
 (.reg false [⟨87, .mv (.t 14), none, false⟩,
 ⟨88, .mv (.t 6), none, false⟩,
 ⟨89, .ca (.k (.cl 27 [])) [(.t 87), (.t 88)], none, false⟩,
 ⟨90, .nt (.t 89), none, false⟩,
 ⟨91, .mv (.t 90), none, false⟩,
 ⟨92, .mv (.t 15), (some (91, false)), false⟩,
 ⟨93, .mv (.t 7), (some (91, false)), false⟩,
 ⟨94, .ar .neq false (.t 92) (.t 93), (some (91, false)), false⟩,
 ⟨95, .pk (.t 91) (.k (.sc (.bool true))) (.t 94), none, false⟩])
 (.ite (.t 95)
 (.seq
 (.reg false [⟨4, .mv (.k (.sc (.bool false))), none, false⟩])
 .ret)
 .skip))
 (.seq
 (.reg false [⟨13, .mv (.k (.sc (.int .i64 1))), none, false⟩])
 (.seq
 (.reg false [⟨96, .mv (.t 9), none, false⟩,
 ⟨97, .mv (.t 13), none, false⟩,
 ⟨98, .ca (.k (.cl 31 [])) [(.t 96), (.t 97)], none, false⟩,
 ⟨13, .mv (.t 98), none, false⟩])
 (.seq
 (.seq
 (.reg false [⟨99, .mv (.t 13), none, false⟩,
 ⟨100, .ar .lss false (.t 99) (.k (.sc (.int .i64 0))), none, false⟩])
 (.ite (.t 100)
 (.seq
 (.reg false [⟨4, .mv (.k (.sc (.bool false))), none, false⟩])
 .ret)
 .skip))
 (.seq
 (.seq
 (.reg false [⟨101, .mv (.t 13), none, false⟩,
 ⟨102, .mv (.t 12), none, false⟩,
 ⟨103, .ar .neq false (.t 101) (.t 102), none, false⟩])
 (.ite (.t 103)
 (.seq
 (.reg false [⟨4, .mv (.k (.sc (.bool false))), none, false⟩])
 .ret)
 .skip))
 (.seq
 (.reg false [⟨4, .mv (.k (.sc (.bool true))), none, false⟩])
 .ret))))))))))))))))))))))))))⟩
attribute [simp] i13
set_option maxRecDepth 1000000 in
theorem c13 : cFn Try.prog 13 [[21, 30]] = some i13 := by kernel_rfl
theorem e13 : enterOk Try.prog 13 = true := by kernel_rfl
def w16_1 : IC :=
(.seq
 (.seq
 (.reg false [⟨12, .mv (.t 5), none, false⟩,
 ⟨13, .mv (.t 0), none, false⟩,
 ⟨14, .ln false (.t 13), none, false⟩,
 ⟨15, .ar .lss false (.t 12) (.t 14), none, false⟩])
 (.ite (.t 15)
 .skip
 (.exit 0)))
 (.seq
 (.block 1
 (.seq
 (.reg false [⟨18, .mv (.t 0), none, false⟩,
 ⟨19, .mv (.t 5), none, false⟩,
 ⟨20, .ia 9 (.t 18) (.t 19), none, false⟩,
 ⟨21, .ld 9 true (.t 20), none, false⟩,
 ⟨22, .mv (.t 1), none, false⟩,
 ⟨23, .ca (.k (.cl 67 [])) [(.t 21), (.t 22)], none, false⟩,
 ⟨1, .mv (.t 23), none, false⟩])
 (.seq
 (.reg false [⟨24, .mv (.t 1), none, false⟩,
 ⟨25, .ar .lss false (.t 24) (.k (.sc (.int .i64 0))), none, false⟩])
 (.ite (.t 25)
 (.seq
 (.reg false [⟨4, .mv (.k (.sc (.int .i64 (-1)))), none, false⟩])
 .ret)
 .skip))))
 (.reg false [⟨16, .mv (.t 5), none, false⟩,
 ⟨17, .ar .add false (.t 16) (.k (.sc (.int .i64 1))), none, false⟩,
 ⟨5, .mv (.t 17), none, false⟩])))
def b16_1 : IC := w16_1
theorem u16_1 (call : CallF) (st : St) : evC call b16_1 st = evC call w16_1 st := rfl
attribute [simp] u16_1 w16_1
def i16 : Ev.Fn := ⟨2, 27, [.tmp 4],
 (.seq
 (.reg false [⟨4, .mv (.k (.sc (.int .i64 0))), none, false⟩])
 (.seq
 (.reg false [⟨6, .mv (.t 1), none, false⟩,
 ⟨7, .mv (.t 0), none, false⟩,
 ⟨8, .ln false (.t 7), none, false⟩,
 ⟨9, .ar .sub false (.t 6) (.t 8), none, false⟩,
 ⟨1, .mv (.t 9), none, false⟩])
 (.seq
 (.seq
 (.reg false [⟨10, .mv (.t 1), none, false⟩,
 ⟨11, .ar .lss false (.t 10) (.k (.sc (.int .i64 0))), none, false⟩])
 (.ite (.t 11)
 (.seq
 (.reg false [⟨4, .mv (.k (.sc (.int .i64 (-1)))), none, false⟩])
 .ret)
 .skip))
 (.seq
 (.seq
 (.reg false [⟨5, .mv (.k (.sc (.int .i64 0))), none, false⟩])
 (.cln [1] [4]
 (.block 0
 (.loop [0, 1, 5] b16_1))))
 (.seq
 (.reg false [⟨26, .mv (.t 1), none, false⟩,
 ⟨4, .mv (.t 26), none, false⟩])
 .ret)))))⟩
attribute [simp] i16
set_option maxRecDepth 1000000 in
theorem c16 : cFn Try.prog 16 [[], [0, 1, 5], [1], [4]] = some i16 := by kernel_rfl
theorem e16 : enterOk Try.prog 16 = true := by kernel_rfl
def w18_1 : IC :=
(.seq
 (.seq
 (.reg false [⟨8, .mv (.t 4), none, false⟩,
 ⟨9, .mv (.t 0), none, false⟩,
 ⟨10, .ln false (.t 9), none, false⟩,
 ⟨11, .ar .lss false (.t 8) (.t 10), none, false⟩])
 (.ite (.t 11)
 .skip
 (.exit 0)))
 (.seq
 (.block 1
 (.reg false [⟨14, .mv (.t 3), none, false⟩,
 ⟨15, .mv (.t 4), none, false⟩,
 ⟨16, .mv (.t 0), none, false⟩,
 ⟨17, .mv (.t 4), none, false⟩,
 ⟨18, .ia 9 (.t 16) (.t 17), none, false⟩,
 ⟨19, .ld 9 true (.t 18), none, false⟩,
 ⟨20, .ca (.k (.cl 71 [])) [(.t 19)], none, false⟩,
 ⟨21, .ia 9 (.t 14) (.t 15), none, false⟩,
 ⟨1, .so 9 (.t 21) (.t 20), none, true⟩]))
 (.reg false [⟨12, .mv (.t 4), none, false⟩,
 ⟨13, .ar .add false (.t 12) (.k (.sc (.int .i64 1))), none, false⟩,
 ⟨4, .mv (.t 13), none, false⟩])))
def b18_1 : IC := w18_1
theorem u18_1 (call : CallF) (st : St) : evC call b18_1 st = evC call w18_1 st := rfl
attribute [simp] u18_1 w18_1
def i18 : Ev.Fn := ⟨1, 23, [.tmp 2],
 (.seq
 (.reg false [⟨2, .mv (.k .nl), none, false⟩])
 (.seq
 (.reg false [⟨5, .mv (.t 0), none, false⟩,
 ⟨6, .ln false (.t 5), none, false⟩,
 ⟨7, .ms 96 9 [(.sc (.string ⟨#[]⟩)), (.sc (.string ⟨#[]⟩)), (.sc (.int .i64 0)), (.sc (.string ⟨#[]⟩)), (.sc (.int .i64 0)), (.sc (.int .i64 0)), (.sc (.int .i64 0)), (.sc (.int .i64 0)), .nl] (.t 6), none, false⟩,
 ⟨3, .mv (.t 7), none, false⟩])
 (.seq
 (.seq
 (.reg false [⟨4, .mv (.k (.sc (.int .i64 0))), none, false⟩])
 (.cln [3] [2]
 (.block 0
 (.loop [0, 3, 4] b18_1))))
 (.seq
 (.reg false [⟨22, .mv (.t 3), none, false⟩,
 ⟨2, .mv (.t 22), none, false⟩])
 .ret))))⟩
attribute [simp] i18
set_option maxRecDepth 1000000 in
theorem c18 : cFn Try.prog 18 [[], [0, 3, 4], [3], [2]] = some i18 := by kernel_rfl
theorem e18 : enterOk Try.prog 18 = true := by kernel_rfl
def w20_1 : IC :=
(.seq
 (.seq
 (.reg false [⟨11, .mv (.t 5), none, false⟩,
 ⟨12, .mv (.t 0), none, false⟩,
 ⟨13, .ln false (.t 12), none, false⟩,
 ⟨14, .ar .lss false (.t 11) (.t 13), none, false⟩])
 (.ite (.t 14)
 .skip
 (.exit 0)))
 (.seq
 (.block 1
 (.seq
 (.reg true [⟨17, .mv (.t 0), none, false⟩,
 ⟨18, .mv (.t 5), none, false⟩,
 ⟨19, .ia 9 (.t 17) (.t 18), none, false⟩,
 ⟨20, .ld 9 true (.t 19), none, false⟩,
 ⟨21, .mv (.t 1), none, false⟩,
 ⟨22, .mv (.t 5), none, false⟩,
 ⟨23, .ia 9 (.t 21) (.t 22), none, false⟩,
 ⟨24, .ld 9 true (.t 23), none, false⟩,
 ⟨25, .ca (.k (.cl 76 [])) [(.t 20), (.t 24)], none, false⟩,
 ⟨26, .nt (.t 25), none, false⟩])
 (.ite (.t 26)
 (.seq
 (.reg false [⟨4, .mv (.k (.sc (.bool false))), none, false⟩])
 .ret)
 .skip)))
 (.reg false [⟨15, .mv (.t 5), none, false⟩,
 ⟨16, .ar .add false (.t 15) (.k (.sc (.int .i64 1))), none, false⟩,
 ⟨5, .mv (.t 16), none, false⟩])))
def b20_1 : IC := w20_1
theorem u20_1 (call : CallF) (st : St) : evC call b20_1 st = evC call w20_1 st := rfl
attribute [simp] u20_1 w20_1
def i20 : Ev.Fn := ⟨2, 27, [.tmp 4],
 (.seq
 (.reg false [⟨4, .mv (.k (.sc (.bool false))), none, false⟩])
 (.seq
 (.seq
 (.reg false [⟨6, .mv (.t 0), none, false⟩,
 ⟨7, .ln false (.t 6), none, false⟩,
 ⟨8, .mv (.t 1), none, false⟩,
 ⟨9, .ln false (.t 8), none, false⟩,
 ⟨10, .ar .neq false (.t 7) (.t 9), none, false⟩])
 (.ite (.t 10)
 (.seq
 (.reg false [⟨4, .mv (.k (.sc (.bool false))), none, false⟩])
 .ret)
 .skip))
 (.seq
 (.seq
 (.reg false [⟨5, .mv (.k (.sc (.int .i64 0))), none, false⟩])
 (.cln [] [4]
 (.block 0
 (.loop [0, 1, 5] b20_1))))
 (.seq
 (.reg false [⟨4, .mv (.k (.sc (.bool true))), none, false⟩])
 .ret))))⟩
attribute [simp] i20
set_option maxRecDepth 1000000 in
theorem c20 : cFn Try.prog 20 [[], [0, 1, 5], [], [4]] = some i20 := by kernel_rfl
theorem e20 : enterOk Try.prog 20 = true := by kernel_rfl
def w21_1 : IC :=
(.seq
 (.seq
 (.reg false [⟨6, .mv (.t 5), none, false⟩,
 ⟨7, .mv (.t 0), none, false⟩,
 ⟨8, .ln false (.t 7), none, false⟩,
 ⟨9, .ar .lss false (.t 6) (.t 8), none, false⟩])
 (.ite (.t 9)
 .skip
 (.exit 0)))
 (.seq
 (.block 1
 (.seq
 (.reg false [⟨12, .mv (.t 0), none, false⟩,
 ⟨13, .mv (.t 5), none, false⟩,
 ⟨14, .mv (.t 1), none, false⟩,
 ⟨15, .ca (.k (.cl 77 [])) [(.t 14)], none, false⟩,
 ⟨16, .ia 9 (.t 12) (.t 13), none, false⟩,
 ⟨17, .fa 0 (.t 16), none, false⟩,
 ⟨1, .so 1 (.t 17) (.t 15), none, true⟩])
 (.seq
 (.reg false [⟨18, .mv (.t 1), none, false⟩,
 ⟨19, .ar .add false (.t 18) (.k (.sc (.int .i64 1))), none, false⟩,
 ⟨1, .mv (.t 19), none, false⟩])
 (.seq
 (.reg false [⟨20, .mv (.t 0), none, false⟩,
 ⟨21, .mv (.t 5), none, false⟩,
 ⟨22, .mv (.t 1), none, false⟩,
 ⟨23, .ca (.k (.cl 77 [])) [(.t 22)], none, false⟩,
 ⟨24, .ia 9 (.t 20) (.t 21), none, false⟩,
 ⟨25, .fa 1 (.t 24), none, false⟩,
 ⟨1, .so 1 (.t 25) (.t 23), none, true⟩])
 (.seq
 (.reg false [⟨26, .mv (.t 1), none, false⟩,
 ⟨27, .ar .add false (.t 26) (.k (.sc (.int .i64 1))), none, false⟩,
 ⟨1, .mv (.t 27), none, false⟩])
 (.seq
 (.reg false [⟨28, .mv (.t 0), none, false⟩,
 ⟨29, .mv (.t 5), none, false⟩,
 ⟨30, .mv (.t 1), none, false⟩,
 ⟨31, .ia 9 (.t 28) (.t 29), none, false⟩,
 ⟨32, .fa 2 (.t 31), none, false⟩,
 ⟨1, .so 1 (.t 32) (.t 30), none, true⟩])
 (.seq
 (.reg false [⟨33, .mv (.t 1), none, false⟩,
 ⟨34, .ar .add false (.t 33) (.k (.sc (.int .i64 1))), none, false⟩,
 ⟨1, .mv (.t 34), none, false⟩])
 (.seq
 (.reg false [⟨35, .mv (.t 0), none, false⟩,
 ⟨36, .mv (.t 5), none, false⟩,
 ⟨37, .mv (.t 1), none, false⟩,
 ⟨38, .ca (.k (.cl 77 [])) [(.t 37)], none, false⟩,
 ⟨39, .ia 9 (.t 35) (.t 36), none, false⟩,
 ⟨40, .fa 3 (.t 39), none, false⟩,
 ⟨41, .fa 0 (.t 40), none, false⟩,
 ⟨1, .so 1 (.t 41) (.t 38), none, true⟩])
 (.seq
 (.reg false [⟨42, .mv (.t 1), none, false⟩,
 ⟨43, .ar .add false (.t 42) (.k (.sc (.int .i64 1))), none, false⟩,
 ⟨1, .mv (.t 43), none, false⟩])
 (.seq
 (.reg false [⟨44, .mv (.t 0), none, false⟩,
 ⟨45, .mv (.t 5), none, false⟩,
 ⟨46, .mv (.t 1), none, false⟩,
 ⟨47, .ia 9 (.t 44) (.t 45), none, false⟩,
 ⟨48, .fa 3 (.t 47), none, false⟩,
 ⟨49, .fa 1 (.t 48), none, false⟩,
 ⟨1, .so 1 (.t 49) (.t 46), none, true⟩])
 (.seq
 (.reg false [⟨50, .mv (.t 1), none, false⟩,
 ⟨51, .ar .add false (.t 50) (.k (.sc (.int .i64 1))), none, false⟩,
 ⟨1, .mv (.t 51), none, false⟩])
 (.seq
 (.reg false [⟨52, .mv (.t 0), none, false⟩,
 ⟨53, .mv (.t 5), none, false⟩,
 ⟨54, .mv (.t 1), none, false⟩,
 ⟨55, .ia 9 (.t 52) (.t 53), none, false⟩,
 ⟨56, .fa 3 (.t 55), none, false⟩,
 ⟨57, .fa 2 (.t 56), none, false⟩,
 ⟨1, .so 1 (.t 57) (.t 54), none, true⟩])
 (.seq
 (.reg false [⟨58, .mv (.t 1), none, false⟩,
 ⟨59, .ar .add false (.t 58) (.k (.sc (.int .i64 1))), none, false⟩,
 ⟨1, .mv (.t 59), none, false⟩])
 (.seq
 (.reg false [⟨60, .mv (.t 0), none, false⟩,
 ⟨61, .mv (.t 5), none, false⟩,
 ⟨62, .mv (.t 1), none, false⟩,
 ⟨63, .ia 9 (.t 60) (.t 61), none, false⟩,
 ⟨64, .fa 6 (.t 63), none, false⟩,
 ⟨1, .so 1 (.t 64) (.t 62), none, true⟩])
 (.seq
 (.reg false [⟨65, .mv (.t 1), none, false⟩,
 ⟨66, .ar .add false (.t 65) (.k (.sc (.int .i64 1))), none, false⟩,
 ⟨1, .mv (.t 66), none, false⟩])
 (.seq
 (.reg false [⟨67, .mv (.t 0), none, false⟩,
 ⟨68, .mv (.t 5), none, false⟩,
 ⟨69, .mv (.t 1), none, false⟩,
 ⟨70, .ia 9 (.t 67) (.t 68), none, false⟩,
 ⟨71, .fa 7 (.t 70), none, false⟩,
 ⟨1, .so 1 (.t 71) (.t 69), none, true⟩])
 (.seq
 (.reg false [⟨72, .mv (.t 1), none, false⟩,
 ⟨73, .ar .add false (.t 72) (.k (.sc (.int .i64 1))), none, false⟩,
 ⟨1, .mv (.t 73), none, false⟩])
 (.rgw [⟨74, .mv (.t 0), none, false⟩,
 ⟨75, .mv (.t 5), none, false⟩,
 ⟨76, .ia 9 (.t 74) (.t 75), none, false⟩,
 ⟨77, .fa 8 (.t 76), none, false⟩,
 ⟨78, .ld 1 false (.t 77), none, false⟩,
 ⟨79, .mv (.t 1), none, false⟩,
 ⟨80, .cw 78 [] [(.t 78), (.t 79)], none, false⟩,
 ⟨1, .mv (.t 80), none, false⟩]))))))))))))))))))
 (.reg false [⟨10, .mv (.t 5), none, false⟩,
 ⟨11, .ar .add false (.t 10) (.k (.sc (.int .i64 1))), none, false⟩,
 ⟨5, .mv (.t 11), none, false⟩])))
def b21_1 : IC := w21_1
theorem u21_1 (call : CallF) (st : St) : evC call b21_1 st = evC call w21_1 st := rfl
attribute [simp] u21_1 w21_1
def i21 : Ev.Fn := ⟨2, 82, [.tmp 4],
 (.seq
 (.reg false [⟨4, .mv (.k (.sc (.int .i64 0))), none, false⟩])
 (.seq
 (.seq
 (.reg false [⟨5, .mv (.k (.sc (.int .i64 0))), none, false⟩])
 (.cln [1, 100000] [4, 100000]
 (.block 0
 (.loop [0, 1, 5, 100000] b21_1))))
 (.seq
 (.reg false [⟨81, .mv (.t 1), none, false⟩,
 ⟨4, .mv (.t 81), none, false⟩])
 .ret)))⟩
attribute [simp] i21
set_option maxRecDepth 1000000 in
theorem c21 : cFn Try.prog 21 [[78], [0, 1, 5, 100000], [1, 100000], [4, 100000]] = some i21 := by kernel_rfl
theorem e21 : enterOk Try.prog 21 = true := by kernel_rfl
def w27_1 : IC :=
(.seq
 (.seq
 (.reg false [⟨11, .mv (.t 5), none, false⟩,
 ⟨12, .mv (.t 0), none, false⟩,
 ⟨13, .ln false (.t 12), none, false⟩,
 ⟨14, .ar .lss false (.t 11) (.t 13), none, false⟩])
 (.ite (.t 14)
 .skip
 (.exit 0)))
 (.seq
 (.block 1
 (.seq
 (.reg true [⟨17, .mv (.t 0), none, false⟩,
 ⟨18, .mv (.t 5), none, false⟩,
 ⟨19, .ia 1 (.t 17) (.t 18), none, false⟩,
 ⟨20, .ld 1 false (.t 19), none, false⟩,
 ⟨21, .mv (.t 1), none, false⟩,
 ⟨22, .mv (.t 5), none, false⟩,
 ⟨23, .ia 1 (.t 21) (.t 22), none, false⟩,
 ⟨24, .ld 1 false (.t 23), none, false⟩,
 ⟨25, .ar .neq false (.t 20) (.t 24), none, false⟩])
 (.ite (.t 25)
 (.seq
 (.reg false [⟨4, .mv (.k (.sc (.bool false))), none, false⟩])
 .ret)
 .skip)))
 (.reg false [⟨15, .mv (.t 5), none, false⟩,
 ⟨16, .ar .add false (.t 15) (.k (.sc (.int .i64 1))), none, false⟩,
 ⟨5, .mv (.t 16), none, false⟩])))
def b27_1 : IC := w27_1
theorem u27_1 (call : CallF) (st : St) : evC call b27_1 st = evC call w27_1 st := rfl
attribute [simp] u27_1 w27_1
def i27 : Ev.Fn := ⟨2, 26, [.tmp 4],
 (.seq
 (.reg false [⟨4, .mv (.k (.sc (.bool false))), none, false⟩])
 (.seq
 (.seq
 (.reg false [⟨6, .mv (.t 0), none, false⟩,
 ⟨7, .ln false (.t 6), none, false⟩,
 ⟨8, .mv (.t 1), none, false⟩,
 ⟨9, .ln false (.t 8), none, false⟩,
 ⟨10, .ar .neq false (.t 7) (.t 9), none, false⟩])
 (.ite (.t 10)
 (.seq
 (.reg false [⟨4, .mv (.k (.sc (.bool false))), none, false⟩])
 .ret)
 .skip))
 (.seq
 (.seq
 (.reg false [⟨5, .mv (.k (.sc (.int .i64 0))), none, false⟩])
 (.cln [] [4]
 (.block 0
 (.loop [0, 1, 5] b27_1))))
 (.seq
 (.reg false [⟨4, .mv (.k (.sc (.bool true))), none, false⟩])
 .ret))))⟩
attribute [simp] i27
set_option maxRecDepth 1000000 in
theorem c27 : cFn Try.prog 27 [[], [0, 1, 5], [], [4]] = some i27 := by kernel_rfl
theorem e27 : enterOk Try.prog 27 = true := by kernel_rfl
def w30_1 : IC :=
(.seq
 (.seq
 (.reg false [⟨6, .mv (.t 5), none, false⟩,
 ⟨7, .mv (.t 0), none, false⟩,
 ⟨8, .ln false (.t 7), none, false⟩,
 ⟨9, .ar .lss false (.t 6) (.t 8), none, false⟩])
 (.ite (.t 9)
 .skip
 (.exit 0)))
 (.seq
 (.block 1
 (.seq
 (.reg false [⟨12, .mv (.t 0), none, false⟩,
 ⟨13, .mv (.t 5), none, false⟩,
 ⟨14, .mv (.t 1), none, false⟩,
 ⟨15, .ia 1 (.t 12) (.t 13), none, false⟩,
 ⟨1, .so 1 (.t 15) (.t 14), none, true⟩])
 (.reg false [⟨16, .mv (.t 1), none, false⟩,
 ⟨17, .ar .add false (.t 16) (.k (.sc (.int .i64 1))), none, false⟩,
 ⟨1, .mv (.t 17), none, false⟩])))
 (.reg false [⟨10, .mv (.t 5), none, false⟩,
 ⟨11, .ar .add false (.t 10) (.k (.sc (.int .i64 1))), none, false⟩,
 ⟨5, .mv (.t 11), none, false⟩])))
def b30_1 : IC := w30_1
theorem u30_1 (call : CallF) (st : St) : evC call b30_1 st = evC call w30_1 st := rfl
attribute [simp] u30_1 w30_1
def i30 : Ev.Fn := ⟨2, 19, [.tmp 4],
 (.seq
 (.reg false [⟨4, .mv (.k (.sc (.int .i64 0))), none, false⟩])
 (.seq
 (.seq
 (.reg false [⟨5, .mv (.k (.sc (.int .i64 0))), none, false⟩])
 (.cln [1, 100000] [4, 100000]
 (.block 0
 (.loop [0, 1, 5, 100000] b30_1))))
 (.seq
 (.reg false [⟨18, .mv (.t 1), none, false⟩,
 ⟨4, .mv (.t 18), none, false⟩])
 .ret)))⟩
attribute [simp] i30
set_option maxRecDepth 1000000 in
theorem c30 : cFn Try.prog 30 [[], [0, 1, 5, 100000], [1, 100000], [4, 100000]] = some i30 := by kernel_rfl
theorem e30 : enterOk Try.prog 30 = true := by kernel_rfl
def w31_1 : IC :=
(.seq
 (.seq
 (.reg false [⟨6, .mv (.t 5), none, false⟩,
 ⟨7, .mv (.t 0), none, false⟩,
 ⟨8, .ln false (.t 7), none, false⟩,
 ⟨9, .ar .lss false (.t 6) (.t 8), none, false⟩])
 (.ite (.t 9)
 .skip
 (.exit 0)))
 (.seq
 (.block 1
 (.seq
 (.seq
 (.reg false [⟨12, .mv (.t 0), none, false⟩,
 ⟨13, .mv (.t 5), none, false⟩,
 ⟨14, .ia 1 (.t 12) (.t 13), none, false⟩,
 ⟨15, .ld 1 false (.t 14), none, false⟩,
 ⟨16, .mv (.t 1), none, false⟩,
 ⟨17, .ar .neq false (.t 15) (.t 16), none, false⟩])
 (.ite (.t 17)
 (.seq
 (.reg false [⟨4, .mv (.k (.sc (.int .i64 (-1)))), none, false⟩])
 .ret)
 .skip))
 (.reg false [⟨18, .mv (.t 1), none, false⟩,
 ⟨19, .ar .add false (.t 18) (.k (.sc (.int .i64 1))), none, false⟩,
 ⟨1, .mv (.t 19), none, false⟩])))
 (.reg false [⟨10, .mv (.t 5), none, false⟩,
 ⟨11, .ar .add false (.t 10) (.k (.sc (.int .i64 1))), none, false⟩,
 ⟨5, .mv (.t 11), none, false⟩])))
def b31_1 : IC := w31_1
theorem u31_1 (call : CallF) (st : St) : evC call b31_1 st = evC call w31_1 st := rfl
attribute [simp] u31_1 w31_1
def i31 : Ev.Fn := ⟨2, 21, [.tmp 4],
 (.seq
 (.reg false [⟨4, .mv (.k (.sc (.int .i64 0))), none, false⟩])
 (.seq
 (.seq
 (.reg false [⟨5, .mv (.k (.sc (.int .i64 0))), none, false⟩])
 (.cln [1] [4]
 (.block 0
 (.loop [0, 1, 5] b31_1))))
 (.seq
 (.reg false [⟨20, .mv (.t 1), none, false⟩,
 ⟨4, .mv (.t 20), none, false⟩])
 .ret)))⟩
attribute [simp] i31
set_option maxRecDepth 1000000 in
theorem c31 : cFn Try.prog 31 [[], [0, 1, 5], [1], [4]] = some i31 := by kernel_rfl
theorem e31 : enterOk Try.prog 31 = true := by kernel_rfl
def i45 : Ev.Fn := ⟨2, 17, [.tmp 4, .tmp 5],
 (.seq
 (.reg false [⟨4, .mv (.k .nl), none, false⟩,
 ⟨5, .mv (.k (.sc (.int .i64 0))), none, false⟩])
 (.seq
 (.seq
 (.reg false [⟨7, .mv (.t 0), none, false⟩,
 ⟨8, .ca (.k (.cl 68 [])) [(.t 7)], none, false⟩,
 ⟨9, .nt (.t 8), none, false⟩])
 (.ite (.t 9)
 (.seq
 (.reg false [⟨4, .mv (.k .nl), none, false⟩,
 ⟨5, .mv (.k (.sc (.int .i64 1))), none, false⟩])
 .ret)
 .skip))
 (.seq
 (.reg false [⟨10, .mv (.t 0), none, false⟩,
 ⟨11, .mv (.t 1), none, false⟩,
 ⟨12, .ca (.k (.cl 119 [])) [(.t 10), (.t 11)], none, false⟩,
 ⟨6, .mv (.t 12), none, false⟩])
 (.seq
 (.seq
 (.reg false [⟨13, .mv (.t 6), none, false⟩,
 ⟨14, .ln false (.t 13), none, false⟩,
 ⟨15, .ar .eql false (.t 14) (.k (.sc (.int .i64 0))), none, false⟩])
 (.ite (.t 15)
 (.seq
 (.reg false [⟨4, .mv (.k .nl), none, false⟩,
 ⟨5, .mv (.k (.sc (.int .i64 3))), none, false⟩])
 .ret)
 .skip))
 (.seq
 (.reg false [⟨16, .mv (.t 6), none, false⟩,
 ⟨4, .mv (.t 16), none, false⟩,
 ⟨5, .mv (.k (.sc (.int .i64 0))), none, false⟩])
 .ret)))))⟩
attribute [simp] i45
set_option maxRecDepth 1000000 in
theorem c45 : cFn Try.prog 45 [[]] = some i45 := by kernel_rfl
theorem e45 : enterOk Try.prog 45 = true := by kernel_rfl
def w46_1 : IC :=
(.seq
 (.reg false [⟨16, .ar .lss false (.t 15) (.t 14), none, false⟩])
 (.seq
 (.ite (.t 16)
 .skip
 (.exit 0))
 (.seq
 (.block 1
 (.seq
 (.reg false [⟨17, .mv (.t 15), none, false⟩,
 ⟨18, .ia 9 (.t 13) (.t 15), none, false⟩,
 ⟨19, .ld 9 true (.t 18), none, false⟩,
 ⟨8, .al [(.sc (.string ⟨#[]⟩)), (.sc (.string ⟨#[]⟩)), (.sc (.int .i64 0)), (.sc (.string ⟨#[]⟩)), (.sc (.int .i64 0)), (.sc (.int .i64 0)), (.sc (.int .i64 0)), (.sc (.int .i64 0)), .nl], none, false⟩,
 ⟨7, .mv (.t 17), none, false⟩,
 ⟨1, .so 9 (.t 8) (.t 19), none, true⟩])
 (.seq
 (.reg false [⟨20, .fa 1 (.t 8), none, false⟩,
 ⟨21, .ld 1 false (.t 20), none, false⟩,
 ⟨22, .mv (.t 1), none, false⟩,
 ⟨23, .ar .eql false (.t 21) (.t 22), none, false⟩])
 (.ite (.t 23)
 (.reg false [⟨24, .mv (.t 6), none, false⟩,
 ⟨25, .mv (.t 7), none, false⟩,
 ⟨26, .bs 2 1 [(.sc (.int .i64 0))] 1 [(0, (.t 25))], none, false⟩,
 ⟨27, .ap 2 1 false (.t 24) (.t 26), none, false⟩,
 ⟨6, .mv (.t 27), none, false⟩])
 .skip))))
 (.reg false [⟨28, .ar .add false (.t 15) (.k (.sc (.int .i64 1))), none, false⟩,
 ⟨15, .mv (.t 28), none, false⟩]))))
def b46_1 : IC := w46_1
theorem u46_1 (call : CallF) (st : St) : evC call b46_1 st = evC call w46_1 st := rfl
attribute [simp] u46_1 w46_1
def i46 : Ev.Fn := ⟨2, 36, [.tmp 4, .tmp 5],
 (.seq
 (.reg false [⟨2, .bx (.t 0), none, false⟩,
 ⟨4, .mv (.k .nl), none, false⟩,
 ⟨5, .mv (.k (.sc (.int .i64 0))), none, false⟩])
 (.seq
 (.seq
 (.reg false [⟨9, .ld 1 false (.t 2), none, false⟩,
 ⟨10, .ca (.k (.cl 72 [])) [(.t 9)], none, false⟩,
 ⟨11, .nt (.t 10), none, false⟩])
 (.ite (.t 11)
 (.seq
 (.reg false [⟨4, .mv (.k .nl), none, false⟩,
 ⟨5, .mv (.k (.sc (.int .i64 1))), none, false⟩])
 .ret)
 .skip))
 (.seq
 (.reg false [⟨12, .bs 2 1 [(.sc (.int .i64 0))] 0 [], none, false⟩,
 ⟨6, .mv (.t 12), none, false⟩])
 (.seq
 (.seq
 (.reg false [⟨13, .ld 1 false (.t 2), none, false⟩,
 ⟨14, .ln false (.t 13), none, false⟩,
 ⟨15, .mv (.k (.sc (.int .i64 0))), none, false⟩])
 (.cln [2, 6] [4, 5]
 (.block 0
 (.loop [1, 2, 6, 13, 14, 15] b46_1))))
 (.seq
 (.seq
 (.reg false [⟨29, .mv (.t 6), none, false⟩,
 ⟨30, .ln false (.t 29), none, false⟩,
 ⟨31, .ar .eql false (.t 30) (.k (.sc (.int .i64 0))), none, false⟩])
 (.ite (.t 31)
 (.seq
 (.reg false [⟨4, .mv (.k .nl), none, false⟩,
 ⟨5, .mv (.k (.sc (.int .i64 3))), none, false⟩])
 .ret)
 .skip))
 (.seq
 (.rgw [⟨32, .mv (.t 6), none, false⟩,
 ⟨33, .mf 121 [(.t 2)], none, false⟩,
 ⟨34, .cw 120 [] [(.t 32), (.t 33)], none, false⟩])
 (.seq
 (.reg false [⟨35, .mv (.t 6), none, false⟩,
 ⟨4, .mv (.t 35), none, false⟩,
 ⟨5, .mv (.k (.sc (.int .i64 0))), none, false⟩])
 .ret)))))))⟩
attribute [simp] i46
set_option maxRecDepth 1000000 in
theorem c46 : cFn Try.prog 46 [[120], [1, 2, 6, 13, 14, 15], [2, 6], [4, 5]] = some i46 := by kernel_rfl
theorem e46 : enterOk Try.prog 46 = true := by kernel_rfl
def w61_2 : IC :=
(.seq
 (.seq
 (.reg false [⟨40, .mv (.t 10), none, false⟩,
 ⟨41, .mv (.t 0), none, false⟩,
 ⟨42, .mv (.t 6), none, false⟩,
 ⟨43, .mv (.t 9), none, false⟩,
 ⟨44, .ia 1 (.t 42) (.t 43), none, false⟩,
 ⟨45, .ld 1 false (.t 44), none, false⟩,
 ⟨46, .ia 9 (.t 41) (.t 45), none, false⟩,
 ⟨47, .fa 2 (.t 46), none, false⟩,
 ⟨48, .ld 1 false (.t 47), none, false⟩,
 ⟨49, .ar .lss false (.t 40) (.t 48), none, false⟩])
 (.ite (.t 49)
 .skip
 (.exit 2)))
 (.seq
 (.block 3
 (.reg false [⟨52, .mv (.t 8), none, false⟩,
 ⟨53, .mv (.t 10), none, false⟩,
 ⟨54, .bs 2 1 [(.sc (.int .i64 0))] 1 [(0, (.t 53))], none, false⟩,
 ⟨55, .ap 2 1 false (.t 52) (.t 54), none, false⟩,
 ⟨8, .mv (.t 55), none, false⟩]))
 (.reg false [⟨50, .mv (.t 10), none, false⟩,
 ⟨51, .ar .add false (.t 50) (.k (.sc (.int .i64 1))), none, false⟩,
 ⟨10, .mv (.t 51), none, false⟩])))
def b61_2 : IC := w61_2
theorem u61_2 (call : CallF) (st : St) : evC call b61_2 st = evC call w61_2 st := rfl
attribute [simp] u61_2 w61_2
def w61_1 : IC :=
(.seq
 (.seq
 (.reg false [⟨24, .mv (.t 9), none, false⟩,
 ⟨25, .mv (.t 6), none, false⟩,
 ⟨26, .ln false (.t 25), none, false⟩,
 ⟨27, .ar .lss false (.t 24) (.t 26), none, false⟩])
 (.ite (.t 27)
 .skip
 (.exit 0)))
 (.seq
 (.block 1
 (.seq
 (.reg false [⟨30, .mv (.t 0), none, false⟩,
 ⟨31, .mv (.t 6), none, false⟩,
 ⟨32, .mv (.t 9), none, false⟩,
 ⟨33, .ar .sub false (.t 32) (.k (.sc (.int .i64 1))), none, false⟩,
 ⟨34, .ia 1 (.t 31) (.t 33), none, false⟩,
 ⟨35, .ld 1 false (.t 34), none, false⟩,
 ⟨36, .ia 9 (.t 30) (.t 35), none, false⟩,
 ⟨37, .fa 2 (.t 36), none, false⟩,
 ⟨38, .ld 1 false (.t 37), none, false⟩,
 ⟨39, .ar .add false (.t 38) (.k (.sc (.int .i64 1))), none, false⟩,
 ⟨10, .mv (.t 39), none, false⟩])
 (.cln [0, 6, 8, 9] [4, 5]
 (.block 2
 (.loop [0, 6, 8, 9, 10] b61_2)))))
 (.reg false [⟨28, .mv (.t 9), none, false⟩,
 ⟨29, .ar .add false (.t 28) (.k (.sc (.int .i64 1))), none, false⟩,
 ⟨9, .mv (.t 29), none, false⟩])))
def b61_1 : IC := w61_1
theorem u61_1 (call : CallF) (st : St) : evC call b61_1 st = evC call w61_1 st := rfl
attribute [simp] u61_1 w61_1
def i61 : Ev.Fn := ⟨2, 60, [.tmp 4, .tmp 5],
 (.seq
 (.reg false [⟨4, .mv (.k .nl), none, false⟩,
 ⟨5, .mv (.k (.sc (.int .i64 0))), none, false⟩])
 (.seq
 (.seq
 (.reg false [⟨11, .mv (.t 0), none, false⟩,
 ⟨12, .ca (.k (.cl 88 [])) [(.t 11)], none, false⟩,
 ⟨13, .nt (.t 12), none, false⟩])
 (.ite (.t 13)
 (.seq
 (.reg false [⟨4, .mv (.k .nl), none, false⟩,
 ⟨5, .mv (.k (.sc (.int .i64 1))), none, false⟩])
 .ret)
 .skip))
 (.seq
 (.reg false [⟨15, .mv (.t 0), none, false⟩,
 ⟨16, .mv (.t 1), none, false⟩,
 ⟨17, .ca (.k (.cl 45 [])) [(.t 15), (.t 16)], none, false⟩,
 ⟨14, .mv (.t 17), none, false⟩,
 ⟨18, .xt (.t 14) 0, none, false⟩,
 ⟨19, .xt (.t 14) 1, none, false⟩,
 ⟨6, .mv (.t 18), none, false⟩,
 ⟨7, .mv (.t 19), none, false⟩])
 (.seq
 (.seq
 (.reg false [⟨20, .mv (.t 7), none, false⟩,
 ⟨21, .ar .neq false (.t 20) (.k (.sc (.int .i64 0))), none, false⟩])
 (.ite (.t 21)
 (.seq
 (.reg false [⟨22, .mv (.t 7), none, false⟩,
 ⟨4, .mv (.k .nl), none, false⟩,
 ⟨5, .mv (.t 22), none, false⟩])
 .ret)
 .skip))
 (.seq
 (.reg false [⟨23, .bs 2 1 [(.sc (.int .i64 0))] 0 [], none, false⟩,
 ⟨8, .mv (.t 23), none, false⟩])
 (.seq
 (.seq
 (.reg false [⟨9, .mv (.k (.sc (.int .i64 1))), none, false⟩])
 (.cln [8] [4, 5]
 (.block 0
 (.loop [0, 6, 8, 9] b61_1))))
 (.seq
 (.seq
 (.reg false [⟨56, .mv (.t 8), none, false⟩,
 ⟨57, .ln false (.t 56), none, false⟩,
 ⟨58, .ar .gtr false (.t 57) (.k (.sc (.int .i64 64))), none, false⟩])
 (.ite (.t 58)
 (.seq
 (.reg false [⟨4, .mv (.k .nl), none, false⟩,
 ⟨5, .mv (.k (.sc (.int .i64 5))), none, false⟩])
 .ret)
 .skip))
 (.seq
 (.reg false [⟨59, .mv (.t 8), none, false⟩,
 ⟨4, .mv (.t 59), none, false⟩,
 ⟨5, .mv (.k (.sc (.int .i64 0))), none, false⟩])
 .ret))))))))⟩
attribute [simp] i61
set_option maxRecDepth 1000000 in
theorem c61 : cFn Try.prog 61 [[], [0, 6, 8, 9], [0, 6, 8, 9, 10], [0, 6, 8, 9], [4, 5], [8], [4, 5]] = some i61 := by kernel_rfl
theorem e61 : enterOk Try.prog 61 = true := by kernel_rfl
def w62_2 : IC :=
(.seq
 (.seq
 (.reg false [⟨37, .mv (.t 10), none, false⟩,
 ⟨38, .mv (.t 0), none, false⟩,
 ⟨39, .mv (.t 6), none, false⟩,
 ⟨40, .mv (.t 9), none, false⟩,
 ⟨41, .ia 1 (.t 39) (.t 40), none, false⟩,
 ⟨42, .ld 1 false (.t 41), none, false⟩,
 ⟨43, .ia 9 (.t 38) (.t 42), none, false⟩,
 ⟨44, .fa 2 (.t 43), none, false⟩,
 ⟨45, .ld 1 false (.t 44), none, false⟩,
 ⟨46, .ar .lss false (.t 37) (.t 45), none, false⟩])
 (.ite (.t 46)
 .skip
 (.exit 2)))
 (.seq
 (.block 3
 (.reg false [⟨49, .mv (.t 8), none, false⟩,
 ⟨50, .mv (.t 10), none, false⟩,
 ⟨51, .bs 2 1 [(.sc (.int .i64 0))] 1 [(0, (.t 50))], none, false⟩,
 ⟨52, .ap 2 1 false (.t 49) (.t 51), none, false⟩,
 ⟨8, .mv (.t 52), none, false⟩]))
 (.reg false [⟨47, .mv (.t 10), none, false⟩,
 ⟨48, .ar .add false (.t 47) (.k (.sc (.int .i64 1))), none, false⟩,
 ⟨10, .mv (.t 48), none, false⟩])))
def b62_2 : IC := w62_2
theorem u62_2 (call : CallF) (st : St) : evC call b62_2 st = evC call w62_2 st := rfl
attribute [simp] u62_2 w62_2
def w62_1 : IC :=
(.seq
 (.seq
 (.reg false [⟨21, .mv (.t 9), none, false⟩,
 ⟨22, .mv (.t 6), none, false⟩,
 ⟨23, .ln false (.t 22), none, false⟩,
 ⟨24, .ar .lss false (.t 21) (.t 23), none, false⟩])
 (.ite (.t 24)
 .skip
 (.exit 0)))
 (.seq
 (.block 1
 (.seq
 (.reg false [⟨27, .mv (.t 0), none, false⟩,
 ⟨28, .mv (.t 6), none, false⟩,
 ⟨29, .mv (.t 9), none, false⟩,
 ⟨30, .ar .sub false (.t 29) (.k (.sc (.int .i64 1))), none, false⟩,
 ⟨31, .ia 1 (.t 28) (.t 30), none, false⟩,
 ⟨32, .ld 1 false (.t 31), none, false⟩,
 ⟨33, .ia 9 (.t 27) (.t 32), none, false⟩,
 ⟨34, .fa 2 (.t 33), none, false⟩,
 ⟨35, .ld 1 false (.t 34), none, false⟩,
 ⟨36, .ar .add false (.t 35) (.k (.sc (.int .i64 1))), none, false⟩,
 ⟨10, .mv (.t 36), none, false⟩])
 (.cln [0, 6, 8, 9] [4, 5]
 (.block 2
 (.loop [0, 6, 8, 9, 10] b62_2)))))
 (.reg false [⟨25, .mv (.t 9), none, false⟩,
 ⟨26, .ar .add false (.t 25) (.k (.sc (.int .i64 1))), none, false⟩,
 ⟨9, .mv (.t 26), none, false⟩])))
def b62_1 : IC := w62_1
theorem u62_1 (call : CallF) (st : St) : evC call b62_1 st = evC call w62_1 st := rfl
attribute [simp] u62_1 w62_1
def i62 : Ev.Fn := ⟨2, 57, [.tmp 4, .tmp 5],
 (.seq
 (.reg false [⟨4, .mv (.k .nl), none, false⟩,
 ⟨5, .mv (.k (.sc (.int .i64 0))), none, false⟩])
 (.seq
 (.reg false [⟨12, .mv (.t 0), none, false⟩,
 ⟨13, .mv (.t 1), none, false⟩,
 ⟨14, .ca (.k (.cl 46 [])) [(.t 12), (.t 13)], none, false⟩,
 ⟨11, .mv (.t 14), none, false⟩,
 ⟨15, .xt (.t 11) 0, none, false⟩,
 ⟨16, .xt (.t 11) 1, none, false⟩,
 ⟨6, .mv (.t 15), none, false⟩,
 ⟨7, .mv (.t 16), none, false⟩])
 (.seq
 (.seq
 (.reg false [⟨17, .mv (.t 7), none, false⟩,
 ⟨18, .ar .neq false (.t 17) (.k (.sc (.int .i64 0))), none, false⟩])
 (.ite (.t 18)
 (.seq
 (.reg false [⟨19, .mv (.t 7), none, false⟩,
 ⟨4, .mv (.k .nl), none, false⟩,
 ⟨5, .mv (.t 19), none, false⟩])
 .ret)
 .skip))
 (.seq
 (.reg false [⟨20, .bs 2 1 [(.sc (.int .i64 0))] 0 [], none, false⟩,
 ⟨8, .mv (.t 20), none, false⟩])
 (.seq
 (.seq
 (.reg false [⟨9, .mv (.k (.sc (.int .i64 1))), none, false⟩])
 (.cln [8] [4, 5]
 (.block 0
 (.loop [0, 6, 8, 9] b62_1))))
 (.seq
 (.seq
 (.reg false [⟨53, .mv (.t 8), none, false⟩,
 ⟨54, .ln false (.t 53), none, false⟩,
 ⟨55, .ar .gtr false (.t 54) (.k (.sc (.int .i64 64))), none, false⟩])
 (.ite (.t 55)
 (.seq
 (.reg false [⟨4, .mv (.k .nl), none, false⟩,
 ⟨5, .mv (.k (.sc (.int .i64 5))), none, false⟩])
 .ret)
 .skip))
 (.seq
 (.reg false [⟨56, .mv (.t 8), none, false⟩,
 ⟨4, .mv (.t 56), none, false⟩,
 ⟨5, .mv (.k (.sc (.int .i64 0))), none, false⟩])
 .ret)))))))⟩
attribute [simp] i62
set_option maxRecDepth 1000000 in
theorem c62 : cFn Try.prog 62 [[], [0, 6, 8, 9], [0, 6, 8, 9, 10], [0, 6, 8, 9], [4, 5], [8], [4, 5]] = some i62 := by kernel_rfl
theorem e62 : enterOk Try.prog 62 = true := by kernel_rfl
def i67 : Ev.Fn := ⟨2, 32, [.tmp 4],
 (.seq
 (.reg false [⟨2, .bx (.t 0), none, false⟩,
 ⟨4, .mv (.k (.sc (.int .i64 0))), none, false⟩])
 (.seq
 (.reg false [⟨5, .mv (.t 1), none, false⟩,
 ⟨6, .fa 0 (.t 2), none, false⟩,
 ⟨7, .ld 1 false (.t 6), none, false⟩,
 ⟨8, .ln true (.t 7), none, false⟩,
 ⟨9, .ar .sub false (.t 5) (.t 8), none, false⟩,
 ⟨1, .mv (.t 9), none, false⟩])
 (.seq
 (.seq
 (.reg false [⟨10, .mv (.t 1), none, false⟩,
 ⟨11, .ar .lss false (.t 10) (.k (.sc (.int .i64 0))), none, false⟩])
 (.ite (.t 11)
 (.seq
 (.reg false [⟨4, .mv (.k (.sc (.int .i64 (-1)))), none, false⟩])
 .ret)
 .skip))
 (.seq
 (.reg false [⟨12, .mv (.t 1), none, false⟩,
 ⟨13, .fa 1 (.t 2), none, false⟩,
 ⟨14, .ld 1 false (.t 13), none, false⟩,
 ⟨15, .ln true (.t 14), none, false⟩,
 ⟨16, .ar .sub false (.t 12) (.t 15), none, false⟩,
 ⟨1, .mv (.t 16), none, false⟩])
 (.seq
 (.seq
 (.reg false [⟨17, .mv (.t 1), none, false⟩,
 ⟨18, .ar .lss false (.t 17) (.k (.sc (.int .i64 0))), none, false⟩])
 (.ite (.t 18)
 (.seq
 (.reg false [⟨4, .mv (.k (.sc (.int .i64 (-1)))), none, false⟩])
 .ret)
 .skip))
 (.seq
 (.reg false [⟨19, .fa 3 (.t 2), none, false⟩,
 ⟨20, .ld 3 true (.t 19), none, false⟩,
 ⟨21, .mv (.t 1), none, false⟩,
 ⟨22, .ca (.k (.cl 141 [])) [(.t 20), (.t 21)], none, false⟩,
 ⟨1, .mv (.t 22), none, false⟩])
 (.seq
 (.seq
 (.reg false [⟨23, .mv (.t 1), none, false⟩,
 ⟨24, .ar .lss false (.t 23) (.k (.sc (.int .i64 0))), none, false⟩])
 (.ite (.t 24)
 (.seq
 (.reg false [⟨4, .mv (.k (.sc (.int .i64 (-1)))), none, false⟩])
 .ret)
 .skip))
 (.seq
 (.reg false [⟨25, .fa 8 (.t 2), none, false⟩,
 ⟨26, .ld 1 false (.t 25), none, false⟩,
 ⟨27, .mv (.t 1), none, false⟩,
 ⟨28, .ca (.k (.cl 142 [])) [(.t 26), (.t 27)], none, false⟩,
 ⟨1, .mv (.t 28), none, false⟩])
 (.seq
 (.seq
 (.reg false [⟨29, .mv (.t 1), none, false⟩,
 ⟨30, .ar .lss false (.t 29) (.k (.sc (.int .i64 0))), none, false⟩])
 (.ite (.t 30)
 (.seq
 (.reg false [⟨4, .mv (.k (.sc (.int .i64 (-1)))), none, false⟩])
 .ret)
 .skip))
 (.seq
 (.reg false [⟨31, .mv (.t 1), none, false⟩,
 ⟨4, .mv (.t 31), none, false⟩])
 .ret))))))))))⟩
attribute [simp] i67
set_option maxRecDepth 1000000 in
theorem c67 : cFn Try.prog 67 [[]] = some i67 := by kernel_rfl
theorem e67 : enterOk Try.prog 67 = true := by kernel_rfl
def w68_1 : IC :=
(.seq
 (.seq
 (.reg false [⟨4, .mv (.t 3), none, false⟩,
 ⟨5, .mv (.t 0), none, false⟩,
 ⟨6, .ln false (.t 5), none, false⟩,
 ⟨7, .ar .lss false (.t 4) (.t 6), none, false⟩])
 (.ite (.t 7)
 .skip
 (.exit 0)))
 (.seq
 (.block 1
 (.seq
 (.reg true [⟨10, .mv (.t 0), none, false⟩,
 ⟨11, .mv (.t 3), none, false⟩,
 ⟨12, .ia 9 (.t 10) (.t 11), none, false⟩,
 ⟨13, .ca (.k (.cl 143 [])) [(.t 12)], none, false⟩,
 ⟨14, .nt (.t 13), none, false⟩,
 ⟨15, .mv (.t 14), none, false⟩,
 ⟨16, .mv (.t 3), (some (15, false)), false⟩,
 ⟨17, .ar .gtr false (.t 16) (.k (.sc (.int .i64 0))), (some (15, false)), false⟩,
 ⟨18, .mv (.t 17), (some (15, false)), false⟩,
 ⟨19, .mv (.t 0), (some (18, true)), false⟩,
 ⟨20, .mv (.t 3), (some (18, true)), false⟩,
 ⟨21, .ar .sub false (.t 20) (.k (.sc (.int .i64 1))), (some (18, true)), false⟩,
 ⟨22, .ia 9 (.t 19) (.t 21), (some (18, true)), false⟩,
 ⟨23, .fa 0 (.t 22), (some (18, true)), false⟩,
 ⟨24, .ld 1 false (.t 23), (some (18, true)), false⟩,
 ⟨25, .mv (.t 0), (some (18, true)), false⟩,
 ⟨26, .mv (.t 3), (some (18, true)), false⟩,
 ⟨27, .ia 9 (.t 25) (.t 26), (some (18, true)), false⟩,
 ⟨28, .fa 0 (.t 27), (some (18, true)), false⟩,
 ⟨29, .ld 1 false (.t 28), (some (18, true)), false⟩,
 ⟨30, .ar .geq false (.t 24) (.t 29), (some (18, true)), false⟩,
 ⟨31, .pk (.t 18) (.t 30) (.k (.sc (.bool false))), (some (15, false)), false⟩,
 ⟨32, .pk (.t 15) (.k (.sc (.bool true))) (.t 31), none, false⟩])
 (.ite (.t 32)
 (.seq
 (.reg false [⟨2, .mv (.k (.sc (.bool false))), none, false⟩])
 .ret)
 .skip)))
 (.reg false [⟨8, .mv (.t 3), none, false⟩,
 ⟨9, .ar .add false (.t 8) (.k (.sc (.int .i64 1))), none, false⟩,
 ⟨3, .mv (.t 9), none, false⟩])))
def b68_1 : IC := w68_1
theorem u68_1 (call : CallF) (st : St) : evC call b68_1 st = evC call w68_1 st := rfl
attribute [simp] u68_1 w68_1
def i68 : Ev.Fn := ⟨1, 36, [.tmp 2],
 (.seq
 (.reg false [⟨2, .mv (.k (.sc (.bool false))), none, false⟩])
 (.seq
 (.seq
 (.reg false [⟨3, .mv (.k (.sc (.int .i64 0))), none, false⟩])
 (.cln [0] [2]
 (.block 0
 (.loop [0, 3] b68_1))))
 (.seq
 (.reg false [⟨33, .mv (.t 0), none, false⟩,
 ⟨34, .ln false (.t 33), none, false⟩,
 ⟨35, .ar .leq false (.t 34) (.k (.sc (.int .i64 16))), none, false⟩,
 ⟨2, .mv (.t 35), none, false⟩])
 .ret)))⟩
attribute [simp] i68
set_option maxRecDepth 1000000 in
theorem c68 : cFn Try.prog 68 [[], [0, 3], [0], [2]] = some i68 := by kernel_rfl
theorem e68 : enterOk Try.prog 68 = true := by kernel_rfl
def i71 : Ev.Fn := ⟨1, 28, [.cell 2 9 true],
 (.seq
 (.reg false [⟨1, .bx (.t 0), none, false⟩,
 ⟨2, .al [(.sc (.string ⟨#[]⟩)), (.sc (.string ⟨#[]⟩)), (.sc (.int .i64 0)), (.sc (.string ⟨#[]⟩)), (.sc (.int .i64 0)), (.sc (.int .i64 0)), (.sc (.int .i64 0)), (.sc (.int .i64 0)), .nl], none, false⟩])
 (.seq
 (.reg false [⟨3, .al [(.sc (.string ⟨#[]⟩)), (.sc (.string ⟨#[]⟩)), (.sc (.int .i64 0)), (.sc (.string ⟨#[]⟩)), (.sc (.int .i64 0)), (.sc (.int .i64 0)), (.sc (.int .i64 0)), (.sc (.int .i64 0)), .nl], none, false⟩])
 (.seq
 (.reg false [⟨4, .fa 0 (.t 1), none, false⟩,
 ⟨5, .ld 1 false (.t 4), none, false⟩,
 ⟨6, .fa 0 (.t 3), none, false⟩,
 ⟨1, .so 1 (.t 6) (.t 5), none, true⟩])
 (.seq
 (.reg false [⟨7, .fa 1 (.t 1), none, false⟩,
 ⟨8, .ld 1 false (.t 7), none, false⟩,
 ⟨9, .fa 1 (.t 3), none, false⟩,
 ⟨1, .so 1 (.t 9) (.t 8), none, true⟩])
 (.seq
 (.reg false [⟨10, .fa 2 (.t 1), none, false⟩,
 ⟨11, .ld 1 false (.t 10), none, false⟩,
 ⟨12, .fa 2 (.t 3), none, false⟩,
 ⟨1, .so 1 (.t 12) (.t 11), none, true⟩])
 (.seq
 (.reg false [⟨13, .fa 3 (.t 1), none, false⟩,
 ⟨14, .ld 3 true (.t 13), none, false⟩,
 ⟨15, .ca (.k (.cl 145 [])) [(.t 14)], none, false⟩,
 ⟨16, .fa 3 (.t 3), none, false⟩,
 ⟨1, .so 3 (.t 16) (.t 15), none, true⟩])
 (.seq
 (.reg false [⟨17, .fa 6 (.t 1), none, false⟩,
 ⟨18, .ld 1 false (.t 17), none, false⟩,
 ⟨19, .fa 6 (.t 3), none, false⟩,
 ⟨1, .so 1 (.t 19) (.t 18), none, true⟩])
 (.seq
 (.reg false [⟨20, .fa 7 (.t 1), none, false⟩,
 ⟨21, .ld 1 false (.t 20), none, false⟩,
 ⟨22, .fa 7 (.t 3), none, false⟩,
 ⟨1, .so 1 (.t 22) (.t 21), none, true⟩])
 (.seq
 (.reg false [⟨23, .fa 8 (.t 1), none, false⟩,
 ⟨24, .ld 1 false (.t 23), none, false⟩,
 ⟨25, .ca (.k (.cl 146 [])) [(.t 24)], none, false⟩,
 ⟨26, .fa 8 (.t 3), none, false⟩,
 ⟨1, .so 1 (.t 26) (.t 25), none, true⟩])
 (.seq
 (.reg false [⟨27, .ld 9 true (.t 3), none, false⟩,
 ⟨1, .so 9 (.t 2) (.t 27), none, true⟩])
 .ret))))))))))⟩
attribute [simp] i71
set_option maxRecDepth 1000000 in
theorem c71 : cFn Try.prog 71 [[]] = some i71 := by kernel_rfl
theorem e71 : enterOk Try.prog 71 = true := by kernel_rfl
def w72_1 : IC :=
(.seq
 (.reg false [⟨8, .ar .lss false (.t 7) (.t 6), none, false⟩])
 (.seq
 (.ite (.t 8)
 .skip
 (.exit 0))
 (.seq
 (.block 1
 (.seq
 (.reg false [⟨9, .mv (.t 7), none, false⟩,
 ⟨10, .ia 9 (.t 5) (.t 7), none, false⟩,
 ⟨11, .ld 9 true (.t 10), none, false⟩,
 ⟨4, .al [(.sc (.string ⟨#[]⟩)), (.sc (.string ⟨#[]⟩)), (.sc (.int .i64 0)), (.sc (.string ⟨#[]⟩)), (.sc (.int .i64 0)), (.sc (.int .i64 0)), (.sc (.int .i64 0)), (.sc (.int .i64 0)), .nl], none, false⟩,
 ⟨3, .mv (.t 9), none, false⟩,
 ⟨1, .so 9 (.t 4) (.t 11), none, true⟩])
 (.seq
 (.reg true [⟨12, .ld 9 true (.t 4), none, false⟩,
 ⟨13, .ca (.k (.cl 147 [])) [(.t 12)], none, false⟩,
 ⟨14, .nt (.t 13), none, false⟩,
 ⟨15, .mv (.t 14), none, false⟩,
 ⟨16, .mv (.t 3), (some (15, false)), false⟩,
 ⟨17, .ar .gtr false (.t 16) (.k (.sc (.int .i64 0))), (some (15, false)), false⟩,
 ⟨18, .mv (.t 17), (some (15, false)), false⟩,
 ⟨19, .mv (.t 0), (some (18, true)), false⟩,
 ⟨20, .mv (.t 3), (some (18, true)), false⟩,
 ⟨21, .ar .sub false (.t 20) (.k (.sc (.int .i64 1))), (some (18, true)), false⟩,
 ⟨22, .ia 9 (.t 19) (.t 21), (some (18, true)), false⟩,
 ⟨23, .fa 0 (.t 22), (some (18, true)), false⟩,
 ⟨24, .ld 1 false (.t 23), (some (18, true)), false⟩,
 ⟨25, .fa 0 (.t 4), (some (18, true)), false⟩,
 ⟨26, .ld 1 false (.t 25), (some (18, true)), false⟩,
 ⟨27, .ar .geq false (.t 24) (.t 26), (some (18, true)), false⟩,
 ⟨28, .pk (.t 18) (.t 27) (.k (.sc (.bool false))), (some (15, false)), false⟩,
 ⟨29, .pk (.t 15) (.k (.sc (.bool true))) (.t 28), none, false⟩])
 (.ite (.t 29)
 (.seq
 (.reg false [⟨2, .mv (.k (.sc (.bool false))), none, false⟩])
 .ret)
 .skip))))
 (.reg false [⟨30, .ar .add false (.t 7) (.k (.sc (.int .i64 1))), none, false⟩,
 ⟨7, .mv (.t 30), none, false⟩]))))
def b72_1 : IC := w72_1
theorem u72_1 (call : CallF) (st : St) : evC call b72_1 st = evC call w72_1 st := rfl
attribute [simp] u72_1 w72_1
def i72 : Ev.Fn := ⟨1, 34, [.tmp 2],
 (.seq
 (.reg false [⟨2, .mv (.k (.sc (.bool false))), none, false⟩])
 (.seq
 (.seq
 (.reg false [⟨5, .mv (.t 0), none, false⟩,
 ⟨6, .ln false (.t 5), none, false⟩,
 ⟨7, .mv (.k (.sc (.int .i64 0))), none, false⟩])
 (.cln [0] [2]
 (.block 0
 (.loop [0, 5, 6, 7] b72_1))))
 (.seq
 (.reg false [⟨31, .mv (.t 0), none, false⟩,
 ⟨32, .ln false (.t 31), none, false⟩,
 ⟨33, .ar .leq false (.t 32) (.k (.sc (.int .i64 16))), none, false⟩,
 ⟨2, .mv (.t 33), none, false⟩])
 .ret)))⟩
attribute [simp] i72
set_option maxRecDepth 1000000 in
theorem c72 : cFn Try.prog 72 [[], [0, 5, 6, 7], [0], [2]] = some i72 := by kernel_rfl
theorem e72 : enterOk Try.prog 72 = true := by kernel_rfl
def i76 : Ev.Fn := ⟨2, 42, [.tmp 4],
 (.seq
 (.reg false [⟨2, .bx (.t 0), none, false⟩,
 ⟨3, .bx (.t 1), none, false⟩,
 ⟨4, .mv (.k (.sc (.bool false))), none, false⟩])
 (.seq
 (.seq
 (.reg false [⟨5, .fa 0 (.t 2), none, false⟩,
 ⟨6, .ld 1 false (.t 5), none, false⟩,
 ⟨7, .fa 0 (.t 3), none, false⟩,
 ⟨8, .ld 1 false (.t 7), none, false⟩,
 ⟨9, .ar .neq false (.t 6) (.t 8), none, false⟩])
 (.ite (.t 9)
 (.seq
 (.reg false [⟨4, .mv (.k (.sc (.bool false))), none, false⟩])
 .ret)
 .skip))
 (.seq
 (.seq
 (.reg false [⟨10, .fa 1 (.t 2), none, false⟩,
 ⟨11, .ld 1 false (.t 10), none, false⟩,
 ⟨12, .fa 1 (.t 3), none, false⟩,
 ⟨13, .ld 1 false (.t 12), none, false⟩,
 ⟨14, .ar .neq false (.t 11) (.t 13), none, false⟩])
 (.ite (.t 14)
 (.seq
 (.reg false [⟨4, .mv (.k (.sc (.bool false))), none, false⟩])
 .ret)
 .skip))
 (.seq
 (.seq
 (.reg false [⟨15, .fa 2 (.t 2), none, false⟩,
 ⟨16, .ld 1 false (.t 15), none, false⟩,
 ⟨17, .fa 2 (.t 3), none, false⟩,
 ⟨18, .ld 1 false (.t 17), none, false⟩,
 ⟨19, .ar .neq false (.t 16) (.t 18), none, false⟩])
 (.ite (.t 19)
 (.seq
 (.reg false [⟨4, .mv (.k (.sc (.bool false))), none, false⟩])
 .ret)
 .skip))
 (.seq
 (.seq
 (.reg false [⟨20, .fa 3 (.t 2), none, false⟩,
 ⟨21, .ld 3 true (.t 20), none, false⟩,
 ⟨22, .fa 3 (.t 3), none, false⟩,
 ⟨23, .ld 3 true (.t 22), none, false⟩,
 ⟨24, .ca (.k (.cl 152 [])) [(.t 21), (.t 23)], none, false⟩,
 ⟨25, .nt (.t 24), none, false⟩])
 (.ite (.t 25)
 (.seq
 (.reg false [⟨4, .mv (.k (.sc (.bool false))), none, false⟩])
 .ret)
 .skip))
 (.seq
 (.seq
 (.reg false [⟨26, .fa 6 (.t 2), none, false⟩,
 ⟨27, .ld 1 false (.t 26), none, false⟩,
 ⟨28, .fa 6 (.t 3), none, false⟩,
 ⟨29, .ld 1 false (.t 28), none, false⟩,
 ⟨30, .ar .neq false (.t 27) (.t 29), none, false⟩])
 (.ite (.t 30)
 (.seq
 (.reg false [⟨4, .mv (.k (.sc (.bool false))), none, false⟩])
 .ret)
 .skip))
 (.seq
 (.seq
 (.reg false [⟨31, .fa 7 (.t 2), none, false⟩,
 ⟨32, .ld 1 false (.t 31), none, false⟩,
 ⟨33, .fa 7 (.t 3), none, false⟩,
 ⟨34, .ld 1 false (.t 33), none, false⟩,
 ⟨35, .ar .neq false (.t 32) (.t 34), none, false⟩])
 (.ite (.t 35)
 (.seq
 (.reg false [⟨4, .mv (.k (.sc (.bool false))), none, false⟩])
 .ret)
 .skip))
 (.seq
 (.seq
 (.reg false [⟨36, .fa 8 (.t 2), none, false⟩,
 ⟨37, .ld 1 false (.t 36), none, false⟩,
 ⟨38, .fa 8 (.t 3), none, false⟩,
 ⟨39, .ld 1 false (.t 38), none, false⟩,
 ⟨40, .ca (.k (.cl 153 [])) [(.t 37), (.t 39)], none, false⟩,
 ⟨41, .nt (.t 40), none, false⟩])
 (.ite (.t 41)
 (.seq
 (.reg false [⟨4, .mv (.k (.sc (.bool false))), none, false⟩])
 .ret)
 .skip))
 (.seq
 (.reg false [⟨4, .mv (.k (.sc (.bool true))), none, false⟩])
 .ret)))))))))⟩
attribute [simp] i76
set_option maxRecDepth 1000000 in
theorem c76 : cFn Try.prog 76 [[]] = some i76 := by kernel_rfl
theorem e76 : enterOk Try.prog 76 = true := by kernel_rfl
def w77_1 : IC :=
(.seq
 (.seq
 (.reg false [⟨6, .mv (.t 0), none, false⟩,
 ⟨7, .ar .gtr false (.t 6) (.k (.sc (.int .i64 0))), none, false⟩])
 (.ite (.t 7)
 .skip
 (.exit 0)))
 (.block 1
 (.seq
 (.reg false [⟨8, .mv (.t 0), none, false⟩,
 ⟨9, .ar .rem false (.t 8) (.k (.sc (.int .i64 10))), none, false⟩,
 ⟨10, .ar .add false (.k (.sc (.int .i64 48))) (.t 9), none, false⟩,
 ⟨11, .cv .u8 (.t 10), none, false⟩,
 ⟨12, .bs 5 1 [(.sc (.int .u8 0))] 1 [(0, (.t 11))], none, false⟩,
 ⟨13, .by (.t 12), none, false⟩,
 ⟨14, .mv (.t 3), none, false⟩,
 ⟨15, .ar .add false (.t 13) (.t 14), none, false⟩,
 ⟨3, .mv (.t 15), none, false⟩])
 (.reg false [⟨16, .mv (.t 0), none, false⟩,
 ⟨17, .ar .quo false (.t 16) (.k (.sc (.int .i64 10))), none, false⟩,
 ⟨0, .mv (.t 17), none, false⟩]))))
def b77_1 : IC := w77_1
theorem u77_1 (call : CallF) (st : St) : evC call b77_1 st = evC call w77_1 st := rfl
attribute [simp] u77_1 w77_1
def i77 : Ev.Fn := ⟨1, 20, [.tmp 2],
 (.seq
 (.reg false [⟨2, .mv (.k (.sc (.string ⟨#[]⟩))), none, false⟩])
 (.seq
 (.seq
 (.reg false [⟨4, .mv (.t 0), none, false⟩,
 ⟨5, .ar .leq false (.t 4) (.k (.sc (.int .i64 0))), none, false⟩])
 (.ite (.t 5)
 (.seq
 (.reg false [⟨2, .mv (.k (.sc (.string ⟨#[109, 48]⟩))), none, false⟩])
 .ret)
 .skip))
 (.seq
 (.reg false [⟨3, .mv (.k (.sc (.string ⟨#[]⟩))), none, false⟩])
 (.seq
 (.cln [3] [2]
 (.block 0
 (.loop [0, 3] b77_1)))
 (.seq
 (.reg false [⟨18, .mv (.t 3), none, false⟩,
 ⟨19, .ar .add false (.k (.sc (.string ⟨#[109]⟩))) (.t 18), none, false⟩,
 ⟨2, .mv (.t 19), none, false⟩])
 .ret)))))⟩
attribute [simp] i77
set_option maxRecDepth 1000000 in
theorem c77 : cFn Try.prog 77 [[], [0, 3], [3], [2]] = some i77 := by kernel_rfl
theorem e77 : enterOk Try.prog 77 = true := by kernel_rfl
def w78_1 : IC :=
(.seq
 (.seq
 (.reg false [⟨6, .mv (.t 5), none, false⟩,
 ⟨7, .mv (.t 0), none, false⟩,
 ⟨8, .ln false (.t 7), none, false⟩,
 ⟨9, .ar .lss false (.t 6) (.t 8), none, false⟩])
 (.ite (.t 9)
 .skip
 (.exit 0)))
 (.seq
 (.block 1
 (.seq
 (.reg false [⟨12, .mv (.t 0), none, false⟩,
 ⟨13, .mv (.t 5), none, false⟩,
 ⟨14, .mv (.t 1), none, false⟩,
 ⟨15, .ia 4 (.t 12) (.t 13), none, false⟩,
 ⟨16, .fa 0 (.t 15), none, false⟩,
 ⟨1, .so 1 (.t 16) (.t 14), none, true⟩])
 (.seq
 (.reg false [⟨17, .mv (.t 1), none, false⟩,
 ⟨18, .ar .add false (.t 17) (.k (.sc (.int .i64 1))), none, false⟩,
 ⟨1, .mv (.t 18), none, false⟩])
 (.seq
 (.reg false [⟨19, .mv (.t 0), none, false⟩,
 ⟨20, .mv (.t 5), none, false⟩,
 ⟨21, .mv (.t 1), none, false⟩,
 ⟨22, .ia 4 (.t 19) (.t 20), none, false⟩,
 ⟨23, .fa 1 (.t 22), none, false⟩,
 ⟨1, .so 1 (.t 23) (.t 21), none, true⟩])
 (.seq
 (.reg false [⟨24, .mv (.t 1), none, false⟩,
 ⟨25, .ar .add false (.t 24) (.k (.sc (.int .i64 1))), none, false⟩,
 ⟨1, .mv (.t 25), none, false⟩])
 (.seq
 (.reg false [⟨26, .mv (.t 0), none, false⟩,
 ⟨27, .mv (.t 5), none, false⟩,
 ⟨28, .mv (.t 1), none, false⟩,
 ⟨29, .ia 4 (.t 26) (.t 27), none, false⟩,
 ⟨30, .fa 2 (.t 29), none, false⟩,
 ⟨1, .so 1 (.t 30) (.t 28), none, true⟩])
 (.seq
 (.reg false [⟨31, .mv (.t 1), none, false⟩,
 ⟨32, .ar .add false (.t 31) (.k (.sc (.int .i64 1))), none, false⟩,
 ⟨1, .mv (.t 32), none, false⟩])
 (.seq
 (.reg false [⟨33, .mv (.t 0), none, false⟩,
 ⟨34, .mv (.t 5), none, false⟩,
 ⟨35, .mv (.t 1), none, false⟩,
 ⟨36, .ia 4 (.t 33) (.t 34), none, false⟩,
 ⟨37, .fa 3 (.t 36), none, false⟩,
 ⟨1, .so 1 (.t 37) (.t 35), none, true⟩])
 (.reg false [⟨38, .mv (.t 1), none, false⟩,
 ⟨39, .ar .add false (.t 38) (.k (.sc (.int .i64 1))), none, false⟩,
 ⟨1, .mv (.t 39), none, false⟩])))))))))
 (.reg false [⟨10, .mv (.t 5), none, false⟩,
 ⟨11, .ar .add false (.t 10) (.k (.sc (.int .i64 1))), none, false⟩,
 ⟨5, .mv (.t 11), none, false⟩])))
def b78_1 : IC := w78_1
theorem u78_1 (call : CallF) (st : St) : evC call b78_1 st = evC call w78_1 st := rfl
attribute [simp] u78_1 w78_1
def i78 : Ev.Fn := ⟨2, 41, [.tmp 4],
 (.seq
 (.reg false [⟨4, .mv (.k (.sc (.int .i64 0))), none, false⟩])
 (.seq
 (.seq
 (.reg false [⟨5, .mv (.k (.sc (.int .i64 0))), none, false⟩])
 (.cln [1, 100000] [4, 100000]
 (.block 0
 (.loop [0, 1, 5, 100000] b78_1))))
 (.seq
 (.reg false [⟨40, .mv (.t 1), none, false⟩,
 ⟨4, .mv (.t 40), none, false⟩])
 .ret)))⟩
attribute [simp] i78
set_option maxRecDepth 1000000 in
theorem c78 : cFn Try.prog 78 [[], [0, 1, 5, 100000], [1, 100000], [4, 100000]] = some i78 := by kernel_rfl
theorem e78 : enterOk Try.prog 78 = true := by kernel_rfl
def i88 : Ev.Fn := ⟨1, 5, [.tmp 2],
 (.seq
 (.reg false [⟨2, .mv (.k (.sc (.bool false))), none, false⟩])
 (.seq
 (.reg false [⟨3, .mv (.t 0), none, false⟩,
 ⟨4, .ca (.k (.cl 68 [])) [(.t 3)], none, false⟩,
 ⟨2, .mv (.t 4), none, false⟩])
 .ret))⟩
attribute [simp] i88
set_option maxRecDepth 1000000 in
theorem c88 : cFn Try.prog 88 [[]] = some i88 := by kernel_rfl
theorem e88 : enterOk Try.prog 88 = true := by kernel_rfl
def i97 : Ev.Fn := ⟨3, 15, [.tmp 6],
 (.seq
 (.reg false [⟨6, .mv (.k (.sc (.bool false))), none, false⟩])
 (.seq
 (.reg false [⟨7, .mv (.t 0), none, false⟩,
 ⟨8, .mv (.t 1), none, false⟩,
 ⟨9, .ar .geq false (.t 7) (.t 8), none, false⟩,
 ⟨10, .mv (.t 9), none, false⟩,
 ⟨11, .mv (.t 0), (some (10, true)), false⟩,
 ⟨12, .mv (.t 2), (some (10, true)), false⟩,
 ⟨13, .ar .leq false (.t 11) (.t 12), (some (10, true)), false⟩,
 ⟨14, .pk (.t 10) (.t 13) (.k (.sc (.bool false))), none, false⟩,
 ⟨6, .mv (.t 14), none, false⟩])
 .ret))⟩
attribute [simp] i97
set_option maxRecDepth 1000000 in
theorem c97 : cFn Try.prog 97 [[]] = some i97 := by kernel_rfl
theorem e97 : enterOk Try.prog 97 = true := by kernel_rfl
def i105 : Ev.Fn := ⟨3, 15, [.tmp 6],
 (.seq
 (.reg false [⟨6, .mv (.k (.sc (.bool false))), none, false⟩])
 (.seq
 (.reg false [⟨7, .mv (.t 0), none, false⟩,
 ⟨8, .mv (.t 1), none, false⟩,
 ⟨9, .ar .geq false (.t 7) (.t 8), none, false⟩,
 ⟨10, .mv (.t 9), none, false⟩,
 ⟨11, .mv (.t 0), (some (10, true)), false⟩,
 ⟨12, .mv (.t 2), (some (10, true)), false⟩,
 ⟨13, .ar .leq false (.t 11) (.t 12), (some (10, true)), false⟩,
 ⟨14, .pk (.t 10) (.t 13) (.k (.sc (.bool false))), none, false⟩,
 ⟨6, .mv (.t 14), none, false⟩])
 .ret))⟩
attribute [simp] i105
set_option maxRecDepth 1000000 in
theorem c105 : cFn Try.prog 105 [[]] = some i105 := by kernel_rfl
theorem e105 : enterOk Try.prog 105 = true := by kernel_rfl
def w119_2 : IC :=
(.seq
 (.seq
 (.reg true [⟨25, .mv (.t 7), none, false⟩,
 ⟨26, .ar .gtr false (.t 25) (.k (.sc (.int .i64 0))), none, false⟩,
 ⟨27, .mv (.t 26), none, false⟩,
 ⟨28, .mv (.t 0), (some (27, true)), false⟩,
 ⟨29, .mv (.t 5), (some (27, true)), false⟩,
 ⟨30, .mv (.t 7), (some (27, true)), false⟩,
 ⟨31, .ar .sub false (.t 30) (.k (.sc (.int .i64 1))), (some (27, true)), false⟩,
 ⟨32, .ia 1 (.t 29) (.t 31), (some (27, true)), false⟩,
 ⟨33, .ld 1 false (.t 32), (some (27, true)), false⟩,
 ⟨34, .ia 9 (.t 28) (.t 33), (some (27, true)), false⟩,
 ⟨35, .fa 2 (.t 34), (some (27, true)), false⟩,
 ⟨36, .ld 1 false (.t 35), (some (27, true)), false⟩,
 ⟨37, .mv (.t 0), (some (27, true)), false⟩,
 ⟨38, .mv (.t 6), (some (27, true)), false⟩,
 ⟨39, .ia 9 (.t 37) (.t 38), (some (27, true)), false⟩,
 ⟨40, .fa 2 (.t 39), (some (27, true)), false⟩,
 ⟨41, .ld 1 false (.t 40), (some (27, true)), false⟩,
 ⟨42, .ar .gtr false (.t 36) (.t 41), (some (27, true)), false⟩,
 ⟨43, .pk (.t 27) (.t 42) (.k (.sc (.bool false))), none, false⟩])
 (.ite (.t 43)
 .skip
 (.exit 2)))
 (.block 3
 (.reg false [⟨44, .mv (.t 7), none, false⟩,
 ⟨45, .ar .sub false (.t 44) (.k (.sc (.int .i64 1))), none, false⟩,
 ⟨7, .mv (.t 45), none, false⟩])))
def b119_2 : IC := w119_2
theorem u119_2 (call : CallF) (st : St) : evC call b119_2 st = evC call w119_2 st := rfl
attribute [simp] u119_2 w119_2
def w119_1 : IC :=
(.seq
 (.seq
 (.reg false [⟨10, .mv (.t 6), none, false⟩,
 ⟨11, .mv (.t 0), none, false⟩,
 ⟨12, .ln false (.t 11), none, false⟩,
 ⟨13, .ar .lss false (.t 10) (.t 12), none, false⟩])
 (.ite (.t 13)
 .skip
 (.exit 0)))
 (.seq
 (.block 1
 (.seq
 (.seq
 (.reg false [⟨16, .mv (.t 0), none, false⟩,
 ⟨17, .mv (.t 6), none, false⟩,
 ⟨18, .ia 9 (.t 16) (.t 17), none, false⟩,
 ⟨19, .fa 1 (.t 18), none, false⟩,
 ⟨20, .ld 1 false (.t 19), none, false⟩,
 ⟨21, .mv (.t 1), none, false⟩,
 ⟨22, .ar .neq false (.t 20) (.t 21), none, false⟩])
 (.ite (.t 22)
 (.exit 1)
 .skip))
 (.seq
 (.reg false [⟨23, .mv (.t 5), none, false⟩,
 ⟨24, .ln false (.t 23), none, false⟩,
 ⟨7, .mv (.t 24), none, false⟩])
 (.seq
 (.cln [0, 1, 5, 6, 7] [4]
 (.block 2
 (.loop [0, 1, 5, 6, 7] b119_2)))
 (.seq
 (.reg false [⟨46, .mv (.t 5), none, false⟩,
 ⟨47, .mv (.t 7), none, false⟩,
 ⟨48, .sl 1 (.t 46) none (some (.t 47)), none, false⟩,
 ⟨49, .ca (.k (.cl 188 [])) [(.t 48)], none, false⟩,
 ⟨8, .mv (.t 49), none, false⟩])
 (.seq
 (.reg false [⟨50, .mv (.t 8), none, false⟩,
 ⟨51, .mv (.t 6), none, false⟩,
 ⟨52, .bs 2 1 [(.sc (.int .i64 0))] 1 [(0, (.t 51))], none, false⟩,
 ⟨53, .ap 2 1 false (.t 50) (.t 52), none, false⟩,
 ⟨8, .mv (.t 53), none, false⟩])
 (.reg false [⟨54, .mv (.t 8), none, false⟩,
 ⟨55, .mv (.t 5), none, false⟩,
 ⟨56, .mv (.t 7), none, false⟩,
 ⟨57, .sl 1 (.t 55) (some (.t 56)) none, none, false⟩,
 ⟨58, .ap 2 1 false (.t 54) (.t 57), none, false⟩,
 ⟨5, .mv (.t 58), none, false⟩])))))))
 (.reg false [⟨14, .mv (.t 6), none, false⟩,
 ⟨15, .ar .add false (.t 14) (.k (.sc (.int .i64 1))), none, false⟩,
 ⟨6, .mv (.t 15), none, false⟩])))
def b119_1 : IC := w119_1
theorem u119_1 (call : CallF) (st : St) : evC call b119_1 st = evC call w119_1 st := rfl
attribute [simp] u119_1 w119_1
def i119 : Ev.Fn := ⟨2, 60, [.tmp 4],
 (.seq
 (.reg false [⟨4, .mv (.k .nl), none, false⟩])
 (.seq
 (.reg false [⟨9, .bs 2 1 [(.sc (.int .i64 0))] 0 [], none, false⟩,
 ⟨5, .mv (.t 9), none, false⟩])
 (.seq
 (.seq
 (.reg false [⟨6, .mv (.k (.sc (.int .i64 0))), none, false⟩])
 (.cln [5] [4]
 (.block 0
 (.loop [0, 1, 5, 6] b119_1))))
 (.seq
 (.reg false [⟨59, .mv (.t 5), none, false⟩,
 ⟨4, .mv (.t 59), none, false⟩])
 .ret))))⟩
attribute [simp] i119
set_option maxRecDepth 1000000 in
theorem c119 : cFn Try.prog 119 [[], [0, 1, 5, 6], [0, 1, 5, 6, 7], [0, 1, 5, 6, 7], [4], [5], [4]] = some i119 := by kernel_rfl
theorem e119 : enterOk Try.prog 119 = true := by kernel_rfl
def i120 : Ev.Fn := ⟨2, 9, [],
 (.rgw [⟨4, .mv (.t 0), none, false⟩,
 ⟨5, .mv (.t 0), none, false⟩,
 ⟨6, .ln false (.t 5), none, false⟩,
 ⟨7, .mv (.t 1), none, false⟩,
 ⟨8, .cw 189 [] [(.t 4), (.t 6), (.t 7)], none, false⟩])⟩
attribute [simp] i120
set_option maxRecDepth 1000000 in
theorem c120 : cFn Try.prog 120 [[189]] = some i120 := by kernel_rfl
theorem e120 : enterOk Try.prog 120 = true := by kernel_rfl
def i121 : Ev.Fn := ⟨3, 17, [.tmp 5],
 (.seq
 (.reg false [⟨5, .mv (.k (.sc (.int .i64 0))), none, false⟩])
 (.seq
 (.reg true [⟨6, .ld 1 false (.t 2), none, false⟩,
 ⟨7, .mv (.t 0), none, false⟩,
 ⟨8, .ia 9 (.t 6) (.t 7), none, false⟩,
 ⟨9, .fa 2 (.t 8), none, false⟩,
 ⟨10, .ld 1 false (.t 9), none, false⟩,
 ⟨11, .ld 1 false (.t 2), none, false⟩,
 ⟨12, .mv (.t 1), none, false⟩,
 ⟨13, .ia 9 (.t 11) (.t 12), none, false⟩,
 ⟨14, .fa 2 (.t 13), none, false⟩,
 ⟨15, .ld 1 false (.t 14), none, false⟩,
 ⟨16, .ar .sub false (.t 10) (.t 15), none, false⟩,
 ⟨5, .mv (.t 16), none, false⟩])
 .ret))⟩
attribute [simp] i121
set_option maxRecDepth 1000000 in
theorem c121 : cFn Try.prog 121 [[]] = some i121 := by kernel_rfl
theorem e121 : enterOk Try.prog 121 = true := by kernel_rfl
def i141 : Ev.Fn := ⟨2, 13, [.tmp 4],
 (.seq
 (.reg false [⟨2, .bx (.t 0), none, false⟩,
 ⟨4, .mv (.k (.sc (.int .i64 0))), none, false⟩])
 (.seq
 (.reg false [⟨5, .mv (.t 1), none, false⟩,
 ⟨6, .fa 0 (.t 2), none, false⟩,
 ⟨7, .ld 1 false (.t 6), none, false⟩,
 ⟨8, .ln true (.t 7), none, false⟩,
 ⟨9, .ar .sub false (.t 5) (.t 8), none, false⟩,
 ⟨1, .mv (.t 9), none, false⟩])
 (.seq
 (.seq
 (.reg false [⟨10, .mv (.t 1), none, false⟩,
 ⟨11, .ar .lss false (.t 10) (.k (.sc (.int .i64 0))), none, false⟩])
 (.ite (.t 11)
 (.seq
 (.reg false [⟨4, .mv (.k (.sc (.int .i64 (-1)))), none, false⟩])
 .ret)
 .skip))
 (.seq
 (.reg false [⟨12, .mv (.t 1), none, false⟩,
 ⟨4, .mv (.t 12), none, false⟩])
 .ret))))⟩
attribute [simp] i141
set_option maxRecDepth 1000000 in
theorem c141 : cFn Try.prog 141 [[]] = some i141 := by kernel_rfl
theorem e141 : enterOk Try.prog 141 = true := by kernel_rfl
def i142 : Ev.Fn := ⟨2, 12, [.tmp 4],
 (.seq
 (.reg false [⟨4, .mv (.k (.sc (.int .i64 0))), none, false⟩])
 (.seq
 (.reg false [⟨5, .mv (.t 1), none, false⟩,
 ⟨6, .mv (.t 0), none, false⟩,
 ⟨7, .ln false (.t 6), none, false⟩,
 ⟨8, .ar .sub false (.t 5) (.t 7), none, false⟩,
 ⟨1, .mv (.t 8), none, false⟩])
 (.seq
 (.seq
 (.reg false [⟨9, .mv (.t 1), none, false⟩,
 ⟨10, .ar .lss false (.t 9) (.k (.sc (.int .i64 0))), none, false⟩])
 (.ite (.t 10)
 (.seq
 (.reg false [⟨4, .mv (.k (.sc (.int .i64 (-1)))), none, false⟩])
 .ret)
 .skip))
 (.seq
 (.reg false [⟨11, .mv (.t 1), none, false⟩,
 ⟨4, .mv (.t 11), none, false⟩])
 .ret))))⟩
attribute [simp] i142
set_option maxRecDepth 1000000 in
theorem c142 : cFn Try.prog 142 [[]] = some i142 := by kernel_rfl
theorem e142 : enterOk Try.prog 142 = true := by kernel_rfl
def w143_1 : IC :=
(.seq
 (.seq
 (.reg false [⟨55, .mv (.t 3), none, false⟩,
 ⟨56, .mv (.t 0), none, false⟩,
 ⟨57, .nc (.t 56), none, false⟩,
 ⟨58, .fa 8 (.t 57), none, false⟩,
 ⟨59, .ld 1 false (.t 58), none, false⟩,
 ⟨60, .ln false (.t 59), none, false⟩,
 ⟨61, .ar .lss false (.t 55) (.t 60), none, false⟩])
 (.ite (.t 61)
 .skip
 (.exit 0)))
 (.seq
 (.block 1
 (.seq
 (.reg true [⟨64, .mv (.t 0), none, false⟩,
 ⟨65, .nc (.t 64), none, false⟩,
 ⟨66, .fa 8 (.t 65), none, false⟩,
 ⟨67, .ld 1 false (.t 66), none, false⟩,
 ⟨68, .mv (.t 3), none, false⟩,
 ⟨69, .ia 4 (.t 67) (.t 68), none, false⟩,
 ⟨70, .mv (.t 0), none, false⟩,
 ⟨71, .nc (.t 70), none, false⟩,
 ⟨72, .fa 6 (.t 71), none, false⟩,
 ⟨73, .ld 1 false (.t 72), none, false⟩,
 ⟨74, .mv (.t 0), none, false⟩,
 ⟨75, .nc (.t 74), none, false⟩,
 ⟨76, .fa 7 (.t 75), none, false⟩,
 ⟨77, .ld 1 false (.t 76), none, false⟩,
 ⟨78, .ca (.k (.cl 198 [])) [(.t 69), (.t 73), (.t 77)], none, false⟩,
 ⟨79, .nt (.t 78), none, false⟩])
 (.ite (.t 79)
 (.seq
 (.reg false [⟨2, .mv (.k (.sc (.bool false))), none, false⟩])
 .ret)
 .skip)))
 (.reg false [⟨62, .mv (.t 3), none, false⟩,
 ⟨63, .ar .add false (.t 62) (.k (.sc (.int .i64 1))), none, false⟩,
 ⟨3, .mv (.t 63), none, false⟩])))
def b143_1 : IC := w143_1
theorem u143_1 (call : CallF) (st : St) : evC call b143_1 st = evC call w143_1 st := rfl
attribute [simp] u143_1 w143_1
def i143 : Ev.Fn := ⟨1, 80, [.tmp 2],
 (.seq
 (.reg false [⟨2, .mv (.k (.sc (.bool false))), none, false⟩])
 (.seq
 (.seq
 (.reg false [⟨4, .mv (.t 0), none, false⟩,
 ⟨5, .nc (.t 4), none, false⟩,
 ⟨6, .fa 0 (.t 5), none, false⟩,
 ⟨7, .ld 1 false (.t 6), none, false⟩,
 ⟨8, .ca (.k (.cl 166 [])) [(.t 7)], none, false⟩,
 ⟨9, .nt (.t 8), none, false⟩,
 ⟨10, .mv (.t 9), none, false⟩,
 ⟨11, .mv (.t 0), (some (10, false)), false⟩,
 ⟨12, .nc (.t 11), (some (10, false)), false⟩,
 ⟨13, .fa 1 (.t 12), (some (10, false)), false⟩,
 ⟨14, .ld 1 false (.t 13), (some (10, false)), false⟩,
 ⟨15, .ca (.k (.cl 166 [])) [(.t 14)], (some (10, false)), false⟩,
 ⟨16, .nt (.t 15), (some (10, false)), false⟩,
 ⟨17, .pk (.t 10) (.k (.sc (.bool true))) (.t 16), none, false⟩,
 ⟨18, .mv (.t 17), none, false⟩,
 ⟨19, .mv (.t 0), (some (18, false)), false⟩,
 ⟨20, .nc (.t 19), (some (18, false)), false⟩,
 ⟨21, .fa 2 (.t 20), (some (18, false)), false⟩,
 ⟨22, .ld 1 false (.t 21), (some (18, false)), false⟩,
 ⟨23, .ca (.k (.cl 97 [])) [(.t 22), (.k (.sc (.int .i64 0))), (.k (.sc (.int .i64 999)))], (some (18, false)), false⟩,
 ⟨24, .nt (.t 23), (some (18, false)), false⟩,
 ⟨25, .pk (.t 18) (.k (.sc (.bool true))) (.t 24), none, false⟩,
 ⟨26, .mv (.t 25), none, false⟩,
 ⟨27, .mv (.t 0), (some (26, false)), false⟩,
 ⟨28, .nc (.t 27), (some (26, false)), false⟩,
 ⟨29, .fa 3 (.t 28), (some (26, false)), false⟩,
 ⟨30, .ca (.k (.cl 197 [])) [(.t 29)], (some (26, false)), false⟩,
 ⟨31, .nt (.t 30), (some (26, false)), false⟩,
 ⟨32, .pk (.t 26) (.k (.sc (.bool true))) (.t 31), none, false⟩])
 (.ite (.t 32)
 (.seq
 (.reg false [⟨2, .mv (.k (.sc (.bool false))), none, false⟩])
 .ret)
 .skip))
 (.seq
 (.seq
 (.reg false [⟨33, .mv (.t 0), none, false⟩,
 ⟨34, .nc (.t 33), none, false⟩,
 ⟨35, .fa 6 (.t 34), none, false⟩,
 ⟨36, .ld 1 false (.t 35), none, false⟩,
 ⟨37, .ca (.k (.cl 97 [])) [(.t 36), (.k (.sc (.int .i64 10))), (.k (.sc (.int .i64 20000)))], none, false⟩,
 ⟨38, .nt (.t 37), none, false⟩,
 ⟨39, .mv (.t 38), none, false⟩,
 ⟨40, .mv (.t 0), (some (39, false)), false⟩,
 ⟨41, .nc (.t 40), (some (39, false)), false⟩,
 ⟨42, .fa 7 (.t 41), (some (39, false)), false⟩,
 ⟨43, .ld 1 false (.t 42), (some (39, false)), false⟩,
 ⟨44, .ca (.k (.cl 97 [])) [(.t 43), (.k (.sc (.int .i64 10))), (.k (.sc (.int .i64 20000)))], (some (39, false)), false⟩,
 ⟨45, .nt (.t 44), (some (39, false)), false⟩,
 ⟨46, .pk (.t 39) (.k (.sc (.bool true))) (.t 45), none, false⟩,
 ⟨47, .mv (.t 46), none, false⟩,
 ⟨48, .mv (.t 0), (some (47, false)), false⟩,
 ⟨49, .nc (.t 48), (some (47, false)), false⟩,
 ⟨50, .fa 8 (.t 49), (some (47, false)), false⟩,
 ⟨51, .ld 1 false (.t 50), (some (47, false)), false⟩,
 ⟨52, .ln false (.t 51), (some (47, false)), false⟩,
 ⟨53, .ar .gtr false (.t 52) (.k (.sc (.int .i64 6))), (some (47, false)), false⟩,
 ⟨54, .pk (.t 47) (.k (.sc (.bool true))) (.t 53), none, false⟩])
 (.ite (.t 54)
 (.seq
 (.reg false [⟨2, .mv (.k (.sc (.bool false))), none, false⟩])
 .ret)
 .skip))
 (.seq
 (.seq
 (.reg false [⟨3, .mv (.k (.sc (.int .i64 0))), none, false⟩])
 (.cln [] [2]
 (.block 0
 (.loop [0, 3] b143_1))))
 (.seq
 (.reg false [⟨2, .mv (.k (.sc (.bool true))), none, false⟩])
 .ret)))))⟩
attribute [simp] i143
set_option maxRecDepth 1000000 in
theorem c143 : cFn Try.prog 143 [[], [0, 3], [], [2]] = some i143 := by kernel_rfl
theorem e143 : enterOk Try.prog 143 = true := by kernel_rfl
def i145 : Ev.Fn := ⟨1, 14, [.cell 2 3 true],
 (.seq
 (.reg false [⟨1, .bx (.t 0), none, false⟩,
 ⟨2, .al [(.sc (.string ⟨#[]⟩)), (.sc (.int .i64 0)), (.sc (.int .i64 0))], none, false⟩])
 (.seq
 (.reg false [⟨3, .al [(.sc (.string ⟨#[]⟩)), (.sc (.int .i64 0)), (.sc (.int .i64 0))], none, false⟩])
 (.seq
 (.reg false [⟨4, .fa 0 (.t 1), none, false⟩,
 ⟨5, .ld 1 false (.t 4), none, false⟩,
 ⟨6, .fa 0 (.t 3), none, false⟩,
 ⟨1, .so 1 (.t 6) (.t 5), none, true⟩])
 (.seq
 (.reg false [⟨7, .fa 1 (.t 1), none, false⟩,
 ⟨8, .ld 1 false (.t 7), none, false⟩,
 ⟨9, .fa 1 (.t 3), none, false⟩,
 ⟨1, .so 1 (.t 9) (.t 8), none, true⟩])
 (.seq
 (.reg false [⟨10, .fa 2 (.t 1), none, false⟩,
 ⟨11, .ld 1 false (.t 10), none, false⟩,
 ⟨12, .fa 2 (.t 3), none, false⟩,
 ⟨1, .so 1 (.t 12) (.t 11), none, true⟩])
 (.seq
 (.reg false [⟨13, .ld 3 true (.t 3), none, false⟩,
 ⟨1, .so 3 (.t 2) (.t 13), none, true⟩])
 .ret))))))⟩
attribute [simp] i145
set_option maxRecDepth 1000000 in
theorem c145 : cFn Try.prog 145 [[]] = some i145 := by kernel_rfl
theorem e145 : enterOk Try.prog 145 = true := by kernel_rfl
def w146_1 : IC :=
(.seq
 (.seq
 (.reg false [⟨8, .mv (.t 4), none, false⟩,
 ⟨9, .mv (.t 0), none, false⟩,
 ⟨10, .ln false (.t 9), none, false⟩,
 ⟨11, .ar .lss false (.t 8) (.t 10), none, false⟩])
 (.ite (.t 11)
 .skip
 (.exit 0)))
 (.seq
 (.block 1
 (.reg false [⟨14, .mv (.t 3), none, false⟩,
 ⟨15, .mv (.t 4), none, false⟩,
 ⟨16, .mv (.t 0), none, false⟩,
 ⟨17, .mv (.t 4), none, false⟩,
 ⟨18, .ia 4 (.t 16) (.t 17), none, false⟩,
 ⟨19, .ld 4 true (.t 18), none, false⟩,
 ⟨20, .ca (.k (.cl 199 [])) [(.t 19)], none, false⟩,
 ⟨21, .ia 4 (.t 14) (.t 15), none, false⟩,
 ⟨1, .so 4 (.t 21) (.t 20), none, true⟩]))
 (.reg false [⟨12, .mv (.t 4), none, false⟩,
 ⟨13, .ar .add false (.t 12) (.k (.sc (.int .i64 1))), none, false⟩,
 ⟨4, .mv (.t 13), none, false⟩])))
def b146_1 : IC := w146_1
theorem u146_1 (call : CallF) (st : St) : evC call b146_1 st = evC call w146_1 st := rfl
attribute [simp] u146_1 w146_1
def i146 : Ev.Fn := ⟨1, 23, [.tmp 2],
 (.seq
 (.reg false [⟨2, .mv (.k .nl), none, false⟩])
 (.seq
 (.reg false [⟨5, .mv (.t 0), none, false⟩,
 ⟨6, .ln false (.t 5), none, false⟩,
 ⟨7, .ms 176 4 [(.sc (.int .i64 0)), (.sc (.int .i64 0)), (.sc (.int .i64 0)), (.sc (.int .i64 0))] (.t 6), none, false⟩,
 ⟨3, .mv (.t 7), none, false⟩])
 (.seq
 (.seq
 (.reg false [⟨4, .mv (.k (.sc (.int .i64 0))), none, false⟩])
 (.cln [3] [2]
 (.block 0
 (.loop [0, 3, 4] b146_1))))
 (.seq
 (.reg false [⟨22, .mv (.t 3), none, false⟩,
 ⟨2, .mv (.t 22), none, false⟩])
 .ret))))⟩
attribute [simp] i146
set_option maxRecDepth 1000000 in
theorem c146 : cFn Try.prog 146 [[], [0, 3, 4], [3], [2]] = some i146 := by kernel_rfl
theorem e146 : enterOk Try.prog 146 = true := by kernel_rfl
def i147 : Ev.Fn := ⟨1, 46, [.tmp 2],
 (.seq
 (.reg false [⟨1, .bx (.t 0), none, false⟩,
 ⟨2, .mv (.k (.sc (.bool false))), none, false⟩])
 (.seq
 (.seq
 (.reg false [⟨3, .fa 0 (.t 1), none, false⟩,
 ⟨4, .ld 1 false (.t 3), none, false⟩,
 ⟨5, .ca (.k (.cl 174 [])) [(.t 4)], none, false⟩,
 ⟨6, .nt (.t 5), none, false⟩,
 ⟨7, .mv (.t 6), none, false⟩,
 ⟨8, .fa 1 (.t 1), (some (7, false)), false⟩,
 ⟨9, .ld 1 false (.t 8), (some (7, false)), false⟩,
 ⟨10, .ca (.k (.cl 174 [])) [(.t 9)], (some (7, false)), false⟩,
 ⟨11, .nt (.t 10), (some (7, false)), false⟩,
 ⟨12, .pk (.t 7) (.k (.sc (.bool true))) (.t 11), none, false⟩,
 ⟨13, .mv (.t 12), none, false⟩,
 ⟨14, .fa 2 (.t 1), (some (13, false)), false⟩,
 ⟨15, .ld 1 false (.t 14), (some (13, false)), false⟩,
 ⟨16, .ca (.k (.cl 105 [])) [(.t 15), (.k (.sc (.int .i64 0))), (.k (.sc (.int .i64 999)))], (some (13, false)), false⟩,
 ⟨17, .nt (.t 16), (some (13, false)), false⟩,
 ⟨18, .pk (.t 13) (.k (.sc (.bool true))) (.t 17), none, false⟩,
 ⟨19, .mv (.t 18), none, false⟩,
 ⟨20, .fa 3 (.t 1), (some (19, false)), false⟩,
 ⟨21, .ld 3 true (.t 20), (some (19, false)), false⟩,
 ⟨22, .ca (.k (.cl 193 [])) [(.t 21)], (some (19, false)), false⟩,
 ⟨23, .nt (.t 22), (some (19, false)), false⟩,
 ⟨24, .pk (.t 19) (.k (.sc (.bool true))) (.t 23), none, false⟩])
 (.ite (.t 24)
 (.seq
 (.reg false [⟨2, .mv (.k (.sc (.bool false))), none, false⟩])
 .ret)
 .skip))
 (.seq
 (.seq
 (.reg false [⟨25, .fa 6 (.t 1), none, false⟩,
 ⟨26, .ld 1 false (.t 25), none, false⟩,
 ⟨27, .ca (.k (.cl 105 [])) [(.t 26), (.k (.sc (.int .i64 10))), (.k (.sc (.int .i64 20000)))], none, false⟩,
 ⟨28, .nt (.t 27), none, false⟩,
 ⟨29, .mv (.t 28), none, false⟩,
 ⟨30, .fa 7 (.t 1), (some (29, false)), false⟩,
 ⟨31, .ld 1 false (.t 30), (some (29, false)), false⟩,
 ⟨32, .ca (.k (.cl 105 [])) [(.t 31), (.k (.sc (.int .i64 10))), (.k (.sc (.int .i64 20000)))], (some (29, false)), false⟩,
 ⟨33, .nt (.t 32), (some (29, false)), false⟩,
 ⟨34, .pk (.t 29) (.k (.sc (.bool true))) (.t 33), none, false⟩,
 ⟨35, .mv (.t 34), none, false⟩,
 ⟨36, .fa 8 (.t 1), (some (35, false)), false⟩,
 ⟨37, .ld 1 false (.t 36), (some (35, false)), false⟩,
 ⟨38, .ln false (.t 37), (some (35, false)), false⟩,
 ⟨39, .ar .gtr false (.t 38) (.k (.sc (.int .i64 6))), (some (35, false)), false⟩,
 ⟨40, .pk (.t 35) (.k (.sc (.bool true))) (.t 39), none, false⟩])
 (.ite (.t 40)
 (.seq
 (.reg false [⟨2, .mv (.k (.sc (.bool false))), none, false⟩])
 .ret)
 .skip))
 (.seq
 (.reg false [⟨41, .fa 8 (.t 1), none, false⟩,
 ⟨42, .ld 1 false (.t 41), none, false⟩,
 ⟨43, .mf 201 [(.t 1)], none, false⟩,
 ⟨44, .ca (.k (.cl 200 [])) [(.t 42), (.t 43)], none, false⟩,
 ⟨45, .nt (.t 44), none, false⟩,
 ⟨2, .mv (.t 45), none, false⟩])
 .ret))))⟩
attribute [simp] i147
set_option maxRecDepth 1000000 in
theorem c147 : cFn Try.prog 147 [[]] = some i147 := by kernel_rfl
theorem e147 : enterOk Try.prog 147 = true := by kernel_rfl
def i152 : Ev.Fn := ⟨2, 20, [.tmp 4],
 (.seq
 (.reg false [⟨2, .bx (.t 0), none, false⟩,
 ⟨3, .bx (.t 1), none, false⟩,
 ⟨4, .mv (.k (.sc (.bool false))), none, false⟩])
 (.seq
 (.seq
 (.reg false [⟨5, .fa 0 (.t 2), none, false⟩,
 ⟨6, .ld 1 false (.t 5), none, false⟩,
 ⟨7, .fa 0 (.t 3), none, false⟩,
 ⟨8, .ld 1 false (.t 7), none, false⟩,
 ⟨9, .ar .neq false (.t 6) (.t 8), none, false⟩])
 (.ite (.t 9)
 (.seq
 (.reg false [⟨4, .mv (.k (.sc (.bool false))), none, false⟩])
 .ret)
 .skip))
 (.seq
 (.seq
 (.reg false [⟨10, .fa 1 (.t 2), none, false⟩,
 ⟨11, .ld 1 false (.t 10), none, false⟩,
 ⟨12, .fa 1 (.t 3), none, false⟩,
 ⟨13, .ld 1 false (.t 12), none, false⟩,
 ⟨14, .ar .neq false (.t 11) (.t 13), none, false⟩])
 (.ite (.t 14)
 (.seq
 (.reg false [⟨4, .mv (.k (.sc (.bool false))), none, false⟩])
 .ret)
 .skip))
 (.seq
 (.seq
 (.reg false [⟨15, .fa 2 (.t 2), none, false⟩,
 ⟨16, .ld 1 false (.t 15), none, false⟩,
 ⟨17, .fa 2 (.t 3), none, false⟩,
 ⟨18, .ld 1 false (.t 17), none, false⟩,
 ⟨19, .ar .neq false (.t 16) (.t 18), none, false⟩])
 (.ite (.t 19)
 (.seq
 (.reg false [⟨4, .mv (.k (.sc (.bool false))), none, false⟩])
 .ret)
 .skip))
 (.seq
 (.reg false [⟨4, .mv (.k (.sc (.bool true))), none, false⟩])
 .ret)))))⟩
attribute [simp] i152
set_option maxRecDepth 1000000 in
theorem c152 : cFn Try.prog 152 [[]] = some i152 := by kernel_rfl
theorem e152 : enterOk Try.prog 152 = true := by kernel_rfl
def w153_1 : IC :=
(.seq
 (.seq
 (.reg false [⟨11, .mv (.t 5), none, false⟩,
 ⟨12, .mv (.t 0), none, false⟩,
 ⟨13, .ln false (.t 12), none, false⟩,
 ⟨14, .ar .lss false (.t 11) (.t 13), none, false⟩])
 (.ite (.t 14)
 .skip
 (.exit 0)))
 (.seq
 (.block 1
 (.seq
 (.reg true [⟨17, .mv (.t 0), none, false⟩,
 ⟨18, .mv (.t 5), none, false⟩,
 ⟨19, .ia 4 (.t 17) (.t 18), none, false⟩,
 ⟨20, .ld 4 true (.t 19), none, false⟩,
 ⟨21, .mv (.t 1), none, false⟩,
 ⟨22, .mv (.t 5), none, false⟩,
 ⟨23, .ia 4 (.t 21) (.t 22), none, false⟩,
 ⟨24, .ld 4 true (.t 23), none, false⟩,
 ⟨25, .ca (.k (.cl 205 [])) [(.t 20), (.t 24)], none, false⟩,
 ⟨26, .nt (.t 25), none, false⟩])
 (.ite (.t 26)
 (.seq
 (.reg false [⟨4, .mv (.k (.sc (.bool false))), none, false⟩])
 .ret)
 .skip)))
 (.reg false [⟨15, .mv (.t 5), none, false⟩,
 ⟨16, .ar .add false (.t 15) (.k (.sc (.int .i64 1))), none, false⟩,
 ⟨5, .mv (.t 16), none, false⟩])))
def b153_1 : IC := w153_1
theorem u153_1 (call : CallF) (st : St) : evC call b153_1 st = evC call w153_1 st := rfl
attribute [simp] u153_1 w153_1
def i153 : Ev.Fn := ⟨2, 27, [.tmp 4],
 (.seq
 (.reg false [⟨4, .mv (.k (.sc (.bool false))), none, false⟩])
 (.seq
 (.seq
 (.reg false [⟨6, .mv (.t 0), none, false⟩,
 ⟨7, .ln false (.t 6), none, false⟩,
 ⟨8, .mv (.t 1), none, false⟩,
 ⟨9, .ln false (.t 8), none, false⟩,
 ⟨10, .ar .neq false (.t 7) (.t 9), none, false⟩])
 (.ite (.t 10)
 (.seq
 (.reg false [⟨4, .mv (.k (.sc (.bool false))), none, false⟩])
 .ret)
 .skip))
 (.seq
 (.seq
 (.reg false [⟨5, .mv (.k (.sc (.int .i64 0))), none, false⟩])
 (.cln [] [4]
 (.block 0
 (.loop [0, 1, 5] b153_1))))
 (.seq
 (.reg false [⟨4, .mv (.k (.sc (.bool true))), none, false⟩])
 .ret))))⟩
attribute [simp] i153
set_option maxRecDepth 1000000 in
theorem c153 : cFn Try.prog 153 [[], [0, 1, 5], [], [4]] = some i153 := by kernel_rfl
theorem e153 : enterOk Try.prog 153 = true := by kernel_rfl
def w166_1 : IC :=
(.seq
 (.seq
 (.reg false [⟨17, .mv (.t 3), none, false⟩,
 ⟨18, .mv (.t 0), none, false⟩,
 ⟨19, .ln true (.t 18), none, false⟩,
 ⟨20, .ar .lss false (.t 17) (.t 19), none, false⟩])
 (.ite (.t 20)
 .skip
 (.exit 0)))
 (.seq
 (.block 1
 (.seq
 (.reg false [⟨23, .mv (.t 0), none, false⟩,
 ⟨24, .mv (.t 3), none, false⟩,
 ⟨25, .ix (.t 23) (.t 24), none, false⟩,
 ⟨26, .ca (.k (.cl 219 [])) [(.t 25)], none, false⟩,
 ⟨27, .nt (.t 26), none, false⟩,
 ⟨28, .mv (.t 27), none, false⟩,
 ⟨29, .mv (.t 0), (some (28, true)), false⟩,
 ⟨30, .mv (.t 3), (some (28, true)), false⟩,
 ⟨31, .ix (.t 29) (.t 30), (some (28, true)), false⟩,
 ⟨32, .ca (.k (.cl 220 [])) [(.t 31)], (some (28, true)), false⟩,
 ⟨33, .nt (.t 32), (some (28, true)), false⟩,
 ⟨34, .pk (.t 28) (.t 33) (.k (.sc (.bool false))), none, false⟩])
 (.ite (.t 34)
 (.seq
 (.reg false [⟨2, .mv (.k (.sc (.bool false))), none, false⟩])
 .ret)
 .skip)))
 (.reg false [⟨21, .mv (.t 3), none, false⟩,
 ⟨22, .ar .add false (.t 21) (.k (.sc (.int .i64 1))), none, false⟩,
 ⟨3, .mv (.t 22), none, false⟩])))
def b166_1 : IC := w166_1
theorem u166_1 (call : CallF) (st : St) : evC call b166_1 st = evC call w166_1 st := rfl
attribute [simp] u166_1 w166_1
def i166 : Ev.Fn := ⟨1, 35, [.tmp 2],
 (.seq
 (.reg false [⟨2, .mv (.k (.sc (.bool false))), none, false⟩])
 (.seq
 (.seq
 (.reg false [⟨4, .mv (.t 0), none, false⟩,
 ⟨5, .ar .eql false (.t 4) (.k (.sc (.string ⟨#[]⟩))), none, false⟩,
 ⟨6, .mv (.t 5), none, false⟩,
 ⟨7, .mv (.t 0), (some (6, false)), false⟩,
 ⟨8, .ln true (.t 7), (some (6, false)), false⟩,
 ⟨9, .ar .gtr false (.t 8) (.k (.sc (.int .i64 10))), (some (6, false)), false⟩,
 ⟨10, .pk (.t 6) (.k (.sc (.bool true))) (.t 9), none, false⟩,
 ⟨11, .mv (.t 10), none, false⟩,
 ⟨12, .mv (.t 0), (some (11, false)), false⟩,
 ⟨13, .ix (.t 12) (.k (.sc (.int .i64 0))), (some (11, false)), false⟩,
 ⟨14, .ca (.k (.cl 219 [])) [(.t 13)], (some (11, false)), false⟩,
 ⟨15, .nt (.t 14), (some (11, false)), false⟩,
 ⟨16, .pk (.t 11) (.k (.sc (.bool true))) (.t 15), none, false⟩])
 (.ite (.t 16)
 (.seq
 (.reg false [⟨2, .mv (.k (.sc (.bool false))), none, false⟩])
 .ret)
 .skip))
 (.seq
 (.seq
 (.reg false [⟨3, .mv (.k (.sc (.int .i64 0))), none, false⟩])
 (.cln [] [2]
 (.block 0
 (.loop [0, 3] b166_1))))
 (.seq
 (.reg false [⟨2, .mv (.k (.sc (.bool true))), none, false⟩])
 .ret))))⟩
attribute [simp] i166
set_option maxRecDepth 1000000 in
theorem c166 : cFn Try.prog 166 [[], [0, 3], [], [2]] = some i166 := by kernel_rfl
theorem e166 : enterOk Try.prog 166 = true := by kernel_rfl
def w174_1 : IC :=
(.seq
 (.seq
 (.reg false [⟨22, .mv (.t 3), none, false⟩,
 ⟨23, .mv (.t 0), none, false⟩,
 ⟨24, .ln true (.t 23), none, false⟩,
 ⟨25, .ar .lss false (.t 22) (.t 24), none, false⟩])
 (.ite (.t 25)
 .skip
 (.exit 0)))
 (.seq
 (.block 1
 (.seq
 (.reg false [⟨28, .mv (.t 0), none, false⟩,
 ⟨29, .mv (.t 3), none, false⟩,
 ⟨30, .ix (.t 28) (.t 29), none, false⟩,
 ⟨31, .ar .lss false (.t 30) (.k (.sc (.int .u8 97))), none, false⟩,
 ⟨32, .mv (.t 31), none, false⟩,
 ⟨33, .mv (.t 0), (some (32, false)), false⟩,
 ⟨34, .mv (.t 3), (some (32, false)), false⟩,
 ⟨35, .ix (.t 33) (.t 34), (some (32, false)), false⟩,
 ⟨36, .ar .gtr false (.t 35) (.k (.sc (.int .u8 122))), (some (32, false)), false⟩,
 ⟨37, .pk (.t 32) (.k (.sc (.bool true))) (.t 36), none, false⟩,
 ⟨38, .mv (.t 37), none, false⟩,
 ⟨39, .mv (.t 0), (some (38, true)), false⟩,
 ⟨40, .mv (.t 3), (some (38, true)), false⟩,
 ⟨41, .ix (.t 39) (.t 40), (some (38, true)), false⟩,
 ⟨42, .ar .lss false (.t 41) (.k (.sc (.int .u8 48))), (some (38, true)), false⟩,
 ⟨43, .mv (.t 42), (some (38, true)), false⟩,
 ⟨44, .mv (.t 0), (some (43, false)), false⟩,
 ⟨45, .mv (.t 3), (some (43, false)), false⟩,
 ⟨46, .ix (.t 44) (.t 45), (some (43, false)), false⟩,
 ⟨47, .ar .gtr false (.t 46) (.k (.sc (.int .u8 57))), (some (43, false)), false⟩,
 ⟨48, .pk (.t 43) (.k (.sc (.bool true))) (.t 47), (some (38, true)), false⟩,
 ⟨49, .pk (.t 38) (.t 48) (.k (.sc (.bool false))), none, false⟩])
 (.ite (.t 49)
 (.seq
 (.reg false [⟨2, .mv (.k (.sc (.bool false))), none, false⟩])
 .ret)
 .skip)))
 (.reg false [⟨26, .mv (.t 3), none, false⟩,
 ⟨27, .ar .add false (.t 26) (.k (.sc (.int .i64 1))), none, false⟩,
 ⟨3, .mv (.t 27), none, false⟩])))
def b174_1 : IC := w174_1
theorem u174_1 (call : CallF) (st : St) : evC call b174_1 st = evC call w174_1 st := rfl
attribute [simp] u174_1 w174_1
def i174 : Ev.Fn := ⟨1, 50, [.tmp 2],
 (.seq
 (.reg false [⟨2, .mv (.k (.sc (.bool false))), none, false⟩])
 (.seq
 (.seq
 (.reg false [⟨4, .mv (.t 0), none, false⟩,
 ⟨5, .ln true (.t 4), none, false⟩,
 ⟨6, .ar .lss false (.t 5) (.k (.sc (.int .i64 1))), none, false⟩,
 ⟨7, .mv (.t 6), none, false⟩,
 ⟨8, .mv (.t 0), (some (7, false)), false⟩,
 ⟨9, .ln true (.t 8), (some (7, false)), false⟩,
 ⟨10, .ar .gtr false (.t 9) (.k (.sc (.int .i64 10))), (some (7, false)), false⟩,
 ⟨11, .pk (.t 7) (.k (.sc (.bool true))) (.t 10), none, false⟩,
 ⟨12, .mv (.t 11), none, false⟩,
 ⟨13, .mv (.t 0), (some (12, false)), false⟩,
 ⟨14, .ix (.t 13) (.k (.sc (.int .i64 0))), (some (12, false)), false⟩,
 ⟨15, .ar .lss false (.t 14) (.k (.sc (.int .u8 97))), (some (12, false)), false⟩,
 ⟨16, .pk (.t 12) (.k (.sc (.bool true))) (.t 15), none, false⟩,
 ⟨17, .mv (.t 16), none, false⟩,
 ⟨18, .mv (.t 0), (some (17, false)), false⟩,
 ⟨19, .ix (.t 18) (.k (.sc (.int .i64 0))), (some (17, false)), false⟩,
 ⟨20, .ar .gtr false (.t 19) (.k (.sc (.int .u8 122))), (some (17, false)), false⟩,
 ⟨21, .pk (.t 17) (.k (.sc (.bool true))) (.t 20), none, false⟩])
 (.ite (.t 21)
 (.seq
 (.reg false [⟨2, .mv (.k (.sc (.bool false))), none, false⟩])
 .ret)
 .skip))
 (.seq
 (.seq
 (.reg false [⟨3, .mv (.k (.sc (.int .i64 0))), none, false⟩])
 (.cln [] [2]
 (.block 0
 (.loop [0, 3] b174_1))))
 (.seq
 (.reg false [⟨2, .mv (.k (.sc (.bool true))), none, false⟩])
 .ret))))⟩
attribute [simp] i174
set_option maxRecDepth 1000000 in
theorem c174 : cFn Try.prog 174 [[], [0, 3], [], [2]] = some i174 := by kernel_rfl
theorem e174 : enterOk Try.prog 174 = true := by kernel_rfl
def i188 : Ev.Fn := ⟨1, 6, [.tmp 2],
 (.seq
 (.reg false [⟨2, .mv (.k .nl), none, false⟩])
 (.seq
 (.reg false [⟨3, .bs 2 1 [(.sc (.int .i64 0))] 0 [], none, false⟩,
 ⟨4, .mv (.t 0), none, false⟩,
 ⟨5, .ap 2 1 false (.t 3) (.t 4), none, false⟩,
 ⟨2, .mv (.t 5), none, false⟩])
 .ret))⟩
attribute [simp] i188
set_option maxRecDepth 1000000 in
theorem c188 : cFn Try.prog 188 [[]] = some i188 := by kernel_rfl
theorem e188 : enterOk Try.prog 188 = true := by kernel_rfl
def w189_1 : IC :=
(.seq
 (.seq
 (.reg false [⟨11, .mv (.t 8), none, false⟩,
 ⟨12, .mv (.t 1), none, false⟩,
 ⟨13, .ar .leq false (.t 11) (.t 12), none, false⟩])
 (.ite (.t 13)
 .skip
 (.exit 0)))
 (.block 1
 (.seq
 (.rgw [⟨14, .mv (.t 0), none, false⟩,
 ⟨15, .mv (.t 7), none, false⟩,
 ⟨16, .mv (.t 8), none, false⟩,
 ⟨17, .mv (.t 2), none, false⟩,
 ⟨18, .cw 233 [] [(.t 14), (.t 15), (.t 16), (.t 17)], none, false⟩])
 (.seq
 (.reg false [⟨19, .mv (.t 8), none, false⟩,
 ⟨7, .mv (.t 19), none, false⟩])
 (.reg false [⟨20, .mv (.t 8), none, false⟩,
 ⟨21, .mv (.t 6), none, false⟩,
 ⟨22, .ar .add false (.t 20) (.t 21), none, false⟩,
 ⟨8, .mv (.t 22), none, false⟩])))))
def b189_1 : IC := w189_1
theorem u189_1 (call : CallF) (st : St) : evC call b189_1 st = evC call w189_1 st := rfl
attribute [simp] u189_1 w189_1
def w189_3 : IC :=
(.seq
 (.seq
 (.reg false [⟨33, .mv (.t 8), none, false⟩,
 ⟨34, .mv (.t 1), none, false⟩,
 ⟨35, .ar .leq false (.t 33) (.t 34), none, false⟩])
 (.ite (.t 35)
 .skip
 (.exit 4)))
 (.block 5
 (.seq
 (.reg false [⟨36, .mv (.t 0), none, false⟩,
 ⟨37, .mv (.t 7), none, false⟩,
 ⟨38, .mv (.t 7), none, false⟩,
 ⟨39, .mv (.t 6), none, false⟩,
 ⟨40, .ar .add false (.t 38) (.t 39), none, false⟩,
 ⟨41, .mv (.t 8), none, false⟩,
 ⟨42, .mv (.t 2), none, false⟩,
 ⟨43, .ca (.k (.cl 234 [])) [(.t 36), (.t 37), (.t 40), (.t 41), (.t 42)], none, false⟩])
 (.seq
 (.reg false [⟨44, .mv (.t 8), none, false⟩,
 ⟨7, .mv (.t 44), none, false⟩])
 (.reg false [⟨45, .mv (.t 8), none, false⟩,
 ⟨46, .mv (.t 6), none, false⟩,
 ⟨47, .ar .mul false (.k (.sc (.int .i64 2))) (.t 46), none, false⟩,
 ⟨48, .ar .add false (.t 45) (.t 47), none, false⟩,
 ⟨8, .mv (.t 48), none, false⟩])))))
def b189_3 : IC := w189_3
theorem u189_3 (call : CallF) (st : St) : evC call b189_3 st = evC call w189_3 st := rfl
attribute [simp] u189_3 w189_3
def w189_2 : IC :=
(.seq
 (.seq
 (.reg false [⟨28, .mv (.t 6), none, false⟩,
 ⟨29, .mv (.t 1), none, false⟩,
 ⟨30, .ar .lss false (.t 28) (.t 29), none, false⟩])
 (.ite (.t 30)
 .skip
 (.exit 2)))
 (.block 3
 (.seq
 (.reg false [⟨31, .mv (.t 6), none, false⟩,
 ⟨32, .ar .mul false (.k (.sc (.int .i64 2))) (.t 31), none, false⟩,
 ⟨7, .mv (.k (.sc (.int .i64 0))), none, false⟩,
 ⟨8, .mv (.t 32), none, false⟩])
 (.seq
 (.cln [0, 1, 2, 6, 7, 100000] [100000]
 (.block 4
 (.loop [0, 1, 2, 6, 7, 8, 100000] b189_3)))
 (.seq
 (.seq
 (.reg false [⟨49, .mv (.t 7), none, false⟩,
 ⟨50, .mv (.t 6), none, false⟩,
 ⟨51, .ar .add false (.t 49) (.t 50), none, false⟩,
 ⟨9, .mv (.t 51), none, false⟩])
 (.seq
 (.reg false [⟨52, .mv (.t 9), none, false⟩,
 ⟨53, .mv (.t 1), none, false⟩,
 ⟨54, .ar .lss false (.t 52) (.t 53), none, false⟩])
 (.ite (.t 54)
 (.reg false [⟨55, .mv (.t 0), none, false⟩,
 ⟨56, .mv (.t 7), none, false⟩,
 ⟨57, .mv (.t 9), none, false⟩,
 ⟨58, .mv (.t 1), none, false⟩,
 ⟨59, .mv (.t 2), none, false⟩,
 ⟨60, .ca (.k (.cl 234 [])) [(.t 55), (.t 56), (.t 57), (.t 58), (.t 59)], none, false⟩])
 .skip)))
 (.reg false [⟨61, .mv (.t 6), none, false⟩,
 ⟨62, .ar .mul false (.t 61) (.k (.sc (.int .i64 2))), none, false⟩,
 ⟨6, .mv (.t 62), none, false⟩]))))))
def b189_2 : IC := w189_2
theorem u189_2 (call : CallF) (st : St) : evC call b189_2 st = evC call w189_2 st := rfl
attribute [simp] u189_2 w189_2
def i189 : Ev.Fn := ⟨3, 63, [],
 (.seq
 (.reg false [⟨6, .mv (.k (.sc (.int .i64 20))), none, false⟩])
 (.seq
 (.reg false [⟨10, .mv (.t 6), none, false⟩,
 ⟨7, .mv (.k (.sc (.int .i64 0))), none, false⟩,
 ⟨8, .mv (.t 10), none, false⟩])
 (.seq
 (.cln [0, 1, 2, 6, 7, 100000] [100000]
 (.block 0
 (.loop [0, 1, 2, 6, 7, 8, 100000] b189_1)))
 (.seq
 (.rgw [⟨23, .mv (.t 0), none, false⟩,
 ⟨24, .mv (.t 7), none, false⟩,
 ⟨25, .mv (.t 1), none, false⟩,
 ⟨26, .mv (.t 2), none, false⟩,
 ⟨27, .cw 233 [] [(.t 23), (.t 24), (.t 25), (.t 26)], none, false⟩])
 (.cln [100000] [100000]
 (.block 2
 (.loop [0, 1, 2, 6, 100000] b189_2)))))))⟩
attribute [simp] i189
set_option maxRecDepth 1000000 in
theorem c189 : cFn Try.prog 189 [[233], [0, 1, 2, 6, 7, 8, 100000], [0, 1, 2, 6, 7, 100000], [100000], [0, 1, 2, 6, 100000], [0, 1, 2, 6, 7, 8, 100000], [0, 1, 2, 6, 7, 100000], [100000], [100000], [100000]] = some i189 := by kernel_rfl
theorem e189 : enterOk Try.prog 189 = true := by kernel_rfl
def i193 : Ev.Fn := ⟨1, 29, [.tmp 2],
 (.seq
 (.reg false [⟨1, .bx (.t 0), none, false⟩,
 ⟨2, .mv (.k (.sc (.bool false))), none, false⟩])
 (.seq
 (.reg false [⟨6, .fa 0 (.t 1), none, false⟩,
 ⟨7, .ld 1 false (.t 6), none, false⟩,
 ⟨8, .ca (.k (.cl 236 [])) [(.t 7)], none, false⟩,
 ⟨5, .mv (.t 8), none, false⟩,
 ⟨9, .xt (.t 5) 0, none, false⟩,
 ⟨10, .xt (.t 5) 1, none, false⟩,
 ⟨3, .mv (.t 9), none, false⟩,
 ⟨4, .mv (.t 10), none, false⟩])
 (.seq
 (.reg false [⟨11, .mv (.t 4), none, false⟩,
 ⟨12, .mv (.t 11), none, false⟩,
 ⟨13, .fa 1 (.t 1), (some (12, true)), false⟩,
 ⟨14, .ld 1 false (.t 13), (some (12, true)), false⟩,
 ⟨15, .ca (.k (.cl 105 [])) [(.t 14), (.k (.sc (.int .i64 0))), (.k (.sc (.int .i64 100)))], (some (12, true)), false⟩,
 ⟨16, .pk (.t 12) (.t 15) (.k (.sc (.bool false))), none, false⟩,
 ⟨17, .mv (.t 16), none, false⟩,
 ⟨18, .fa 1 (.t 1), (some (17, true)), false⟩,
 ⟨19, .ld 1 false (.t 18), (some (17, true)), false⟩,
 ⟨20, .mv (.t 3), (some (17, true)), false⟩,
 ⟨21, .ar .sub false (.t 19) (.t 20), (some (17, true)), false⟩,
 ⟨22, .ca (.k (.cl 105 [])) [(.t 21), (.k (.sc (.int .i64 (-15)))), (.k (.sc (.int .i64 15)))], (some (17, true)), false⟩,
 ⟨23, .pk (.t 17) (.t 22) (.k (.sc (.bool false))), none, false⟩,
 ⟨24, .mv (.t 23), none, false⟩,
 ⟨25, .fa 2 (.t 1), (some (24, true)), false⟩,
 ⟨26, .ld 1 false (.t 25), (some (24, true)), false⟩,
 ⟨27, .ca (.k (.cl 105 [])) [(.t 26), (.k (.sc (.int .i64 0))), (.k (.sc (.int .i64 179)))], (some (24, true)), false⟩,
 ⟨28, .pk (.t 24) (.t 27) (.k (.sc (.bool false))), none, false⟩,
 ⟨2, .mv (.t 28), none, false⟩])
 .ret)))⟩
attribute [simp] i193
set_option maxRecDepth 1000000 in
theorem c193 : cFn Try.prog 193 [[]] = some i193 := by kernel_rfl
theorem e193 : enterOk Try.prog 193 = true := by kernel_rfl
def i197 : Ev.Fn := ⟨1, 42, [.tmp 2],
 (.seq
 (.reg false [⟨2, .mv (.k (.sc (.bool false))), none, false⟩])
 (.seq
 (.reg false [⟨5, .mv (.t 0), none, false⟩,
 ⟨6, .nc (.t 5), none, false⟩,
 ⟨7, .fa 0 (.t 6), none, false⟩,
 ⟨8, .ld 1 false (.t 7), none, false⟩,
 ⟨9, .ca (.k (.cl 237 [])) [(.t 8)], none, false⟩,
 ⟨3, .mv (.t 9), none, false⟩])
 (.seq
 (.seq
 (.reg false [⟨10, .mv (.t 3), none, false⟩,
 ⟨11, .ar .lss false (.t 10) (.k (.sc (.int .i64 0))), none, false⟩,
 ⟨12, .mv (.t 11), none, false⟩,
 ⟨13, .mv (.t 0), (some (12, false)), false⟩,
 ⟨14, .nc (.t 13), (some (12, false)), false⟩,
 ⟨15, .fa 1 (.t 14), (some (12, false)), false⟩,
 ⟨16, .ld 1 false (.t 15), (some (12, false)), false⟩,
 ⟨17, .ca (.k (.cl 97 [])) [(.t 16), (.k (.sc (.int .i64 0))), (.k (.sc (.int .i64 100)))], (some (12, false)), false⟩,
 ⟨18, .nt (.t 17), (some (12, false)), false⟩,
 ⟨19, .pk (.t 12) (.k (.sc (.bool true))) (.t 18), none, false⟩])
 (.ite (.t 19)
 (.seq
 (.reg false [⟨2, .mv (.k (.sc (.bool false))), none, false⟩])
 .ret)
 .skip))
 (.seq
 (.reg false [⟨20, .ca (.k (.cl 238 [])) [], none, false⟩,
 ⟨21, .mv (.t 3), none, false⟩,
 ⟨22, .ia 1 (.t 20) (.t 21), none, false⟩,
 ⟨23, .ld 1 false (.t 22), none, false⟩,
 ⟨24, .ia 1 (.t 23) (.k (.sc (.int .i64 0))), none, false⟩,
 ⟨25, .ld 1 false (.t 24), none, false⟩,
 ⟨4, .mv (.t 25), none, false⟩])
 (.seq
 (.reg false [⟨26, .mv (.t 0), none, false⟩,
 ⟨27, .nc (.t 26), none, false⟩,
 ⟨28, .fa 1 (.t 27), none, false⟩,
 ⟨29, .ld 1 false (.t 28), none, false⟩,
 ⟨30, .mv (.t 4), none, false⟩,
 ⟨31, .ar .sub false (.t 30) (.k (.sc (.int .i64 15))), none, false⟩,
 ⟨32, .mv (.t 4), none, false⟩,
 ⟨33, .ar .add false (.t 32) (.k (.sc (.int .i64 15))), none, false⟩,
 ⟨34, .ca (.k (.cl 97 [])) [(.t 29), (.t 31), (.t 33)], none, false⟩,
 ⟨35, .mv (.t 34), none, false⟩,
 ⟨36, .mv (.t 0), (some (35, true)), false⟩,
 ⟨37, .nc (.t 36), (some (35, true)), false⟩,
 ⟨38, .fa 2 (.t 37), (some (35, true)), false⟩,
 ⟨39, .ld 1 false (.t 38), (some (35, true)), false⟩,
 ⟨40, .ca (.k (.cl 239 [])) [(.t 39)], (some (35, true)), false⟩,
 ⟨41, .pk (.t 35) (.t 40) (.k (.sc (.bool false))), none, false⟩,
 ⟨2, .mv (.t 41), none, false⟩])
 .ret)))))⟩
attribute [simp] i197
set_option maxRecDepth 1000000 in
theorem c197 : cFn Try.prog 197 [[]] = some i197 := by kernel_rfl
theorem e197 : enterOk Try.prog 197 = true := by kernel_rfl
def i198 : Ev.Fn := ⟨3, 47, [.tmp 6],
 (.seq
 (.reg false [⟨6, .mv (.k (.sc (.bool false))), none, false⟩])
 (.seq
 (.reg true [⟨7, .mv (.t 0), none, false⟩,
 ⟨8, .nc (.t 7), none, false⟩,
 ⟨9, .fa 0 (.t 8), none, false⟩,
 ⟨10, .ld 1 false (.t 9), none, false⟩,
 ⟨11, .mv (.t 1), none, false⟩,
 ⟨12, .ca (.k (.cl 97 [])) [(.t 10), (.k (.sc (.int .i64 0))), (.t 11)], none, false⟩,
 ⟨13, .mv (.t 12), none, false⟩,
 ⟨14, .mv (.t 0), (some (13, true)), false⟩,
 ⟨15, .nc (.t 14), (some (13, true)), false⟩,
 ⟨16, .fa 1 (.t 15), (some (13, true)), false⟩,
 ⟨17, .ld 1 false (.t 16), (some (13, true)), false⟩,
 ⟨18, .mv (.t 2), (some (13, true)), false⟩,
 ⟨19, .ca (.k (.cl 97 [])) [(.t 17), (.k (.sc (.int .i64 0))), (.t 18)], (some (13, true)), false⟩,
 ⟨20, .pk (.t 13) (.t 19) (.k (.sc (.bool false))), none, false⟩,
 ⟨21, .mv (.t 20), none, false⟩,
 ⟨22, .mv (.t 0), (some (21, true)), false⟩,
 ⟨23, .nc (.t 22), (some (21, true)), false⟩,
 ⟨24, .fa 2 (.t 23), (some (21, true)), false⟩,
 ⟨25, .ld 1 false (.t 24), (some (21, true)), false⟩,
 ⟨26, .mv (.t 1), (some (21, true)), false⟩,
 ⟨27, .mv (.t 0), (some (21, true)), false⟩,
 ⟨28, .nc (.t 27), (some (21, true)), false⟩,
 ⟨29, .fa 0 (.t 28), (some (21, true)), false⟩,
 ⟨30, .ld 1 false (.t 29), (some (21, true)), false⟩,
 ⟨31, .ar .sub false (.t 26) (.t 30), (some (21, true)), false⟩,
 ⟨32, .ca (.k (.cl 97 [])) [(.t 25), (.k (.sc (.int .i64 1))), (.t 31)], (some (21, true)), false⟩,
 ⟨33, .pk (.t 21) (.t 32) (.k (.sc (.bool false))), none, false⟩,
 ⟨34, .mv (.t 33), none, false⟩,
 ⟨35, .mv (.t 0), (some (34, true)), false⟩,
 ⟨36, .nc (.t 35), (some (34, true)), false⟩,
 ⟨37, .fa 3 (.t 36), (some (34, true)), false⟩,
 ⟨38, .ld 1 false (.t 37), (some (34, true)), false⟩,
 ⟨39, .mv (.t 2), (some (34, true)), false⟩,
 ⟨40, .mv (.t 0), (some (34, true)), false⟩,
 ⟨41, .nc (.t 40), (some (34, true)), false⟩,
 ⟨42, .fa 1 (.t 41), (some (34, true)), false⟩,
 ⟨43, .ld 1 false (.t 42), (some (34, true)), false⟩,
 ⟨44, .ar .sub false (.t 39) (.t 43), (some (34, true)), false⟩,
 ⟨45, .ca (.k (.cl 97 [])) [(.t 38), (.k (.sc (.int .i64 1))), (.t 44)], (some (34, true)), false⟩,
 ⟨46, .pk (.t 34) (.t 45) (.k (.sc (.bool false))), none, false⟩,
 ⟨6, .mv (.t 46), none, false⟩])
 .ret))⟩
attribute [simp] i198
set_option maxRecDepth 1000000 in
theorem c198 : cFn Try.prog 198 [[]] = some i198 := by kernel_rfl
theorem e198 : enterOk Try.prog 198 = true := by kernel_rfl
def i199 : Ev.Fn := ⟨1, 17, [.cell 2 4 true],
 (.seq
 (.reg false [⟨1, .bx (.t 0), none, false⟩,
 ⟨2, .al [(.sc (.int .i64 0)), (.sc (.int .i64 0)), (.sc (.int .i64 0)), (.sc (.int .i64 0))], none, false⟩])
 (.seq
 (.reg false [⟨3, .al [(.sc (.int .i64 0)), (.sc (.int .i64 0)), (.sc (.int .i64 0)), (.sc (.int .i64 0))], none, false⟩])
 (.seq
 (.reg false [⟨4, .fa 0 (.t 1), none, false⟩,
 ⟨5, .ld 1 false (.t 4), none, false⟩,
 ⟨6, .fa 0 (.t 3), none, false⟩,
 ⟨1, .so 1 (.t 6) (.t 5), none, true⟩])
 (.seq
 (.reg false [⟨7, .fa 1 (.t 1), none, false⟩,
 ⟨8, .ld 1 false (.t 7), none, false⟩,
 ⟨9, .fa 1 (.t 3), none, false⟩,
 ⟨1, .so 1 (.t 9) (.t 8), none, true⟩])
 (.seq
 (.reg false [⟨10, .fa 2 (.t 1), none, false⟩,
 ⟨11, .ld 1 false (.t 10), none, false⟩,
 ⟨12, .fa 2 (.t 3), none, false⟩,
 ⟨1, .so 1 (.t 12) (.t 11), none, true⟩])
 (.seq
 (.reg false [⟨13, .fa 3 (.t 1), none, false⟩,
 ⟨14, .ld 1 false (.t 13), none, false⟩,
 ⟨15, .fa 3 (.t 3), none, false⟩,
 ⟨1, .so 1 (.t 15) (.t 14), none, true⟩])
 (.seq
 (.reg false [⟨16, .ld 4 true (.t 3), none, false⟩,
 ⟨1, .so 4 (.t 2) (.t 16), none, true⟩])
 .ret)))))))⟩
attribute [simp] i199
set_option maxRecDepth 1000000 in
theorem c199 : cFn Try.prog 199 [[]] = some i199 := by kernel_rfl
theorem e199 : enterOk Try.prog 199 = true := by kernel_rfl
def i200 : Ev.Fn := ⟨2, 9, [.tmp 4],
 (.seq
 (.reg false [⟨4, .mv (.k (.sc (.bool false))), none, false⟩])
 (.seq
 (.reg false [⟨5, .mv (.t 0), none, false⟩,
 ⟨6, .mv (.t 1), none, false⟩,
 ⟨7, .ca (.k (.cl 240 [])) [(.t 5), (.t 6)], none, false⟩,
 ⟨8, .ar .geq false (.t 7) (.k (.sc (.int .i64 0))), none, false⟩,
 ⟨4, .mv (.t 8), none, false⟩])
 .ret))⟩
attribute [simp] i200
set_option maxRecDepth 1000000 in
theorem c200 : cFn Try.prog 200 [[]] = some i200 := by kernel_rfl
theorem e200 : enterOk Try.prog 200 = true := by kernel_rfl
def i201 : Ev.Fn := ⟨2, 11, [.tmp 3],
 (.seq
 (.reg false [⟨2, .bx (.t 0), none, false⟩,
 ⟨3, .mv (.k (.sc (.bool false))), none, false⟩])
 (.seq
 (.reg false [⟨4, .ld 4 true (.t 2), none, false⟩,
 ⟨5, .fa 6 (.t 1), none, false⟩,
 ⟨6, .ld 1 false (.t 5), none, false⟩,
 ⟨7, .fa 7 (.t 1), none, false⟩,
 ⟨8, .ld 1 false (.t 7), none, false⟩,
 ⟨9, .ca (.k (.cl 202 [])) [(.t 4), (.t 6), (.t 8)], none, false⟩,
 ⟨10, .nt (.t 9), none, false⟩,
 ⟨3, .mv (.t 10), none, false⟩])
 .ret))⟩
attribute [simp] i201
set_option maxRecDepth 1000000 in
theorem c201 : cFn Try.prog 201 [[]] = some i201 := by kernel_rfl
theorem e201 : enterOk Try.prog 201 = true := by kernel_rfl
def i202 : Ev.Fn := ⟨3, 35, [.tmp 6],
 (.seq
 (.reg false [⟨3, .bx (.t 0), none, false⟩,
 ⟨6, .mv (.k (.sc (.bool false))), none, false⟩])
 (.seq
 (.reg false [⟨7, .fa 0 (.t 3), none, false⟩,
 ⟨8, .ld 1 false (.t 7), none, false⟩,
 ⟨9, .mv (.t 1), none, false⟩,
 ⟨10, .ca (.k (.cl 105 [])) [(.t 8), (.k (.sc (.int .i64 0))), (.t 9)], none, false⟩,
 ⟨11, .mv (.t 10), none, false⟩,
 ⟨12, .fa 1 (.t 3), (some (11, true)), false⟩,
 ⟨13, .ld 1 false (.t 12), (some (11, true)), false⟩,
 ⟨14, .mv (.t 2), (some (11, true)), false⟩,
 ⟨15, .ca (.k (.cl 105 [])) [(.t 13), (.k (.sc (.int .i64 0))), (.t 14)], (some (11, true)), false⟩,
 ⟨16, .pk (.t 11) (.t 15) (.k (.sc (.bool false))), none, false⟩,
 ⟨17, .mv (.t 16), none, false⟩,
 ⟨18, .fa 2 (.t 3), (some (17, true)), false⟩,
 ⟨19, .ld 1 false (.t 18), (some (17, true)), false⟩,
 ⟨20, .mv (.t 1), (some (17, true)), false⟩,
 ⟨21, .fa 0 (.t 3), (some (17, true)), false⟩,
 ⟨22, .ld 1 false (.t 21), (some (17, true)), false⟩,
 ⟨23, .ar .sub false (.t 20) (.t 22), (some (17, true)), false⟩,
 ⟨24, .ca (.k (.cl 105 [])) [(.t 19), (.k (.sc (.int .i64 1))), (.t 23)], (some (17, true)), false⟩,
 ⟨25, .pk (.t 17) (.t 24) (.k (.sc (.bool false))), none, false⟩,
 ⟨26, .mv (.t 25), none, false⟩,
 ⟨27, .fa 3 (.t 3), (some (26, true)), false⟩,
 ⟨28, .ld 1 false (.t 27), (some (26, true)), false⟩,
 ⟨29, .mv (.t 2), (some (26, true)), false⟩,
 ⟨30, .fa 1 (.t 3), (some (26, true)), false⟩,
 ⟨31, .ld 1 false (.t 30), (some (26, true)), false⟩,
 ⟨32, .ar .sub false (.t 29) (.t 31), (some (26, true)), false⟩,
 ⟨33, .ca (.k (.cl 105 [])) [(.t 28), (.k (.sc (.int .i64 1))), (.t 32)], (some (26, true)), false⟩,
 ⟨34, .pk (.t 26) (.t 33) (.k (.sc (.bool false))), none, false⟩,
 ⟨6, .mv (.t 34), none, false⟩])
 .ret))⟩
attribute [simp] i202
set_option maxRecDepth 1000000 in
theorem c202 : cFn Try.prog 202 [[]] = some i202 := by kernel_rfl
theorem e202 : enterOk Try.prog 202 = true := by kernel_rfl
def i205 : Ev.Fn := ⟨2, 25, [.tmp 4],
 (.seq
 (.reg false [⟨2, .bx (.t 0), none, false⟩,
 ⟨3, .bx (.t 1), none, false⟩,
 ⟨4, .mv (.k (.sc (.bool false))), none, false⟩])
 (.seq
 (.seq
 (.reg false [⟨5, .fa 0 (.t 2), none, false⟩,
 ⟨6, .ld 1 false (.t 5), none, false⟩,
 ⟨7, .fa 0 (.t 3), none, false⟩,
 ⟨8, .ld 1 false (.t 7), none, false⟩,
 ⟨9, .ar .neq false (.t 6) (.t 8), none, false⟩])
 (.ite (.t 9)
 (.seq
 (.reg false [⟨4, .mv (.k (.sc (.bool false))), none, false⟩])
 .ret)
 .skip))
 (.seq
 (.seq
 (.reg false [⟨10, .fa 1 (.t 2), none, false⟩,
 ⟨11, .ld 1 false (.t 10), none, false⟩,
 ⟨12, .fa 1 (.t 3), none, false⟩,
 ⟨13, .ld 1 false (.t 12), none, false⟩,
 ⟨14, .ar .neq false (.t 11) (.t 13), none, false⟩])
 (.ite (.t 14)
 (.seq
 (.reg false [⟨4, .mv (.k (.sc (.bool false))), none, false⟩])
 .ret)
 .skip))
 (.seq
 (.seq
 (.reg false [⟨15, .fa 2 (.t 2), none, false⟩,
 ⟨16, .ld 1 false (.t 15), none, false⟩,
 ⟨17, .fa 2 (.t 3), none, false⟩,
 ⟨18, .ld 1 false (.t 17), none, false⟩,
 ⟨19, .ar .neq false (.t 16) (.t 18), none, false⟩])
 (.ite (.t 19)
 (.seq
 (.reg false [⟨4, .mv (.k (.sc (.bool false))), none, false⟩])
 .ret)
 .skip))
 (.seq
 (.seq
 (.reg false [⟨20, .fa 3 (.t 2), none, false⟩,
 ⟨21, .ld 1 false (.t 20), none, false⟩,
 ⟨22, .fa 3 (.t 3), none, false⟩,
 ⟨23, .ld 1 false (.t 22), none, false⟩,
 ⟨24, .ar .neq false (.t 21) (.t 23), none, false⟩])
 (.ite (.t 24)
 (.seq
 (.reg false [⟨4, .mv (.k (.sc (.bool false))), none, false⟩])
 .ret)
 .skip))
 (.seq
 (.reg false [⟨4, .mv (.k (.sc (.bool true))), none, false⟩])
 .ret))))))⟩
attribute [simp] i205
set_option maxRecDepth 1000000 in
theorem c205 : cFn Try.prog 205 [[]] = some i205 := by kernel_rfl
theorem e205 : enterOk Try.prog 205 = true := by kernel_rfl
def i219 : Ev.Fn := ⟨1, 9, [.tmp 2],
 (.seq
 (.reg false [⟨2, .mv (.k (.sc (.bool false))), none, false⟩])
 (.seq
 (.reg false [⟨3, .mv (.t 0), none, false⟩,
 ⟨4, .ar .geq false (.t 3) (.k (.sc (.int .u8 97))), none, false⟩,
 ⟨5, .mv (.t 4), none, false⟩,
 ⟨6, .mv (.t 0), (some (5, true)), false⟩,
 ⟨7, .ar .leq false (.t 6) (.k (.sc (.int .u8 122))), (some (5, true)), false⟩,
 ⟨8, .pk (.t 5) (.t 7) (.k (.sc (.bool false))), none, false⟩,
 ⟨2, .mv (.t 8), none, false⟩])
 .ret))⟩
attribute [simp] i219
set_option maxRecDepth 1000000 in
theorem c219 : cFn Try.prog 219 [[]] = some i219 := by kernel_rfl
theorem e219 : enterOk Try.prog 219 = true := by kernel_rfl
def i220 : Ev.Fn := ⟨1, 9, [.tmp 2],
 (.seq
 (.reg false [⟨2, .mv (.k (.sc (.bool false))), none, false⟩])
 (.seq
 (.reg false [⟨3, .mv (.t 0), none, false⟩,
 ⟨4, .ar .geq false (.t 3) (.k (.sc (.int .u8 48))), none, false⟩,
 ⟨5, .mv (.t 4), none, false⟩,
 ⟨6, .mv (.t 0), (some (5, true)), false⟩,
 ⟨7, .ar .leq false (.t 6) (.k (.sc (.int .u8 57))), (some (5, true)), false⟩,
 ⟨8, .pk (.t 5) (.t 7) (.k (.sc (.bool false))), none, false⟩,
 ⟨2, .mv (.t 8), none, false⟩])
 .ret))⟩
attribute [simp] i220
set_option maxRecDepth 1000000 in
theorem c220 : cFn Try.prog 220 [[]] = some i220 := by kernel_rfl
theorem e220 : enterOk Try.prog 220 = true := by kernel_rfl
def w233_2 : IC :=
(.seq
 (.seq
 (.reg true [⟨18, .mv (.t 9), none, false⟩,
 ⟨19, .mv (.t 1), none, false⟩,
 ⟨20, .ar .gtr false (.t 18) (.t 19), none, false⟩,
 ⟨21, .mv (.t 20), none, false⟩,
 ⟨22, .mv (.t 3), (some (21, true)), false⟩,
 ⟨23, .mv (.t 0), (some (21, true)), false⟩,
 ⟨24, .mv (.t 9), (some (21, true)), false⟩,
 ⟨25, .ia 1 (.t 23) (.t 24), (some (21, true)), false⟩,
 ⟨26, .ld 1 false (.t 25), (some (21, true)), false⟩,
 ⟨27, .mv (.t 0), (some (21, true)), false⟩,
 ⟨28, .mv (.t 9), (some (21, true)), false⟩,
 ⟨29, .ar .sub false (.t 28) (.k (.sc (.int .i64 1))), (some (21, true)), false⟩,
 ⟨30, .ia 1 (.t 27) (.t 29), (some (21, true)), false⟩,
 ⟨31, .ld 1 false (.t 30), (some (21, true)), false⟩,
 ⟨32, .ca (.t 22) [(.t 26), (.t 31)], (some (21, true)), false⟩,
 ⟨33, .ar .lss false (.t 32) (.k (.sc (.int .i64 0))), (some (21, true)), false⟩,
 ⟨34, .pk (.t 21) (.t 33) (.k (.sc (.bool false))), none, false⟩])
 (.ite (.t 34)
 .skip
 (.exit 2)))
 (.seq
 (.block 3
 (.rgc [] [⟨37, .mv (.t 0), none, false⟩,
 ⟨38, .mv (.t 9), none, false⟩,
 ⟨39, .mv (.t 0), none, false⟩,
 ⟨40, .mv (.t 9), none, false⟩,
 ⟨41, .ar .sub false (.t 40) (.k (.sc (.int .i64 1))), none, false⟩,
 ⟨42, .mv (.t 0), none, false⟩,
 ⟨43, .mv (.t 9), none, false⟩,
 ⟨44, .ar .sub false (.t 43) (.k (.sc (.int .i64 1))), none, false⟩,
 ⟨45, .ia 1 (.t 42) (.t 44), none, false⟩,
 ⟨46, .ld 1 false (.t 45), none, false⟩,
 ⟨47, .mv (.t 0), none, false⟩,
 ⟨48, .mv (.t 9), none, false⟩,
 ⟨49, .ia 1 (.t 47) (.t 48), none, false⟩,
 ⟨50, .ld 1 false (.t 49), none, false⟩,
 ⟨51, .ia 1 (.t 37) (.t 38), none, false⟩,
 ⟨0, .so 1 (.t 51) (.t 46), none, true⟩,
 ⟨52, .ia 1 (.t 39) (.t 41), none, false⟩,
 ⟨0, .so 1 (.t 52) (.t 50), none, true⟩]))
 (.reg false [⟨35, .mv (.t 9), none, false⟩,
 ⟨36, .ar .sub false (.t 35) (.k (.sc (.int .i64 1))), none, false⟩,
 ⟨9, .mv (.t 36), none, false⟩])))
def b233_2 : IC := w233_2
theorem u233_2 (call : CallF) (st : St) : evC call b233_2 st = evC call w233_2 st := rfl
attribute [simp] u233_2 w233_2
def w233_1 : IC :=
(.seq
 (.seq
 (.reg false [⟨12, .mv (.t 8), none, false⟩,
 ⟨13, .mv (.t 2), none, false⟩,
 ⟨14, .ar .lss false (.t 12) (.t 13), none, false⟩])
 (.ite (.t 14)
 .skip
 (.exit 0)))
 (.seq
 (.block 1
 (.seq
 (.reg false [⟨17, .mv (.t 8), none, false⟩,
 ⟨9, .mv (.t 17), none, false⟩])
 (.cln [0, 1, 2, 3, 8, 100000] [100000]
 (.block 2
 (.loop [0, 1, 2, 3, 8, 9, 100000] b233_2)))))
 (.reg false [⟨15, .mv (.t 8), none, false⟩,
 ⟨16, .ar .add false (.t 15) (.k (.sc (.int .i64 1))), none, false⟩,
 ⟨8, .mv (.t 16), none, false⟩])))
def b233_1 : IC := w233_1
theorem u233_1 (call : CallF) (st : St) : evC call b233_1 st = evC call w233_1 st := rfl
attribute [simp] u233_1 w233_1
def i233 : Ev.Fn := ⟨4, 53, [],
 (.seq
 (.reg false [⟨10, .mv (.t 1), none, false⟩,
 ⟨11, .ar .add false (.t 10) (.k (.sc (.int .i64 1))), none, false⟩,
 ⟨8, .mv (.t 11), none, false⟩])
 (.cln [100000] [100000]
 (.block 0
 (.loop [0, 1, 2, 3, 8, 100000] b233_1))))⟩
attribute [simp] i233
set_option maxRecDepth 1000000 in
theorem c233 : cFn Try.prog 233 [[], [0, 1, 2, 3, 8, 100000], [0, 1, 2, 3, 8, 9, 100000], [0, 1, 2, 3, 8, 100000], [100000], [100000], [100000]] = some i233 := by kernel_rfl
theorem e233 : enterOk Try.prog 233 = true := by kernel_rfl
end Go.Proofs.Ytojjkjbffihppaa.walkS
