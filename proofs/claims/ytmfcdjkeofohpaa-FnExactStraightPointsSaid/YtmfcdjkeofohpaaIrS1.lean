/- The functions that some rows reach, turned; no conditions. -/
import Derived.Test.YtmfcdjkeofohpaaEv2
import Derived.KernelRfl
import Derived.Test.YtmfcdjkeofohpaaProg
namespace Go.Proofs.Ytmfcdjkeofohpaa.walkS
open Go Go.Proofs.Ytmfcdjkeofohpaa.Ev
def i16 : Ev.Fn := ⟨1, 96, [.tmp 2],
 (.seq
 (.reg false [⟨1, .bx (.t 0), none, false⟩,
 ⟨2, .mv (.k (.sc (.bool false))), none, false⟩])
 (.seq
 (.reg false [⟨3, .mv (.k (.sc (.int .i64 1048576))), none, false⟩])
 (.seq
 (.reg false [⟨14, .ld 4 true (.t 1), none, false⟩,
 ⟨15, .mv (.t 3), none, false⟩,
 ⟨16, .ca (.k (.cl 66 [])) [(.t 14), (.t 15)], none, false⟩,
 ⟨3, .mv (.t 16), none, false⟩])
 (.seq
 (.seq
 (.reg false [⟨17, .mv (.t 3), none, false⟩,
 ⟨18, .ar .lss false (.t 17) (.k (.sc (.int .i64 0))), none, false⟩])
 (.ite (.t 18)
 (.seq
 (.reg false [⟨2, .mv (.k (.sc (.bool true))), none, false⟩])
 .ret)
 .skip))
 (.seq
 (.reg false [⟨20, .ld 4 true (.t 1), none, false⟩,
 ⟨21, .ca (.k (.cl 68 [])) [(.t 20)], none, false⟩,
 ⟨22, .ca (.k (.cl 67 [])) [(.t 21)], none, false⟩,
 ⟨19, .mv (.t 22), none, false⟩,
 ⟨23, .xt (.t 19) 0, none, false⟩,
 ⟨24, .xt (.t 19) 1, none, false⟩,
 ⟨4, .mv (.t 23), none, false⟩,
 ⟨5, .mv (.t 24), none, false⟩])
 (.seq
 (.reg false [⟨25, .ld 4 true (.t 1), none, false⟩,
 ⟨26, .ca (.k (.cl 68 [])) [(.t 25)], none, false⟩,
 ⟨6, .al [(.sc (.int .i64 0)), (.sc (.int .i64 0)), .nl, .nl], none, false⟩,
 ⟨1, .so 4 (.t 6) (.t 26), none, true⟩])
 (.seq
 (.reg false [⟨28, .ld 4 true (.t 6), none, false⟩,
 ⟨29, .ca (.k (.cl 69 [])) [(.t 28)], none, false⟩,
 ⟨27, .mv (.t 29), none, false⟩,
 ⟨30, .xt (.t 27) 0, none, false⟩,
 ⟨31, .xt (.t 27) 1, none, false⟩,
 ⟨7, .mv (.t 30), none, false⟩,
 ⟨8, .mv (.t 31), none, false⟩])
 (.seq
 (.seq
 (.reg false [⟨32, .mv (.t 7), none, false⟩,
 ⟨33, .mv (.t 4), none, false⟩,
 ⟨34, .ca (.k (.cl 55 [])) [(.t 32), (.t 33)], none, false⟩,
 ⟨35, .nt (.t 34), none, false⟩,
 ⟨36, .mv (.t 35), none, false⟩,
 ⟨37, .mv (.t 8), (some (36, false)), false⟩,
 ⟨38, .mv (.t 5), (some (36, false)), false⟩,
 ⟨39, .ar .neq false (.t 37) (.t 38), (some (36, false)), false⟩,
 ⟨40, .pk (.t 36) (.k (.sc (.bool true))) (.t 39), none, false⟩])
 (.ite (.t 40)
 (.seq
 (.reg false [⟨2, .mv (.k (.sc (.bool false))), none, false⟩])
 .ret)
 .skip))
 (.seq
 (.seq
 (.reg true [⟨41, .ld 4 true (.t 6), none, false⟩,
 ⟨42, .ld 4 true (.t 1), none, false⟩,
 ⟨43, .ca (.k (.cl 68 [])) [(.t 42)], none, false⟩,
 ⟨44, .ca (.k (.cl 70 [])) [(.t 41), (.t 43)], none, false⟩,
 ⟨45, .nt (.t 44), none, false⟩])
 (.ite (.t 45)
 (.seq
 (.reg false [⟨2, .mv (.k (.sc (.bool false))), none, false⟩])
 .ret)
 .skip))
 (.seq
 (.reg false [⟨9, .mv (.k (.sc (.int .i64 1))), none, false⟩])
 (.seq
 (.rgw [⟨46, .ld 4 true (.t 6), none, false⟩,
 ⟨47, .mv (.t 9), none, false⟩,
 ⟨48, .cw 71 [] [(.t 46), (.t 47)], none, false⟩,
 ⟨9, .mv (.t 48), none, false⟩])
 (.seq
 (.seq
 (.reg false [⟨49, .mv (.t 9), none, false⟩,
 ⟨50, .ar .lss false (.t 49) (.k (.sc (.int .i64 0))), none, false⟩,
 ⟨51, .mv (.t 50), none, false⟩,
 ⟨52, .mv (.t 7), (some (51, false)), false⟩,
 ⟨53, .mv (.t 4), (some (51, false)), false⟩,
 ⟨54, .ca (.k (.cl 55 [])) [(.t 52), (.t 53)], (some (51, false)), false⟩,
 ⟨55, .nt (.t 54), (some (51, false)), false⟩,
 ⟨56, .pk (.t 51) (.k (.sc (.bool true))) (.t 55), none, false⟩,
 ⟨57, .mv (.t 56), none, false⟩,
 ⟨58, .mv (.t 8), (some (57, false)), false⟩,
 ⟨59, .mv (.t 5), (some (57, false)), false⟩,
 ⟨60, .ar .neq false (.t 58) (.t 59), (some (57, false)), false⟩,
 ⟨61, .pk (.t 57) (.k (.sc (.bool true))) (.t 60), none, false⟩])
 (.ite (.t 61)
 (.seq
 (.reg false [⟨2, .mv (.k (.sc (.bool false))), none, false⟩])
 .ret)
 .skip))
 (.seq
 (.reg false [⟨10, .mv (.k (.sc (.int .i64 1))), none, false⟩])
 (.seq
 (.rgw [⟨62, .mv (.t 7), none, false⟩,
 ⟨63, .mv (.t 10), none, false⟩,
 ⟨64, .cw 62 [] [(.t 62), (.t 63)], none, false⟩,
 ⟨10, .mv (.t 64), none, false⟩])
 (.seq
 (.reg false [⟨11, .mv (.k (.sc (.int .i64 1))), none, false⟩])
 (.seq
 (.reg false [⟨65, .mv (.t 7), none, false⟩,
 ⟨66, .mv (.t 11), none, false⟩,
 ⟨67, .ca (.k (.cl 63 [])) [(.t 65), (.t 66)], none, false⟩,
 ⟨11, .mv (.t 67), none, false⟩])
 (.seq
 (.seq
 (.reg false [⟨68, .mv (.t 11), none, false⟩,
 ⟨69, .ar .lss false (.t 68) (.k (.sc (.int .i64 0))), none, false⟩])
 (.ite (.t 69)
 (.seq
 (.reg false [⟨2, .mv (.k (.sc (.bool false))), none, false⟩])
 .ret)
 .skip))
 (.seq
 (.seq
 (.reg false [⟨70, .mv (.t 11), none, false⟩,
 ⟨71, .mv (.t 10), none, false⟩,
 ⟨72, .ar .neq false (.t 70) (.t 71), none, false⟩])
 (.ite (.t 72)
 (.seq
 (.reg false [⟨2, .mv (.k (.sc (.bool false))), none, false⟩])
 .ret)
 .skip))
 (.seq
 (.reg false [⟨74, .ld 4 true (.t 1), none, false⟩,
 ⟨75, .ca (.k (.cl 68 [])) [(.t 74)], none, false⟩,
 ⟨76, .ca (.k (.cl 69 [])) [(.t 75)], none, false⟩,
 ⟨73, .mv (.t 76), none, false⟩,
 ⟨77, .xt (.t 73) 0, none, false⟩,
 ⟨78, .xt (.t 73) 1, none, false⟩,
 ⟨12, .mv (.t 77), none, false⟩,
 ⟨13, .mv (.t 78), none, false⟩])
 (.seq
 (.seq
 (.reg false [⟨79, .mv (.t 12), none, false⟩,
 ⟨80, .mv (.t 4), none, false⟩,
 ⟨81, .ca (.k (.cl 55 [])) [(.t 79), (.t 80)], none, false⟩,
 ⟨82, .nt (.t 81), none, false⟩,
 ⟨83, .mv (.t 82), none, false⟩,
 ⟨84, .mv (.t 13), (some (83, false)), false⟩,
 ⟨85, .mv (.t 5), (some (83, false)), false⟩,
 ⟨86, .ar .neq false (.t 84) (.t 85), (some (83, false)), false⟩,
 ⟨87, .pk (.t 83) (.k (.sc (.bool true))) (.t 86), none, false⟩])
 (.ite (.t 87)
 (.seq
 (.reg false [⟨2, .mv (.k (.sc (.bool false))), none, false⟩])
 .ret)
 .skip))
 (.seq
 (.reg false [⟨11, .mv (.k (.sc (.int .i64 1))), none, false⟩])
 (.seq
 (.reg false [⟨88, .mv (.t 7), none, false⟩,
 ⟨89, .mv (.t 11), none, false⟩,
 ⟨90, .ca (.k (.cl 63 [])) [(.t 88), (.t 89)], none, false⟩,
 ⟨11, .mv (.t 90), none, false⟩])
 (.seq
 (.seq
 (.reg false [⟨91, .mv (.t 11), none, false⟩,
 ⟨92, .ar .lss false (.t 91) (.k (.sc (.int .i64 0))), none, false⟩])
 (.ite (.t 92)
 (.seq
 (.reg false [⟨2, .mv (.k (.sc (.bool false))), none, false⟩])
 .ret)
 .skip))
 (.seq
 (.seq
 (.reg false [⟨93, .mv (.t 11), none, false⟩,
 ⟨94, .mv (.t 10), none, false⟩,
 ⟨95, .ar .neq false (.t 93) (.t 94), none, false⟩])
 (.ite (.t 95)
 (.seq
 (.reg false [⟨2, .mv (.k (.sc (.bool false))), none, false⟩])
 .ret)
 .skip))
 (.seq
 (.reg false [⟨2, .mv (.k (.sc (.bool true))), none, false⟩])
 .ret)))))))))))))))))))))))))⟩
attribute [simp] i16
set_option maxRecDepth 1000000 in
theorem c16 : cFn Try.prog 16 [[71, 62]] = some i16 := by kernel_rfl
theorem e16 : enterOk Try.prog 16 = true := by kernel_rfl
def w53_1 : IC :=
(.seq
 (.seq
 (.reg false [⟨8, .mv (.t 4), none, false⟩,
 ⟨9, .mv (.t 0), none, false⟩,
 ⟨10, .ln false (.t 9), none, false⟩,
 ⟨11, .ar .lss false (.t 8) (.t 10), none, false⟩])
 (.ite (.t 11)
 .skip
 (.exit 0)))
 (.seq
 (.block 1
 (.reg false [⟨14, .mv (.t 3), none, false⟩,
 ⟨15, .mv (.t 4), none, false⟩,
 ⟨16, .mv (.t 0), none, false⟩,
 ⟨17, .mv (.t 4), none, false⟩,
 ⟨18, .ia 1 (.t 16) (.t 17), none, false⟩,
 ⟨19, .ld 1 false (.t 18), none, false⟩,
 ⟨20, .ia 1 (.t 14) (.t 15), none, false⟩,
 ⟨1, .so 1 (.t 20) (.t 19), none, true⟩]))
 (.reg false [⟨12, .mv (.t 4), none, false⟩,
 ⟨13, .ar .add false (.t 12) (.k (.sc (.int .i64 1))), none, false⟩,
 ⟨4, .mv (.t 13), none, false⟩])))
def b53_1 : IC := w53_1
theorem u53_1 (call : CallF) (st : St) : evC call b53_1 st = evC call w53_1 st := rfl
attribute [simp] u53_1 w53_1
def i53 : Ev.Fn := ⟨1, 22, [.tmp 2],
 (.seq
 (.reg false [⟨2, .mv (.k .nl), none, false⟩])
 (.seq
 (.reg false [⟨5, .mv (.t 0), none, false⟩,
 ⟨6, .ln false (.t 5), none, false⟩,
 ⟨7, .ms 2 1 [(.sc (.int .i64 0))] (.t 6), none, false⟩,
 ⟨3, .mv (.t 7), none, false⟩])
 (.seq
 (.seq
 (.reg false [⟨4, .mv (.k (.sc (.int .i64 0))), none, false⟩])
 (.cln [3] [2]
 (.block 0
 (.loop [0, 3, 4] b53_1))))
 (.seq
 (.reg false [⟨21, .mv (.t 3), none, false⟩,
 ⟨2, .mv (.t 21), none, false⟩])
 .ret))))⟩
attribute [simp] i53
set_option maxRecDepth 1000000 in
theorem c53 : cFn Try.prog 53 [[], [0, 3, 4], [3], [2]] = some i53 := by kernel_rfl
theorem e53 : enterOk Try.prog 53 = true := by kernel_rfl
def w55_1 : IC :=
(.seq
 (.seq
 (.reg false [⟨11, .mv (.t 5), none, false⟩,
 ⟨12, .mv (.t 0), none, false⟩,
 ⟨13, .ln false (.t 12), none, false⟩,
 ⟨14, .ar .lss false (.t 11) (.t 13), none, false⟩])
 (.ite (.t 14)
 .skip
 (.exit 0)))
 (.seq
 (.block 1
 (.seq
 (.reg true [⟨17, .mv (.t 0), none, false⟩,
 ⟨18, .mv (.t 5), none, false⟩,
 ⟨19, .ia 1 (.t 17) (.t 18), none, false⟩,
 ⟨20, .ld 1 false (.t 19), none, false⟩,
 ⟨21, .mv (.t 1), none, false⟩,
 ⟨22, .mv (.t 5), none, false⟩,
 ⟨23, .ia 1 (.t 21) (.t 22), none, false⟩,
 ⟨24, .ld 1 false (.t 23), none, false⟩,
 ⟨25, .ar .neq false (.t 20) (.t 24), none, false⟩])
 (.ite (.t 25)
 (.seq
 (.reg false [⟨4, .mv (.k (.sc (.bool false))), none, false⟩])
 .ret)
 .skip)))
 (.reg false [⟨15, .mv (.t 5), none, false⟩,
 ⟨16, .ar .add false (.t 15) (.k (.sc (.int .i64 1))), none, false⟩,
 ⟨5, .mv (.t 16), none, false⟩])))
def b55_1 : IC := w55_1
theorem u55_1 (call : CallF) (st : St) : evC call b55_1 st = evC call w55_1 st := rfl
attribute [simp] u55_1 w55_1
def i55 : Ev.Fn := ⟨2, 26, [.tmp 4],
 (.seq
 (.reg false [⟨4, .mv (.k (.sc (.bool false))), none, false⟩])
 (.seq
 (.seq
 (.reg false [⟨6, .mv (.t 0), none, false⟩,
 ⟨7, .ln false (.t 6), none, false⟩,
 ⟨8, .mv (.t 1), none, false⟩,
 ⟨9, .ln false (.t 8), none, false⟩,
 ⟨10, .ar .neq false (.t 7) (.t 9), none, false⟩])
 (.ite (.t 10)
 (.seq
 (.reg false [⟨4, .mv (.k (.sc (.bool false))), none, false⟩])
 .ret)
 .skip))
 (.seq
 (.seq
 (.reg false [⟨5, .mv (.k (.sc (.int .i64 0))), none, false⟩])
 (.cln [] [4]
 (.block 0
 (.loop [0, 1, 5] b55_1))))
 (.seq
 (.reg false [⟨4, .mv (.k (.sc (.bool true))), none, false⟩])
 .ret))))⟩
attribute [simp] i55
set_option maxRecDepth 1000000 in
theorem c55 : cFn Try.prog 55 [[], [0, 1, 5], [], [4]] = some i55 := by kernel_rfl
theorem e55 : enterOk Try.prog 55 = true := by kernel_rfl
def w62_1 : IC :=
(.seq
 (.seq
 (.reg false [⟨6, .mv (.t 5), none, false⟩,
 ⟨7, .mv (.t 0), none, false⟩,
 ⟨8, .ln false (.t 7), none, false⟩,
 ⟨9, .ar .lss false (.t 6) (.t 8), none, false⟩])
 (.ite (.t 9)
 .skip
 (.exit 0)))
 (.seq
 (.block 1
 (.seq
 (.reg false [⟨12, .mv (.t 0), none, false⟩,
 ⟨13, .mv (.t 5), none, false⟩,
 ⟨14, .mv (.t 1), none, false⟩,
 ⟨15, .ia 1 (.t 12) (.t 13), none, false⟩,
 ⟨1, .so 1 (.t 15) (.t 14), none, true⟩])
 (.reg false [⟨16, .mv (.t 1), none, false⟩,
 ⟨17, .ar .add false (.t 16) (.k (.sc (.int .i64 1))), none, false⟩,
 ⟨1, .mv (.t 17), none, false⟩])))
 (.reg false [⟨10, .mv (.t 5), none, false⟩,
 ⟨11, .ar .add false (.t 10) (.k (.sc (.int .i64 1))), none, false⟩,
 ⟨5, .mv (.t 11), none, false⟩])))
def b62_1 : IC := w62_1
theorem u62_1 (call : CallF) (st : St) : evC call b62_1 st = evC call w62_1 st := rfl
attribute [simp] u62_1 w62_1
def i62 : Ev.Fn := ⟨2, 19, [.tmp 4],
 (.seq
 (.reg false [⟨4, .mv (.k (.sc (.int .i64 0))), none, false⟩])
 (.seq
 (.seq
 (.reg false [⟨5, .mv (.k (.sc (.int .i64 0))), none, false⟩])
 (.cln [1, 100000] [4, 100000]
 (.block 0
 (.loop [0, 1, 5, 100000] b62_1))))
 (.seq
 (.reg false [⟨18, .mv (.t 1), none, false⟩,
 ⟨4, .mv (.t 18), none, false⟩])
 .ret)))⟩
attribute [simp] i62
set_option maxRecDepth 1000000 in
theorem c62 : cFn Try.prog 62 [[], [0, 1, 5, 100000], [1, 100000], [4, 100000]] = some i62 := by kernel_rfl
theorem e62 : enterOk Try.prog 62 = true := by kernel_rfl
def w63_1 : IC :=
(.seq
 (.seq
 (.reg false [⟨6, .mv (.t 5), none, false⟩,
 ⟨7, .mv (.t 0), none, false⟩,
 ⟨8, .ln false (.t 7), none, false⟩,
 ⟨9, .ar .lss false (.t 6) (.t 8), none, false⟩])
 (.ite (.t 9)
 .skip
 (.exit 0)))
 (.seq
 (.block 1
 (.seq
 (.seq
 (.reg false [⟨12, .mv (.t 0), none, false⟩,
 ⟨13, .mv (.t 5), none, false⟩,
 ⟨14, .ia 1 (.t 12) (.t 13), none, false⟩,
 ⟨15, .ld 1 false (.t 14), none, false⟩,
 ⟨16, .mv (.t 1), none, false⟩,
 ⟨17, .ar .neq false (.t 15) (.t 16), none, false⟩])
 (.ite (.t 17)
 (.seq
 (.reg false [⟨4, .mv (.k (.sc (.int .i64 (-1)))), none, false⟩])
 .ret)
 .skip))
 (.reg false [⟨18, .mv (.t 1), none, false⟩,
 ⟨19, .ar .add false (.t 18) (.k (.sc (.int .i64 1))), none, false⟩,
 ⟨1, .mv (.t 19), none, false⟩])))
 (.reg false [⟨10, .mv (.t 5), none, false⟩,
 ⟨11, .ar .add false (.t 10) (.k (.sc (.int .i64 1))), none, false⟩,
 ⟨5, .mv (.t 11), none, false⟩])))
def b63_1 : IC := w63_1
theorem u63_1 (call : CallF) (st : St) : evC call b63_1 st = evC call w63_1 st := rfl
attribute [simp] u63_1 w63_1
def i63 : Ev.Fn := ⟨2, 21, [.tmp 4],
 (.seq
 (.reg false [⟨4, .mv (.k (.sc (.int .i64 0))), none, false⟩])
 (.seq
 (.seq
 (.reg false [⟨5, .mv (.k (.sc (.int .i64 0))), none, false⟩])
 (.cln [1] [4]
 (.block 0
 (.loop [0, 1, 5] b63_1))))
 (.seq
 (.reg false [⟨20, .mv (.t 1), none, false⟩,
 ⟨4, .mv (.t 20), none, false⟩])
 .ret)))⟩
attribute [simp] i63
set_option maxRecDepth 1000000 in
theorem c63 : cFn Try.prog 63 [[], [0, 1, 5], [1], [4]] = some i63 := by kernel_rfl
theorem e63 : enterOk Try.prog 63 = true := by kernel_rfl
def i66 : Ev.Fn := ⟨2, 18, [.tmp 4],
 (.seq
 (.reg false [⟨2, .bx (.t 0), none, false⟩,
 ⟨4, .mv (.k (.sc (.int .i64 0))), none, false⟩])
 (.seq
 (.reg false [⟨5, .fa 2 (.t 2), none, false⟩,
 ⟨6, .ld 1 false (.t 5), none, false⟩,
 ⟨7, .mv (.t 1), none, false⟩,
 ⟨8, .ca (.k (.cl 114 [])) [(.t 6), (.t 7)], none, false⟩,
 ⟨1, .mv (.t 8), none, false⟩])
 (.seq
 (.seq
 (.reg false [⟨9, .mv (.t 1), none, false⟩,
 ⟨10, .ar .lss false (.t 9) (.k (.sc (.int .i64 0))), none, false⟩])
 (.ite (.t 10)
 (.seq
 (.reg false [⟨4, .mv (.k (.sc (.int .i64 (-1)))), none, false⟩])
 .ret)
 .skip))
 (.seq
 (.reg false [⟨11, .fa 3 (.t 2), none, false⟩,
 ⟨12, .ld 1 false (.t 11), none, false⟩,
 ⟨13, .mv (.t 1), none, false⟩,
 ⟨14, .ca (.k (.cl 115 [])) [(.t 12), (.t 13)], none, false⟩,
 ⟨1, .mv (.t 14), none, false⟩])
 (.seq
 (.seq
 (.reg false [⟨15, .mv (.t 1), none, false⟩,
 ⟨16, .ar .lss false (.t 15) (.k (.sc (.int .i64 0))), none, false⟩])
 (.ite (.t 16)
 (.seq
 (.reg false [⟨4, .mv (.k (.sc (.int .i64 (-1)))), none, false⟩])
 .ret)
 .skip))
 (.seq
 (.reg false [⟨17, .mv (.t 1), none, false⟩,
 ⟨4, .mv (.t 17), none, false⟩])
 .ret))))))⟩
attribute [simp] i66
set_option maxRecDepth 1000000 in
theorem c66 : cFn Try.prog 66 [[]] = some i66 := by kernel_rfl
theorem e66 : enterOk Try.prog 66 = true := by kernel_rfl
def w67_1 : IC :=
(.seq
 (.seq
 (.reg false [⟨9, .mv (.t 5), none, false⟩,
 ⟨10, .fa 2 (.t 1), none, false⟩,
 ⟨11, .ld 1 false (.t 10), none, false⟩,
 ⟨12, .ln false (.t 11), none, false⟩,
 ⟨13, .ar .lss false (.t 9) (.t 12), none, false⟩])
 (.ite (.t 13)
 .skip
 (.exit 0)))
 (.seq
 (.block 1
 (.seq
 (.reg false [⟨16, .mv (.t 5), none, false⟩,
 ⟨17, .ca (.k (.cl 117 [])) [(.t 1), (.t 16)], none, false⟩])
 (.ite (.t 17)
 (.reg false [⟨18, .mv (.t 4), none, false⟩,
 ⟨19, .mv (.t 5), none, false⟩,
 ⟨20, .bs 2 1 [(.sc (.int .i64 0))] 1 [(0, (.t 19))], none, false⟩,
 ⟨21, .ap 2 1 false (.t 18) (.t 20), none, false⟩,
 ⟨4, .mv (.t 21), none, false⟩])
 .skip)))
 (.reg false [⟨14, .mv (.t 5), none, false⟩,
 ⟨15, .ar .add false (.t 14) (.k (.sc (.int .i64 1))), none, false⟩,
 ⟨5, .mv (.t 15), none, false⟩])))
def b67_1 : IC := w67_1
theorem u67_1 (call : CallF) (st : St) : evC call b67_1 st = evC call w67_1 st := rfl
attribute [simp] u67_1 w67_1
def i67 : Ev.Fn := ⟨1, 23, [.tmp 2, .tmp 3],
 (.seq
 (.reg false [⟨1, .bx (.t 0), none, false⟩,
 ⟨2, .mv (.k .nl), none, false⟩,
 ⟨3, .mv (.k (.sc (.int .i64 0))), none, false⟩])
 (.seq
 (.seq
 (.reg false [⟨6, .ca (.k (.cl 116 [])) [(.t 1)], none, false⟩,
 ⟨7, .nt (.t 6), none, false⟩])
 (.ite (.t 7)
 (.seq
 (.reg false [⟨2, .mv (.k .nl), none, false⟩,
 ⟨3, .mv (.k (.sc (.int .i64 1))), none, false⟩])
 .ret)
 .skip))
 (.seq
 (.reg false [⟨8, .bs 2 1 [(.sc (.int .i64 0))] 0 [], none, false⟩,
 ⟨4, .mv (.t 8), none, false⟩])
 (.seq
 (.seq
 (.reg false [⟨5, .mv (.k (.sc (.int .i64 0))), none, false⟩])
 (.cln [4] [2, 3]
 (.block 0
 (.loop [1, 4, 5] b67_1))))
 (.seq
 (.reg false [⟨22, .mv (.t 4), none, false⟩,
 ⟨2, .mv (.t 22), none, false⟩,
 ⟨3, .mv (.k (.sc (.int .i64 0))), none, false⟩])
 .ret)))))⟩
attribute [simp] i67
set_option maxRecDepth 1000000 in
theorem c67 : cFn Try.prog 67 [[], [1, 4, 5], [4], [2, 3]] = some i67 := by kernel_rfl
theorem e67 : enterOk Try.prog 67 = true := by kernel_rfl
def i68 : Ev.Fn := ⟨1, 19, [.cell 2 4 true],
 (.seq
 (.reg false [⟨1, .bx (.t 0), none, false⟩,
 ⟨2, .al [(.sc (.int .i64 0)), (.sc (.int .i64 0)), .nl, .nl], none, false⟩])
 (.seq
 (.reg false [⟨3, .al [(.sc (.int .i64 0)), (.sc (.int .i64 0)), .nl, .nl], none, false⟩])
 (.seq
 (.reg false [⟨4, .fa 0 (.t 1), none, false⟩,
 ⟨5, .ld 1 false (.t 4), none, false⟩,
 ⟨6, .fa 0 (.t 3), none, false⟩,
 ⟨1, .so 1 (.t 6) (.t 5), none, true⟩])
 (.seq
 (.reg false [⟨7, .fa 1 (.t 1), none, false⟩,
 ⟨8, .ld 1 false (.t 7), none, false⟩,
 ⟨9, .fa 1 (.t 3), none, false⟩,
 ⟨1, .so 1 (.t 9) (.t 8), none, true⟩])
 (.seq
 (.reg false [⟨10, .fa 2 (.t 1), none, false⟩,
 ⟨11, .ld 1 false (.t 10), none, false⟩,
 ⟨12, .ca (.k (.cl 118 [])) [(.t 11)], none, false⟩,
 ⟨13, .fa 2 (.t 3), none, false⟩,
 ⟨1, .so 1 (.t 13) (.t 12), none, true⟩])
 (.seq
 (.reg false [⟨14, .fa 3 (.t 1), none, false⟩,
 ⟨15, .ld 1 false (.t 14), none, false⟩,
 ⟨16, .ca (.k (.cl 119 [])) [(.t 15)], none, false⟩,
 ⟨17, .fa 3 (.t 3), none, false⟩,
 ⟨1, .so 1 (.t 17) (.t 16), none, true⟩])
 (.seq
 (.reg false [⟨18, .ld 4 true (.t 3), none, false⟩,
 ⟨1, .so 4 (.t 2) (.t 18), none, true⟩])
 .ret)))))))⟩
attribute [simp] i68
set_option maxRecDepth 1000000 in
theorem c68 : cFn Try.prog 68 [[]] = some i68 := by kernel_rfl
theorem e68 : enterOk Try.prog 68 = true := by kernel_rfl
def i69 : Ev.Fn := ⟨1, 9, [.tmp 2, .tmp 3],
 (.seq
 (.reg false [⟨1, .bx (.t 0), none, false⟩,
 ⟨2, .mv (.k .nl), none, false⟩,
 ⟨3, .mv (.k (.sc (.int .i64 0))), none, false⟩])
 (.seq
 (.seq
 (.reg false [⟨4, .ld 4 true (.t 1), none, false⟩,
 ⟨5, .ca (.k (.cl 120 [])) [(.t 4)], none, false⟩,
 ⟨6, .nt (.t 5), none, false⟩])
 (.ite (.t 6)
 (.seq
 (.reg false [⟨2, .mv (.k .nl), none, false⟩,
 ⟨3, .mv (.k (.sc (.int .i64 1))), none, false⟩])
 .ret)
 .skip))
 (.seq
 (.reg false [⟨7, .ld 4 true (.t 1), none, false⟩,
 ⟨8, .ca (.k (.cl 121 [])) [(.t 7)], none, false⟩,
 ⟨2, .mv (.t 8), none, false⟩,
 ⟨3, .mv (.k (.sc (.int .i64 0))), none, false⟩])
 .ret)))⟩
attribute [simp] i69
set_option maxRecDepth 1000000 in
theorem c69 : cFn Try.prog 69 [[]] = some i69 := by kernel_rfl
theorem e69 : enterOk Try.prog 69 = true := by kernel_rfl
def i70 : Ev.Fn := ⟨2, 27, [.tmp 4],
 (.seq
 (.reg false [⟨2, .bx (.t 0), none, false⟩,
 ⟨3, .bx (.t 1), none, false⟩,
 ⟨4, .mv (.k (.sc (.bool false))), none, false⟩])
 (.seq
 (.seq
 (.reg false [⟨5, .fa 0 (.t 2), none, false⟩,
 ⟨6, .ld 1 false (.t 5), none, false⟩,
 ⟨7, .fa 0 (.t 3), none, false⟩,
 ⟨8, .ld 1 false (.t 7), none, false⟩,
 ⟨9, .ar .neq false (.t 6) (.t 8), none, false⟩])
 (.ite (.t 9)
 (.seq
 (.reg false [⟨4, .mv (.k (.sc (.bool false))), none, false⟩])
 .ret)
 .skip))
 (.seq
 (.seq
 (.reg false [⟨10, .fa 1 (.t 2), none, false⟩,
 ⟨11, .ld 1 false (.t 10), none, false⟩,
 ⟨12, .fa 1 (.t 3), none, false⟩,
 ⟨13, .ld 1 false (.t 12), none, false⟩,
 ⟨14, .ar .neq false (.t 11) (.t 13), none, false⟩])
 (.ite (.t 14)
 (.seq
 (.reg false [⟨4, .mv (.k (.sc (.bool false))), none, false⟩])
 .ret)
 .skip))
 (.seq
 (.seq
 (.reg false [⟨15, .fa 2 (.t 2), none, false⟩,
 ⟨16, .ld 1 false (.t 15), none, false⟩,
 ⟨17, .fa 2 (.t 3), none, false⟩,
 ⟨18, .ld 1 false (.t 17), none, false⟩,
 ⟨19, .ca (.k (.cl 122 [])) [(.t 16), (.t 18)], none, false⟩,
 ⟨20, .nt (.t 19), none, false⟩])
 (.ite (.t 20)
 (.seq
 (.reg false [⟨4, .mv (.k (.sc (.bool false))), none, false⟩])
 .ret)
 .skip))
 (.seq
 (.seq
 (.reg false [⟨21, .fa 3 (.t 2), none, false⟩,
 ⟨22, .ld 1 false (.t 21), none, false⟩,
 ⟨23, .fa 3 (.t 3), none, false⟩,
 ⟨24, .ld 1 false (.t 23), none, false⟩,
 ⟨25, .ca (.k (.cl 123 [])) [(.t 22), (.t 24)], none, false⟩,
 ⟨26, .nt (.t 25), none, false⟩])
 (.ite (.t 26)
 (.seq
 (.reg false [⟨4, .mv (.k (.sc (.bool false))), none, false⟩])
 .ret)
 .skip))
 (.seq
 (.reg false [⟨4, .mv (.k (.sc (.bool true))), none, false⟩])
 .ret))))))⟩
attribute [simp] i70
set_option maxRecDepth 1000000 in
theorem c70 : cFn Try.prog 70 [[]] = some i70 := by kernel_rfl
theorem e70 : enterOk Try.prog 70 = true := by kernel_rfl
def i71 : Ev.Fn := ⟨2, 14, [.tmp 4],
 (.seq
 (.reg false [⟨2, .bx (.t 0), none, false⟩,
 ⟨4, .mv (.k (.sc (.int .i64 0))), none, false⟩])
 (.seq
 (.rgw [⟨5, .fa 2 (.t 2), none, false⟩,
 ⟨6, .ld 1 false (.t 5), none, false⟩,
 ⟨7, .mv (.t 1), none, false⟩,
 ⟨8, .cw 124 [] [(.t 6), (.t 7)], none, false⟩,
 ⟨1, .mv (.t 8), none, false⟩])
 (.seq
 (.rgw [⟨9, .fa 3 (.t 2), none, false⟩,
 ⟨10, .ld 1 false (.t 9), none, false⟩,
 ⟨11, .mv (.t 1), none, false⟩,
 ⟨12, .cw 125 [] [(.t 10), (.t 11)], none, false⟩,
 ⟨1, .mv (.t 12), none, false⟩])
 (.seq
 (.reg false [⟨13, .mv (.t 1), none, false⟩,
 ⟨4, .mv (.t 13), none, false⟩])
 .ret))))⟩
attribute [simp] i71
set_option maxRecDepth 1000000 in
theorem c71 : cFn Try.prog 71 [[124, 125]] = some i71 := by kernel_rfl
theorem e71 : enterOk Try.prog 71 = true := by kernel_rfl
def w83_1 : IC :=
(.seq
 (.seq
 (.reg false [⟨22, .mv (.t 3), none, false⟩,
 ⟨23, .mv (.t 0), none, false⟩,
 ⟨24, .ln true (.t 23), none, false⟩,
 ⟨25, .ar .lss false (.t 22) (.t 24), none, false⟩])
 (.ite (.t 25)
 .skip
 (.exit 0)))
 (.seq
 (.block 1
 (.seq
 (.reg false [⟨28, .mv (.t 0), none, false⟩,
 ⟨29, .mv (.t 3), none, false⟩,
 ⟨30, .ix (.t 28) (.t 29), none, false⟩,
 ⟨31, .ar .lss false (.t 30) (.k (.sc (.int .u8 97))), none, false⟩,
 ⟨32, .mv (.t 31), none, false⟩,
 ⟨33, .mv (.t 0), (some (32, false)), false⟩,
 ⟨34, .mv (.t 3), (some (32, false)), false⟩,
 ⟨35, .ix (.t 33) (.t 34), (some (32, false)), false⟩,
 ⟨36, .ar .gtr false (.t 35) (.k (.sc (.int .u8 122))), (some (32, false)), false⟩,
 ⟨37, .pk (.t 32) (.k (.sc (.bool true))) (.t 36), none, false⟩,
 ⟨38, .mv (.t 37), none, false⟩,
 ⟨39, .mv (.t 0), (some (38, true)), false⟩,
 ⟨40, .mv (.t 3), (some (38, true)), false⟩,
 ⟨41, .ix (.t 39) (.t 40), (some (38, true)), false⟩,
 ⟨42, .ar .lss false (.t 41) (.k (.sc (.int .u8 48))), (some (38, true)), false⟩,
 ⟨43, .mv (.t 42), (some (38, true)), false⟩,
 ⟨44, .mv (.t 0), (some (43, false)), false⟩,
 ⟨45, .mv (.t 3), (some (43, false)), false⟩,
 ⟨46, .ix (.t 44) (.t 45), (some (43, false)), false⟩,
 ⟨47, .ar .gtr false (.t 46) (.k (.sc (.int .u8 57))), (some (43, false)), false⟩,
 ⟨48, .pk (.t 43) (.k (.sc (.bool true))) (.t 47), (some (38, true)), false⟩,
 ⟨49, .pk (.t 38) (.t 48) (.k (.sc (.bool false))), none, false⟩])
 (.ite (.t 49)
 (.seq
 (.reg false [⟨2, .mv (.k (.sc (.bool false))), none, false⟩])
 .ret)
 .skip)))
 (.reg false [⟨26, .mv (.t 3), none, false⟩,
 ⟨27, .ar .add false (.t 26) (.k (.sc (.int .i64 1))), none, false⟩,
 ⟨3, .mv (.t 27), none, false⟩])))
def b83_1 : IC := w83_1
theorem u83_1 (call : CallF) (st : St) : evC call b83_1 st = evC call w83_1 st := rfl
attribute [simp] u83_1 w83_1
def i83 : Ev.Fn := ⟨1, 50, [.tmp 2],
 (.seq
 (.reg false [⟨2, .mv (.k (.sc (.bool false))), none, false⟩])
 (.seq
 (.seq
 (.reg false [⟨4, .mv (.t 0), none, false⟩,
 ⟨5, .ln true (.t 4), none, false⟩,
 ⟨6, .ar .lss false (.t 5) (.k (.sc (.int .i64 1))), none, false⟩,
 ⟨7, .mv (.t 6), none, false⟩,
 ⟨8, .mv (.t 0), (some (7, false)), false⟩,
 ⟨9, .ln true (.t 8), (some (7, false)), false⟩,
 ⟨10, .ar .gtr false (.t 9) (.k (.sc (.int .i64 10))), (some (7, false)), false⟩,
 ⟨11, .pk (.t 7) (.k (.sc (.bool true))) (.t 10), none, false⟩,
 ⟨12, .mv (.t 11), none, false⟩,
 ⟨13, .mv (.t 0), (some (12, false)), false⟩,
 ⟨14, .ix (.t 13) (.k (.sc (.int .i64 0))), (some (12, false)), false⟩,
 ⟨15, .ar .lss false (.t 14) (.k (.sc (.int .u8 97))), (some (12, false)), false⟩,
 ⟨16, .pk (.t 12) (.k (.sc (.bool true))) (.t 15), none, false⟩,
 ⟨17, .mv (.t 16), none, false⟩,
 ⟨18, .mv (.t 0), (some (17, false)), false⟩,
 ⟨19, .ix (.t 18) (.k (.sc (.int .i64 0))), (some (17, false)), false⟩,
 ⟨20, .ar .gtr false (.t 19) (.k (.sc (.int .u8 122))), (some (17, false)), false⟩,
 ⟨21, .pk (.t 17) (.k (.sc (.bool true))) (.t 20), none, false⟩])
 (.ite (.t 21)
 (.seq
 (.reg false [⟨2, .mv (.k (.sc (.bool false))), none, false⟩])
 .ret)
 .skip))
 (.seq
 (.seq
 (.reg false [⟨3, .mv (.k (.sc (.int .i64 0))), none, false⟩])
 (.cln [] [2]
 (.block 0
 (.loop [0, 3] b83_1))))
 (.seq
 (.reg false [⟨2, .mv (.k (.sc (.bool true))), none, false⟩])
 .ret))))⟩
attribute [simp] i83
set_option maxRecDepth 1000000 in
theorem c83 : cFn Try.prog 83 [[], [0, 3], [], [2]] = some i83 := by kernel_rfl
theorem e83 : enterOk Try.prog 83 = true := by kernel_rfl
def i84 : Ev.Fn := ⟨3, 15, [.tmp 6],
 (.seq
 (.reg false [⟨6, .mv (.k (.sc (.bool false))), none, false⟩])
 (.seq
 (.reg false [⟨7, .mv (.t 0), none, false⟩,
 ⟨8, .mv (.t 1), none, false⟩,
 ⟨9, .ar .geq false (.t 7) (.t 8), none, false⟩,
 ⟨10, .mv (.t 9), none, false⟩,
 ⟨11, .mv (.t 0), (some (10, true)), false⟩,
 ⟨12, .mv (.t 2), (some (10, true)), false⟩,
 ⟨13, .ar .leq false (.t 11) (.t 12), (some (10, true)), false⟩,
 ⟨14, .pk (.t 10) (.t 13) (.k (.sc (.bool false))), none, false⟩,
 ⟨6, .mv (.t 14), none, false⟩])
 .ret))⟩
attribute [simp] i84
set_option maxRecDepth 1000000 in
theorem c84 : cFn Try.prog 84 [[]] = some i84 := by kernel_rfl
theorem e84 : enterOk Try.prog 84 = true := by kernel_rfl
def i88 : Ev.Fn := ⟨3, 15, [.tmp 6],
 (.seq
 (.reg false [⟨6, .mv (.k (.sc (.bool false))), none, false⟩])
 (.seq
 (.reg false [⟨7, .mv (.t 0), none, false⟩,
 ⟨8, .mv (.t 1), none, false⟩,
 ⟨9, .ar .geq false (.t 7) (.t 8), none, false⟩,
 ⟨10, .mv (.t 9), none, false⟩,
 ⟨11, .mv (.t 0), (some (10, true)), false⟩,
 ⟨12, .mv (.t 2), (some (10, true)), false⟩,
 ⟨13, .ar .leq false (.t 11) (.t 12), (some (10, true)), false⟩,
 ⟨14, .pk (.t 10) (.t 13) (.k (.sc (.bool false))), none, false⟩,
 ⟨6, .mv (.t 14), none, false⟩])
 .ret))⟩
attribute [simp] i88
set_option maxRecDepth 1000000 in
theorem c88 : cFn Try.prog 88 [[]] = some i88 := by kernel_rfl
theorem e88 : enterOk Try.prog 88 = true := by kernel_rfl
def i108 : Ev.Fn := ⟨2, 10, [.tmp 4],
 (.seq
 (.reg false [⟨4, .mv (.k (.sc (.int .i64 0))), none, false⟩])
 (.seq
 (.seq
 (.reg false [⟨5, .mv (.t 0), none, false⟩,
 ⟨6, .mv (.t 1), none, false⟩,
 ⟨7, .ar .gtr false (.t 5) (.t 6), none, false⟩])
 (.ite (.t 7)
 (.seq
 (.reg false [⟨8, .mv (.t 0), none, false⟩,
 ⟨4, .mv (.t 8), none, false⟩])
 .ret)
 .skip))
 (.seq
 (.reg false [⟨9, .mv (.t 1), none, false⟩,
 ⟨4, .mv (.t 9), none, false⟩])
 .ret)))⟩
attribute [simp] i108
set_option maxRecDepth 1000000 in
theorem c108 : cFn Try.prog 108 [[]] = some i108 := by kernel_rfl
theorem e108 : enterOk Try.prog 108 = true := by kernel_rfl
def i109 : Ev.Fn := ⟨2, 10, [.tmp 4],
 (.seq
 (.reg false [⟨4, .mv (.k (.sc (.int .i64 0))), none, false⟩])
 (.seq
 (.seq
 (.reg false [⟨5, .mv (.t 0), none, false⟩,
 ⟨6, .mv (.t 1), none, false⟩,
 ⟨7, .ar .lss false (.t 5) (.t 6), none, false⟩])
 (.ite (.t 7)
 (.seq
 (.reg false [⟨8, .mv (.t 0), none, false⟩,
 ⟨4, .mv (.t 8), none, false⟩])
 .ret)
 .skip))
 (.seq
 (.reg false [⟨9, .mv (.t 1), none, false⟩,
 ⟨4, .mv (.t 9), none, false⟩])
 .ret)))⟩
attribute [simp] i109
set_option maxRecDepth 1000000 in
theorem c109 : cFn Try.prog 109 [[]] = some i109 := by kernel_rfl
theorem e109 : enterOk Try.prog 109 = true := by kernel_rfl
def w113_1 : IC :=
(.seq
 (.seq
 (.reg false [⟨6, .mv (.t 0), none, false⟩,
 ⟨7, .ar .gtr false (.t 6) (.k (.sc (.int .i64 0))), none, false⟩])
 (.ite (.t 7)
 .skip
 (.exit 0)))
 (.block 1
 (.seq
 (.reg false [⟨8, .mv (.t 0), none, false⟩,
 ⟨9, .ar .rem false (.t 8) (.k (.sc (.int .i64 10))), none, false⟩,
 ⟨10, .ar .add false (.k (.sc (.int .i64 48))) (.t 9), none, false⟩,
 ⟨11, .cv .u8 (.t 10), none, false⟩,
 ⟨12, .bs 5 1 [(.sc (.int .u8 0))] 1 [(0, (.t 11))], none, false⟩,
 ⟨13, .by (.t 12), none, false⟩,
 ⟨14, .mv (.t 3), none, false⟩,
 ⟨15, .ar .add false (.t 13) (.t 14), none, false⟩,
 ⟨3, .mv (.t 15), none, false⟩])
 (.reg false [⟨16, .mv (.t 0), none, false⟩,
 ⟨17, .ar .quo false (.t 16) (.k (.sc (.int .i64 10))), none, false⟩,
 ⟨0, .mv (.t 17), none, false⟩]))))
def b113_1 : IC := w113_1
theorem u113_1 (call : CallF) (st : St) : evC call b113_1 st = evC call w113_1 st := rfl
attribute [simp] u113_1 w113_1
def i113 : Ev.Fn := ⟨1, 20, [.tmp 2],
 (.seq
 (.reg false [⟨2, .mv (.k (.sc (.string ⟨#[]⟩))), none, false⟩])
 (.seq
 (.seq
 (.reg false [⟨4, .mv (.t 0), none, false⟩,
 ⟨5, .ar .leq false (.t 4) (.k (.sc (.int .i64 0))), none, false⟩])
 (.ite (.t 5)
 (.seq
 (.reg false [⟨2, .mv (.k (.sc (.string ⟨#[109, 48]⟩))), none, false⟩])
 .ret)
 .skip))
 (.seq
 (.reg false [⟨3, .mv (.k (.sc (.string ⟨#[]⟩))), none, false⟩])
 (.seq
 (.cln [3] [2]
 (.block 0
 (.loop [0, 3] b113_1)))
 (.seq
 (.reg false [⟨18, .mv (.t 3), none, false⟩,
 ⟨19, .ar .add false (.k (.sc (.string ⟨#[109]⟩))) (.t 18), none, false⟩,
 ⟨2, .mv (.t 19), none, false⟩])
 .ret)))))⟩
attribute [simp] i113
set_option maxRecDepth 1000000 in
theorem c113 : cFn Try.prog 113 [[], [0, 3], [3], [2]] = some i113 := by kernel_rfl
theorem e113 : enterOk Try.prog 113 = true := by kernel_rfl
def i114 : Ev.Fn := ⟨2, 12, [.tmp 4],
 (.seq
 (.reg false [⟨4, .mv (.k (.sc (.int .i64 0))), none, false⟩])
 (.seq
 (.reg false [⟨5, .mv (.t 1), none, false⟩,
 ⟨6, .mv (.t 0), none, false⟩,
 ⟨7, .ln false (.t 6), none, false⟩,
 ⟨8, .ar .sub false (.t 5) (.t 7), none, false⟩,
 ⟨1, .mv (.t 8), none, false⟩])
 (.seq
 (.seq
 (.reg false [⟨9, .mv (.t 1), none, false⟩,
 ⟨10, .ar .lss false (.t 9) (.k (.sc (.int .i64 0))), none, false⟩])
 (.ite (.t 10)
 (.seq
 (.reg false [⟨4, .mv (.k (.sc (.int .i64 (-1)))), none, false⟩])
 .ret)
 .skip))
 (.seq
 (.reg false [⟨11, .mv (.t 1), none, false⟩,
 ⟨4, .mv (.t 11), none, false⟩])
 .ret))))⟩
attribute [simp] i114
set_option maxRecDepth 1000000 in
theorem c114 : cFn Try.prog 114 [[]] = some i114 := by kernel_rfl
theorem e114 : enterOk Try.prog 114 = true := by kernel_rfl
def w115_1 : IC :=
(.seq
 (.seq
 (.reg false [⟨12, .mv (.t 5), none, false⟩,
 ⟨13, .mv (.t 0), none, false⟩,
 ⟨14, .ln false (.t 13), none, false⟩,
 ⟨15, .ar .lss false (.t 12) (.t 14), none, false⟩])
 (.ite (.t 15)
 .skip
 (.exit 0)))
 (.seq
 (.block 1
 (.seq
 (.reg false [⟨18, .mv (.t 0), none, false⟩,
 ⟨19, .mv (.t 5), none, false⟩,
 ⟨20, .ia 2 (.t 18) (.t 19), none, false⟩,
 ⟨21, .ld 2 true (.t 20), none, false⟩,
 ⟨22, .mv (.t 1), none, false⟩,
 ⟨23, .ca (.k (.cl 143 [])) [(.t 21), (.t 22)], none, false⟩,
 ⟨1, .mv (.t 23), none, false⟩])
 (.seq
 (.reg false [⟨24, .mv (.t 1), none, false⟩,
 ⟨25, .ar .lss false (.t 24) (.k (.sc (.int .i64 0))), none, false⟩])
 (.ite (.t 25)
 (.seq
 (.reg false [⟨4, .mv (.k (.sc (.int .i64 (-1)))), none, false⟩])
 .ret)
 .skip))))
 (.reg false [⟨16, .mv (.t 5), none, false⟩,
 ⟨17, .ar .add false (.t 16) (.k (.sc (.int .i64 1))), none, false⟩,
 ⟨5, .mv (.t 17), none, false⟩])))
def b115_1 : IC := w115_1
theorem u115_1 (call : CallF) (st : St) : evC call b115_1 st = evC call w115_1 st := rfl
attribute [simp] u115_1 w115_1
def i115 : Ev.Fn := ⟨2, 27, [.tmp 4],
 (.seq
 (.reg false [⟨4, .mv (.k (.sc (.int .i64 0))), none, false⟩])
 (.seq
 (.reg false [⟨6, .mv (.t 1), none, false⟩,
 ⟨7, .mv (.t 0), none, false⟩,
 ⟨8, .ln false (.t 7), none, false⟩,
 ⟨9, .ar .sub false (.t 6) (.t 8), none, false⟩,
 ⟨1, .mv (.t 9), none, false⟩])
 (.seq
 (.seq
 (.reg false [⟨10, .mv (.t 1), none, false⟩,
 ⟨11, .ar .lss false (.t 10) (.k (.sc (.int .i64 0))), none, false⟩])
 (.ite (.t 11)
 (.seq
 (.reg false [⟨4, .mv (.k (.sc (.int .i64 (-1)))), none, false⟩])
 .ret)
 .skip))
 (.seq
 (.seq
 (.reg false [⟨5, .mv (.k (.sc (.int .i64 0))), none, false⟩])
 (.cln [1] [4]
 (.block 0
 (.loop [0, 1, 5] b115_1))))
 (.seq
 (.reg false [⟨26, .mv (.t 1), none, false⟩,
 ⟨4, .mv (.t 26), none, false⟩])
 .ret)))))⟩
attribute [simp] i115
set_option maxRecDepth 1000000 in
theorem c115 : cFn Try.prog 115 [[], [0, 1, 5], [1], [4]] = some i115 := by kernel_rfl
theorem e115 : enterOk Try.prog 115 = true := by kernel_rfl
def w116_1 : IC :=
(.seq
 (.seq
 (.reg false [⟨33, .mv (.t 3), none, false⟩,
 ⟨34, .mv (.t 0), none, false⟩,
 ⟨35, .nc (.t 34), none, false⟩,
 ⟨36, .fa 3 (.t 35), none, false⟩,
 ⟨37, .ld 1 false (.t 36), none, false⟩,
 ⟨38, .ln false (.t 37), none, false⟩,
 ⟨39, .ar .lss false (.t 33) (.t 38), none, false⟩])
 (.ite (.t 39)
 .skip
 (.exit 0)))
 (.seq
 (.block 1
 (.seq
 (.seq
 (.reg true [⟨42, .mv (.t 0), none, false⟩,
 ⟨43, .nc (.t 42), none, false⟩,
 ⟨44, .fa 3 (.t 43), none, false⟩,
 ⟨45, .ld 1 false (.t 44), none, false⟩,
 ⟨46, .mv (.t 3), none, false⟩,
 ⟨47, .ia 2 (.t 45) (.t 46), none, false⟩,
 ⟨48, .fa 0 (.t 47), none, false⟩,
 ⟨49, .ld 1 false (.t 48), none, false⟩,
 ⟨50, .ca (.k (.cl 129 [])) [(.t 49)], none, false⟩,
 ⟨51, .nt (.t 50), none, false⟩,
 ⟨52, .mv (.t 51), none, false⟩,
 ⟨53, .mv (.t 3), (some (52, false)), false⟩,
 ⟨54, .ar .gtr false (.t 53) (.k (.sc (.int .i64 0))), (some (52, false)), false⟩,
 ⟨55, .mv (.t 54), (some (52, false)), false⟩,
 ⟨56, .mv (.t 0), (some (55, true)), false⟩,
 ⟨57, .nc (.t 56), (some (55, true)), false⟩,
 ⟨58, .fa 3 (.t 57), (some (55, true)), false⟩,
 ⟨59, .ld 1 false (.t 58), (some (55, true)), false⟩,
 ⟨60, .mv (.t 3), (some (55, true)), false⟩,
 ⟨61, .ar .sub false (.t 60) (.k (.sc (.int .i64 1))), (some (55, true)), false⟩,
 ⟨62, .ia 2 (.t 59) (.t 61), (some (55, true)), false⟩,
 ⟨63, .fa 0 (.t 62), (some (55, true)), false⟩,
 ⟨64, .ld 1 false (.t 63), (some (55, true)), false⟩,
 ⟨65, .mv (.t 0), (some (55, true)), false⟩,
 ⟨66, .nc (.t 65), (some (55, true)), false⟩,
 ⟨67, .fa 3 (.t 66), (some (55, true)), false⟩,
 ⟨68, .ld 1 false (.t 67), (some (55, true)), false⟩,
 ⟨69, .mv (.t 3), (some (55, true)), false⟩,
 ⟨70, .ia 2 (.t 68) (.t 69), (some (55, true)), false⟩,
 ⟨71, .fa 0 (.t 70), (some (55, true)), false⟩,
 ⟨72, .ld 1 false (.t 71), (some (55, true)), false⟩,
 ⟨73, .ar .geq false (.t 64) (.t 72), (some (55, true)), false⟩,
 ⟨74, .pk (.t 55) (.t 73) (.k (.sc (.bool false))), (some (52, false)), false⟩,
 ⟨75, .pk (.t 52) (.k (.sc (.bool true))) (.t 74), none, false⟩])
 (.ite (.t 75)
 (.seq
 (.reg false [⟨2, .mv (.k (.sc (.bool false))), none, false⟩])
 .ret)
 .skip))
 (.seq
 (.reg false [⟨77, .mv (.t 0), none, false⟩,
 ⟨78, .mv (.t 0), none, false⟩,
 ⟨79, .nc (.t 78), none, false⟩,
 ⟨80, .fa 3 (.t 79), none, false⟩,
 ⟨81, .ld 1 false (.t 80), none, false⟩,
 ⟨82, .mv (.t 3), none, false⟩,
 ⟨83, .ia 2 (.t 81) (.t 82), none, false⟩,
 ⟨84, .fa 1 (.t 83), none, false⟩,
 ⟨85, .ld 1 false (.t 84), none, false⟩,
 ⟨86, .ca (.k (.cl 145 [])) [(.t 77), (.t 85)], none, false⟩,
 ⟨76, .mv (.t 86), none, false⟩,
 ⟨87, .xt (.t 76) 0, none, false⟩,
 ⟨88, .xt (.t 76) 1, none, false⟩,
 ⟨4, .mv (.t 87), none, false⟩,
 ⟨5, .mv (.t 88), none, false⟩])
 (.seq
 (.reg false [⟨89, .mv (.t 5), none, false⟩,
 ⟨90, .nt (.t 89), none, false⟩,
 ⟨91, .mv (.t 90), none, false⟩,
 ⟨92, .mv (.t 4), (some (91, false)), false⟩,
 ⟨93, .ca (.k (.cl 146 [])) [(.t 92)], (some (91, false)), false⟩,
 ⟨94, .nt (.t 93), (some (91, false)), false⟩,
 ⟨95, .pk (.t 91) (.k (.sc (.bool true))) (.t 94), none, false⟩])
 (.ite (.t 95)
 (.seq
 (.reg false [⟨2, .mv (.k (.sc (.bool false))), none, false⟩])
 .ret)
 .skip)))))
 (.reg false [⟨40, .mv (.t 3), none, false⟩,
 ⟨41, .ar .add false (.t 40) (.k (.sc (.int .i64 1))), none, false⟩,
 ⟨3, .mv (.t 41), none, false⟩])))
def b116_1 : IC := w116_1
theorem u116_1 (call : CallF) (st : St) : evC call b116_1 st = evC call w116_1 st := rfl
attribute [simp] u116_1 w116_1
def i116 : Ev.Fn := ⟨1, 96, [.tmp 2],
 (.seq
 (.reg false [⟨2, .mv (.k (.sc (.bool false))), none, false⟩])
 (.seq
 (.seq
 (.reg false [⟨6, .mv (.t 0), none, false⟩,
 ⟨7, .nc (.t 6), none, false⟩,
 ⟨8, .fa 0 (.t 7), none, false⟩,
 ⟨9, .ld 1 false (.t 8), none, false⟩,
 ⟨10, .ca (.k (.cl 88 [])) [(.t 9), (.k (.sc (.int .i64 10))), (.k (.sc (.int .i64 20000)))], none, false⟩,
 ⟨11, .nt (.t 10), none, false⟩,
 ⟨12, .mv (.t 11), none, false⟩,
 ⟨13, .mv (.t 0), (some (12, false)), false⟩,
 ⟨14, .nc (.t 13), (some (12, false)), false⟩,
 ⟨15, .fa 1 (.t 14), (some (12, false)), false⟩,
 ⟨16, .ld 1 false (.t 15), (some (12, false)), false⟩,
 ⟨17, .ca (.k (.cl 88 [])) [(.t 16), (.k (.sc (.int .i64 10))), (.k (.sc (.int .i64 20000)))], (some (12, false)), false⟩,
 ⟨18, .nt (.t 17), (some (12, false)), false⟩,
 ⟨19, .pk (.t 12) (.k (.sc (.bool true))) (.t 18), none, false⟩,
 ⟨20, .mv (.t 19), none, false⟩,
 ⟨21, .mv (.t 0), (some (20, false)), false⟩,
 ⟨22, .ca (.k (.cl 144 [])) [(.t 21)], (some (20, false)), false⟩,
 ⟨23, .nt (.t 22), (some (20, false)), false⟩,
 ⟨24, .pk (.t 20) (.k (.sc (.bool true))) (.t 23), none, false⟩,
 ⟨25, .mv (.t 24), none, false⟩,
 ⟨26, .mv (.t 0), (some (25, false)), false⟩,
 ⟨27, .nc (.t 26), (some (25, false)), false⟩,
 ⟨28, .fa 3 (.t 27), (some (25, false)), false⟩,
 ⟨29, .ld 1 false (.t 28), (some (25, false)), false⟩,
 ⟨30, .ln false (.t 29), (some (25, false)), false⟩,
 ⟨31, .ar .gtr false (.t 30) (.k (.sc (.int .i64 24))), (some (25, false)), false⟩,
 ⟨32, .pk (.t 25) (.k (.sc (.bool true))) (.t 31), none, false⟩])
 (.ite (.t 32)
 (.seq
 (.reg false [⟨2, .mv (.k (.sc (.bool false))), none, false⟩])
 .ret)
 .skip))
 (.seq
 (.seq
 (.reg false [⟨3, .mv (.k (.sc (.int .i64 0))), none, false⟩])
 (.cln [] [2]
 (.block 0
 (.loop [0, 3] b116_1))))
 (.seq
 (.reg false [⟨2, .mv (.k (.sc (.bool true))), none, false⟩])
 .ret))))⟩
attribute [simp] i116
set_option maxRecDepth 1000000 in
theorem c116 : cFn Try.prog 116 [[], [0, 3], [], [2]] = some i116 := by kernel_rfl
theorem e116 : enterOk Try.prog 116 = true := by kernel_rfl
def w117_2 : IC :=
(.seq
 (.seq
 (.reg false [⟨29, .mv (.t 9), none, false⟩,
 ⟨30, .mv (.t 8), none, false⟩,
 ⟨31, .ar .lss false (.t 29) (.t 30), none, false⟩])
 (.ite (.t 31)
 .skip
 (.exit 2)))
 (.seq
 (.block 3
 (.seq
 (.seq
 (.reg false [⟨34, .mv (.t 7), none, false⟩,
 ⟨35, .mv (.t 9), none, false⟩,
 ⟨36, .ia 1 (.t 34) (.t 35), none, false⟩,
 ⟨37, .ld 1 false (.t 36), none, false⟩,
 ⟨38, .mv (.t 1), none, false⟩,
 ⟨39, .ar .neq false (.t 37) (.t 38), none, false⟩])
 (.ite (.t 39)
 (.exit 3)
 .skip))
 (.seq
 (.reg false [⟨5, .mv (.k (.sc (.bool true))), none, false⟩])
 (.seq
 (.reg true [⟨40, .mv (.t 8), none, false⟩,
 ⟨41, .ar .leq false (.t 40) (.k (.sc (.int .i64 3))), none, false⟩,
 ⟨42, .mv (.t 41), none, false⟩,
 ⟨43, .mv (.t 0), (some (42, false)), false⟩,
 ⟨44, .nc (.t 43), (some (42, false)), false⟩,
 ⟨45, .fa 2 (.t 44), (some (42, false)), false⟩,
 ⟨46, .ld 1 false (.t 45), (some (42, false)), false⟩,
 ⟨47, .mv (.t 7), (some (42, false)), false⟩,
 ⟨48, .mv (.t 9), (some (42, false)), false⟩,
 ⟨49, .mv (.t 8), (some (42, false)), false⟩,
 ⟨50, .ar .add false (.t 48) (.t 49), (some (42, false)), false⟩,
 ⟨51, .ar .sub false (.t 50) (.k (.sc (.int .i64 1))), (some (42, false)), false⟩,
 ⟨52, .mv (.t 8), (some (42, false)), false⟩,
 ⟨53, .ar .rem false (.t 51) (.t 52), (some (42, false)), false⟩,
 ⟨54, .ia 1 (.t 47) (.t 53), (some (42, false)), false⟩,
 ⟨55, .ld 1 false (.t 54), (some (42, false)), false⟩,
 ⟨56, .ia 2 (.t 46) (.t 55), (some (42, false)), false⟩,
 ⟨57, .ld 2 true (.t 56), (some (42, false)), false⟩,
 ⟨58, .mv (.t 0), (some (42, false)), false⟩,
 ⟨59, .nc (.t 58), (some (42, false)), false⟩,
 ⟨60, .fa 2 (.t 59), (some (42, false)), false⟩,
 ⟨61, .ld 1 false (.t 60), (some (42, false)), false⟩,
 ⟨62, .mv (.t 1), (some (42, false)), false⟩,
 ⟨63, .ia 2 (.t 61) (.t 62), (some (42, false)), false⟩,
 ⟨64, .ld 2 true (.t 63), (some (42, false)), false⟩,
 ⟨65, .mv (.t 0), (some (42, false)), false⟩,
 ⟨66, .nc (.t 65), (some (42, false)), false⟩,
 ⟨67, .fa 2 (.t 66), (some (42, false)), false⟩,
 ⟨68, .ld 1 false (.t 67), (some (42, false)), false⟩,
 ⟨69, .mv (.t 7), (some (42, false)), false⟩,
 ⟨70, .mv (.t 9), (some (42, false)), false⟩,
 ⟨71, .ar .add false (.t 70) (.k (.sc (.int .i64 1))), (some (42, false)), false⟩,
 ⟨72, .mv (.t 8), (some (42, false)), false⟩,
 ⟨73, .ar .rem false (.t 71) (.t 72), (some (42, false)), false⟩,
 ⟨74, .ia 1 (.t 69) (.t 73), (some (42, false)), false⟩,
 ⟨75, .ld 1 false (.t 74), (some (42, false)), false⟩,
 ⟨76, .ia 2 (.t 68) (.t 75), (some (42, false)), false⟩,
 ⟨77, .ld 2 true (.t 76), (some (42, false)), false⟩,
 ⟨78, .ca (.k (.cl 147 [])) [(.t 57), (.t 64), (.t 77)], (some (42, false)), false⟩,
 ⟨79, .ar .neq false (.t 78) (.k (.sc (.int .i64 0))), (some (42, false)), false⟩,
 ⟨80, .pk (.t 42) (.k (.sc (.bool true))) (.t 79), none, false⟩])
 (.ite (.t 80)
 (.seq
 (.reg false [⟨4, .mv (.k (.sc (.bool false))), none, false⟩])
 .ret)
 .skip)))))
 (.reg false [⟨32, .mv (.t 9), none, false⟩,
 ⟨33, .ar .add false (.t 32) (.k (.sc (.int .i64 1))), none, false⟩,
 ⟨9, .mv (.t 33), none, false⟩])))
def b117_2 : IC := w117_2
theorem u117_2 (call : CallF) (st : St) : evC call b117_2 st = evC call w117_2 st := rfl
attribute [simp] u117_2 w117_2
def w117_1 : IC :=
(.seq
 (.seq
 (.reg false [⟨10, .mv (.t 6), none, false⟩,
 ⟨11, .mv (.t 0), none, false⟩,
 ⟨12, .nc (.t 11), none, false⟩,
 ⟨13, .fa 3 (.t 12), none, false⟩,
 ⟨14, .ld 1 false (.t 13), none, false⟩,
 ⟨15, .ln false (.t 14), none, false⟩,
 ⟨16, .ar .lss false (.t 10) (.t 15), none, false⟩])
 (.ite (.t 16)
 .skip
 (.exit 0)))
 (.seq
 (.block 1
 (.seq
 (.reg false [⟨19, .mv (.t 0), none, false⟩,
 ⟨20, .nc (.t 19), none, false⟩,
 ⟨21, .fa 3 (.t 20), none, false⟩,
 ⟨22, .ld 1 false (.t 21), none, false⟩,
 ⟨23, .mv (.t 6), none, false⟩,
 ⟨24, .ia 2 (.t 22) (.t 23), none, false⟩,
 ⟨25, .fa 1 (.t 24), none, false⟩,
 ⟨26, .ld 1 false (.t 25), none, false⟩,
 ⟨7, .mv (.t 26), none, false⟩])
 (.seq
 (.reg false [⟨27, .mv (.t 7), none, false⟩,
 ⟨28, .ln false (.t 27), none, false⟩,
 ⟨8, .mv (.t 28), none, false⟩])
 (.seq
 (.reg false [⟨9, .mv (.k (.sc (.int .i64 0))), none, false⟩])
 (.cln [0, 1, 5, 6] [4]
 (.block 2
 (.loop [0, 1, 5, 6, 7, 8, 9] b117_2)))))))
 (.reg false [⟨17, .mv (.t 6), none, false⟩,
 ⟨18, .ar .add false (.t 17) (.k (.sc (.int .i64 1))), none, false⟩,
 ⟨6, .mv (.t 18), none, false⟩])))
def b117_1 : IC := w117_1
theorem u117_1 (call : CallF) (st : St) : evC call b117_1 st = evC call w117_1 st := rfl
attribute [simp] u117_1 w117_1
def i117 : Ev.Fn := ⟨2, 82, [.tmp 4],
 (.seq
 (.reg false [⟨4, .mv (.k (.sc (.bool false))), none, false⟩])
 (.seq
 (.reg false [⟨5, .mv (.k (.sc (.bool false))), none, false⟩])
 (.seq
 (.seq
 (.reg false [⟨6, .mv (.k (.sc (.int .i64 0))), none, false⟩])
 (.cln [5] [4]
 (.block 0
 (.loop [0, 1, 5, 6] b117_1))))
 (.seq
 (.reg false [⟨81, .mv (.t 5), none, false⟩,
 ⟨4, .mv (.t 81), none, false⟩])
 .ret))))⟩
attribute [simp] i117
set_option maxRecDepth 1000000 in
theorem c117 : cFn Try.prog 117 [[], [0, 1, 5, 6], [0, 1, 5, 6, 7, 8, 9], [0, 1, 5, 6], [4], [5], [4]] = some i117 := by kernel_rfl
theorem e117 : enterOk Try.prog 117 = true := by kernel_rfl
def w118_1 : IC :=
(.seq
 (.seq
 (.reg false [⟨8, .mv (.t 4), none, false⟩,
 ⟨9, .mv (.t 0), none, false⟩,
 ⟨10, .ln false (.t 9), none, false⟩,
 ⟨11, .ar .lss false (.t 8) (.t 10), none, false⟩])
 (.ite (.t 11)
 .skip
 (.exit 0)))
 (.seq
 (.block 1
 (.reg false [⟨14, .mv (.t 3), none, false⟩,
 ⟨15, .mv (.t 4), none, false⟩,
 ⟨16, .mv (.t 0), none, false⟩,
 ⟨17, .mv (.t 4), none, false⟩,
 ⟨18, .ia 2 (.t 16) (.t 17), none, false⟩,
 ⟨19, .ld 2 true (.t 18), none, false⟩,
 ⟨20, .ca (.k (.cl 148 [])) [(.t 19)], none, false⟩,
 ⟨21, .ia 2 (.t 14) (.t 15), none, false⟩,
 ⟨1, .so 2 (.t 21) (.t 20), none, true⟩]))
 (.reg false [⟨12, .mv (.t 4), none, false⟩,
 ⟨13, .ar .add false (.t 12) (.k (.sc (.int .i64 1))), none, false⟩,
 ⟨4, .mv (.t 13), none, false⟩])))
def b118_1 : IC := w118_1
theorem u118_1 (call : CallF) (st : St) : evC call b118_1 st = evC call w118_1 st := rfl
attribute [simp] u118_1 w118_1
def i118 : Ev.Fn := ⟨1, 23, [.tmp 2],
 (.seq
 (.reg false [⟨2, .mv (.k .nl), none, false⟩])
 (.seq
 (.reg false [⟨5, .mv (.t 0), none, false⟩,
 ⟨6, .ln false (.t 5), none, false⟩,
 ⟨7, .ms 166 2 [(.sc (.int .i64 0)), (.sc (.int .i64 0))] (.t 6), none, false⟩,
 ⟨3, .mv (.t 7), none, false⟩])
 (.seq
 (.seq
 (.reg false [⟨4, .mv (.k (.sc (.int .i64 0))), none, false⟩])
 (.cln [3] [2]
 (.block 0
 (.loop [0, 3, 4] b118_1))))
 (.seq
 (.reg false [⟨22, .mv (.t 3), none, false⟩,
 ⟨2, .mv (.t 22), none, false⟩])
 .ret))))⟩
attribute [simp] i118
set_option maxRecDepth 1000000 in
theorem c118 : cFn Try.prog 118 [[], [0, 3, 4], [3], [2]] = some i118 := by kernel_rfl
theorem e118 : enterOk Try.prog 118 = true := by kernel_rfl
def w119_1 : IC :=
(.seq
 (.seq
 (.reg false [⟨8, .mv (.t 4), none, false⟩,
 ⟨9, .mv (.t 0), none, false⟩,
 ⟨10, .ln false (.t 9), none, false⟩,
 ⟨11, .ar .lss false (.t 8) (.t 10), none, false⟩])
 (.ite (.t 11)
 .skip
 (.exit 0)))
 (.seq
 (.block 1
 (.reg false [⟨14, .mv (.t 3), none, false⟩,
 ⟨15, .mv (.t 4), none, false⟩,
 ⟨16, .mv (.t 0), none, false⟩,
 ⟨17, .mv (.t 4), none, false⟩,
 ⟨18, .ia 2 (.t 16) (.t 17), none, false⟩,
 ⟨19, .ld 2 true (.t 18), none, false⟩,
 ⟨20, .ca (.k (.cl 149 [])) [(.t 19)], none, false⟩,
 ⟨21, .ia 2 (.t 14) (.t 15), none, false⟩,
 ⟨1, .so 2 (.t 21) (.t 20), none, true⟩]))
 (.reg false [⟨12, .mv (.t 4), none, false⟩,
 ⟨13, .ar .add false (.t 12) (.k (.sc (.int .i64 1))), none, false⟩,
 ⟨4, .mv (.t 13), none, false⟩])))
def b119_1 : IC := w119_1
theorem u119_1 (call : CallF) (st : St) : evC call b119_1 st = evC call w119_1 st := rfl
attribute [simp] u119_1 w119_1
def i119 : Ev.Fn := ⟨1, 23, [.tmp 2],
 (.seq
 (.reg false [⟨2, .mv (.k .nl), none, false⟩])
 (.seq
 (.reg false [⟨5, .mv (.t 0), none, false⟩,
 ⟨6, .ln false (.t 5), none, false⟩,
 ⟨7, .ms 169 2 [(.sc (.string ⟨#[]⟩)), .nl] (.t 6), none, false⟩,
 ⟨3, .mv (.t 7), none, false⟩])
 (.seq
 (.seq
 (.reg false [⟨4, .mv (.k (.sc (.int .i64 0))), none, false⟩])
 (.cln [3] [2]
 (.block 0
 (.loop [0, 3, 4] b119_1))))
 (.seq
 (.reg false [⟨22, .mv (.t 3), none, false⟩,
 ⟨2, .mv (.t 22), none, false⟩])
 .ret))))⟩
attribute [simp] i119
set_option maxRecDepth 1000000 in
theorem c119 : cFn Try.prog 119 [[], [0, 3, 4], [3], [2]] = some i119 := by kernel_rfl
theorem e119 : enterOk Try.prog 119 = true := by kernel_rfl
def w120_1 : IC :=
(.seq
 (.reg false [⟨35, .ar .lss false (.t 34) (.t 33), none, false⟩])
 (.seq
 (.ite (.t 35)
 .skip
 (.exit 0))
 (.seq
 (.block 1
 (.seq
 (.reg false [⟨36, .mv (.t 34), none, false⟩,
 ⟨37, .ia 2 (.t 32) (.t 34), none, false⟩,
 ⟨38, .ld 2 true (.t 37), none, false⟩,
 ⟨4, .al [(.sc (.int .i64 0)), (.sc (.int .i64 0))], none, false⟩,
 ⟨3, .mv (.t 36), none, false⟩,
 ⟨1, .so 2 (.t 4) (.t 38), none, true⟩])
 (.seq
 (.reg true [⟨39, .fa 0 (.t 4), none, false⟩,
 ⟨40, .ld 1 false (.t 39), none, false⟩,
 ⟨41, .fa 0 (.t 1), none, false⟩,
 ⟨42, .ld 1 false (.t 41), none, false⟩,
 ⟨43, .ca (.k (.cl 84 [])) [(.t 40), (.k (.sc (.int .i64 0))), (.t 42)], none, false⟩,
 ⟨44, .nt (.t 43), none, false⟩,
 ⟨45, .mv (.t 44), none, false⟩,
 ⟨46, .fa 1 (.t 4), (some (45, false)), false⟩,
 ⟨47, .ld 1 false (.t 46), (some (45, false)), false⟩,
 ⟨48, .fa 1 (.t 1), (some (45, false)), false⟩,
 ⟨49, .ld 1 false (.t 48), (some (45, false)), false⟩,
 ⟨50, .ca (.k (.cl 84 [])) [(.t 47), (.k (.sc (.int .i64 0))), (.t 49)], (some (45, false)), false⟩,
 ⟨51, .nt (.t 50), (some (45, false)), false⟩,
 ⟨52, .pk (.t 45) (.k (.sc (.bool true))) (.t 51), none, false⟩,
 ⟨53, .mv (.t 52), none, false⟩,
 ⟨54, .fa 2 (.t 1), (some (53, false)), false⟩,
 ⟨55, .ld 1 false (.t 54), (some (53, false)), false⟩,
 ⟨56, .mv (.t 3), (some (53, false)), false⟩,
 ⟨57, .sl 2 (.t 55) none (some (.t 56)), (some (53, false)), false⟩,
 ⟨58, .ld 2 true (.t 4), (some (53, false)), false⟩,
 ⟨59, .ca (.k (.cl 150 [])) [(.t 57), (.t 58)], (some (53, false)), false⟩,
 ⟨60, .pk (.t 53) (.k (.sc (.bool true))) (.t 59), none, false⟩])
 (.ite (.t 60)
 (.seq
 (.reg false [⟨2, .mv (.k (.sc (.bool false))), none, false⟩])
 .ret)
 .skip))))
 (.reg false [⟨61, .ar .add false (.t 34) (.k (.sc (.int .i64 1))), none, false⟩,
 ⟨34, .mv (.t 61), none, false⟩]))))
def b120_1 : IC := w120_1
theorem u120_1 (call : CallF) (st : St) : evC call b120_1 st = evC call w120_1 st := rfl
attribute [simp] u120_1 w120_1
def w120_2 : IC :=
(.seq
 (.reg false [⟨66, .ar .lss false (.t 65) (.t 64), none, false⟩])
 (.seq
 (.ite (.t 66)
 .skip
 (.exit 2))
 (.seq
 (.block 3
 (.seq
 (.reg false [⟨67, .mv (.t 65), none, false⟩,
 ⟨68, .ia 2 (.t 63) (.t 65), none, false⟩,
 ⟨69, .ld 2 true (.t 68), none, false⟩,
 ⟨6, .al [(.sc (.string ⟨#[]⟩)), .nl], none, false⟩,
 ⟨5, .mv (.t 67), none, false⟩,
 ⟨1, .so 2 (.t 6) (.t 69), none, true⟩])
 (.seq
 (.seq
 (.reg true [⟨70, .fa 0 (.t 6), none, false⟩,
 ⟨71, .ld 1 false (.t 70), none, false⟩,
 ⟨72, .ca (.k (.cl 83 [])) [(.t 71)], none, false⟩,
 ⟨73, .nt (.t 72), none, false⟩,
 ⟨74, .mv (.t 73), none, false⟩,
 ⟨75, .mv (.t 5), (some (74, false)), false⟩,
 ⟨76, .ar .gtr false (.t 75) (.k (.sc (.int .i64 0))), (some (74, false)), false⟩,
 ⟨77, .mv (.t 76), (some (74, false)), false⟩,
 ⟨78, .fa 3 (.t 1), (some (77, true)), false⟩,
 ⟨79, .ld 1 false (.t 78), (some (77, true)), false⟩,
 ⟨80, .mv (.t 5), (some (77, true)), false⟩,
 ⟨81, .ar .sub false (.t 80) (.k (.sc (.int .i64 1))), (some (77, true)), false⟩,
 ⟨82, .ia 2 (.t 79) (.t 81), (some (77, true)), false⟩,
 ⟨83, .fa 0 (.t 82), (some (77, true)), false⟩,
 ⟨84, .ld 1 false (.t 83), (some (77, true)), false⟩,
 ⟨85, .fa 0 (.t 6), (some (77, true)), false⟩,
 ⟨86, .ld 1 false (.t 85), (some (77, true)), false⟩,
 ⟨87, .ar .geq false (.t 84) (.t 86), (some (77, true)), false⟩,
 ⟨88, .pk (.t 77) (.t 87) (.k (.sc (.bool false))), (some (74, false)), false⟩,
 ⟨89, .pk (.t 74) (.k (.sc (.bool true))) (.t 88), none, false⟩])
 (.ite (.t 89)
 (.seq
 (.reg false [⟨2, .mv (.k (.sc (.bool false))), none, false⟩])
 .ret)
 .skip))
 (.seq
 (.reg false [⟨91, .fa 2 (.t 1), none, false⟩,
 ⟨92, .ld 1 false (.t 91), none, false⟩,
 ⟨93, .fa 1 (.t 6), none, false⟩,
 ⟨94, .ld 1 false (.t 93), none, false⟩,
 ⟨95, .ca (.k (.cl 151 [])) [(.t 92), (.t 94)], none, false⟩,
 ⟨90, .mv (.t 95), none, false⟩,
 ⟨96, .xt (.t 90) 0, none, false⟩,
 ⟨97, .xt (.t 90) 1, none, false⟩,
 ⟨7, .mv (.t 96), none, false⟩,
 ⟨8, .mv (.t 97), none, false⟩])
 (.seq
 (.reg false [⟨98, .mv (.t 8), none, false⟩,
 ⟨99, .nt (.t 98), none, false⟩,
 ⟨100, .mv (.t 99), none, false⟩,
 ⟨101, .mv (.t 7), (some (100, false)), false⟩,
 ⟨102, .ca (.k (.cl 152 [])) [(.t 101)], (some (100, false)), false⟩,
 ⟨103, .nt (.t 102), (some (100, false)), false⟩,
 ⟨104, .pk (.t 100) (.k (.sc (.bool true))) (.t 103), none, false⟩])
 (.ite (.t 104)
 (.seq
 (.reg false [⟨2, .mv (.k (.sc (.bool false))), none, false⟩])
 .ret)
 .skip))))))
 (.reg false [⟨105, .ar .add false (.t 65) (.k (.sc (.int .i64 1))), none, false⟩,
 ⟨65, .mv (.t 105), none, false⟩]))))
def b120_2 : IC := w120_2
theorem u120_2 (call : CallF) (st : St) : evC call b120_2 st = evC call w120_2 st := rfl
attribute [simp] u120_2 w120_2
def i120 : Ev.Fn := ⟨1, 106, [.tmp 2],
 (.seq
 (.reg false [⟨1, .bx (.t 0), none, false⟩,
 ⟨2, .mv (.k (.sc (.bool false))), none, false⟩])
 (.seq
 (.seq
 (.reg false [⟨9, .fa 0 (.t 1), none, false⟩,
 ⟨10, .ld 1 false (.t 9), none, false⟩,
 ⟨11, .ca (.k (.cl 84 [])) [(.t 10), (.k (.sc (.int .i64 10))), (.k (.sc (.int .i64 20000)))], none, false⟩,
 ⟨12, .nt (.t 11), none, false⟩,
 ⟨13, .mv (.t 12), none, false⟩,
 ⟨14, .fa 1 (.t 1), (some (13, false)), false⟩,
 ⟨15, .ld 1 false (.t 14), (some (13, false)), false⟩,
 ⟨16, .ca (.k (.cl 84 [])) [(.t 15), (.k (.sc (.int .i64 10))), (.k (.sc (.int .i64 20000)))], (some (13, false)), false⟩,
 ⟨17, .nt (.t 16), (some (13, false)), false⟩,
 ⟨18, .pk (.t 13) (.k (.sc (.bool true))) (.t 17), none, false⟩,
 ⟨19, .mv (.t 18), none, false⟩,
 ⟨20, .fa 2 (.t 1), (some (19, false)), false⟩,
 ⟨21, .ld 1 false (.t 20), (some (19, false)), false⟩,
 ⟨22, .ln false (.t 21), (some (19, false)), false⟩,
 ⟨23, .ar .gtr false (.t 22) (.k (.sc (.int .i64 48))), (some (19, false)), false⟩,
 ⟨24, .pk (.t 19) (.k (.sc (.bool true))) (.t 23), none, false⟩,
 ⟨25, .mv (.t 24), none, false⟩,
 ⟨26, .fa 3 (.t 1), (some (25, false)), false⟩,
 ⟨27, .ld 1 false (.t 26), (some (25, false)), false⟩,
 ⟨28, .ln false (.t 27), (some (25, false)), false⟩,
 ⟨29, .ar .gtr false (.t 28) (.k (.sc (.int .i64 24))), (some (25, false)), false⟩,
 ⟨30, .pk (.t 25) (.k (.sc (.bool true))) (.t 29), none, false⟩])
 (.ite (.t 30)
 (.seq
 (.reg false [⟨2, .mv (.k (.sc (.bool false))), none, false⟩])
 .ret)
 .skip))
 (.seq
 (.seq
 (.reg false [⟨31, .fa 2 (.t 1), none, false⟩,
 ⟨32, .ld 1 false (.t 31), none, false⟩,
 ⟨33, .ln false (.t 32), none, false⟩,
 ⟨34, .mv (.k (.sc (.int .i64 0))), none, false⟩])
 (.cln [1] [2]
 (.block 0
 (.loop [1, 32, 33, 34] b120_1))))
 (.seq
 (.seq
 (.reg false [⟨62, .fa 3 (.t 1), none, false⟩,
 ⟨63, .ld 1 false (.t 62), none, false⟩,
 ⟨64, .ln false (.t 63), none, false⟩,
 ⟨65, .mv (.k (.sc (.int .i64 0))), none, false⟩])
 (.cln [] [2]
 (.block 2
 (.loop [1, 63, 64, 65] b120_2))))
 (.seq
 (.reg false [⟨2, .mv (.k (.sc (.bool true))), none, false⟩])
 .ret)))))⟩
attribute [simp] i120
set_option maxRecDepth 1000000 in
theorem c120 : cFn Try.prog 120 [[], [1, 32, 33, 34], [1], [2], [1, 63, 64, 65], [], [2]] = some i120 := by kernel_rfl
theorem e120 : enterOk Try.prog 120 = true := by kernel_rfl
def w121_2 : IC :=
(.seq
 (.reg false [⟨22, .ar .lss false (.t 21) (.t 20), none, false⟩])
 (.seq
 (.ite (.t 22)
 .skip
 (.exit 2))
 (.seq
 (.block 3
 (.seq
 (.reg false [⟨23, .ia 2 (.t 19) (.t 21), none, false⟩,
 ⟨24, .ld 2 true (.t 23), none, false⟩,
 ⟨8, .al [(.sc (.string ⟨#[]⟩)), .nl], none, false⟩,
 ⟨1, .so 2 (.t 8) (.t 24), none, true⟩])
 (.seq
 (.reg false [⟨25, .fa 1 (.t 8), none, false⟩,
 ⟨26, .ld 1 false (.t 25), none, false⟩,
 ⟨27, .ln false (.t 26), none, false⟩,
 ⟨9, .mv (.t 27), none, false⟩])
 (.seq
 (.reg false [⟨28, .fa 1 (.t 8), none, false⟩,
 ⟨29, .ld 1 false (.t 28), none, false⟩,
 ⟨30, .mv (.t 4), none, false⟩,
 ⟨31, .ca (.k (.cl 153 [])) [(.t 29), (.t 30)], none, false⟩,
 ⟨10, .mv (.t 31), none, false⟩])
 (.seq
 (.seq
 (.reg false [⟨32, .mv (.t 10), none, false⟩,
 ⟨33, .ar .lss false (.t 32) (.k (.sc (.int .i64 0))), none, false⟩])
 (.ite (.t 33)
 (.exit 3)
 .skip))
 (.seq
 (.reg false [⟨5, .mv (.k (.sc (.bool true))), none, false⟩])
 (.reg true [⟨34, .mv (.t 6), none, false⟩,
 ⟨35, .mv (.t 34), none, false⟩,
 ⟨36, .mv (.t 9), (some (35, true)), false⟩,
 ⟨37, .ar .gtr false (.t 36) (.k (.sc (.int .i64 3))), (some (35, true)), false⟩,
 ⟨38, .pk (.t 35) (.t 37) (.k (.sc (.bool false))), none, false⟩,
 ⟨39, .mv (.t 38), none, false⟩,
 ⟨40, .fa 2 (.t 1), (some (39, true)), false⟩,
 ⟨41, .ld 1 false (.t 40), (some (39, true)), false⟩,
 ⟨42, .fa 1 (.t 8), (some (39, true)), false⟩,
 ⟨43, .ld 1 false (.t 42), (some (39, true)), false⟩,
 ⟨44, .mv (.t 10), (some (39, true)), false⟩,
 ⟨45, .mv (.t 9), (some (39, true)), false⟩,
 ⟨46, .ar .add false (.t 44) (.t 45), (some (39, true)), false⟩,
 ⟨47, .ar .sub false (.t 46) (.k (.sc (.int .i64 1))), (some (39, true)), false⟩,
 ⟨48, .mv (.t 9), (some (39, true)), false⟩,
 ⟨49, .ar .rem false (.t 47) (.t 48), (some (39, true)), false⟩,
 ⟨50, .ia 1 (.t 43) (.t 49), (some (39, true)), false⟩,
 ⟨51, .ld 1 false (.t 50), (some (39, true)), false⟩,
 ⟨52, .ia 2 (.t 41) (.t 51), (some (39, true)), false⟩,
 ⟨53, .ld 2 true (.t 52), (some (39, true)), false⟩,
 ⟨54, .fa 2 (.t 1), (some (39, true)), false⟩,
 ⟨55, .ld 1 false (.t 54), (some (39, true)), false⟩,
 ⟨56, .mv (.t 4), (some (39, true)), false⟩,
 ⟨57, .ia 2 (.t 55) (.t 56), (some (39, true)), false⟩,
 ⟨58, .ld 2 true (.t 57), (some (39, true)), false⟩,
 ⟨59, .fa 2 (.t 1), (some (39, true)), false⟩,
 ⟨60, .ld 1 false (.t 59), (some (39, true)), false⟩,
 ⟨61, .fa 1 (.t 8), (some (39, true)), false⟩,
 ⟨62, .ld 1 false (.t 61), (some (39, true)), false⟩,
 ⟨63, .mv (.t 10), (some (39, true)), false⟩,
 ⟨64, .ar .add false (.t 63) (.k (.sc (.int .i64 1))), (some (39, true)), false⟩,
 ⟨65, .mv (.t 9), (some (39, true)), false⟩,
 ⟨66, .ar .rem false (.t 64) (.t 65), (some (39, true)), false⟩,
 ⟨67, .ia 1 (.t 62) (.t 66), (some (39, true)), false⟩,
 ⟨68, .ld 1 false (.t 67), (some (39, true)), false⟩,
 ⟨69, .ia 2 (.t 60) (.t 68), (some (39, true)), false⟩,
 ⟨70, .ld 2 true (.t 69), (some (39, true)), false⟩,
 ⟨71, .ca (.k (.cl 154 [])) [(.t 53), (.t 58), (.t 70)], (some (39, true)), false⟩,
 ⟨72, .ar .eql false (.t 71) (.k (.sc (.int .i64 0))), (some (39, true)), false⟩,
 ⟨73, .pk (.t 39) (.t 72) (.k (.sc (.bool false))), none, false⟩,
 ⟨6, .mv (.t 73), none, false⟩])))))))
 (.reg false [⟨74, .ar .add false (.t 21) (.k (.sc (.int .i64 1))), none, false⟩,
 ⟨21, .mv (.t 74), none, false⟩]))))
def b121_2 : IC := w121_2
theorem u121_2 (call : CallF) (st : St) : evC call b121_2 st = evC call w121_2 st := rfl
attribute [simp] u121_2 w121_2
def w121_1 : IC :=
(.seq
 (.reg false [⟨16, .ar .lss false (.t 15) (.t 14), none, false⟩])
 (.seq
 (.ite (.t 16)
 .skip
 (.exit 0))
 (.seq
 (.block 1
 (.seq
 (.reg false [⟨17, .mv (.t 15), none, false⟩,
 ⟨4, .mv (.t 17), none, false⟩])
 (.seq
 (.reg false [⟨5, .mv (.k (.sc (.bool false))), none, false⟩,
 ⟨6, .mv (.k (.sc (.bool true))), none, false⟩])
 (.seq
 (.seq
 (.reg false [⟨18, .fa 3 (.t 1), none, false⟩,
 ⟨19, .ld 1 false (.t 18), none, false⟩,
 ⟨20, .ln false (.t 19), none, false⟩,
 ⟨21, .mv (.k (.sc (.int .i64 0))), none, false⟩])
 (.cln [1, 3, 4, 5, 6, 14, 15] [2]
 (.block 2
 (.loop [1, 3, 4, 5, 6, 14, 15, 19, 20, 21] b121_2))))
 (.seq
 (.reg false [⟨75, .mv (.t 5), none, false⟩,
 ⟨76, .mv (.t 75), none, false⟩,
 ⟨77, .mv (.t 6), (some (76, true)), false⟩,
 ⟨78, .pk (.t 76) (.t 77) (.k (.sc (.bool false))), none, false⟩])
 (.ite (.t 78)
 (.reg false [⟨79, .mv (.t 3), none, false⟩,
 ⟨80, .mv (.t 4), none, false⟩,
 ⟨81, .bs 2 1 [(.sc (.int .i64 0))] 1 [(0, (.t 80))], none, false⟩,
 ⟨82, .ap 2 1 false (.t 79) (.t 81), none, false⟩,
 ⟨3, .mv (.t 82), none, false⟩])
 .skip))))))
 (.reg false [⟨83, .ar .add false (.t 15) (.k (.sc (.int .i64 1))), none, false⟩,
 ⟨15, .mv (.t 83), none, false⟩]))))
def b121_1 : IC := w121_1
theorem u121_1 (call : CallF) (st : St) : evC call b121_1 st = evC call w121_1 st := rfl
attribute [simp] u121_1 w121_1
def i121 : Ev.Fn := ⟨1, 85, [.tmp 2],
 (.seq
 (.reg false [⟨1, .bx (.t 0), none, false⟩,
 ⟨2, .mv (.k .nl), none, false⟩])
 (.seq
 (.reg false [⟨11, .bs 2 1 [(.sc (.int .i64 0))] 0 [], none, false⟩,
 ⟨3, .mv (.t 11), none, false⟩])
 (.seq
 (.seq
 (.reg false [⟨12, .fa 2 (.t 1), none, false⟩,
 ⟨13, .ld 1 false (.t 12), none, false⟩,
 ⟨14, .ln false (.t 13), none, false⟩,
 ⟨15, .mv (.k (.sc (.int .i64 0))), none, false⟩])
 (.cln [3] [2]
 (.block 0
 (.loop [1, 3, 14, 15] b121_1))))
 (.seq
 (.reg false [⟨84, .mv (.t 3), none, false⟩,
 ⟨2, .mv (.t 84), none, false⟩])
 .ret))))⟩
attribute [simp] i121
set_option maxRecDepth 1000000 in
theorem c121 : cFn Try.prog 121 [[], [1, 3, 14, 15], [1, 3, 4, 5, 6, 14, 15, 19, 20, 21], [1, 3, 4, 5, 6, 14, 15], [2], [3], [2]] = some i121 := by kernel_rfl
theorem e121 : enterOk Try.prog 121 = true := by kernel_rfl
def w122_1 : IC :=
(.seq
 (.seq
 (.reg false [⟨11, .mv (.t 5), none, false⟩,
 ⟨12, .mv (.t 0), none, false⟩,
 ⟨13, .ln false (.t 12), none, false⟩,
 ⟨14, .ar .lss false (.t 11) (.t 13), none, false⟩])
 (.ite (.t 14)
 .skip
 (.exit 0)))
 (.seq
 (.block 1
 (.seq
 (.reg true [⟨17, .mv (.t 0), none, false⟩,
 ⟨18, .mv (.t 5), none, false⟩,
 ⟨19, .ia 2 (.t 17) (.t 18), none, false⟩,
 ⟨20, .ld 2 true (.t 19), none, false⟩,
 ⟨21, .mv (.t 1), none, false⟩,
 ⟨22, .mv (.t 5), none, false⟩,
 ⟨23, .ia 2 (.t 21) (.t 22), none, false⟩,
 ⟨24, .ld 2 true (.t 23), none, false⟩,
 ⟨25, .ca (.k (.cl 155 [])) [(.t 20), (.t 24)], none, false⟩,
 ⟨26, .nt (.t 25), none, false⟩])
 (.ite (.t 26)
 (.seq
 (.reg false [⟨4, .mv (.k (.sc (.bool false))), none, false⟩])
 .ret)
 .skip)))
 (.reg false [⟨15, .mv (.t 5), none, false⟩,
 ⟨16, .ar .add false (.t 15) (.k (.sc (.int .i64 1))), none, false⟩,
 ⟨5, .mv (.t 16), none, false⟩])))
def b122_1 : IC := w122_1
theorem u122_1 (call : CallF) (st : St) : evC call b122_1 st = evC call w122_1 st := rfl
attribute [simp] u122_1 w122_1
def i122 : Ev.Fn := ⟨2, 27, [.tmp 4],
 (.seq
 (.reg false [⟨4, .mv (.k (.sc (.bool false))), none, false⟩])
 (.seq
 (.seq
 (.reg false [⟨6, .mv (.t 0), none, false⟩,
 ⟨7, .ln false (.t 6), none, false⟩,
 ⟨8, .mv (.t 1), none, false⟩,
 ⟨9, .ln false (.t 8), none, false⟩,
 ⟨10, .ar .neq false (.t 7) (.t 9), none, false⟩])
 (.ite (.t 10)
 (.seq
 (.reg false [⟨4, .mv (.k (.sc (.bool false))), none, false⟩])
 .ret)
 .skip))
 (.seq
 (.seq
 (.reg false [⟨5, .mv (.k (.sc (.int .i64 0))), none, false⟩])
 (.cln [] [4]
 (.block 0
 (.loop [0, 1, 5] b122_1))))
 (.seq
 (.reg false [⟨4, .mv (.k (.sc (.bool true))), none, false⟩])
 .ret))))⟩
attribute [simp] i122
set_option maxRecDepth 1000000 in
theorem c122 : cFn Try.prog 122 [[], [0, 1, 5], [], [4]] = some i122 := by kernel_rfl
theorem e122 : enterOk Try.prog 122 = true := by kernel_rfl
def w123_1 : IC :=
(.seq
 (.seq
 (.reg false [⟨11, .mv (.t 5), none, false⟩,
 ⟨12, .mv (.t 0), none, false⟩,
 ⟨13, .ln false (.t 12), none, false⟩,
 ⟨14, .ar .lss false (.t 11) (.t 13), none, false⟩])
 (.ite (.t 14)
 .skip
 (.exit 0)))
 (.seq
 (.block 1
 (.seq
 (.reg true [⟨17, .mv (.t 0), none, false⟩,
 ⟨18, .mv (.t 5), none, false⟩,
 ⟨19, .ia 2 (.t 17) (.t 18), none, false⟩,
 ⟨20, .ld 2 true (.t 19), none, false⟩,
 ⟨21, .mv (.t 1), none, false⟩,
 ⟨22, .mv (.t 5), none, false⟩,
 ⟨23, .ia 2 (.t 21) (.t 22), none, false⟩,
 ⟨24, .ld 2 true (.t 23), none, false⟩,
 ⟨25, .ca (.k (.cl 156 [])) [(.t 20), (.t 24)], none, false⟩,
 ⟨26, .nt (.t 25), none, false⟩])
 (.ite (.t 26)
 (.seq
 (.reg false [⟨4, .mv (.k (.sc (.bool false))), none, false⟩])
 .ret)
 .skip)))
 (.reg false [⟨15, .mv (.t 5), none, false⟩,
 ⟨16, .ar .add false (.t 15) (.k (.sc (.int .i64 1))), none, false⟩,
 ⟨5, .mv (.t 16), none, false⟩])))
def b123_1 : IC := w123_1
theorem u123_1 (call : CallF) (st : St) : evC call b123_1 st = evC call w123_1 st := rfl
attribute [simp] u123_1 w123_1
def i123 : Ev.Fn := ⟨2, 27, [.tmp 4],
 (.seq
 (.reg false [⟨4, .mv (.k (.sc (.bool false))), none, false⟩])
 (.seq
 (.seq
 (.reg false [⟨6, .mv (.t 0), none, false⟩,
 ⟨7, .ln false (.t 6), none, false⟩,
 ⟨8, .mv (.t 1), none, false⟩,
 ⟨9, .ln false (.t 8), none, false⟩,
 ⟨10, .ar .neq false (.t 7) (.t 9), none, false⟩])
 (.ite (.t 10)
 (.seq
 (.reg false [⟨4, .mv (.k (.sc (.bool false))), none, false⟩])
 .ret)
 .skip))
 (.seq
 (.seq
 (.reg false [⟨5, .mv (.k (.sc (.int .i64 0))), none, false⟩])
 (.cln [] [4]
 (.block 0
 (.loop [0, 1, 5] b123_1))))
 (.seq
 (.reg false [⟨4, .mv (.k (.sc (.bool true))), none, false⟩])
 .ret))))⟩
attribute [simp] i123
set_option maxRecDepth 1000000 in
theorem c123 : cFn Try.prog 123 [[], [0, 1, 5], [], [4]] = some i123 := by kernel_rfl
theorem e123 : enterOk Try.prog 123 = true := by kernel_rfl
def w124_1 : IC :=
(.seq
 (.seq
 (.reg false [⟨6, .mv (.t 5), none, false⟩,
 ⟨7, .mv (.t 0), none, false⟩,
 ⟨8, .ln false (.t 7), none, false⟩,
 ⟨9, .ar .lss false (.t 6) (.t 8), none, false⟩])
 (.ite (.t 9)
 .skip
 (.exit 0)))
 (.seq
 (.block 1
 (.seq
 (.reg false [⟨12, .mv (.t 0), none, false⟩,
 ⟨13, .mv (.t 5), none, false⟩,
 ⟨14, .mv (.t 1), none, false⟩,
 ⟨15, .ia 2 (.t 12) (.t 13), none, false⟩,
 ⟨16, .fa 0 (.t 15), none, false⟩,
 ⟨1, .so 1 (.t 16) (.t 14), none, true⟩])
 (.seq
 (.reg false [⟨17, .mv (.t 1), none, false⟩,
 ⟨18, .ar .add false (.t 17) (.k (.sc (.int .i64 1))), none, false⟩,
 ⟨1, .mv (.t 18), none, false⟩])
 (.seq
 (.reg false [⟨19, .mv (.t 0), none, false⟩,
 ⟨20, .mv (.t 5), none, false⟩,
 ⟨21, .mv (.t 1), none, false⟩,
 ⟨22, .ia 2 (.t 19) (.t 20), none, false⟩,
 ⟨23, .fa 1 (.t 22), none, false⟩,
 ⟨1, .so 1 (.t 23) (.t 21), none, true⟩])
 (.reg false [⟨24, .mv (.t 1), none, false⟩,
 ⟨25, .ar .add false (.t 24) (.k (.sc (.int .i64 1))), none, false⟩,
 ⟨1, .mv (.t 25), none, false⟩])))))
 (.reg false [⟨10, .mv (.t 5), none, false⟩,
 ⟨11, .ar .add false (.t 10) (.k (.sc (.int .i64 1))), none, false⟩,
 ⟨5, .mv (.t 11), none, false⟩])))
def b124_1 : IC := w124_1
theorem u124_1 (call : CallF) (st : St) : evC call b124_1 st = evC call w124_1 st := rfl
attribute [simp] u124_1 w124_1
def i124 : Ev.Fn := ⟨2, 27, [.tmp 4],
 (.seq
 (.reg false [⟨4, .mv (.k (.sc (.int .i64 0))), none, false⟩])
 (.seq
 (.seq
 (.reg false [⟨5, .mv (.k (.sc (.int .i64 0))), none, false⟩])
 (.cln [1, 100000] [4, 100000]
 (.block 0
 (.loop [0, 1, 5, 100000] b124_1))))
 (.seq
 (.reg false [⟨26, .mv (.t 1), none, false⟩,
 ⟨4, .mv (.t 26), none, false⟩])
 .ret)))⟩
attribute [simp] i124
set_option maxRecDepth 1000000 in
theorem c124 : cFn Try.prog 124 [[], [0, 1, 5, 100000], [1, 100000], [4, 100000]] = some i124 := by kernel_rfl
theorem e124 : enterOk Try.prog 124 = true := by kernel_rfl
def w125_1 : IC :=
(.seq
 (.seq
 (.reg false [⟨6, .mv (.t 5), none, false⟩,
 ⟨7, .mv (.t 0), none, false⟩,
 ⟨8, .ln false (.t 7), none, false⟩,
 ⟨9, .ar .lss false (.t 6) (.t 8), none, false⟩])
 (.ite (.t 9)
 .skip
 (.exit 0)))
 (.seq
 (.block 1
 (.seq
 (.reg false [⟨12, .mv (.t 0), none, false⟩,
 ⟨13, .mv (.t 5), none, false⟩,
 ⟨14, .mv (.t 1), none, false⟩,
 ⟨15, .ca (.k (.cl 113 [])) [(.t 14)], none, false⟩,
 ⟨16, .ia 2 (.t 12) (.t 13), none, false⟩,
 ⟨17, .fa 0 (.t 16), none, false⟩,
 ⟨1, .so 1 (.t 17) (.t 15), none, true⟩])
 (.seq
 (.reg false [⟨18, .mv (.t 1), none, false⟩,
 ⟨19, .ar .add false (.t 18) (.k (.sc (.int .i64 1))), none, false⟩,
 ⟨1, .mv (.t 19), none, false⟩])
 (.rgw [⟨20, .mv (.t 0), none, false⟩,
 ⟨21, .mv (.t 5), none, false⟩,
 ⟨22, .ia 2 (.t 20) (.t 21), none, false⟩,
 ⟨23, .fa 1 (.t 22), none, false⟩,
 ⟨24, .ld 1 false (.t 23), none, false⟩,
 ⟨25, .mv (.t 1), none, false⟩,
 ⟨26, .cw 62 [] [(.t 24), (.t 25)], none, false⟩,
 ⟨1, .mv (.t 26), none, false⟩]))))
 (.reg false [⟨10, .mv (.t 5), none, false⟩,
 ⟨11, .ar .add false (.t 10) (.k (.sc (.int .i64 1))), none, false⟩,
 ⟨5, .mv (.t 11), none, false⟩])))
def b125_1 : IC := w125_1
theorem u125_1 (call : CallF) (st : St) : evC call b125_1 st = evC call w125_1 st := rfl
attribute [simp] u125_1 w125_1
def i125 : Ev.Fn := ⟨2, 28, [.tmp 4],
 (.seq
 (.reg false [⟨4, .mv (.k (.sc (.int .i64 0))), none, false⟩])
 (.seq
 (.seq
 (.reg false [⟨5, .mv (.k (.sc (.int .i64 0))), none, false⟩])
 (.cln [1, 100000] [4, 100000]
 (.block 0
 (.loop [0, 1, 5, 100000] b125_1))))
 (.seq
 (.reg false [⟨27, .mv (.t 1), none, false⟩,
 ⟨4, .mv (.t 27), none, false⟩])
 .ret)))⟩
attribute [simp] i125
set_option maxRecDepth 1000000 in
theorem c125 : cFn Try.prog 125 [[62], [0, 1, 5, 100000], [1, 100000], [4, 100000]] = some i125 := by kernel_rfl
theorem e125 : enterOk Try.prog 125 = true := by kernel_rfl
def w129_1 : IC :=
(.seq
 (.seq
 (.reg false [⟨17, .mv (.t 3), none, false⟩,
 ⟨18, .mv (.t 0), none, false⟩,
 ⟨19, .ln true (.t 18), none, false⟩,
 ⟨20, .ar .lss false (.t 17) (.t 19), none, false⟩])
 (.ite (.t 20)
 .skip
 (.exit 0)))
 (.seq
 (.block 1
 (.seq
 (.reg false [⟨23, .mv (.t 0), none, false⟩,
 ⟨24, .mv (.t 3), none, false⟩,
 ⟨25, .ix (.t 23) (.t 24), none, false⟩,
 ⟨26, .ca (.k (.cl 157 [])) [(.t 25)], none, false⟩,
 ⟨27, .nt (.t 26), none, false⟩,
 ⟨28, .mv (.t 27), none, false⟩,
 ⟨29, .mv (.t 0), (some (28, true)), false⟩,
 ⟨30, .mv (.t 3), (some (28, true)), false⟩,
 ⟨31, .ix (.t 29) (.t 30), (some (28, true)), false⟩,
 ⟨32, .ca (.k (.cl 158 [])) [(.t 31)], (some (28, true)), false⟩,
 ⟨33, .nt (.t 32), (some (28, true)), false⟩,
 ⟨34, .pk (.t 28) (.t 33) (.k (.sc (.bool false))), none, false⟩])
 (.ite (.t 34)
 (.seq
 (.reg false [⟨2, .mv (.k (.sc (.bool false))), none, false⟩])
 .ret)
 .skip)))
 (.reg false [⟨21, .mv (.t 3), none, false⟩,
 ⟨22, .ar .add false (.t 21) (.k (.sc (.int .i64 1))), none, false⟩,
 ⟨3, .mv (.t 22), none, false⟩])))
def b129_1 : IC := w129_1
theorem u129_1 (call : CallF) (st : St) : evC call b129_1 st = evC call w129_1 st := rfl
attribute [simp] u129_1 w129_1
def i129 : Ev.Fn := ⟨1, 35, [.tmp 2],
 (.seq
 (.reg false [⟨2, .mv (.k (.sc (.bool false))), none, false⟩])
 (.seq
 (.seq
 (.reg false [⟨4, .mv (.t 0), none, false⟩,
 ⟨5, .ar .eql false (.t 4) (.k (.sc (.string ⟨#[]⟩))), none, false⟩,
 ⟨6, .mv (.t 5), none, false⟩,
 ⟨7, .mv (.t 0), (some (6, false)), false⟩,
 ⟨8, .ln true (.t 7), (some (6, false)), false⟩,
 ⟨9, .ar .gtr false (.t 8) (.k (.sc (.int .i64 10))), (some (6, false)), false⟩,
 ⟨10, .pk (.t 6) (.k (.sc (.bool true))) (.t 9), none, false⟩,
 ⟨11, .mv (.t 10), none, false⟩,
 ⟨12, .mv (.t 0), (some (11, false)), false⟩,
 ⟨13, .ix (.t 12) (.k (.sc (.int .i64 0))), (some (11, false)), false⟩,
 ⟨14, .ca (.k (.cl 157 [])) [(.t 13)], (some (11, false)), false⟩,
 ⟨15, .nt (.t 14), (some (11, false)), false⟩,
 ⟨16, .pk (.t 11) (.k (.sc (.bool true))) (.t 15), none, false⟩])
 (.ite (.t 16)
 (.seq
 (.reg false [⟨2, .mv (.k (.sc (.bool false))), none, false⟩])
 .ret)
 .skip))
 (.seq
 (.seq
 (.reg false [⟨3, .mv (.k (.sc (.int .i64 0))), none, false⟩])
 (.cln [] [2]
 (.block 0
 (.loop [0, 3] b129_1))))
 (.seq
 (.reg false [⟨2, .mv (.k (.sc (.bool true))), none, false⟩])
 .ret))))⟩
attribute [simp] i129
set_option maxRecDepth 1000000 in
theorem c129 : cFn Try.prog 129 [[], [0, 3], [], [2]] = some i129 := by kernel_rfl
theorem e129 : enterOk Try.prog 129 = true := by kernel_rfl
def i143 : Ev.Fn := ⟨2, 19, [.tmp 4],
 (.seq
 (.reg false [⟨2, .bx (.t 0), none, false⟩,
 ⟨4, .mv (.k (.sc (.int .i64 0))), none, false⟩])
 (.seq
 (.reg false [⟨5, .mv (.t 1), none, false⟩,
 ⟨6, .fa 0 (.t 2), none, false⟩,
 ⟨7, .ld 1 false (.t 6), none, false⟩,
 ⟨8, .ln true (.t 7), none, false⟩,
 ⟨9, .ar .sub false (.t 5) (.t 8), none, false⟩,
 ⟨1, .mv (.t 9), none, false⟩])
 (.seq
 (.seq
 (.reg false [⟨10, .mv (.t 1), none, false⟩,
 ⟨11, .ar .lss false (.t 10) (.k (.sc (.int .i64 0))), none, false⟩])
 (.ite (.t 11)
 (.seq
 (.reg false [⟨4, .mv (.k (.sc (.int .i64 (-1)))), none, false⟩])
 .ret)
 .skip))
 (.seq
 (.reg false [⟨12, .fa 1 (.t 2), none, false⟩,
 ⟨13, .ld 1 false (.t 12), none, false⟩,
 ⟨14, .mv (.t 1), none, false⟩,
 ⟨15, .ca (.k (.cl 161 [])) [(.t 13), (.t 14)], none, false⟩,
 ⟨1, .mv (.t 15), none, false⟩])
 (.seq
 (.seq
 (.reg false [⟨16, .mv (.t 1), none, false⟩,
 ⟨17, .ar .lss false (.t 16) (.k (.sc (.int .i64 0))), none, false⟩])
 (.ite (.t 17)
 (.seq
 (.reg false [⟨4, .mv (.k (.sc (.int .i64 (-1)))), none, false⟩])
 .ret)
 .skip))
 (.seq
 (.reg false [⟨18, .mv (.t 1), none, false⟩,
 ⟨4, .mv (.t 18), none, false⟩])
 .ret))))))⟩
attribute [simp] i143
set_option maxRecDepth 1000000 in
theorem c143 : cFn Try.prog 143 [[]] = some i143 := by kernel_rfl
theorem e143 : enterOk Try.prog 143 = true := by kernel_rfl
def w144_2 : IC :=
(.seq
 (.seq
 (.reg false [⟨50, .mv (.t 4), none, false⟩,
 ⟨51, .mv (.t 3), none, false⟩,
 ⟨52, .ar .lss false (.t 50) (.t 51), none, false⟩])
 (.ite (.t 52)
 .skip
 (.exit 2)))
 (.seq
 (.block 3
 (.seq
 (.reg true [⟨55, .mv (.t 0), none, false⟩,
 ⟨56, .nc (.t 55), none, false⟩,
 ⟨57, .fa 2 (.t 56), none, false⟩,
 ⟨58, .ld 1 false (.t 57), none, false⟩,
 ⟨59, .mv (.t 3), none, false⟩,
 ⟨60, .ia 2 (.t 58) (.t 59), none, false⟩,
 ⟨61, .ld 2 true (.t 60), none, false⟩,
 ⟨62, .mv (.t 0), none, false⟩,
 ⟨63, .nc (.t 62), none, false⟩,
 ⟨64, .fa 2 (.t 63), none, false⟩,
 ⟨65, .ld 1 false (.t 64), none, false⟩,
 ⟨66, .mv (.t 4), none, false⟩,
 ⟨67, .ia 2 (.t 65) (.t 66), none, false⟩,
 ⟨68, .ld 2 true (.t 67), none, false⟩,
 ⟨69, .eq false [1, 1] (.t 61) (.t 68), none, false⟩])
 (.ite (.t 69)
 (.seq
 (.reg false [⟨2, .mv (.k (.sc (.bool false))), none, false⟩])
 .ret)
 .skip)))
 (.reg false [⟨53, .mv (.t 4), none, false⟩,
 ⟨54, .ar .add false (.t 53) (.k (.sc (.int .i64 1))), none, false⟩,
 ⟨4, .mv (.t 54), none, false⟩])))
def b144_2 : IC := w144_2
theorem u144_2 (call : CallF) (st : St) : evC call b144_2 st = evC call w144_2 st := rfl
attribute [simp] u144_2 w144_2
def w144_1 : IC :=
(.seq
 (.seq
 (.reg false [⟨11, .mv (.t 3), none, false⟩,
 ⟨12, .mv (.t 0), none, false⟩,
 ⟨13, .nc (.t 12), none, false⟩,
 ⟨14, .fa 2 (.t 13), none, false⟩,
 ⟨15, .ld 1 false (.t 14), none, false⟩,
 ⟨16, .ln false (.t 15), none, false⟩,
 ⟨17, .ar .lss false (.t 11) (.t 16), none, false⟩])
 (.ite (.t 17)
 .skip
 (.exit 0)))
 (.seq
 (.block 1
 (.seq
 (.seq
 (.reg true [⟨20, .mv (.t 0), none, false⟩,
 ⟨21, .nc (.t 20), none, false⟩,
 ⟨22, .fa 2 (.t 21), none, false⟩,
 ⟨23, .ld 1 false (.t 22), none, false⟩,
 ⟨24, .mv (.t 3), none, false⟩,
 ⟨25, .ia 2 (.t 23) (.t 24), none, false⟩,
 ⟨26, .fa 0 (.t 25), none, false⟩,
 ⟨27, .ld 1 false (.t 26), none, false⟩,
 ⟨28, .mv (.t 0), none, false⟩,
 ⟨29, .nc (.t 28), none, false⟩,
 ⟨30, .fa 0 (.t 29), none, false⟩,
 ⟨31, .ld 1 false (.t 30), none, false⟩,
 ⟨32, .ca (.k (.cl 88 [])) [(.t 27), (.k (.sc (.int .i64 0))), (.t 31)], none, false⟩,
 ⟨33, .nt (.t 32), none, false⟩,
 ⟨34, .mv (.t 33), none, false⟩,
 ⟨35, .mv (.t 0), (some (34, false)), false⟩,
 ⟨36, .nc (.t 35), (some (34, false)), false⟩,
 ⟨37, .fa 2 (.t 36), (some (34, false)), false⟩,
 ⟨38, .ld 1 false (.t 37), (some (34, false)), false⟩,
 ⟨39, .mv (.t 3), (some (34, false)), false⟩,
 ⟨40, .ia 2 (.t 38) (.t 39), (some (34, false)), false⟩,
 ⟨41, .fa 1 (.t 40), (some (34, false)), false⟩,
 ⟨42, .ld 1 false (.t 41), (some (34, false)), false⟩,
 ⟨43, .mv (.t 0), (some (34, false)), false⟩,
 ⟨44, .nc (.t 43), (some (34, false)), false⟩,
 ⟨45, .fa 1 (.t 44), (some (34, false)), false⟩,
 ⟨46, .ld 1 false (.t 45), (some (34, false)), false⟩,
 ⟨47, .ca (.k (.cl 88 [])) [(.t 42), (.k (.sc (.int .i64 0))), (.t 46)], (some (34, false)), false⟩,
 ⟨48, .nt (.t 47), (some (34, false)), false⟩,
 ⟨49, .pk (.t 34) (.k (.sc (.bool true))) (.t 48), none, false⟩])
 (.ite (.t 49)
 (.seq
 (.reg false [⟨2, .mv (.k (.sc (.bool false))), none, false⟩])
 .ret)
 .skip))
 (.seq
 (.reg false [⟨4, .mv (.k (.sc (.int .i64 0))), none, false⟩])
 (.cln [0, 3] [2]
 (.block 2
 (.loop [0, 3, 4] b144_2))))))
 (.reg false [⟨18, .mv (.t 3), none, false⟩,
 ⟨19, .ar .add false (.t 18) (.k (.sc (.int .i64 1))), none, false⟩,
 ⟨3, .mv (.t 19), none, false⟩])))
def b144_1 : IC := w144_1
theorem u144_1 (call : CallF) (st : St) : evC call b144_1 st = evC call w144_1 st := rfl
attribute [simp] u144_1 w144_1
def i144 : Ev.Fn := ⟨1, 70, [.tmp 2],
 (.seq
 (.reg false [⟨2, .mv (.k (.sc (.bool false))), none, false⟩])
 (.seq
 (.seq
 (.reg false [⟨5, .mv (.t 0), none, false⟩,
 ⟨6, .nc (.t 5), none, false⟩,
 ⟨7, .fa 2 (.t 6), none, false⟩,
 ⟨8, .ld 1 false (.t 7), none, false⟩,
 ⟨9, .ln false (.t 8), none, false⟩,
 ⟨10, .ar .gtr false (.t 9) (.k (.sc (.int .i64 48))), none, false⟩])
 (.ite (.t 10)
 (.seq
 (.reg false [⟨2, .mv (.k (.sc (.bool false))), none, false⟩])
 .ret)
 .skip))
 (.seq
 (.seq
 (.reg false [⟨3, .mv (.k (.sc (.int .i64 0))), none, false⟩])
 (.cln [] [2]
 (.block 0
 (.loop [0, 3] b144_1))))
 (.seq
 (.reg false [⟨2, .mv (.k (.sc (.bool true))), none, false⟩])
 .ret))))⟩
attribute [simp] i144
set_option maxRecDepth 1000000 in
theorem c144 : cFn Try.prog 144 [[], [0, 3], [0, 3, 4], [0, 3], [2], [], [2]] = some i144 := by kernel_rfl
theorem e144 : enterOk Try.prog 144 = true := by kernel_rfl
def w145_1 : IC :=
(.seq
 (.seq
 (.reg false [⟨9, .mv (.t 7), none, false⟩,
 ⟨10, .mv (.t 1), none, false⟩,
 ⟨11, .ln false (.t 10), none, false⟩,
 ⟨12, .ar .lss false (.t 9) (.t 11), none, false⟩])
 (.ite (.t 12)
 .skip
 (.exit 0)))
 (.seq
 (.block 1
 (.seq
 (.seq
 (.reg true [⟨15, .mv (.t 1), none, false⟩,
 ⟨16, .mv (.t 7), none, false⟩,
 ⟨17, .ia 1 (.t 15) (.t 16), none, false⟩,
 ⟨18, .ld 1 false (.t 17), none, false⟩,
 ⟨19, .mv (.t 0), none, false⟩,
 ⟨20, .nc (.t 19), none, false⟩,
 ⟨21, .fa 2 (.t 20), none, false⟩,
 ⟨22, .ld 1 false (.t 21), none, false⟩,
 ⟨23, .ln false (.t 22), none, false⟩,
 ⟨24, .ar .sub false (.t 23) (.k (.sc (.int .i64 1))), none, false⟩,
 ⟨25, .ca (.k (.cl 88 [])) [(.t 18), (.k (.sc (.int .i64 0))), (.t 24)], none, false⟩,
 ⟨26, .nt (.t 25), none, false⟩])
 (.ite (.t 26)
 (.seq
 (.reg false [⟨4, .mv (.k .nl), none, false⟩,
 ⟨5, .mv (.k (.sc (.bool false))), none, false⟩])
 .ret)
 .skip))
 (.reg true [⟨27, .mv (.t 6), none, false⟩,
 ⟨28, .mv (.t 0), none, false⟩,
 ⟨29, .nc (.t 28), none, false⟩,
 ⟨30, .fa 2 (.t 29), none, false⟩,
 ⟨31, .ld 1 false (.t 30), none, false⟩,
 ⟨32, .mv (.t 1), none, false⟩,
 ⟨33, .mv (.t 7), none, false⟩,
 ⟨34, .ia 1 (.t 32) (.t 33), none, false⟩,
 ⟨35, .ld 1 false (.t 34), none, false⟩,
 ⟨36, .ia 2 (.t 31) (.t 35), none, false⟩,
 ⟨37, .ld 2 true (.t 36), none, false⟩,
 ⟨38, .bs 166 2 [(.sc (.int .i64 0)), (.sc (.int .i64 0))] 1 [(0, (.t 37))], none, false⟩,
 ⟨39, .ap 166 2 false (.t 27) (.t 38), none, false⟩,
 ⟨6, .mv (.t 39), none, false⟩])))
 (.reg false [⟨13, .mv (.t 7), none, false⟩,
 ⟨14, .ar .add false (.t 13) (.k (.sc (.int .i64 1))), none, false⟩,
 ⟨7, .mv (.t 14), none, false⟩])))
def b145_1 : IC := w145_1
theorem u145_1 (call : CallF) (st : St) : evC call b145_1 st = evC call w145_1 st := rfl
attribute [simp] u145_1 w145_1
def i145 : Ev.Fn := ⟨2, 41, [.tmp 4, .tmp 5],
 (.seq
 (.reg false [⟨4, .mv (.k .nl), none, false⟩,
 ⟨5, .mv (.k (.sc (.bool false))), none, false⟩])
 (.seq
 (.reg false [⟨8, .bs 166 2 [(.sc (.int .i64 0)), (.sc (.int .i64 0))] 0 [], none, false⟩,
 ⟨6, .mv (.t 8), none, false⟩])
 (.seq
 (.seq
 (.reg false [⟨7, .mv (.k (.sc (.int .i64 0))), none, false⟩])
 (.cln [6] [4, 5]
 (.block 0
 (.loop [0, 1, 6, 7] b145_1))))
 (.seq
 (.reg false [⟨40, .mv (.t 6), none, false⟩,
 ⟨4, .mv (.t 40), none, false⟩,
 ⟨5, .mv (.k (.sc (.bool true))), none, false⟩])
 .ret))))⟩
attribute [simp] i145
set_option maxRecDepth 1000000 in
theorem c145 : cFn Try.prog 145 [[], [0, 1, 6, 7], [6], [4, 5]] = some i145 := by kernel_rfl
theorem e145 : enterOk Try.prog 145 = true := by kernel_rfl
def w146_1 : IC :=
(.seq
 (.seq
 (.reg false [⟨18, .mv (.t 4), none, false⟩,
 ⟨19, .mv (.t 3), none, false⟩,
 ⟨20, .ar .lss false (.t 18) (.t 19), none, false⟩])
 (.ite (.t 20)
 .skip
 (.exit 0)))
 (.seq
 (.block 1
 (.seq
 (.reg false [⟨23, .mv (.t 0), none, false⟩,
 ⟨24, .mv (.t 4), none, false⟩,
 ⟨25, .ia 2 (.t 23) (.t 24), none, false⟩,
 ⟨26, .ld 2 true (.t 25), none, false⟩,
 ⟨27, .ca (.k (.cl 162 [])) [(.t 26)], none, false⟩,
 ⟨28, .nt (.t 27), none, false⟩])
 (.ite (.t 28)
 (.seq
 (.reg false [⟨2, .mv (.k (.sc (.bool false))), none, false⟩])
 .ret)
 .skip)))
 (.reg false [⟨21, .mv (.t 4), none, false⟩,
 ⟨22, .ar .add false (.t 21) (.k (.sc (.int .i64 1))), none, false⟩,
 ⟨4, .mv (.t 22), none, false⟩])))
def b146_1 : IC := w146_1
theorem u146_1 (call : CallF) (st : St) : evC call b146_1 st = evC call w146_1 st := rfl
attribute [simp] u146_1 w146_1
def w146_3 : IC :=
(.seq
 (.seq
 (.reg false [⟨69, .mv (.t 9), none, false⟩,
 ⟨70, .mv (.t 3), none, false⟩,
 ⟨71, .ar .lss false (.t 69) (.t 70), none, false⟩])
 (.ite (.t 71)
 .skip
 (.exit 4)))
 (.seq
 (.block 5
 (.seq
 (.reg true [⟨74, .mv (.t 9), none, false⟩,
 ⟨75, .ar .add false (.t 74) (.k (.sc (.int .i64 1))), none, false⟩,
 ⟨76, .mv (.t 3), none, false⟩,
 ⟨77, .ar .rem false (.t 75) (.t 76), none, false⟩,
 ⟨78, .mv (.t 5), none, false⟩,
 ⟨79, .ar .neq false (.t 77) (.t 78), none, false⟩,
 ⟨80, .mv (.t 79), none, false⟩,
 ⟨81, .ld 2 true (.t 6), (some (80, true)), false⟩,
 ⟨82, .ld 2 true (.t 7), (some (80, true)), false⟩,
 ⟨83, .mv (.t 0), (some (80, true)), false⟩,
 ⟨84, .mv (.t 9), (some (80, true)), false⟩,
 ⟨85, .ia 2 (.t 83) (.t 84), (some (80, true)), false⟩,
 ⟨86, .ld 2 true (.t 85), (some (80, true)), false⟩,
 ⟨87, .mv (.t 0), (some (80, true)), false⟩,
 ⟨88, .mv (.t 9), (some (80, true)), false⟩,
 ⟨89, .ar .add false (.t 88) (.k (.sc (.int .i64 1))), (some (80, true)), false⟩,
 ⟨90, .mv (.t 3), (some (80, true)), false⟩,
 ⟨91, .ar .rem false (.t 89) (.t 90), (some (80, true)), false⟩,
 ⟨92, .ia 2 (.t 87) (.t 91), (some (80, true)), false⟩,
 ⟨93, .ld 2 true (.t 92), (some (80, true)), false⟩,
 ⟨94, .ca (.k (.cl 164 [])) [(.t 81), (.t 82), (.t 86), (.t 93)], (some (80, true)), false⟩,
 ⟨95, .pk (.t 80) (.t 94) (.k (.sc (.bool false))), none, false⟩])
 (.ite (.t 95)
 (.seq
 (.reg false [⟨2, .mv (.k (.sc (.bool false))), none, false⟩])
 .ret)
 .skip)))
 (.reg false [⟨72, .mv (.t 9), none, false⟩,
 ⟨73, .ar .add false (.t 72) (.k (.sc (.int .i64 1))), none, false⟩,
 ⟨9, .mv (.t 73), none, false⟩])))
def b146_3 : IC := w146_3
theorem u146_3 (call : CallF) (st : St) : evC call b146_3 st = evC call w146_3 st := rfl
attribute [simp] u146_3 w146_3
def w146_2 : IC :=
(.seq
 (.seq
 (.reg false [⟨29, .mv (.t 5), none, false⟩,
 ⟨30, .mv (.t 3), none, false⟩,
 ⟨31, .ar .lss false (.t 29) (.t 30), none, false⟩])
 (.ite (.t 31)
 .skip
 (.exit 2)))
 (.seq
 (.block 3
 (.seq
 (.reg false [⟨34, .mv (.t 0), none, false⟩,
 ⟨35, .mv (.t 5), none, false⟩,
 ⟨36, .ia 2 (.t 34) (.t 35), none, false⟩,
 ⟨37, .ld 2 true (.t 36), none, false⟩,
 ⟨6, .al [(.sc (.int .i64 0)), (.sc (.int .i64 0))], none, false⟩,
 ⟨1, .so 2 (.t 6) (.t 37), none, true⟩])
 (.seq
 (.reg false [⟨38, .mv (.t 0), none, false⟩,
 ⟨39, .mv (.t 5), none, false⟩,
 ⟨40, .ar .add false (.t 39) (.k (.sc (.int .i64 1))), none, false⟩,
 ⟨41, .mv (.t 3), none, false⟩,
 ⟨42, .ar .rem false (.t 40) (.t 41), none, false⟩,
 ⟨43, .ia 2 (.t 38) (.t 42), none, false⟩,
 ⟨44, .ld 2 true (.t 43), none, false⟩,
 ⟨7, .al [(.sc (.int .i64 0)), (.sc (.int .i64 0))], none, false⟩,
 ⟨1, .so 2 (.t 7) (.t 44), none, true⟩])
 (.seq
 (.reg false [⟨45, .mv (.t 0), none, false⟩,
 ⟨46, .mv (.t 5), none, false⟩,
 ⟨47, .ar .add false (.t 46) (.k (.sc (.int .i64 2))), none, false⟩,
 ⟨48, .mv (.t 3), none, false⟩,
 ⟨49, .ar .rem false (.t 47) (.t 48), none, false⟩,
 ⟨50, .ia 2 (.t 45) (.t 49), none, false⟩,
 ⟨51, .ld 2 true (.t 50), none, false⟩,
 ⟨8, .al [(.sc (.int .i64 0)), (.sc (.int .i64 0))], none, false⟩,
 ⟨1, .so 2 (.t 8) (.t 51), none, true⟩])
 (.seq
 (.seq
 (.reg false [⟨52, .ld 2 true (.t 6), none, false⟩,
 ⟨53, .ld 2 true (.t 7), none, false⟩,
 ⟨54, .eq false [1, 1] (.t 52) (.t 53), none, false⟩,
 ⟨55, .mv (.t 54), none, false⟩,
 ⟨56, .ld 2 true (.t 6), (some (55, false)), false⟩,
 ⟨57, .ld 2 true (.t 7), (some (55, false)), false⟩,
 ⟨58, .ld 2 true (.t 8), (some (55, false)), false⟩,
 ⟨59, .ca (.k (.cl 163 [])) [(.t 56), (.t 57), (.t 58)], (some (55, false)), false⟩,
 ⟨60, .pk (.t 55) (.k (.sc (.bool true))) (.t 59), none, false⟩,
 ⟨61, .mv (.t 60), none, false⟩,
 ⟨62, .ld 2 true (.t 7), (some (61, false)), false⟩,
 ⟨63, .ld 2 true (.t 8), (some (61, false)), false⟩,
 ⟨64, .ld 2 true (.t 6), (some (61, false)), false⟩,
 ⟨65, .ca (.k (.cl 163 [])) [(.t 62), (.t 63), (.t 64)], (some (61, false)), false⟩,
 ⟨66, .pk (.t 61) (.k (.sc (.bool true))) (.t 65), none, false⟩])
 (.ite (.t 66)
 (.seq
 (.reg false [⟨2, .mv (.k (.sc (.bool false))), none, false⟩])
 .ret)
 .skip))
 (.seq
 (.reg false [⟨67, .mv (.t 5), none, false⟩,
 ⟨68, .ar .add false (.t 67) (.k (.sc (.int .i64 2))), none, false⟩,
 ⟨9, .mv (.t 68), none, false⟩])
 (.cln [0, 3, 5] [2]
 (.block 4
 (.loop [0, 3, 5, 6, 7, 9] b146_3)))))))))
 (.reg false [⟨32, .mv (.t 5), none, false⟩,
 ⟨33, .ar .add false (.t 32) (.k (.sc (.int .i64 1))), none, false⟩,
 ⟨5, .mv (.t 33), none, false⟩])))
def b146_2 : IC := w146_2
theorem u146_2 (call : CallF) (st : St) : evC call b146_2 st = evC call w146_2 st := rfl
attribute [simp] u146_2 w146_2
def i146 : Ev.Fn := ⟨1, 99, [.tmp 2],
 (.seq
 (.reg false [⟨2, .mv (.k (.sc (.bool false))), none, false⟩])
 (.seq
 (.reg false [⟨10, .mv (.t 0), none, false⟩,
 ⟨11, .ln false (.t 10), none, false⟩,
 ⟨3, .mv (.t 11), none, false⟩])
 (.seq
 (.seq
 (.reg false [⟨12, .mv (.t 3), none, false⟩,
 ⟨13, .ar .lss false (.t 12) (.k (.sc (.int .i64 3))), none, false⟩,
 ⟨14, .mv (.t 13), none, false⟩,
 ⟨15, .mv (.t 3), (some (14, false)), false⟩,
 ⟨16, .ar .gtr false (.t 15) (.k (.sc (.int .i64 24))), (some (14, false)), false⟩,
 ⟨17, .pk (.t 14) (.k (.sc (.bool true))) (.t 16), none, false⟩])
 (.ite (.t 17)
 (.seq
 (.reg false [⟨2, .mv (.k (.sc (.bool false))), none, false⟩])
 .ret)
 .skip))
 (.seq
 (.seq
 (.reg false [⟨4, .mv (.k (.sc (.int .i64 0))), none, false⟩])
 (.cln [0, 3] [2]
 (.block 0
 (.loop [0, 3, 4] b146_1))))
 (.seq
 (.seq
 (.reg false [⟨5, .mv (.k (.sc (.int .i64 0))), none, false⟩])
 (.cln [0] [2]
 (.block 2
 (.loop [0, 3, 5] b146_2))))
 (.seq
 (.reg false [⟨96, .mv (.t 0), none, false⟩,
 ⟨97, .ca (.k (.cl 165 [])) [(.t 96)], none, false⟩,
 ⟨98, .ar .gtr false (.t 97) (.k (.sc (.int .i64 0))), none, false⟩,
 ⟨2, .mv (.t 98), none, false⟩])
 .ret))))))⟩
attribute [simp] i146
set_option maxRecDepth 1000000 in
theorem c146 : cFn Try.prog 146 [[], [0, 3, 4], [0, 3], [2], [0, 3, 5], [0, 3, 5, 6, 7, 9], [0, 3, 5], [2], [0], [2]] = some i146 := by kernel_rfl
theorem e146 : enterOk Try.prog 146 = true := by kernel_rfl
def i147 : Ev.Fn := ⟨3, 16, [.tmp 6],
 (.seq
 (.reg false [⟨3, .bx (.t 0), none, false⟩,
 ⟨4, .bx (.t 1), none, false⟩,
 ⟨5, .bx (.t 2), none, false⟩,
 ⟨6, .mv (.k (.sc (.int .i64 0))), none, false⟩])
 (.seq
 (.reg false [⟨8, .ld 2 true (.t 3), none, false⟩,
 ⟨9, .ld 2 true (.t 4), none, false⟩,
 ⟨10, .ld 2 true (.t 5), none, false⟩,
 ⟨11, .ca (.k (.cl 166 [])) [(.t 8), (.t 9), (.t 10)], none, false⟩,
 ⟨7, .mv (.t 11), none, false⟩])
 (.seq
 (.seq
 (.reg false [⟨12, .mv (.t 7), none, false⟩,
 ⟨13, .ar .gtr false (.t 12) (.k (.sc (.int .i64 0))), none, false⟩])
 (.ite (.t 13)
 (.seq
 (.reg false [⟨6, .mv (.k (.sc (.int .i64 1))), none, false⟩])
 .ret)
 .skip))
 (.seq
 (.seq
 (.reg false [⟨14, .mv (.t 7), none, false⟩,
 ⟨15, .ar .lss false (.t 14) (.k (.sc (.int .i64 0))), none, false⟩])
 (.ite (.t 15)
 (.seq
 (.reg false [⟨6, .mv (.k (.sc (.int .i64 (-1)))), none, false⟩])
 .ret)
 .skip))
 (.seq
 (.reg false [⟨6, .mv (.k (.sc (.int .i64 0))), none, false⟩])
 .ret)))))⟩
attribute [simp] i147
set_option maxRecDepth 1000000 in
theorem c147 : cFn Try.prog 147 [[]] = some i147 := by kernel_rfl
theorem e147 : enterOk Try.prog 147 = true := by kernel_rfl
def i148 : Ev.Fn := ⟨1, 11, [.cell 2 2 true],
 (.seq
 (.reg false [⟨1, .bx (.t 0), none, false⟩,
 ⟨2, .al [(.sc (.int .i64 0)), (.sc (.int .i64 0))], none, false⟩])
 (.seq
 (.reg false [⟨3, .al [(.sc (.int .i64 0)), (.sc (.int .i64 0))], none, false⟩])
 (.seq
 (.reg false [⟨4, .fa 0 (.t 1), none, false⟩,
 ⟨5, .ld 1 false (.t 4), none, false⟩,
 ⟨6, .fa 0 (.t 3), none, false⟩,
 ⟨1, .so 1 (.t 6) (.t 5), none, true⟩])
 (.seq
 (.reg false [⟨7, .fa 1 (.t 1), none, false⟩,
 ⟨8, .ld 1 false (.t 7), none, false⟩,
 ⟨9, .fa 1 (.t 3), none, false⟩,
 ⟨1, .so 1 (.t 9) (.t 8), none, true⟩])
 (.seq
 (.reg false [⟨10, .ld 2 true (.t 3), none, false⟩,
 ⟨1, .so 2 (.t 2) (.t 10), none, true⟩])
 .ret)))))⟩
attribute [simp] i148
set_option maxRecDepth 1000000 in
theorem c148 : cFn Try.prog 148 [[]] = some i148 := by kernel_rfl
theorem e148 : enterOk Try.prog 148 = true := by kernel_rfl
def i149 : Ev.Fn := ⟨1, 12, [.cell 2 2 true],
 (.seq
 (.reg false [⟨1, .bx (.t 0), none, false⟩,
 ⟨2, .al [(.sc (.string ⟨#[]⟩)), .nl], none, false⟩])
 (.seq
 (.reg false [⟨3, .al [(.sc (.string ⟨#[]⟩)), .nl], none, false⟩])
 (.seq
 (.reg false [⟨4, .fa 0 (.t 1), none, false⟩,
 ⟨5, .ld 1 false (.t 4), none, false⟩,
 ⟨6, .fa 0 (.t 3), none, false⟩,
 ⟨1, .so 1 (.t 6) (.t 5), none, true⟩])
 (.seq
 (.reg false [⟨7, .fa 1 (.t 1), none, false⟩,
 ⟨8, .ld 1 false (.t 7), none, false⟩,
 ⟨9, .ca (.k (.cl 53 [])) [(.t 8)], none, false⟩,
 ⟨10, .fa 1 (.t 3), none, false⟩,
 ⟨1, .so 1 (.t 10) (.t 9), none, true⟩])
 (.seq
 (.reg false [⟨11, .ld 2 true (.t 3), none, false⟩,
 ⟨1, .so 2 (.t 2) (.t 11), none, true⟩])
 .ret)))))⟩
attribute [simp] i149
set_option maxRecDepth 1000000 in
theorem c149 : cFn Try.prog 149 [[]] = some i149 := by kernel_rfl
theorem e149 : enterOk Try.prog 149 = true := by kernel_rfl
def i150 : Ev.Fn := ⟨2, 9, [.tmp 4],
 (.seq
 (.reg false [⟨3, .bx (.t 1), none, false⟩,
 ⟨4, .mv (.k (.sc (.bool false))), none, false⟩])
 (.seq
 (.reg false [⟨5, .mv (.t 0), none, false⟩,
 ⟨6, .ld 2 true (.t 3), none, false⟩,
 ⟨7, .ca (.k (.cl 167 [])) [(.t 5), (.t 6)], none, false⟩,
 ⟨8, .ar .geq false (.t 7) (.k (.sc (.int .i64 0))), none, false⟩,
 ⟨4, .mv (.t 8), none, false⟩])
 .ret))⟩
attribute [simp] i150
set_option maxRecDepth 1000000 in
theorem c150 : cFn Try.prog 150 [[]] = some i150 := by kernel_rfl
theorem e150 : enterOk Try.prog 150 = true := by kernel_rfl
def w151_1 : IC :=
(.seq
 (.reg false [⟨13, .ar .lss false (.t 12) (.t 11), none, false⟩])
 (.seq
 (.ite (.t 13)
 .skip
 (.exit 0))
 (.seq
 (.block 1
 (.seq
 (.reg false [⟨14, .ia 1 (.t 10) (.t 12), none, false⟩,
 ⟨15, .ld 1 false (.t 14), none, false⟩,
 ⟨8, .mv (.t 15), none, false⟩])
 (.seq
 (.seq
 (.reg false [⟨16, .mv (.t 8), none, false⟩,
 ⟨17, .mv (.t 0), none, false⟩,
 ⟨18, .ln false (.t 17), none, false⟩,
 ⟨19, .ar .sub false (.t 18) (.k (.sc (.int .i64 1))), none, false⟩,
 ⟨20, .ca (.k (.cl 84 [])) [(.t 16), (.k (.sc (.int .i64 0))), (.t 19)], none, false⟩,
 ⟨21, .nt (.t 20), none, false⟩])
 (.ite (.t 21)
 (.seq
 (.reg false [⟨4, .mv (.k .nl), none, false⟩,
 ⟨5, .mv (.k (.sc (.bool false))), none, false⟩])
 .ret)
 .skip))
 (.reg false [⟨22, .mv (.t 6), none, false⟩,
 ⟨23, .mv (.t 0), none, false⟩,
 ⟨24, .mv (.t 8), none, false⟩,
 ⟨25, .ia 2 (.t 23) (.t 24), none, false⟩,
 ⟨26, .ld 2 true (.t 25), none, false⟩,
 ⟨27, .bs 166 2 [(.sc (.int .i64 0)), (.sc (.int .i64 0))] 1 [(0, (.t 26))], none, false⟩,
 ⟨28, .ap 166 2 false (.t 22) (.t 27), none, false⟩,
 ⟨6, .mv (.t 28), none, false⟩]))))
 (.reg false [⟨29, .ar .add false (.t 12) (.k (.sc (.int .i64 1))), none, false⟩,
 ⟨12, .mv (.t 29), none, false⟩]))))
def b151_1 : IC := w151_1
theorem u151_1 (call : CallF) (st : St) : evC call b151_1 st = evC call w151_1 st := rfl
attribute [simp] u151_1 w151_1
def i151 : Ev.Fn := ⟨2, 31, [.tmp 4, .tmp 5],
 (.seq
 (.reg false [⟨4, .mv (.k .nl), none, false⟩,
 ⟨5, .mv (.k (.sc (.bool false))), none, false⟩])
 (.seq
 (.reg false [⟨9, .bs 166 2 [(.sc (.int .i64 0)), (.sc (.int .i64 0))] 0 [], none, false⟩,
 ⟨6, .mv (.t 9), none, false⟩])
 (.seq
 (.seq
 (.reg false [⟨10, .mv (.t 1), none, false⟩,
 ⟨11, .ln false (.t 10), none, false⟩,
 ⟨12, .mv (.k (.sc (.int .i64 0))), none, false⟩])
 (.cln [6] [4, 5]
 (.block 0
 (.loop [0, 6, 10, 11, 12] b151_1))))
 (.seq
 (.reg false [⟨30, .mv (.t 6), none, false⟩,
 ⟨4, .mv (.t 30), none, false⟩,
 ⟨5, .mv (.k (.sc (.bool true))), none, false⟩])
 .ret))))⟩
attribute [simp] i151
set_option maxRecDepth 1000000 in
theorem c151 : cFn Try.prog 151 [[], [0, 6, 10, 11, 12], [6], [4, 5]] = some i151 := by kernel_rfl
theorem e151 : enterOk Try.prog 151 = true := by kernel_rfl
def w152_2 : IC :=
(.seq
 (.seq
 (.reg false [⟨62, .mv (.t 8), none, false⟩,
 ⟨63, .mv (.t 3), none, false⟩,
 ⟨64, .ar .lss false (.t 62) (.t 63), none, false⟩])
 (.ite (.t 64)
 .skip
 (.exit 2)))
 (.seq
 (.block 3
 (.seq
 (.reg true [⟨67, .mv (.t 8), none, false⟩,
 ⟨68, .ar .add false (.t 67) (.k (.sc (.int .i64 1))), none, false⟩,
 ⟨69, .mv (.t 3), none, false⟩,
 ⟨70, .ar .rem false (.t 68) (.t 69), none, false⟩,
 ⟨71, .mv (.t 4), none, false⟩,
 ⟨72, .ar .neq false (.t 70) (.t 71), none, false⟩,
 ⟨73, .mv (.t 72), none, false⟩,
 ⟨74, .ld 2 true (.t 5), (some (73, true)), false⟩,
 ⟨75, .ld 2 true (.t 6), (some (73, true)), false⟩,
 ⟨76, .mv (.t 0), (some (73, true)), false⟩,
 ⟨77, .mv (.t 8), (some (73, true)), false⟩,
 ⟨78, .ia 2 (.t 76) (.t 77), (some (73, true)), false⟩,
 ⟨79, .ld 2 true (.t 78), (some (73, true)), false⟩,
 ⟨80, .mv (.t 0), (some (73, true)), false⟩,
 ⟨81, .mv (.t 8), (some (73, true)), false⟩,
 ⟨82, .ar .add false (.t 81) (.k (.sc (.int .i64 1))), (some (73, true)), false⟩,
 ⟨83, .mv (.t 3), (some (73, true)), false⟩,
 ⟨84, .ar .rem false (.t 82) (.t 83), (some (73, true)), false⟩,
 ⟨85, .ia 2 (.t 80) (.t 84), (some (73, true)), false⟩,
 ⟨86, .ld 2 true (.t 85), (some (73, true)), false⟩,
 ⟨87, .ca (.k (.cl 170 [])) [(.t 74), (.t 75), (.t 79), (.t 86)], (some (73, true)), false⟩,
 ⟨88, .pk (.t 73) (.t 87) (.k (.sc (.bool false))), none, false⟩])
 (.ite (.t 88)
 (.seq
 (.reg false [⟨2, .mv (.k (.sc (.bool false))), none, false⟩])
 .ret)
 .skip)))
 (.reg false [⟨65, .mv (.t 8), none, false⟩,
 ⟨66, .ar .add false (.t 65) (.k (.sc (.int .i64 1))), none, false⟩,
 ⟨8, .mv (.t 66), none, false⟩])))
def b152_2 : IC := w152_2
theorem u152_2 (call : CallF) (st : St) : evC call b152_2 st = evC call w152_2 st := rfl
attribute [simp] u152_2 w152_2
def w152_1 : IC :=
(.seq
 (.reg false [⟨25, .ar .lss false (.t 24) (.t 23), none, false⟩])
 (.seq
 (.ite (.t 25)
 .skip
 (.exit 0))
 (.seq
 (.block 1
 (.seq
 (.reg false [⟨26, .mv (.t 24), none, false⟩,
 ⟨4, .mv (.t 26), none, false⟩])
 (.seq
 (.rgc [.ne 5 0, .ne 5 4, .ne 5 32, .ne 5 3, .ne 5 33, .ne 5 34, .ne 5 31, .ne 5 35, .ne 5 36, .ne 5 39, .ne 5 40, .ne 5 41, .ne 5 38, .ne 5 42, .ne 5 43, .ne 6 0, .ne 6 4, .ne 6 39, .ne 6 3, .ne 6 40, .ne 6 41, .ne 6 38, .ne 6 42, .ne 6 43] [⟨27, .mv (.t 0), none, false⟩,
 ⟨28, .mv (.t 4), none, false⟩,
 ⟨29, .ia 2 (.t 27) (.t 28), none, false⟩,
 ⟨30, .ld 2 true (.t 29), none, false⟩,
 ⟨31, .mv (.t 0), none, false⟩,
 ⟨32, .mv (.t 4), none, false⟩,
 ⟨33, .ar .add false (.t 32) (.k (.sc (.int .i64 1))), none, false⟩,
 ⟨34, .mv (.t 3), none, false⟩,
 ⟨35, .ar .rem false (.t 33) (.t 34), none, false⟩,
 ⟨36, .ia 2 (.t 31) (.t 35), none, false⟩,
 ⟨37, .ld 2 true (.t 36), none, false⟩,
 ⟨38, .mv (.t 0), none, false⟩,
 ⟨39, .mv (.t 4), none, false⟩,
 ⟨40, .ar .add false (.t 39) (.k (.sc (.int .i64 2))), none, false⟩,
 ⟨41, .mv (.t 3), none, false⟩,
 ⟨42, .ar .rem false (.t 40) (.t 41), none, false⟩,
 ⟨43, .ia 2 (.t 38) (.t 42), none, false⟩,
 ⟨44, .ld 2 true (.t 43), none, false⟩,
 ⟨5, .al [(.sc (.int .i64 0)), (.sc (.int .i64 0))], none, false⟩,
 ⟨6, .al [(.sc (.int .i64 0)), (.sc (.int .i64 0))], none, false⟩,
 ⟨7, .al [(.sc (.int .i64 0)), (.sc (.int .i64 0))], none, false⟩,
 ⟨0, .so 2 (.t 5) (.t 30), none, true⟩,
 ⟨0, .so 2 (.t 6) (.t 37), none, true⟩,
 ⟨0, .so 2 (.t 7) (.t 44), none, true⟩])
 (.seq
 (.seq
 (.reg false [⟨45, .ld 2 true (.t 5), none, false⟩,
 ⟨46, .ld 2 true (.t 6), none, false⟩,
 ⟨47, .eq false [1, 1] (.t 45) (.t 46), none, false⟩,
 ⟨48, .mv (.t 47), none, false⟩,
 ⟨49, .ld 2 true (.t 5), (some (48, false)), false⟩,
 ⟨50, .ld 2 true (.t 6), (some (48, false)), false⟩,
 ⟨51, .ld 2 true (.t 7), (some (48, false)), false⟩,
 ⟨52, .ca (.k (.cl 169 [])) [(.t 49), (.t 50), (.t 51)], (some (48, false)), false⟩,
 ⟨53, .pk (.t 48) (.k (.sc (.bool true))) (.t 52), none, false⟩,
 ⟨54, .mv (.t 53), none, false⟩,
 ⟨55, .ld 2 true (.t 6), (some (54, false)), false⟩,
 ⟨56, .ld 2 true (.t 7), (some (54, false)), false⟩,
 ⟨57, .ld 2 true (.t 5), (some (54, false)), false⟩,
 ⟨58, .ca (.k (.cl 169 [])) [(.t 55), (.t 56), (.t 57)], (some (54, false)), false⟩,
 ⟨59, .pk (.t 54) (.k (.sc (.bool true))) (.t 58), none, false⟩])
 (.ite (.t 59)
 (.seq
 (.reg false [⟨2, .mv (.k (.sc (.bool false))), none, false⟩])
 .ret)
 .skip))
 (.seq
 (.reg false [⟨60, .mv (.t 4), none, false⟩,
 ⟨61, .ar .add false (.t 60) (.k (.sc (.int .i64 2))), none, false⟩,
 ⟨8, .mv (.t 61), none, false⟩])
 (.cln [0, 3, 23, 24] [2]
 (.block 2
 (.loop [0, 3, 4, 5, 6, 8, 23, 24] b152_2))))))))
 (.reg false [⟨89, .ar .add false (.t 24) (.k (.sc (.int .i64 1))), none, false⟩,
 ⟨24, .mv (.t 89), none, false⟩]))))
def b152_1 : IC := w152_1
theorem u152_1 (call : CallF) (st : St) : evC call b152_1 st = evC call w152_1 st := rfl
attribute [simp] u152_1 w152_1
def i152 : Ev.Fn := ⟨1, 93, [.tmp 2],
 (.seq
 (.reg false [⟨2, .mv (.k (.sc (.bool false))), none, false⟩])
 (.seq
 (.reg false [⟨9, .mv (.t 0), none, false⟩,
 ⟨10, .ln false (.t 9), none, false⟩,
 ⟨3, .mv (.t 10), none, false⟩])
 (.seq
 (.seq
 (.reg false [⟨11, .mv (.t 3), none, false⟩,
 ⟨12, .ar .lss false (.t 11) (.k (.sc (.int .i64 3))), none, false⟩,
 ⟨13, .mv (.t 12), none, false⟩,
 ⟨14, .mv (.t 3), (some (13, false)), false⟩,
 ⟨15, .ar .gtr false (.t 14) (.k (.sc (.int .i64 24))), (some (13, false)), false⟩,
 ⟨16, .pk (.t 13) (.k (.sc (.bool true))) (.t 15), none, false⟩,
 ⟨17, .mv (.t 16), none, false⟩,
 ⟨18, .mv (.t 0), (some (17, false)), false⟩,
 ⟨19, .ca (.k (.cl 168 [])) [(.t 18)], (some (17, false)), false⟩,
 ⟨20, .nt (.t 19), (some (17, false)), false⟩,
 ⟨21, .pk (.t 17) (.k (.sc (.bool true))) (.t 20), none, false⟩])
 (.ite (.t 21)
 (.seq
 (.reg false [⟨2, .mv (.k (.sc (.bool false))), none, false⟩])
 .ret)
 .skip))
 (.seq
 (.seq
 (.reg false [⟨22, .mv (.t 0), none, false⟩,
 ⟨23, .ln false (.t 22), none, false⟩,
 ⟨24, .mv (.k (.sc (.int .i64 0))), none, false⟩])
 (.cln [0] [2]
 (.block 0
 (.loop [0, 3, 23, 24] b152_1))))
 (.seq
 (.reg false [⟨90, .mv (.t 0), none, false⟩,
 ⟨91, .ca (.k (.cl 171 [])) [(.t 90)], none, false⟩,
 ⟨92, .ar .gtr false (.t 91) (.k (.sc (.int .i64 0))), none, false⟩,
 ⟨2, .mv (.t 92), none, false⟩])
 .ret)))))⟩
attribute [simp] i152
set_option maxRecDepth 1000000 in
theorem c152 : cFn Try.prog 152 [[], [0, 3, 23, 24], [0, 3, 4, 5, 6, 8, 23, 24], [0, 3, 23, 24], [2], [0], [2]] = some i152 := by kernel_rfl
theorem e152 : enterOk Try.prog 152 = true := by kernel_rfl
def w153_1 : IC :=
(.seq
 (.reg false [⟨9, .ar .lss false (.t 8) (.t 7), none, false⟩])
 (.seq
 (.ite (.t 9)
 .skip
 (.exit 0))
 (.seq
 (.block 1
 (.seq
 (.reg false [⟨10, .mv (.t 8), none, false⟩,
 ⟨5, .mv (.t 10), none, false⟩])
 (.seq
 (.reg false [⟨11, .mv (.t 1), none, false⟩,
 ⟨12, .mv (.t 0), none, false⟩,
 ⟨13, .mv (.t 5), none, false⟩,
 ⟨14, .ia 1 (.t 12) (.t 13), none, false⟩,
 ⟨15, .ld 1 false (.t 14), none, false⟩,
 ⟨16, .ar .eql false (.t 11) (.t 15), none, false⟩])
 (.ite (.t 16)
 (.seq
 (.reg false [⟨17, .mv (.t 5), none, false⟩,
 ⟨4, .mv (.t 17), none, false⟩])
 .ret)
 .skip))))
 (.reg false [⟨18, .ar .add false (.t 8) (.k (.sc (.int .i64 1))), none, false⟩,
 ⟨8, .mv (.t 18), none, false⟩]))))
def b153_1 : IC := w153_1
theorem u153_1 (call : CallF) (st : St) : evC call b153_1 st = evC call w153_1 st := rfl
attribute [simp] u153_1 w153_1
def i153 : Ev.Fn := ⟨2, 19, [.tmp 4],
 (.seq
 (.reg false [⟨4, .mv (.k (.sc (.int .i64 0))), none, false⟩])
 (.seq
 (.seq
 (.reg false [⟨6, .mv (.t 0), none, false⟩,
 ⟨7, .ln false (.t 6), none, false⟩,
 ⟨8, .mv (.k (.sc (.int .i64 0))), none, false⟩])
 (.cln [] [4]
 (.block 0
 (.loop [0, 1, 7, 8] b153_1))))
 (.seq
 (.reg false [⟨4, .mv (.k (.sc (.int .i64 (-1)))), none, false⟩])
 .ret)))⟩
attribute [simp] i153
set_option maxRecDepth 1000000 in
theorem c153 : cFn Try.prog 153 [[], [0, 1, 7, 8], [], [4]] = some i153 := by kernel_rfl
theorem e153 : enterOk Try.prog 153 = true := by kernel_rfl
def i154 : Ev.Fn := ⟨3, 37, [.tmp 6],
 (.seq
 (.reg false [⟨3, .bx (.t 0), none, false⟩,
 ⟨4, .bx (.t 1), none, false⟩,
 ⟨5, .bx (.t 2), none, false⟩,
 ⟨6, .mv (.k (.sc (.int .i64 0))), none, false⟩])
 (.seq
 (.reg false [⟨8, .fa 0 (.t 4), none, false⟩,
 ⟨9, .ld 1 false (.t 8), none, false⟩,
 ⟨10, .fa 0 (.t 3), none, false⟩,
 ⟨11, .ld 1 false (.t 10), none, false⟩,
 ⟨12, .ar .sub false (.t 9) (.t 11), none, false⟩,
 ⟨13, .fa 1 (.t 5), none, false⟩,
 ⟨14, .ld 1 false (.t 13), none, false⟩,
 ⟨15, .fa 1 (.t 3), none, false⟩,
 ⟨16, .ld 1 false (.t 15), none, false⟩,
 ⟨17, .ar .sub false (.t 14) (.t 16), none, false⟩,
 ⟨18, .ar .mul false (.t 12) (.t 17), none, false⟩,
 ⟨19, .fa 1 (.t 4), none, false⟩,
 ⟨20, .ld 1 false (.t 19), none, false⟩,
 ⟨21, .fa 1 (.t 3), none, false⟩,
 ⟨22, .ld 1 false (.t 21), none, false⟩,
 ⟨23, .ar .sub false (.t 20) (.t 22), none, false⟩,
 ⟨24, .fa 0 (.t 5), none, false⟩,
 ⟨25, .ld 1 false (.t 24), none, false⟩,
 ⟨26, .fa 0 (.t 3), none, false⟩,
 ⟨27, .ld 1 false (.t 26), none, false⟩,
 ⟨28, .ar .sub false (.t 25) (.t 27), none, false⟩,
 ⟨29, .ar .mul false (.t 23) (.t 28), none, false⟩,
 ⟨30, .ar .sub false (.t 18) (.t 29), none, false⟩,
 ⟨7, .mv (.t 30), none, false⟩])
 (.seq
 (.block 0
 (.seq
 (.reg false [⟨32, .mv (.t 7), none, false⟩,
 ⟨33, .ar .gtr false (.t 32) (.k (.sc (.int .i64 0))), none, false⟩,
 ⟨31, .mv (.t 33), none, false⟩])
 (.ite (.t 31)
 (.seq
 (.reg false [⟨6, .mv (.k (.sc (.int .i64 1))), none, false⟩])
 .ret)
 (.seq
 (.reg false [⟨35, .mv (.t 7), none, false⟩,
 ⟨36, .ar .lss false (.t 35) (.k (.sc (.int .i64 0))), none, false⟩,
 ⟨34, .mv (.t 36), none, false⟩])
 (.ite (.t 34)
 (.seq
 (.reg false [⟨6, .mv (.k (.sc (.int .i64 (-1)))), none, false⟩])
 .ret)
 .skip)))))
 (.seq
 (.reg false [⟨6, .mv (.k (.sc (.int .i64 0))), none, false⟩])
 .ret))))⟩
attribute [simp] i154
set_option maxRecDepth 1000000 in
theorem c154 : cFn Try.prog 154 [[]] = some i154 := by kernel_rfl
theorem e154 : enterOk Try.prog 154 = true := by kernel_rfl
def i155 : Ev.Fn := ⟨2, 15, [.tmp 4],
 (.seq
 (.reg false [⟨2, .bx (.t 0), none, false⟩,
 ⟨3, .bx (.t 1), none, false⟩,
 ⟨4, .mv (.k (.sc (.bool false))), none, false⟩])
 (.seq
 (.seq
 (.reg false [⟨5, .fa 0 (.t 2), none, false⟩,
 ⟨6, .ld 1 false (.t 5), none, false⟩,
 ⟨7, .fa 0 (.t 3), none, false⟩,
 ⟨8, .ld 1 false (.t 7), none, false⟩,
 ⟨9, .ar .neq false (.t 6) (.t 8), none, false⟩])
 (.ite (.t 9)
 (.seq
 (.reg false [⟨4, .mv (.k (.sc (.bool false))), none, false⟩])
 .ret)
 .skip))
 (.seq
 (.seq
 (.reg false [⟨10, .fa 1 (.t 2), none, false⟩,
 ⟨11, .ld 1 false (.t 10), none, false⟩,
 ⟨12, .fa 1 (.t 3), none, false⟩,
 ⟨13, .ld 1 false (.t 12), none, false⟩,
 ⟨14, .ar .neq false (.t 11) (.t 13), none, false⟩])
 (.ite (.t 14)
 (.seq
 (.reg false [⟨4, .mv (.k (.sc (.bool false))), none, false⟩])
 .ret)
 .skip))
 (.seq
 (.reg false [⟨4, .mv (.k (.sc (.bool true))), none, false⟩])
 .ret))))⟩
attribute [simp] i155
set_option maxRecDepth 1000000 in
theorem c155 : cFn Try.prog 155 [[]] = some i155 := by kernel_rfl
theorem e155 : enterOk Try.prog 155 = true := by kernel_rfl
def i156 : Ev.Fn := ⟨2, 16, [.tmp 4],
 (.seq
 (.reg false [⟨2, .bx (.t 0), none, false⟩,
 ⟨3, .bx (.t 1), none, false⟩,
 ⟨4, .mv (.k (.sc (.bool false))), none, false⟩])
 (.seq
 (.seq
 (.reg false [⟨5, .fa 0 (.t 2), none, false⟩,
 ⟨6, .ld 1 false (.t 5), none, false⟩,
 ⟨7, .fa 0 (.t 3), none, false⟩,
 ⟨8, .ld 1 false (.t 7), none, false⟩,
 ⟨9, .ar .neq false (.t 6) (.t 8), none, false⟩])
 (.ite (.t 9)
 (.seq
 (.reg false [⟨4, .mv (.k (.sc (.bool false))), none, false⟩])
 .ret)
 .skip))
 (.seq
 (.seq
 (.reg false [⟨10, .fa 1 (.t 2), none, false⟩,
 ⟨11, .ld 1 false (.t 10), none, false⟩,
 ⟨12, .fa 1 (.t 3), none, false⟩,
 ⟨13, .ld 1 false (.t 12), none, false⟩,
 ⟨14, .ca (.k (.cl 55 [])) [(.t 11), (.t 13)], none, false⟩,
 ⟨15, .nt (.t 14), none, false⟩])
 (.ite (.t 15)
 (.seq
 (.reg false [⟨4, .mv (.k (.sc (.bool false))), none, false⟩])
 .ret)
 .skip))
 (.seq
 (.reg false [⟨4, .mv (.k (.sc (.bool true))), none, false⟩])
 .ret))))⟩
attribute [simp] i156
set_option maxRecDepth 1000000 in
theorem c156 : cFn Try.prog 156 [[]] = some i156 := by kernel_rfl
theorem e156 : enterOk Try.prog 156 = true := by kernel_rfl
def i157 : Ev.Fn := ⟨1, 9, [.tmp 2],
 (.seq
 (.reg false [⟨2, .mv (.k (.sc (.bool false))), none, false⟩])
 (.seq
 (.reg false [⟨3, .mv (.t 0), none, false⟩,
 ⟨4, .ar .geq false (.t 3) (.k (.sc (.int .u8 97))), none, false⟩,
 ⟨5, .mv (.t 4), none, false⟩,
 ⟨6, .mv (.t 0), (some (5, true)), false⟩,
 ⟨7, .ar .leq false (.t 6) (.k (.sc (.int .u8 122))), (some (5, true)), false⟩,
 ⟨8, .pk (.t 5) (.t 7) (.k (.sc (.bool false))), none, false⟩,
 ⟨2, .mv (.t 8), none, false⟩])
 .ret))⟩
attribute [simp] i157
set_option maxRecDepth 1000000 in
theorem c157 : cFn Try.prog 157 [[]] = some i157 := by kernel_rfl
theorem e157 : enterOk Try.prog 157 = true := by kernel_rfl
def i158 : Ev.Fn := ⟨1, 9, [.tmp 2],
 (.seq
 (.reg false [⟨2, .mv (.k (.sc (.bool false))), none, false⟩])
 (.seq
 (.reg false [⟨3, .mv (.t 0), none, false⟩,
 ⟨4, .ar .geq false (.t 3) (.k (.sc (.int .u8 48))), none, false⟩,
 ⟨5, .mv (.t 4), none, false⟩,
 ⟨6, .mv (.t 0), (some (5, true)), false⟩,
 ⟨7, .ar .leq false (.t 6) (.k (.sc (.int .u8 57))), (some (5, true)), false⟩,
 ⟨8, .pk (.t 5) (.t 7) (.k (.sc (.bool false))), none, false⟩,
 ⟨2, .mv (.t 8), none, false⟩])
 .ret))⟩
attribute [simp] i158
set_option maxRecDepth 1000000 in
theorem c158 : cFn Try.prog 158 [[]] = some i158 := by kernel_rfl
theorem e158 : enterOk Try.prog 158 = true := by kernel_rfl
def i161 : Ev.Fn := ⟨2, 12, [.tmp 4],
 (.seq
 (.reg false [⟨4, .mv (.k (.sc (.int .i64 0))), none, false⟩])
 (.seq
 (.reg false [⟨5, .mv (.t 1), none, false⟩,
 ⟨6, .mv (.t 0), none, false⟩,
 ⟨7, .ln false (.t 6), none, false⟩,
 ⟨8, .ar .sub false (.t 5) (.t 7), none, false⟩,
 ⟨1, .mv (.t 8), none, false⟩])
 (.seq
 (.seq
 (.reg false [⟨9, .mv (.t 1), none, false⟩,
 ⟨10, .ar .lss false (.t 9) (.k (.sc (.int .i64 0))), none, false⟩])
 (.ite (.t 10)
 (.seq
 (.reg false [⟨4, .mv (.k (.sc (.int .i64 (-1)))), none, false⟩])
 .ret)
 .skip))
 (.seq
 (.reg false [⟨11, .mv (.t 1), none, false⟩,
 ⟨4, .mv (.t 11), none, false⟩])
 .ret))))⟩
attribute [simp] i161
set_option maxRecDepth 1000000 in
theorem c161 : cFn Try.prog 161 [[]] = some i161 := by kernel_rfl
theorem e161 : enterOk Try.prog 161 = true := by kernel_rfl
def i162 : Ev.Fn := ⟨1, 11, [.tmp 2],
 (.seq
 (.reg false [⟨1, .bx (.t 0), none, false⟩,
 ⟨2, .mv (.k (.sc (.bool false))), none, false⟩])
 (.seq
 (.reg false [⟨3, .fa 0 (.t 1), none, false⟩,
 ⟨4, .ld 1 false (.t 3), none, false⟩,
 ⟨5, .ca (.k (.cl 88 [])) [(.t 4), (.k (.sc (.int .i64 0))), (.k (.sc (.int .i64 20000)))], none, false⟩,
 ⟨6, .mv (.t 5), none, false⟩,
 ⟨7, .fa 1 (.t 1), (some (6, true)), false⟩,
 ⟨8, .ld 1 false (.t 7), (some (6, true)), false⟩,
 ⟨9, .ca (.k (.cl 88 [])) [(.t 8), (.k (.sc (.int .i64 0))), (.k (.sc (.int .i64 20000)))], (some (6, true)), false⟩,
 ⟨10, .pk (.t 6) (.t 9) (.k (.sc (.bool false))), none, false⟩,
 ⟨2, .mv (.t 10), none, false⟩])
 .ret))⟩
attribute [simp] i162
set_option maxRecDepth 1000000 in
theorem c162 : cFn Try.prog 162 [[]] = some i162 := by kernel_rfl
theorem e162 : enterOk Try.prog 162 = true := by kernel_rfl
def i163 : Ev.Fn := ⟨3, 42, [.tmp 6],
 (.seq
 (.reg false [⟨3, .bx (.t 0), none, false⟩,
 ⟨4, .bx (.t 1), none, false⟩,
 ⟨5, .bx (.t 2), none, false⟩,
 ⟨6, .mv (.k (.sc (.bool false))), none, false⟩])
 (.seq
 (.reg true [⟨7, .ld 2 true (.t 3), none, false⟩,
 ⟨8, .ld 2 true (.t 4), none, false⟩,
 ⟨9, .ld 2 true (.t 5), none, false⟩,
 ⟨10, .ca (.k (.cl 147 [])) [(.t 7), (.t 8), (.t 9)], none, false⟩,
 ⟨11, .ar .eql false (.t 10) (.k (.sc (.int .i64 0))), none, false⟩,
 ⟨12, .mv (.t 11), none, false⟩,
 ⟨13, .fa 0 (.t 5), (some (12, true)), false⟩,
 ⟨14, .ld 1 false (.t 13), (some (12, true)), false⟩,
 ⟨15, .fa 0 (.t 3), (some (12, true)), false⟩,
 ⟨16, .ld 1 false (.t 15), (some (12, true)), false⟩,
 ⟨17, .fa 0 (.t 4), (some (12, true)), false⟩,
 ⟨18, .ld 1 false (.t 17), (some (12, true)), false⟩,
 ⟨19, .ca (.k (.cl 109 [])) [(.t 16), (.t 18)], (some (12, true)), false⟩,
 ⟨20, .fa 0 (.t 3), (some (12, true)), false⟩,
 ⟨21, .ld 1 false (.t 20), (some (12, true)), false⟩,
 ⟨22, .fa 0 (.t 4), (some (12, true)), false⟩,
 ⟨23, .ld 1 false (.t 22), (some (12, true)), false⟩,
 ⟨24, .ca (.k (.cl 108 [])) [(.t 21), (.t 23)], (some (12, true)), false⟩,
 ⟨25, .ca (.k (.cl 88 [])) [(.t 14), (.t 19), (.t 24)], (some (12, true)), false⟩,
 ⟨26, .pk (.t 12) (.t 25) (.k (.sc (.bool false))), none, false⟩,
 ⟨27, .mv (.t 26), none, false⟩,
 ⟨28, .fa 1 (.t 5), (some (27, true)), false⟩,
 ⟨29, .ld 1 false (.t 28), (some (27, true)), false⟩,
 ⟨30, .fa 1 (.t 3), (some (27, true)), false⟩,
 ⟨31, .ld 1 false (.t 30), (some (27, true)), false⟩,
 ⟨32, .fa 1 (.t 4), (some (27, true)), false⟩,
 ⟨33, .ld 1 false (.t 32), (some (27, true)), false⟩,
 ⟨34, .ca (.k (.cl 109 [])) [(.t 31), (.t 33)], (some (27, true)), false⟩,
 ⟨35, .fa 1 (.t 3), (some (27, true)), false⟩,
 ⟨36, .ld 1 false (.t 35), (some (27, true)), false⟩,
 ⟨37, .fa 1 (.t 4), (some (27, true)), false⟩,
 ⟨38, .ld 1 false (.t 37), (some (27, true)), false⟩,
 ⟨39, .ca (.k (.cl 108 [])) [(.t 36), (.t 38)], (some (27, true)), false⟩,
 ⟨40, .ca (.k (.cl 88 [])) [(.t 29), (.t 34), (.t 39)], (some (27, true)), false⟩,
 ⟨41, .pk (.t 27) (.t 40) (.k (.sc (.bool false))), none, false⟩,
 ⟨6, .mv (.t 41), none, false⟩])
 .ret))⟩
attribute [simp] i163
set_option maxRecDepth 1000000 in
theorem c163 : cFn Try.prog 163 [[]] = some i163 := by kernel_rfl
theorem e163 : enterOk Try.prog 163 = true := by kernel_rfl
def i164 : Ev.Fn := ⟨4, 38, [.tmp 8],
 (.seq
 (.reg false [⟨4, .bx (.t 0), none, false⟩,
 ⟨5, .bx (.t 1), none, false⟩,
 ⟨6, .bx (.t 2), none, false⟩,
 ⟨7, .bx (.t 3), none, false⟩,
 ⟨8, .mv (.k (.sc (.bool false))), none, false⟩])
 (.seq
 (.reg false [⟨9, .ld 2 true (.t 4), none, false⟩,
 ⟨10, .ld 2 true (.t 5), none, false⟩,
 ⟨11, .ld 2 true (.t 6), none, false⟩,
 ⟨12, .ld 2 true (.t 7), none, false⟩,
 ⟨13, .ca (.k (.cl 172 [])) [(.t 9), (.t 10), (.t 11), (.t 12)], none, false⟩,
 ⟨14, .mv (.t 13), none, false⟩,
 ⟨15, .ld 2 true (.t 4), (some (14, false)), false⟩,
 ⟨16, .ld 2 true (.t 5), (some (14, false)), false⟩,
 ⟨17, .ld 2 true (.t 6), (some (14, false)), false⟩,
 ⟨18, .ca (.k (.cl 163 [])) [(.t 15), (.t 16), (.t 17)], (some (14, false)), false⟩,
 ⟨19, .pk (.t 14) (.k (.sc (.bool true))) (.t 18), none, false⟩,
 ⟨20, .mv (.t 19), none, false⟩,
 ⟨21, .ld 2 true (.t 4), (some (20, false)), false⟩,
 ⟨22, .ld 2 true (.t 5), (some (20, false)), false⟩,
 ⟨23, .ld 2 true (.t 7), (some (20, false)), false⟩,
 ⟨24, .ca (.k (.cl 163 [])) [(.t 21), (.t 22), (.t 23)], (some (20, false)), false⟩,
 ⟨25, .pk (.t 20) (.k (.sc (.bool true))) (.t 24), none, false⟩,
 ⟨26, .mv (.t 25), none, false⟩,
 ⟨27, .ld 2 true (.t 6), (some (26, false)), false⟩,
 ⟨28, .ld 2 true (.t 7), (some (26, false)), false⟩,
 ⟨29, .ld 2 true (.t 4), (some (26, false)), false⟩,
 ⟨30, .ca (.k (.cl 163 [])) [(.t 27), (.t 28), (.t 29)], (some (26, false)), false⟩,
 ⟨31, .pk (.t 26) (.k (.sc (.bool true))) (.t 30), none, false⟩,
 ⟨32, .mv (.t 31), none, false⟩,
 ⟨33, .ld 2 true (.t 6), (some (32, false)), false⟩,
 ⟨34, .ld 2 true (.t 7), (some (32, false)), false⟩,
 ⟨35, .ld 2 true (.t 5), (some (32, false)), false⟩,
 ⟨36, .ca (.k (.cl 163 [])) [(.t 33), (.t 34), (.t 35)], (some (32, false)), false⟩,
 ⟨37, .pk (.t 32) (.k (.sc (.bool true))) (.t 36), none, false⟩,
 ⟨8, .mv (.t 37), none, false⟩])
 .ret))⟩
attribute [simp] i164
set_option maxRecDepth 1000000 in
theorem c164 : cFn Try.prog 164 [[]] = some i164 := by kernel_rfl
theorem e164 : enterOk Try.prog 164 = true := by kernel_rfl
def w165_1 : IC :=
(.seq
 (.seq
 (.reg false [⟨6, .mv (.t 4), none, false⟩,
 ⟨7, .mv (.t 0), none, false⟩,
 ⟨8, .ln false (.t 7), none, false⟩,
 ⟨9, .ar .lss false (.t 6) (.t 8), none, false⟩])
 (.ite (.t 9)
 .skip
 (.exit 0)))
 (.seq
 (.block 1
 (.seq
 (.reg false [⟨12, .mv (.t 0), none, false⟩,
 ⟨13, .mv (.t 4), none, false⟩,
 ⟨14, .ar .add false (.t 13) (.k (.sc (.int .i64 1))), none, false⟩,
 ⟨15, .mv (.t 0), none, false⟩,
 ⟨16, .ln false (.t 15), none, false⟩,
 ⟨17, .ar .rem false (.t 14) (.t 16), none, false⟩,
 ⟨18, .ia 2 (.t 12) (.t 17), none, false⟩,
 ⟨19, .ld 2 true (.t 18), none, false⟩,
 ⟨5, .al [(.sc (.int .i64 0)), (.sc (.int .i64 0))], none, false⟩,
 ⟨1, .so 2 (.t 5) (.t 19), none, true⟩])
 (.reg true [⟨20, .mv (.t 3), none, false⟩,
 ⟨21, .mv (.t 0), none, false⟩,
 ⟨22, .mv (.t 4), none, false⟩,
 ⟨23, .ia 2 (.t 21) (.t 22), none, false⟩,
 ⟨24, .fa 0 (.t 23), none, false⟩,
 ⟨25, .ld 1 false (.t 24), none, false⟩,
 ⟨26, .fa 1 (.t 5), none, false⟩,
 ⟨27, .ld 1 false (.t 26), none, false⟩,
 ⟨28, .ar .mul false (.t 25) (.t 27), none, false⟩,
 ⟨29, .mv (.t 0), none, false⟩,
 ⟨30, .mv (.t 4), none, false⟩,
 ⟨31, .ia 2 (.t 29) (.t 30), none, false⟩,
 ⟨32, .fa 1 (.t 31), none, false⟩,
 ⟨33, .ld 1 false (.t 32), none, false⟩,
 ⟨34, .fa 0 (.t 5), none, false⟩,
 ⟨35, .ld 1 false (.t 34), none, false⟩,
 ⟨36, .ar .mul false (.t 33) (.t 35), none, false⟩,
 ⟨37, .ar .sub false (.t 28) (.t 36), none, false⟩,
 ⟨38, .ar .add false (.t 20) (.t 37), none, false⟩,
 ⟨3, .mv (.t 38), none, false⟩])))
 (.reg false [⟨10, .mv (.t 4), none, false⟩,
 ⟨11, .ar .add false (.t 10) (.k (.sc (.int .i64 1))), none, false⟩,
 ⟨4, .mv (.t 11), none, false⟩])))
def b165_1 : IC := w165_1
theorem u165_1 (call : CallF) (st : St) : evC call b165_1 st = evC call w165_1 st := rfl
attribute [simp] u165_1 w165_1
def i165 : Ev.Fn := ⟨1, 40, [.tmp 2],
 (.seq
 (.reg false [⟨2, .mv (.k (.sc (.int .i64 0))), none, false⟩])
 (.seq
 (.reg false [⟨3, .mv (.k (.sc (.int .i64 0))), none, false⟩])
 (.seq
 (.seq
 (.reg false [⟨4, .mv (.k (.sc (.int .i64 0))), none, false⟩])
 (.cln [3] [2]
 (.block 0
 (.loop [0, 3, 4] b165_1))))
 (.seq
 (.reg false [⟨39, .mv (.t 3), none, false⟩,
 ⟨2, .mv (.t 39), none, false⟩])
 .ret))))⟩
attribute [simp] i165
set_option maxRecDepth 1000000 in
theorem c165 : cFn Try.prog 165 [[], [0, 3, 4], [3], [2]] = some i165 := by kernel_rfl
theorem e165 : enterOk Try.prog 165 = true := by kernel_rfl
def i166 : Ev.Fn := ⟨3, 30, [.tmp 6],
 (.seq
 (.reg false [⟨3, .bx (.t 0), none, false⟩,
 ⟨4, .bx (.t 1), none, false⟩,
 ⟨5, .bx (.t 2), none, false⟩,
 ⟨6, .mv (.k (.sc (.int .i64 0))), none, false⟩])
 (.seq
 (.reg false [⟨7, .fa 0 (.t 4), none, false⟩,
 ⟨8, .ld 1 false (.t 7), none, false⟩,
 ⟨9, .fa 0 (.t 3), none, false⟩,
 ⟨10, .ld 1 false (.t 9), none, false⟩,
 ⟨11, .ar .sub false (.t 8) (.t 10), none, false⟩,
 ⟨12, .fa 1 (.t 5), none, false⟩,
 ⟨13, .ld 1 false (.t 12), none, false⟩,
 ⟨14, .fa 1 (.t 3), none, false⟩,
 ⟨15, .ld 1 false (.t 14), none, false⟩,
 ⟨16, .ar .sub false (.t 13) (.t 15), none, false⟩,
 ⟨17, .ar .mul false (.t 11) (.t 16), none, false⟩,
 ⟨18, .fa 1 (.t 4), none, false⟩,
 ⟨19, .ld 1 false (.t 18), none, false⟩,
 ⟨20, .fa 1 (.t 3), none, false⟩,
 ⟨21, .ld 1 false (.t 20), none, false⟩,
 ⟨22, .ar .sub false (.t 19) (.t 21), none, false⟩,
 ⟨23, .fa 0 (.t 5), none, false⟩,
 ⟨24, .ld 1 false (.t 23), none, false⟩,
 ⟨25, .fa 0 (.t 3), none, false⟩,
 ⟨26, .ld 1 false (.t 25), none, false⟩,
 ⟨27, .ar .sub false (.t 24) (.t 26), none, false⟩,
 ⟨28, .ar .mul false (.t 22) (.t 27), none, false⟩,
 ⟨29, .ar .sub false (.t 17) (.t 28), none, false⟩,
 ⟨6, .mv (.t 29), none, false⟩])
 .ret))⟩
attribute [simp] i166
set_option maxRecDepth 1000000 in
theorem c166 : cFn Try.prog 166 [[]] = some i166 := by kernel_rfl
theorem e166 : enterOk Try.prog 166 = true := by kernel_rfl
end Go.Proofs.Ytmfcdjkeofohpaa.walkS
