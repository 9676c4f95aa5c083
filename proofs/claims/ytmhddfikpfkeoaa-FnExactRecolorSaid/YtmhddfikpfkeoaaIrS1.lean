/- The functions that some rows reach, turned; no conditions. -/
import Derived.Test.YtmhddfikpfkeoaaEv2
import Derived.KernelRfl
import Derived.Test.YtmhddfikpfkeoaaProg
namespace Go.Proofs.Ytmhddfikpfkeoaa.walkS
open Go Go.Proofs.Ytmhddfikpfkeoaa.Ev
def i6 : Ev.Fn := ⟨3, 114, [.tmp 6],
 (.seq
 (.reg false [⟨3, .bx (.t 0), none, false⟩,
 ⟨5, .bx (.t 2), none, false⟩,
 ⟨6, .mv (.k (.sc (.bool false))), none, false⟩])
 (.seq
 (.reg false [⟨7, .mv (.k (.sc (.int .i64 1048576))), none, false⟩])
 (.seq
 (.reg false [⟨18, .ld 5 true (.t 3), none, false⟩,
 ⟨19, .mv (.t 7), none, false⟩,
 ⟨20, .ca (.k (.cl 25 [])) [(.t 18), (.t 19)], none, false⟩,
 ⟨7, .mv (.t 20), none, false⟩])
 (.seq
 (.seq
 (.reg false [⟨21, .mv (.t 7), none, false⟩,
 ⟨22, .ar .lss false (.t 21) (.k (.sc (.int .i64 0))), none, false⟩])
 (.ite (.t 22)
 (.seq
 (.reg false [⟨6, .mv (.k (.sc (.bool true))), none, false⟩])
 .ret)
 .skip))
 (.seq
 (.reg false [⟨23, .ld 3 true (.t 5), none, false⟩,
 ⟨24, .mv (.t 7), none, false⟩,
 ⟨25, .ca (.k (.cl 30 [])) [(.t 23), (.t 24)], none, false⟩,
 ⟨7, .mv (.t 25), none, false⟩])
 (.seq
 (.seq
 (.reg false [⟨26, .mv (.t 7), none, false⟩,
 ⟨27, .ar .lss false (.t 26) (.k (.sc (.int .i64 0))), none, false⟩])
 (.ite (.t 27)
 (.seq
 (.reg false [⟨6, .mv (.k (.sc (.bool true))), none, false⟩])
 .ret)
 .skip))
 (.seq
 (.rgc [] [⟨29, .ld 5 true (.t 3), none, false⟩,
 ⟨30, .ca (.k (.cl 27 [])) [(.t 29)], none, false⟩,
 ⟨31, .mv (.t 1), none, false⟩,
 ⟨32, .ld 3 true (.t 5), none, false⟩,
 ⟨33, .ca (.k (.cl 32 [])) [(.t 32)], none, false⟩,
 ⟨34, .ca (.k (.cl 31 [])) [(.t 30), (.t 31), (.t 33)], none, false⟩,
 ⟨28, .mv (.t 34), none, false⟩,
 ⟨35, .xt (.t 28) 0, none, false⟩,
 ⟨36, .xt (.t 28) 1, none, false⟩,
 ⟨8, .al [(.sc (.int .i64 0)), (.sc (.int .i64 0)), .nl, .nl, .nl], none, false⟩,
 ⟨0, .so 5 (.t 8) (.t 35), none, true⟩,
 ⟨9, .mv (.t 36), none, false⟩])
 (.seq
 (.reg false [⟨37, .ld 5 true (.t 3), none, false⟩,
 ⟨38, .ca (.k (.cl 27 [])) [(.t 37)], none, false⟩,
 ⟨10, .al [(.sc (.int .i64 0)), (.sc (.int .i64 0)), .nl, .nl, .nl], none, false⟩,
 ⟨1, .so 5 (.t 10) (.t 38), none, true⟩])
 (.seq
 (.rgc [] [⟨40, .ld 5 true (.t 10), none, false⟩,
 ⟨41, .mv (.t 1), none, false⟩,
 ⟨42, .ld 3 true (.t 5), none, false⟩,
 ⟨43, .ca (.k (.cl 32 [])) [(.t 42)], none, false⟩,
 ⟨44, .ca (.k (.cl 33 [])) [(.t 40), (.t 41), (.t 43)], none, false⟩,
 ⟨39, .mv (.t 44), none, false⟩,
 ⟨45, .xt (.t 39) 0, none, false⟩,
 ⟨46, .xt (.t 39) 1, none, false⟩,
 ⟨11, .al [(.sc (.int .i64 0)), (.sc (.int .i64 0)), .nl, .nl, .nl], none, false⟩,
 ⟨0, .so 5 (.t 11) (.t 45), none, true⟩,
 ⟨12, .mv (.t 46), none, false⟩])
 (.seq
 (.seq
 (.reg false [⟨47, .ld 5 true (.t 11), none, false⟩,
 ⟨48, .ld 5 true (.t 8), none, false⟩,
 ⟨49, .ca (.k (.cl 29 [])) [(.t 47), (.t 48)], none, false⟩,
 ⟨50, .nt (.t 49), none, false⟩,
 ⟨51, .mv (.t 50), none, false⟩,
 ⟨52, .mv (.t 12), (some (51, false)), false⟩,
 ⟨53, .mv (.t 9), (some (51, false)), false⟩,
 ⟨54, .ar .neq false (.t 52) (.t 53), (some (51, false)), false⟩,
 ⟨55, .pk (.t 51) (.k (.sc (.bool true))) (.t 54), none, false⟩])
 (.ite (.t 55)
 (.seq
 (.reg false [⟨6, .mv (.k (.sc (.bool false))), none, false⟩])
 .ret)
 .skip))
 (.seq
 (.seq
 (.reg true [⟨56, .ld 5 true (.t 10), none, false⟩,
 ⟨57, .ld 5 true (.t 3), none, false⟩,
 ⟨58, .ca (.k (.cl 27 [])) [(.t 57)], none, false⟩,
 ⟨59, .ca (.k (.cl 29 [])) [(.t 56), (.t 58)], none, false⟩,
 ⟨60, .nt (.t 59), none, false⟩])
 (.ite (.t 60)
 (.seq
 (.reg false [⟨6, .mv (.k (.sc (.bool false))), none, false⟩])
 .ret)
 .skip))
 (.seq
 (.reg false [⟨13, .mv (.k (.sc (.int .i64 1))), none, false⟩])
 (.seq
 (.rgw [⟨61, .ld 5 true (.t 10), none, false⟩,
 ⟨62, .mv (.t 13), none, false⟩,
 ⟨63, .cw 34 [] [(.t 61), (.t 62)], none, false⟩,
 ⟨13, .mv (.t 63), none, false⟩])
 (.seq
 (.seq
 (.reg false [⟨64, .mv (.t 13), none, false⟩,
 ⟨65, .ar .lss false (.t 64) (.k (.sc (.int .i64 0))), none, false⟩,
 ⟨66, .mv (.t 65), none, false⟩,
 ⟨67, .ld 5 true (.t 11), (some (66, false)), false⟩,
 ⟨68, .ld 5 true (.t 8), (some (66, false)), false⟩,
 ⟨69, .ca (.k (.cl 29 [])) [(.t 67), (.t 68)], (some (66, false)), false⟩,
 ⟨70, .nt (.t 69), (some (66, false)), false⟩,
 ⟨71, .pk (.t 66) (.k (.sc (.bool true))) (.t 70), none, false⟩,
 ⟨72, .mv (.t 71), none, false⟩,
 ⟨73, .mv (.t 12), (some (72, false)), false⟩,
 ⟨74, .mv (.t 9), (some (72, false)), false⟩,
 ⟨75, .ar .neq false (.t 73) (.t 74), (some (72, false)), false⟩,
 ⟨76, .pk (.t 72) (.k (.sc (.bool true))) (.t 75), none, false⟩])
 (.ite (.t 76)
 (.seq
 (.reg false [⟨6, .mv (.k (.sc (.bool false))), none, false⟩])
 .ret)
 .skip))
 (.seq
 (.reg false [⟨14, .mv (.k (.sc (.int .i64 1))), none, false⟩])
 (.seq
 (.rgw [⟨77, .ld 5 true (.t 11), none, false⟩,
 ⟨78, .mv (.t 14), none, false⟩,
 ⟨79, .cw 34 [] [(.t 77), (.t 78)], none, false⟩,
 ⟨14, .mv (.t 79), none, false⟩])
 (.seq
 (.reg false [⟨15, .mv (.k (.sc (.int .i64 1))), none, false⟩])
 (.seq
 (.reg false [⟨80, .ld 5 true (.t 11), none, false⟩,
 ⟨81, .mv (.t 15), none, false⟩,
 ⟨82, .ca (.k (.cl 35 [])) [(.t 80), (.t 81)], none, false⟩,
 ⟨15, .mv (.t 82), none, false⟩])
 (.seq
 (.seq
 (.reg false [⟨83, .mv (.t 15), none, false⟩,
 ⟨84, .ar .lss false (.t 83) (.k (.sc (.int .i64 0))), none, false⟩])
 (.ite (.t 84)
 (.seq
 (.reg false [⟨6, .mv (.k (.sc (.bool false))), none, false⟩])
 .ret)
 .skip))
 (.seq
 (.seq
 (.reg false [⟨85, .mv (.t 15), none, false⟩,
 ⟨86, .mv (.t 14), none, false⟩,
 ⟨87, .ar .neq false (.t 85) (.t 86), none, false⟩])
 (.ite (.t 87)
 (.seq
 (.reg false [⟨6, .mv (.k (.sc (.bool false))), none, false⟩])
 .ret)
 .skip))
 (.seq
 (.rgc [] [⟨89, .ld 5 true (.t 3), none, false⟩,
 ⟨90, .ca (.k (.cl 27 [])) [(.t 89)], none, false⟩,
 ⟨91, .mv (.t 1), none, false⟩,
 ⟨92, .ld 3 true (.t 5), none, false⟩,
 ⟨93, .ca (.k (.cl 32 [])) [(.t 92)], none, false⟩,
 ⟨94, .ca (.k (.cl 33 [])) [(.t 90), (.t 91), (.t 93)], none, false⟩,
 ⟨88, .mv (.t 94), none, false⟩,
 ⟨95, .xt (.t 88) 0, none, false⟩,
 ⟨96, .xt (.t 88) 1, none, false⟩,
 ⟨16, .al [(.sc (.int .i64 0)), (.sc (.int .i64 0)), .nl, .nl, .nl], none, false⟩,
 ⟨0, .so 5 (.t 16) (.t 95), none, true⟩,
 ⟨17, .mv (.t 96), none, false⟩])
 (.seq
 (.seq
 (.reg false [⟨97, .ld 5 true (.t 16), none, false⟩,
 ⟨98, .ld 5 true (.t 8), none, false⟩,
 ⟨99, .ca (.k (.cl 29 [])) [(.t 97), (.t 98)], none, false⟩,
 ⟨100, .nt (.t 99), none, false⟩,
 ⟨101, .mv (.t 100), none, false⟩,
 ⟨102, .mv (.t 17), (some (101, false)), false⟩,
 ⟨103, .mv (.t 9), (some (101, false)), false⟩,
 ⟨104, .ar .neq false (.t 102) (.t 103), (some (101, false)), false⟩,
 ⟨105, .pk (.t 101) (.k (.sc (.bool true))) (.t 104), none, false⟩])
 (.ite (.t 105)
 (.seq
 (.reg false [⟨6, .mv (.k (.sc (.bool false))), none, false⟩])
 .ret)
 .skip))
 (.seq
 (.reg false [⟨15, .mv (.k (.sc (.int .i64 1))), none, false⟩])
 (.seq
 (.reg false [⟨106, .ld 5 true (.t 11), none, false⟩,
 ⟨107, .mv (.t 15), none, false⟩,
 ⟨108, .ca (.k (.cl 35 [])) [(.t 106), (.t 107)], none, false⟩,
 ⟨15, .mv (.t 108), none, false⟩])
 (.seq
 (.seq
 (.reg false [⟨109, .mv (.t 15), none, false⟩,
 ⟨110, .ar .lss false (.t 109) (.k (.sc (.int .i64 0))), none, false⟩])
 (.ite (.t 110)
 (.seq
 (.reg false [⟨6, .mv (.k (.sc (.bool false))), none, false⟩])
 .ret)
 .skip))
 (.seq
 (.seq
 (.reg false [⟨111, .mv (.t 15), none, false⟩,
 ⟨112, .mv (.t 14), none, false⟩,
 ⟨113, .ar .neq false (.t 111) (.t 112), none, false⟩])
 (.ite (.t 113)
 (.seq
 (.reg false [⟨6, .mv (.k (.sc (.bool false))), none, false⟩])
 .ret)
 .skip))
 (.seq
 (.reg false [⟨6, .mv (.k (.sc (.bool true))), none, false⟩])
 .ret)))))))))))))))))))))))))))⟩
attribute [simp] i6
set_option maxRecDepth 1000000 in
theorem c6 : cFn Try.prog 6 [[34]] = some i6 := by kernel_rfl
theorem e6 : enterOk Try.prog 6 = true := by kernel_rfl
def w15_1 : IC :=
(.seq
 (.seq
 (.reg false [⟨11, .mv (.t 5), none, false⟩,
 ⟨12, .mv (.t 0), none, false⟩,
 ⟨13, .ln false (.t 12), none, false⟩,
 ⟨14, .ar .lss false (.t 11) (.t 13), none, false⟩])
 (.ite (.t 14)
 .skip
 (.exit 0)))
 (.seq
 (.block 1
 (.seq
 (.reg true [⟨17, .mv (.t 0), none, false⟩,
 ⟨18, .mv (.t 5), none, false⟩,
 ⟨19, .ia 1 (.t 17) (.t 18), none, false⟩,
 ⟨20, .ld 1 false (.t 19), none, false⟩,
 ⟨21, .mv (.t 1), none, false⟩,
 ⟨22, .mv (.t 5), none, false⟩,
 ⟨23, .ia 1 (.t 21) (.t 22), none, false⟩,
 ⟨24, .ld 1 false (.t 23), none, false⟩,
 ⟨25, .ar .neq false (.t 20) (.t 24), none, false⟩])
 (.ite (.t 25)
 (.seq
 (.reg false [⟨4, .mv (.k (.sc (.bool false))), none, false⟩])
 .ret)
 .skip)))
 (.reg false [⟨15, .mv (.t 5), none, false⟩,
 ⟨16, .ar .add false (.t 15) (.k (.sc (.int .i64 1))), none, false⟩,
 ⟨5, .mv (.t 16), none, false⟩])))
def b15_1 : IC := w15_1
theorem u15_1 (call : CallF) (st : St) : evC call b15_1 st = evC call w15_1 st := rfl
attribute [simp] u15_1 w15_1
def i15 : Ev.Fn := ⟨2, 26, [.tmp 4],
 (.seq
 (.reg false [⟨4, .mv (.k (.sc (.bool false))), none, false⟩])
 (.seq
 (.seq
 (.reg false [⟨6, .mv (.t 0), none, false⟩,
 ⟨7, .ln false (.t 6), none, false⟩,
 ⟨8, .mv (.t 1), none, false⟩,
 ⟨9, .ln false (.t 8), none, false⟩,
 ⟨10, .ar .neq false (.t 7) (.t 9), none, false⟩])
 (.ite (.t 10)
 (.seq
 (.reg false [⟨4, .mv (.k (.sc (.bool false))), none, false⟩])
 .ret)
 .skip))
 (.seq
 (.seq
 (.reg false [⟨5, .mv (.k (.sc (.int .i64 0))), none, false⟩])
 (.cln [] [4]
 (.block 0
 (.loop [0, 1, 5] b15_1))))
 (.seq
 (.reg false [⟨4, .mv (.k (.sc (.bool true))), none, false⟩])
 .ret))))⟩
attribute [simp] i15
set_option maxRecDepth 1000000 in
theorem c15 : cFn Try.prog 15 [[], [0, 1, 5], [], [4]] = some i15 := by kernel_rfl
theorem e15 : enterOk Try.prog 15 = true := by kernel_rfl
def w18_1 : IC :=
(.seq
 (.seq
 (.reg false [⟨6, .mv (.t 5), none, false⟩,
 ⟨7, .mv (.t 0), none, false⟩,
 ⟨8, .ln false (.t 7), none, false⟩,
 ⟨9, .ar .lss false (.t 6) (.t 8), none, false⟩])
 (.ite (.t 9)
 .skip
 (.exit 0)))
 (.seq
 (.block 1
 (.seq
 (.reg false [⟨12, .mv (.t 0), none, false⟩,
 ⟨13, .mv (.t 5), none, false⟩,
 ⟨14, .mv (.t 1), none, false⟩,
 ⟨15, .ia 1 (.t 12) (.t 13), none, false⟩,
 ⟨1, .so 1 (.t 15) (.t 14), none, true⟩])
 (.reg false [⟨16, .mv (.t 1), none, false⟩,
 ⟨17, .ar .add false (.t 16) (.k (.sc (.int .i64 1))), none, false⟩,
 ⟨1, .mv (.t 17), none, false⟩])))
 (.reg false [⟨10, .mv (.t 5), none, false⟩,
 ⟨11, .ar .add false (.t 10) (.k (.sc (.int .i64 1))), none, false⟩,
 ⟨5, .mv (.t 11), none, false⟩])))
def b18_1 : IC := w18_1
theorem u18_1 (call : CallF) (st : St) : evC call b18_1 st = evC call w18_1 st := rfl
attribute [simp] u18_1 w18_1
def i18 : Ev.Fn := ⟨2, 19, [.tmp 4],
 (.seq
 (.reg false [⟨4, .mv (.k (.sc (.int .i64 0))), none, false⟩])
 (.seq
 (.seq
 (.reg false [⟨5, .mv (.k (.sc (.int .i64 0))), none, false⟩])
 (.cln [1, 100000] [4, 100000]
 (.block 0
 (.loop [0, 1, 5, 100000] b18_1))))
 (.seq
 (.reg false [⟨18, .mv (.t 1), none, false⟩,
 ⟨4, .mv (.t 18), none, false⟩])
 .ret)))⟩
attribute [simp] i18
set_option maxRecDepth 1000000 in
theorem c18 : cFn Try.prog 18 [[], [0, 1, 5, 100000], [1, 100000], [4, 100000]] = some i18 := by kernel_rfl
theorem e18 : enterOk Try.prog 18 = true := by kernel_rfl
def w19_1 : IC :=
(.seq
 (.seq
 (.reg false [⟨6, .mv (.t 5), none, false⟩,
 ⟨7, .mv (.t 0), none, false⟩,
 ⟨8, .ln false (.t 7), none, false⟩,
 ⟨9, .ar .lss false (.t 6) (.t 8), none, false⟩])
 (.ite (.t 9)
 .skip
 (.exit 0)))
 (.seq
 (.block 1
 (.seq
 (.seq
 (.reg false [⟨12, .mv (.t 0), none, false⟩,
 ⟨13, .mv (.t 5), none, false⟩,
 ⟨14, .ia 1 (.t 12) (.t 13), none, false⟩,
 ⟨15, .ld 1 false (.t 14), none, false⟩,
 ⟨16, .mv (.t 1), none, false⟩,
 ⟨17, .ar .neq false (.t 15) (.t 16), none, false⟩])
 (.ite (.t 17)
 (.seq
 (.reg false [⟨4, .mv (.k (.sc (.int .i64 (-1)))), none, false⟩])
 .ret)
 .skip))
 (.reg false [⟨18, .mv (.t 1), none, false⟩,
 ⟨19, .ar .add false (.t 18) (.k (.sc (.int .i64 1))), none, false⟩,
 ⟨1, .mv (.t 19), none, false⟩])))
 (.reg false [⟨10, .mv (.t 5), none, false⟩,
 ⟨11, .ar .add false (.t 10) (.k (.sc (.int .i64 1))), none, false⟩,
 ⟨5, .mv (.t 11), none, false⟩])))
def b19_1 : IC := w19_1
theorem u19_1 (call : CallF) (st : St) : evC call b19_1 st = evC call w19_1 st := rfl
attribute [simp] u19_1 w19_1
def i19 : Ev.Fn := ⟨2, 21, [.tmp 4],
 (.seq
 (.reg false [⟨4, .mv (.k (.sc (.int .i64 0))), none, false⟩])
 (.seq
 (.seq
 (.reg false [⟨5, .mv (.k (.sc (.int .i64 0))), none, false⟩])
 (.cln [1] [4]
 (.block 0
 (.loop [0, 1, 5] b19_1))))
 (.seq
 (.reg false [⟨20, .mv (.t 1), none, false⟩,
 ⟨4, .mv (.t 20), none, false⟩])
 .ret)))⟩
attribute [simp] i19
set_option maxRecDepth 1000000 in
theorem c19 : cFn Try.prog 19 [[], [0, 1, 5], [1], [4]] = some i19 := by kernel_rfl
theorem e19 : enterOk Try.prog 19 = true := by kernel_rfl
def i25 : Ev.Fn := ⟨2, 18, [.tmp 4],
 (.seq
 (.reg false [⟨2, .bx (.t 0), none, false⟩,
 ⟨4, .mv (.k (.sc (.int .i64 0))), none, false⟩])
 (.seq
 (.reg false [⟨5, .fa 0 (.t 2), none, false⟩,
 ⟨6, .ld 4 true (.t 5), none, false⟩,
 ⟨7, .mv (.t 1), none, false⟩,
 ⟨8, .ca (.k (.cl 50 [])) [(.t 6), (.t 7)], none, false⟩,
 ⟨1, .mv (.t 8), none, false⟩])
 (.seq
 (.seq
 (.reg false [⟨9, .mv (.t 1), none, false⟩,
 ⟨10, .ar .lss false (.t 9) (.k (.sc (.int .i64 0))), none, false⟩])
 (.ite (.t 10)
 (.seq
 (.reg false [⟨4, .mv (.k (.sc (.int .i64 (-1)))), none, false⟩])
 .ret)
 .skip))
 (.seq
 (.reg false [⟨11, .fa 4 (.t 2), none, false⟩,
 ⟨12, .ld 1 false (.t 11), none, false⟩,
 ⟨13, .mv (.t 1), none, false⟩,
 ⟨14, .ca (.k (.cl 64 [])) [(.t 12), (.t 13)], none, false⟩,
 ⟨1, .mv (.t 14), none, false⟩])
 (.seq
 (.seq
 (.reg false [⟨15, .mv (.t 1), none, false⟩,
 ⟨16, .ar .lss false (.t 15) (.k (.sc (.int .i64 0))), none, false⟩])
 (.ite (.t 16)
 (.seq
 (.reg false [⟨4, .mv (.k (.sc (.int .i64 (-1)))), none, false⟩])
 .ret)
 .skip))
 (.seq
 (.reg false [⟨17, .mv (.t 1), none, false⟩,
 ⟨4, .mv (.t 17), none, false⟩])
 .ret))))))⟩
attribute [simp] i25
set_option maxRecDepth 1000000 in
theorem c25 : cFn Try.prog 25 [[]] = some i25 := by kernel_rfl
theorem e25 : enterOk Try.prog 25 = true := by kernel_rfl
def i27 : Ev.Fn := ⟨1, 13, [.cell 2 5 true],
 (.seq
 (.reg false [⟨1, .bx (.t 0), none, false⟩,
 ⟨2, .al [(.sc (.int .i64 0)), (.sc (.int .i64 0)), .nl, .nl, .nl], none, false⟩])
 (.seq
 (.reg false [⟨3, .al [(.sc (.int .i64 0)), (.sc (.int .i64 0)), .nl, .nl, .nl], none, false⟩])
 (.seq
 (.reg false [⟨4, .fa 0 (.t 1), none, false⟩,
 ⟨5, .ld 4 true (.t 4), none, false⟩,
 ⟨6, .ca (.k (.cl 52 [])) [(.t 5)], none, false⟩,
 ⟨7, .fa 0 (.t 3), none, false⟩,
 ⟨1, .so 4 (.t 7) (.t 6), none, true⟩])
 (.seq
 (.reg false [⟨8, .fa 4 (.t 1), none, false⟩,
 ⟨9, .ld 1 false (.t 8), none, false⟩,
 ⟨10, .ca (.k (.cl 67 [])) [(.t 9)], none, false⟩,
 ⟨11, .fa 4 (.t 3), none, false⟩,
 ⟨1, .so 1 (.t 11) (.t 10), none, true⟩])
 (.seq
 (.reg false [⟨12, .ld 5 true (.t 3), none, false⟩,
 ⟨1, .so 5 (.t 2) (.t 12), none, true⟩])
 .ret)))))⟩
attribute [simp] i27
set_option maxRecDepth 1000000 in
theorem c27 : cFn Try.prog 27 [[]] = some i27 := by kernel_rfl
theorem e27 : enterOk Try.prog 27 = true := by kernel_rfl
def i29 : Ev.Fn := ⟨2, 17, [.tmp 4],
 (.seq
 (.reg false [⟨2, .bx (.t 0), none, false⟩,
 ⟨3, .bx (.t 1), none, false⟩,
 ⟨4, .mv (.k (.sc (.bool false))), none, false⟩])
 (.seq
 (.seq
 (.reg false [⟨5, .fa 0 (.t 2), none, false⟩,
 ⟨6, .ld 4 true (.t 5), none, false⟩,
 ⟨7, .fa 0 (.t 3), none, false⟩,
 ⟨8, .ld 4 true (.t 7), none, false⟩,
 ⟨9, .ca (.k (.cl 54 [])) [(.t 6), (.t 8)], none, false⟩,
 ⟨10, .nt (.t 9), none, false⟩])
 (.ite (.t 10)
 (.seq
 (.reg false [⟨4, .mv (.k (.sc (.bool false))), none, false⟩])
 .ret)
 .skip))
 (.seq
 (.seq
 (.reg false [⟨11, .fa 4 (.t 2), none, false⟩,
 ⟨12, .ld 1 false (.t 11), none, false⟩,
 ⟨13, .fa 4 (.t 3), none, false⟩,
 ⟨14, .ld 1 false (.t 13), none, false⟩,
 ⟨15, .ca (.k (.cl 70 [])) [(.t 12), (.t 14)], none, false⟩,
 ⟨16, .nt (.t 15), none, false⟩])
 (.ite (.t 16)
 (.seq
 (.reg false [⟨4, .mv (.k (.sc (.bool false))), none, false⟩])
 .ret)
 .skip))
 (.seq
 (.reg false [⟨4, .mv (.k (.sc (.bool true))), none, false⟩])
 .ret))))⟩
attribute [simp] i29
set_option maxRecDepth 1000000 in
theorem c29 : cFn Try.prog 29 [[]] = some i29 := by kernel_rfl
theorem e29 : enterOk Try.prog 29 = true := by kernel_rfl
def i30 : Ev.Fn := ⟨2, 13, [.tmp 4],
 (.seq
 (.reg false [⟨2, .bx (.t 0), none, false⟩,
 ⟨4, .mv (.k (.sc (.int .i64 0))), none, false⟩])
 (.seq
 (.reg false [⟨5, .mv (.t 1), none, false⟩,
 ⟨6, .fa 0 (.t 2), none, false⟩,
 ⟨7, .ld 1 false (.t 6), none, false⟩,
 ⟨8, .ln true (.t 7), none, false⟩,
 ⟨9, .ar .sub false (.t 5) (.t 8), none, false⟩,
 ⟨1, .mv (.t 9), none, false⟩])
 (.seq
 (.seq
 (.reg false [⟨10, .mv (.t 1), none, false⟩,
 ⟨11, .ar .lss false (.t 10) (.k (.sc (.int .i64 0))), none, false⟩])
 (.ite (.t 11)
 (.seq
 (.reg false [⟨4, .mv (.k (.sc (.int .i64 (-1)))), none, false⟩])
 .ret)
 .skip))
 (.seq
 (.reg false [⟨12, .mv (.t 1), none, false⟩,
 ⟨4, .mv (.t 12), none, false⟩])
 .ret))))⟩
attribute [simp] i30
set_option maxRecDepth 1000000 in
theorem c30 : cFn Try.prog 30 [[]] = some i30 := by kernel_rfl
theorem e30 : enterOk Try.prog 30 = true := by kernel_rfl
def i31 : Ev.Fn := ⟨3, 28, [.cell 6 5 true, .tmp 7],
 (.seq
 (.reg false [⟨3, .bx (.t 0), none, false⟩,
 ⟨5, .bx (.t 2), none, false⟩,
 ⟨6, .al [(.sc (.int .i64 0)), (.sc (.int .i64 0)), .nl, .nl, .nl], none, false⟩,
 ⟨7, .mv (.k (.sc (.int .i64 0))), none, false⟩])
 (.seq
 (.seq
 (.reg false [⟨9, .ca (.k (.cl 65 [])) [(.t 3)], none, false⟩,
 ⟨10, .nt (.t 9), none, false⟩,
 ⟨11, .mv (.t 10), none, false⟩,
 ⟨12, .ca (.k (.cl 71 [])) [(.t 5)], (some (11, false)), false⟩,
 ⟨13, .nt (.t 12), (some (11, false)), false⟩,
 ⟨14, .pk (.t 11) (.k (.sc (.bool true))) (.t 13), none, false⟩])
 (.ite (.t 14)
 (.seq
 (.reg false [⟨15, .bd [(.sc (.int .i64 0)), (.sc (.int .i64 0)), .nl, .nl, .nl] [], none, false⟩,
 ⟨1, .so 5 (.t 6) (.t 15), none, true⟩,
 ⟨7, .mv (.k (.sc (.int .i64 1))), none, false⟩])
 .ret)
 .skip))
 (.seq
 (.seq
 (.reg false [⟨16, .fa 0 (.t 3), none, false⟩,
 ⟨17, .mv (.t 1), none, false⟩,
 ⟨18, .ca (.k (.cl 72 [])) [(.t 16), (.t 17)], none, false⟩,
 ⟨19, .nt (.t 18), none, false⟩])
 (.ite (.t 19)
 (.seq
 (.reg false [⟨20, .bd [(.sc (.int .i64 0)), (.sc (.int .i64 0)), .nl, .nl, .nl] [], none, false⟩,
 ⟨1, .so 5 (.t 6) (.t 20), none, true⟩,
 ⟨7, .mv (.k (.sc (.int .i64 2))), none, false⟩])
 .ret)
 .skip))
 (.seq
 (.reg false [⟨21, .ca (.k (.cl 73 [])) [(.t 3)], none, false⟩,
 ⟨8, .al [(.sc (.int .i64 0)), (.sc (.int .i64 0)), .nl, .nl, .nl], none, false⟩,
 ⟨1, .so 5 (.t 8) (.t 21), none, true⟩])
 (.seq
 (.reg false [⟨22, .fa 4 (.t 8), none, false⟩,
 ⟨23, .ld 1 false (.t 22), none, false⟩,
 ⟨24, .mv (.t 1), none, false⟩,
 ⟨25, .ld 3 true (.t 5), none, false⟩,
 ⟨26, .ia 3 (.t 23) (.t 24), none, false⟩,
 ⟨1, .so 3 (.t 26) (.t 25), none, true⟩])
 (.seq
 (.reg false [⟨27, .ld 5 true (.t 8), none, false⟩,
 ⟨1, .so 5 (.t 6) (.t 27), none, true⟩,
 ⟨7, .mv (.k (.sc (.int .i64 0))), none, false⟩])
 .ret))))))⟩
attribute [simp] i31
set_option maxRecDepth 1000000 in
theorem c31 : cFn Try.prog 31 [[]] = some i31 := by kernel_rfl
theorem e31 : enterOk Try.prog 31 = true := by kernel_rfl
def i32 : Ev.Fn := ⟨1, 14, [.cell 2 3 true],
 (.seq
 (.reg false [⟨1, .bx (.t 0), none, false⟩,
 ⟨2, .al [(.sc (.string ⟨#[]⟩)), (.sc (.int .i64 0)), (.sc (.int .i64 0))], none, false⟩])
 (.seq
 (.reg false [⟨3, .al [(.sc (.string ⟨#[]⟩)), (.sc (.int .i64 0)), (.sc (.int .i64 0))], none, false⟩])
 (.seq
 (.reg false [⟨4, .fa 0 (.t 1), none, false⟩,
 ⟨5, .ld 1 false (.t 4), none, false⟩,
 ⟨6, .fa 0 (.t 3), none, false⟩,
 ⟨1, .so 1 (.t 6) (.t 5), none, true⟩])
 (.seq
 (.reg false [⟨7, .fa 1 (.t 1), none, false⟩,
 ⟨8, .ld 1 false (.t 7), none, false⟩,
 ⟨9, .fa 1 (.t 3), none, false⟩,
 ⟨1, .so 1 (.t 9) (.t 8), none, true⟩])
 (.seq
 (.reg false [⟨10, .fa 2 (.t 1), none, false⟩,
 ⟨11, .ld 1 false (.t 10), none, false⟩,
 ⟨12, .fa 2 (.t 3), none, false⟩,
 ⟨1, .so 1 (.t 12) (.t 11), none, true⟩])
 (.seq
 (.reg false [⟨13, .ld 3 true (.t 3), none, false⟩,
 ⟨1, .so 3 (.t 2) (.t 13), none, true⟩])
 .ret))))))⟩
attribute [simp] i32
set_option maxRecDepth 1000000 in
theorem c32 : cFn Try.prog 32 [[]] = some i32 := by kernel_rfl
theorem e32 : enterOk Try.prog 32 = true := by kernel_rfl
def i33 : Ev.Fn := ⟨3, 36, [.cell 6 5 true, .tmp 7],
 (.seq
 (.reg false [⟨3, .bx (.t 0), none, false⟩,
 ⟨5, .bx (.t 2), none, false⟩,
 ⟨6, .al [(.sc (.int .i64 0)), (.sc (.int .i64 0)), .nl, .nl, .nl], none, false⟩,
 ⟨7, .mv (.k (.sc (.int .i64 0))), none, false⟩])
 (.seq
 (.block 0
 (.seq
 (.reg false [⟨10, .ld 5 true (.t 3), none, false⟩,
 ⟨11, .ca (.k (.cl 68 [])) [(.t 10)], none, false⟩,
 ⟨12, .nt (.t 11), none, false⟩,
 ⟨13, .mv (.t 12), none, false⟩,
 ⟨14, .ld 3 true (.t 5), (some (13, false)), false⟩,
 ⟨15, .ca (.k (.cl 74 [])) [(.t 14)], (some (13, false)), false⟩,
 ⟨16, .nt (.t 15), (some (13, false)), false⟩,
 ⟨17, .pk (.t 13) (.k (.sc (.bool true))) (.t 16), none, false⟩,
 ⟨9, .mv (.t 17), none, false⟩])
 (.ite (.t 9)
 (.seq
 (.reg false [⟨18, .bd [(.sc (.int .i64 0)), (.sc (.int .i64 0)), .nl, .nl, .nl] [], none, false⟩,
 ⟨1, .so 5 (.t 6) (.t 18), none, true⟩,
 ⟨7, .mv (.k (.sc (.int .i64 1))), none, false⟩])
 .ret)
 (.seq
 (.reg false [⟨20, .mv (.t 1), none, false⟩,
 ⟨21, .fa 4 (.t 3), none, false⟩,
 ⟨22, .ld 1 false (.t 21), none, false⟩,
 ⟨23, .ln false (.t 22), none, false⟩,
 ⟨24, .ar .sub false (.t 23) (.k (.sc (.int .i64 1))), none, false⟩,
 ⟨25, .ca (.k (.cl 75 [])) [(.t 20), (.k (.sc (.int .i64 0))), (.t 24)], none, false⟩,
 ⟨26, .nt (.t 25), none, false⟩,
 ⟨19, .mv (.t 26), none, false⟩])
 (.ite (.t 19)
 (.seq
 (.reg false [⟨27, .bd [(.sc (.int .i64 0)), (.sc (.int .i64 0)), .nl, .nl, .nl] [], none, false⟩,
 ⟨1, .so 5 (.t 6) (.t 27), none, true⟩,
 ⟨7, .mv (.k (.sc (.int .i64 2))), none, false⟩])
 .ret)
 .skip)))))
 (.seq
 (.reg false [⟨28, .ld 5 true (.t 3), none, false⟩,
 ⟨29, .ca (.k (.cl 76 [])) [(.t 28)], none, false⟩,
 ⟨8, .al [(.sc (.int .i64 0)), (.sc (.int .i64 0)), .nl, .nl, .nl], none, false⟩,
 ⟨1, .so 5 (.t 8) (.t 29), none, true⟩])
 (.seq
 (.reg false [⟨30, .fa 4 (.t 8), none, false⟩,
 ⟨31, .ld 1 false (.t 30), none, false⟩,
 ⟨32, .mv (.t 1), none, false⟩,
 ⟨33, .ld 3 true (.t 5), none, false⟩,
 ⟨34, .ia 3 (.t 31) (.t 32), none, false⟩,
 ⟨1, .so 3 (.t 34) (.t 33), none, true⟩])
 (.seq
 (.reg false [⟨35, .ld 5 true (.t 8), none, false⟩,
 ⟨1, .so 5 (.t 6) (.t 35), none, true⟩,
 ⟨7, .mv (.k (.sc (.int .i64 0))), none, false⟩])
 .ret)))))⟩
attribute [simp] i33
set_option maxRecDepth 1000000 in
theorem c33 : cFn Try.prog 33 [[]] = some i33 := by kernel_rfl
theorem e33 : enterOk Try.prog 33 = true := by kernel_rfl
def i34 : Ev.Fn := ⟨2, 14, [.tmp 4],
 (.seq
 (.reg false [⟨2, .bx (.t 0), none, false⟩,
 ⟨4, .mv (.k (.sc (.int .i64 0))), none, false⟩])
 (.seq
 (.rgw [⟨5, .fa 0 (.t 2), none, false⟩,
 ⟨6, .ld 4 true (.t 5), none, false⟩,
 ⟨7, .mv (.t 1), none, false⟩,
 ⟨8, .cw 55 [] [(.t 6), (.t 7)], none, false⟩,
 ⟨1, .mv (.t 8), none, false⟩])
 (.seq
 (.rgw [⟨9, .fa 4 (.t 2), none, false⟩,
 ⟨10, .ld 1 false (.t 9), none, false⟩,
 ⟨11, .mv (.t 1), none, false⟩,
 ⟨12, .cw 77 [] [(.t 10), (.t 11)], none, false⟩,
 ⟨1, .mv (.t 12), none, false⟩])
 (.seq
 (.reg false [⟨13, .mv (.t 1), none, false⟩,
 ⟨4, .mv (.t 13), none, false⟩])
 .ret))))⟩
attribute [simp] i34
set_option maxRecDepth 1000000 in
theorem c34 : cFn Try.prog 34 [[55, 77]] = some i34 := by kernel_rfl
theorem e34 : enterOk Try.prog 34 = true := by kernel_rfl
def i35 : Ev.Fn := ⟨2, 18, [.tmp 4],
 (.seq
 (.reg false [⟨2, .bx (.t 0), none, false⟩,
 ⟨4, .mv (.k (.sc (.int .i64 0))), none, false⟩])
 (.seq
 (.reg false [⟨5, .fa 0 (.t 2), none, false⟩,
 ⟨6, .ld 4 true (.t 5), none, false⟩,
 ⟨7, .mv (.t 1), none, false⟩,
 ⟨8, .ca (.k (.cl 56 [])) [(.t 6), (.t 7)], none, false⟩,
 ⟨1, .mv (.t 8), none, false⟩])
 (.seq
 (.seq
 (.reg false [⟨9, .mv (.t 1), none, false⟩,
 ⟨10, .ar .lss false (.t 9) (.k (.sc (.int .i64 0))), none, false⟩])
 (.ite (.t 10)
 (.seq
 (.reg false [⟨4, .mv (.k (.sc (.int .i64 (-1)))), none, false⟩])
 .ret)
 .skip))
 (.seq
 (.reg false [⟨11, .fa 4 (.t 2), none, false⟩,
 ⟨12, .ld 1 false (.t 11), none, false⟩,
 ⟨13, .mv (.t 1), none, false⟩,
 ⟨14, .ca (.k (.cl 78 [])) [(.t 12), (.t 13)], none, false⟩,
 ⟨1, .mv (.t 14), none, false⟩])
 (.seq
 (.seq
 (.reg false [⟨15, .mv (.t 1), none, false⟩,
 ⟨16, .ar .lss false (.t 15) (.k (.sc (.int .i64 0))), none, false⟩])
 (.ite (.t 16)
 (.seq
 (.reg false [⟨4, .mv (.k (.sc (.int .i64 (-1)))), none, false⟩])
 .ret)
 .skip))
 (.seq
 (.reg false [⟨17, .mv (.t 1), none, false⟩,
 ⟨4, .mv (.t 17), none, false⟩])
 .ret))))))⟩
attribute [simp] i35
set_option maxRecDepth 1000000 in
theorem c35 : cFn Try.prog 35 [[]] = some i35 := by kernel_rfl
theorem e35 : enterOk Try.prog 35 = true := by kernel_rfl
def i44 : Ev.Fn := ⟨2, 12, [.tmp 4],
 (.seq
 (.reg false [⟨4, .mv (.k (.sc (.int .i64 0))), none, false⟩])
 (.seq
 (.reg false [⟨5, .mv (.t 1), none, false⟩,
 ⟨6, .mv (.t 0), none, false⟩,
 ⟨7, .ln false (.t 6), none, false⟩,
 ⟨8, .ar .sub false (.t 5) (.t 7), none, false⟩,
 ⟨1, .mv (.t 8), none, false⟩])
 (.seq
 (.seq
 (.reg false [⟨9, .mv (.t 1), none, false⟩,
 ⟨10, .ar .lss false (.t 9) (.k (.sc (.int .i64 0))), none, false⟩])
 (.ite (.t 10)
 (.seq
 (.reg false [⟨4, .mv (.k (.sc (.int .i64 (-1)))), none, false⟩])
 .ret)
 .skip))
 (.seq
 (.reg false [⟨11, .mv (.t 1), none, false⟩,
 ⟨4, .mv (.t 11), none, false⟩])
 .ret))))⟩
attribute [simp] i44
set_option maxRecDepth 1000000 in
theorem c44 : cFn Try.prog 44 [[]] = some i44 := by kernel_rfl
theorem e44 : enterOk Try.prog 44 = true := by kernel_rfl
def w46_1 : IC :=
(.seq
 (.seq
 (.reg false [⟨8, .mv (.t 4), none, false⟩,
 ⟨9, .mv (.t 0), none, false⟩,
 ⟨10, .ln false (.t 9), none, false⟩,
 ⟨11, .ar .lss false (.t 8) (.t 10), none, false⟩])
 (.ite (.t 11)
 .skip
 (.exit 0)))
 (.seq
 (.block 1
 (.reg false [⟨14, .mv (.t 3), none, false⟩,
 ⟨15, .mv (.t 4), none, false⟩,
 ⟨16, .mv (.t 0), none, false⟩,
 ⟨17, .mv (.t 4), none, false⟩,
 ⟨18, .ia 2 (.t 16) (.t 17), none, false⟩,
 ⟨19, .ld 2 true (.t 18), none, false⟩,
 ⟨20, .ca (.k (.cl 101 [])) [(.t 19)], none, false⟩,
 ⟨21, .ia 2 (.t 14) (.t 15), none, false⟩,
 ⟨1, .so 2 (.t 21) (.t 20), none, true⟩]))
 (.reg false [⟨12, .mv (.t 4), none, false⟩,
 ⟨13, .ar .add false (.t 12) (.k (.sc (.int .i64 1))), none, false⟩,
 ⟨4, .mv (.t 13), none, false⟩])))
def b46_1 : IC := w46_1
theorem u46_1 (call : CallF) (st : St) : evC call b46_1 st = evC call w46_1 st := rfl
attribute [simp] u46_1 w46_1
def i46 : Ev.Fn := ⟨1, 23, [.tmp 2],
 (.seq
 (.reg false [⟨2, .mv (.k .nl), none, false⟩])
 (.seq
 (.reg false [⟨5, .mv (.t 0), none, false⟩,
 ⟨6, .ln false (.t 5), none, false⟩,
 ⟨7, .ms 146 2 [(.sc (.int .i64 0)), (.sc (.int .i64 0))] (.t 6), none, false⟩,
 ⟨3, .mv (.t 7), none, false⟩])
 (.seq
 (.seq
 (.reg false [⟨4, .mv (.k (.sc (.int .i64 0))), none, false⟩])
 (.cln [3] [2]
 (.block 0
 (.loop [0, 3, 4] b46_1))))
 (.seq
 (.reg false [⟨22, .mv (.t 3), none, false⟩,
 ⟨2, .mv (.t 22), none, false⟩])
 .ret))))⟩
attribute [simp] i46
set_option maxRecDepth 1000000 in
theorem c46 : cFn Try.prog 46 [[], [0, 3, 4], [3], [2]] = some i46 := by kernel_rfl
theorem e46 : enterOk Try.prog 46 = true := by kernel_rfl
def w49_1 : IC :=
(.seq
 (.seq
 (.reg false [⟨11, .mv (.t 5), none, false⟩,
 ⟨12, .mv (.t 0), none, false⟩,
 ⟨13, .ln false (.t 12), none, false⟩,
 ⟨14, .ar .lss false (.t 11) (.t 13), none, false⟩])
 (.ite (.t 14)
 .skip
 (.exit 0)))
 (.seq
 (.block 1
 (.seq
 (.reg true [⟨17, .mv (.t 0), none, false⟩,
 ⟨18, .mv (.t 5), none, false⟩,
 ⟨19, .ia 2 (.t 17) (.t 18), none, false⟩,
 ⟨20, .ld 2 true (.t 19), none, false⟩,
 ⟨21, .mv (.t 1), none, false⟩,
 ⟨22, .mv (.t 5), none, false⟩,
 ⟨23, .ia 2 (.t 21) (.t 22), none, false⟩,
 ⟨24, .ld 2 true (.t 23), none, false⟩,
 ⟨25, .ca (.k (.cl 105 [])) [(.t 20), (.t 24)], none, false⟩,
 ⟨26, .nt (.t 25), none, false⟩])
 (.ite (.t 26)
 (.seq
 (.reg false [⟨4, .mv (.k (.sc (.bool false))), none, false⟩])
 .ret)
 .skip)))
 (.reg false [⟨15, .mv (.t 5), none, false⟩,
 ⟨16, .ar .add false (.t 15) (.k (.sc (.int .i64 1))), none, false⟩,
 ⟨5, .mv (.t 16), none, false⟩])))
def b49_1 : IC := w49_1
theorem u49_1 (call : CallF) (st : St) : evC call b49_1 st = evC call w49_1 st := rfl
attribute [simp] u49_1 w49_1
def i49 : Ev.Fn := ⟨2, 27, [.tmp 4],
 (.seq
 (.reg false [⟨4, .mv (.k (.sc (.bool false))), none, false⟩])
 (.seq
 (.seq
 (.reg false [⟨6, .mv (.t 0), none, false⟩,
 ⟨7, .ln false (.t 6), none, false⟩,
 ⟨8, .mv (.t 1), none, false⟩,
 ⟨9, .ln false (.t 8), none, false⟩,
 ⟨10, .ar .neq false (.t 7) (.t 9), none, false⟩])
 (.ite (.t 10)
 (.seq
 (.reg false [⟨4, .mv (.k (.sc (.bool false))), none, false⟩])
 .ret)
 .skip))
 (.seq
 (.seq
 (.reg false [⟨5, .mv (.k (.sc (.int .i64 0))), none, false⟩])
 (.cln [] [4]
 (.block 0
 (.loop [0, 1, 5] b49_1))))
 (.seq
 (.reg false [⟨4, .mv (.k (.sc (.bool true))), none, false⟩])
 .ret))))⟩
attribute [simp] i49
set_option maxRecDepth 1000000 in
theorem c49 : cFn Try.prog 49 [[], [0, 1, 5], [], [4]] = some i49 := by kernel_rfl
theorem e49 : enterOk Try.prog 49 = true := by kernel_rfl
def i50 : Ev.Fn := ⟨2, 18, [.tmp 4],
 (.seq
 (.reg false [⟨2, .bx (.t 0), none, false⟩,
 ⟨4, .mv (.k (.sc (.int .i64 0))), none, false⟩])
 (.seq
 (.reg false [⟨5, .fa 2 (.t 2), none, false⟩,
 ⟨6, .ld 1 false (.t 5), none, false⟩,
 ⟨7, .mv (.t 1), none, false⟩,
 ⟨8, .ca (.k (.cl 44 [])) [(.t 6), (.t 7)], none, false⟩,
 ⟨1, .mv (.t 8), none, false⟩])
 (.seq
 (.seq
 (.reg false [⟨9, .mv (.t 1), none, false⟩,
 ⟨10, .ar .lss false (.t 9) (.k (.sc (.int .i64 0))), none, false⟩])
 (.ite (.t 10)
 (.seq
 (.reg false [⟨4, .mv (.k (.sc (.int .i64 (-1)))), none, false⟩])
 .ret)
 .skip))
 (.seq
 (.reg false [⟨11, .fa 3 (.t 2), none, false⟩,
 ⟨12, .ld 1 false (.t 11), none, false⟩,
 ⟨13, .mv (.t 1), none, false⟩,
 ⟨14, .ca (.k (.cl 106 [])) [(.t 12), (.t 13)], none, false⟩,
 ⟨1, .mv (.t 14), none, false⟩])
 (.seq
 (.seq
 (.reg false [⟨15, .mv (.t 1), none, false⟩,
 ⟨16, .ar .lss false (.t 15) (.k (.sc (.int .i64 0))), none, false⟩])
 (.ite (.t 16)
 (.seq
 (.reg false [⟨4, .mv (.k (.sc (.int .i64 (-1)))), none, false⟩])
 .ret)
 .skip))
 (.seq
 (.reg false [⟨17, .mv (.t 1), none, false⟩,
 ⟨4, .mv (.t 17), none, false⟩])
 .ret))))))⟩
attribute [simp] i50
set_option maxRecDepth 1000000 in
theorem c50 : cFn Try.prog 50 [[]] = some i50 := by kernel_rfl
theorem e50 : enterOk Try.prog 50 = true := by kernel_rfl
def i52 : Ev.Fn := ⟨1, 19, [.cell 2 4 true],
 (.seq
 (.reg false [⟨1, .bx (.t 0), none, false⟩,
 ⟨2, .al [(.sc (.int .i64 0)), (.sc (.int .i64 0)), .nl, .nl], none, false⟩])
 (.seq
 (.reg false [⟨3, .al [(.sc (.int .i64 0)), (.sc (.int .i64 0)), .nl, .nl], none, false⟩])
 (.seq
 (.reg false [⟨4, .fa 0 (.t 1), none, false⟩,
 ⟨5, .ld 1 false (.t 4), none, false⟩,
 ⟨6, .fa 0 (.t 3), none, false⟩,
 ⟨1, .so 1 (.t 6) (.t 5), none, true⟩])
 (.seq
 (.reg false [⟨7, .fa 1 (.t 1), none, false⟩,
 ⟨8, .ld 1 false (.t 7), none, false⟩,
 ⟨9, .fa 1 (.t 3), none, false⟩,
 ⟨1, .so 1 (.t 9) (.t 8), none, true⟩])
 (.seq
 (.reg false [⟨10, .fa 2 (.t 1), none, false⟩,
 ⟨11, .ld 1 false (.t 10), none, false⟩,
 ⟨12, .ca (.k (.cl 46 [])) [(.t 11)], none, false⟩,
 ⟨13, .fa 2 (.t 3), none, false⟩,
 ⟨1, .so 1 (.t 13) (.t 12), none, true⟩])
 (.seq
 (.reg false [⟨14, .fa 3 (.t 1), none, false⟩,
 ⟨15, .ld 1 false (.t 14), none, false⟩,
 ⟨16, .ca (.k (.cl 111 [])) [(.t 15)], none, false⟩,
 ⟨17, .fa 3 (.t 3), none, false⟩,
 ⟨1, .so 1 (.t 17) (.t 16), none, true⟩])
 (.seq
 (.reg false [⟨18, .ld 4 true (.t 3), none, false⟩,
 ⟨1, .so 4 (.t 2) (.t 18), none, true⟩])
 .ret)))))))⟩
attribute [simp] i52
set_option maxRecDepth 1000000 in
theorem c52 : cFn Try.prog 52 [[]] = some i52 := by kernel_rfl
theorem e52 : enterOk Try.prog 52 = true := by kernel_rfl
def i54 : Ev.Fn := ⟨2, 27, [.tmp 4],
 (.seq
 (.reg false [⟨2, .bx (.t 0), none, false⟩,
 ⟨3, .bx (.t 1), none, false⟩,
 ⟨4, .mv (.k (.sc (.bool false))), none, false⟩])
 (.seq
 (.seq
 (.reg false [⟨5, .fa 0 (.t 2), none, false⟩,
 ⟨6, .ld 1 false (.t 5), none, false⟩,
 ⟨7, .fa 0 (.t 3), none, false⟩,
 ⟨8, .ld 1 false (.t 7), none, false⟩,
 ⟨9, .ar .neq false (.t 6) (.t 8), none, false⟩])
 (.ite (.t 9)
 (.seq
 (.reg false [⟨4, .mv (.k (.sc (.bool false))), none, false⟩])
 .ret)
 .skip))
 (.seq
 (.seq
 (.reg false [⟨10, .fa 1 (.t 2), none, false⟩,
 ⟨11, .ld 1 false (.t 10), none, false⟩,
 ⟨12, .fa 1 (.t 3), none, false⟩,
 ⟨13, .ld 1 false (.t 12), none, false⟩,
 ⟨14, .ar .neq false (.t 11) (.t 13), none, false⟩])
 (.ite (.t 14)
 (.seq
 (.reg false [⟨4, .mv (.k (.sc (.bool false))), none, false⟩])
 .ret)
 .skip))
 (.seq
 (.seq
 (.reg false [⟨15, .fa 2 (.t 2), none, false⟩,
 ⟨16, .ld 1 false (.t 15), none, false⟩,
 ⟨17, .fa 2 (.t 3), none, false⟩,
 ⟨18, .ld 1 false (.t 17), none, false⟩,
 ⟨19, .ca (.k (.cl 49 [])) [(.t 16), (.t 18)], none, false⟩,
 ⟨20, .nt (.t 19), none, false⟩])
 (.ite (.t 20)
 (.seq
 (.reg false [⟨4, .mv (.k (.sc (.bool false))), none, false⟩])
 .ret)
 .skip))
 (.seq
 (.seq
 (.reg false [⟨21, .fa 3 (.t 2), none, false⟩,
 ⟨22, .ld 1 false (.t 21), none, false⟩,
 ⟨23, .fa 3 (.t 3), none, false⟩,
 ⟨24, .ld 1 false (.t 23), none, false⟩,
 ⟨25, .ca (.k (.cl 117 [])) [(.t 22), (.t 24)], none, false⟩,
 ⟨26, .nt (.t 25), none, false⟩])
 (.ite (.t 26)
 (.seq
 (.reg false [⟨4, .mv (.k (.sc (.bool false))), none, false⟩])
 .ret)
 .skip))
 (.seq
 (.reg false [⟨4, .mv (.k (.sc (.bool true))), none, false⟩])
 .ret))))))⟩
attribute [simp] i54
set_option maxRecDepth 1000000 in
theorem c54 : cFn Try.prog 54 [[]] = some i54 := by kernel_rfl
theorem e54 : enterOk Try.prog 54 = true := by kernel_rfl
def i55 : Ev.Fn := ⟨2, 14, [.tmp 4],
 (.seq
 (.reg false [⟨2, .bx (.t 0), none, false⟩,
 ⟨4, .mv (.k (.sc (.int .i64 0))), none, false⟩])
 (.seq
 (.rgw [⟨5, .fa 2 (.t 2), none, false⟩,
 ⟨6, .ld 1 false (.t 5), none, false⟩,
 ⟨7, .mv (.t 1), none, false⟩,
 ⟨8, .cw 118 [] [(.t 6), (.t 7)], none, false⟩,
 ⟨1, .mv (.t 8), none, false⟩])
 (.seq
 (.rgw [⟨9, .fa 3 (.t 2), none, false⟩,
 ⟨10, .ld 1 false (.t 9), none, false⟩,
 ⟨11, .mv (.t 1), none, false⟩,
 ⟨12, .cw 119 [] [(.t 10), (.t 11)], none, false⟩,
 ⟨1, .mv (.t 12), none, false⟩])
 (.seq
 (.reg false [⟨13, .mv (.t 1), none, false⟩,
 ⟨4, .mv (.t 13), none, false⟩])
 .ret))))⟩
attribute [simp] i55
set_option maxRecDepth 1000000 in
theorem c55 : cFn Try.prog 55 [[118, 119]] = some i55 := by kernel_rfl
theorem e55 : enterOk Try.prog 55 = true := by kernel_rfl
def i56 : Ev.Fn := ⟨2, 18, [.tmp 4],
 (.seq
 (.reg false [⟨2, .bx (.t 0), none, false⟩,
 ⟨4, .mv (.k (.sc (.int .i64 0))), none, false⟩])
 (.seq
 (.reg false [⟨5, .fa 2 (.t 2), none, false⟩,
 ⟨6, .ld 1 false (.t 5), none, false⟩,
 ⟨7, .mv (.t 1), none, false⟩,
 ⟨8, .ca (.k (.cl 120 [])) [(.t 6), (.t 7)], none, false⟩,
 ⟨1, .mv (.t 8), none, false⟩])
 (.seq
 (.seq
 (.reg false [⟨9, .mv (.t 1), none, false⟩,
 ⟨10, .ar .lss false (.t 9) (.k (.sc (.int .i64 0))), none, false⟩])
 (.ite (.t 10)
 (.seq
 (.reg false [⟨4, .mv (.k (.sc (.int .i64 (-1)))), none, false⟩])
 .ret)
 .skip))
 (.seq
 (.reg false [⟨11, .fa 3 (.t 2), none, false⟩,
 ⟨12, .ld 1 false (.t 11), none, false⟩,
 ⟨13, .mv (.t 1), none, false⟩,
 ⟨14, .ca (.k (.cl 121 [])) [(.t 12), (.t 13)], none, false⟩,
 ⟨1, .mv (.t 14), none, false⟩])
 (.seq
 (.seq
 (.reg false [⟨15, .mv (.t 1), none, false⟩,
 ⟨16, .ar .lss false (.t 15) (.k (.sc (.int .i64 0))), none, false⟩])
 (.ite (.t 16)
 (.seq
 (.reg false [⟨4, .mv (.k (.sc (.int .i64 (-1)))), none, false⟩])
 .ret)
 .skip))
 (.seq
 (.reg false [⟨17, .mv (.t 1), none, false⟩,
 ⟨4, .mv (.t 17), none, false⟩])
 .ret))))))⟩
attribute [simp] i56
set_option maxRecDepth 1000000 in
theorem c56 : cFn Try.prog 56 [[]] = some i56 := by kernel_rfl
theorem e56 : enterOk Try.prog 56 = true := by kernel_rfl
def i59 : Ev.Fn := ⟨1, 6, [.tmp 2],
 (.seq
 (.reg false [⟨2, .mv (.k .nl), none, false⟩])
 (.seq
 (.reg false [⟨3, .bs 2 1 [(.sc (.int .i64 0))] 0 [], none, false⟩,
 ⟨4, .mv (.t 0), none, false⟩,
 ⟨5, .ap 2 1 false (.t 3) (.t 4), none, false⟩,
 ⟨2, .mv (.t 5), none, false⟩])
 .ret))⟩
attribute [simp] i59
set_option maxRecDepth 1000000 in
theorem c59 : cFn Try.prog 59 [[]] = some i59 := by kernel_rfl
theorem e59 : enterOk Try.prog 59 = true := by kernel_rfl
def i61 : Ev.Fn := ⟨1, 8, [.tmp 2],
 (.seq
 (.reg false [⟨2, .mv (.k .nl), none, false⟩])
 (.seq
 (.seq
 (.reg false [⟨3, .mv (.t 0), none, false⟩,
 ⟨4, .isn false (.t 3), none, false⟩])
 (.ite (.t 4)
 (.seq
 (.reg false [⟨2, .mv (.k .nl), none, false⟩])
 .ret)
 .skip))
 (.seq
 (.reg false [⟨5, .bs 2 1 [(.sc (.int .i64 0))] 0 [], none, false⟩,
 ⟨6, .mv (.t 0), none, false⟩,
 ⟨7, .ap 2 1 false (.t 5) (.t 6), none, false⟩,
 ⟨2, .mv (.t 7), none, false⟩])
 .ret)))⟩
attribute [simp] i61
set_option maxRecDepth 1000000 in
theorem c61 : cFn Try.prog 61 [[]] = some i61 := by kernel_rfl
theorem e61 : enterOk Try.prog 61 = true := by kernel_rfl
def w62_1 : IC :=
(.seq
 (.seq
 (.reg false [⟨6, .mv (.t 0), none, false⟩,
 ⟨7, .ar .gtr false (.t 6) (.k (.sc (.int .i64 0))), none, false⟩])
 (.ite (.t 7)
 .skip
 (.exit 0)))
 (.block 1
 (.seq
 (.reg false [⟨8, .mv (.t 0), none, false⟩,
 ⟨9, .ar .rem false (.t 8) (.k (.sc (.int .i64 10))), none, false⟩,
 ⟨10, .ar .add false (.k (.sc (.int .i64 48))) (.t 9), none, false⟩,
 ⟨11, .cv .u8 (.t 10), none, false⟩,
 ⟨12, .bs 5 1 [(.sc (.int .u8 0))] 1 [(0, (.t 11))], none, false⟩,
 ⟨13, .by (.t 12), none, false⟩,
 ⟨14, .mv (.t 3), none, false⟩,
 ⟨15, .ar .add false (.t 13) (.t 14), none, false⟩,
 ⟨3, .mv (.t 15), none, false⟩])
 (.reg false [⟨16, .mv (.t 0), none, false⟩,
 ⟨17, .ar .quo false (.t 16) (.k (.sc (.int .i64 10))), none, false⟩,
 ⟨0, .mv (.t 17), none, false⟩]))))
def b62_1 : IC := w62_1
theorem u62_1 (call : CallF) (st : St) : evC call b62_1 st = evC call w62_1 st := rfl
attribute [simp] u62_1 w62_1
def i62 : Ev.Fn := ⟨1, 20, [.tmp 2],
 (.seq
 (.reg false [⟨2, .mv (.k (.sc (.string ⟨#[]⟩))), none, false⟩])
 (.seq
 (.seq
 (.reg false [⟨4, .mv (.t 0), none, false⟩,
 ⟨5, .ar .leq false (.t 4) (.k (.sc (.int .i64 0))), none, false⟩])
 (.ite (.t 5)
 (.seq
 (.reg false [⟨2, .mv (.k (.sc (.string ⟨#[109, 48]⟩))), none, false⟩])
 .ret)
 .skip))
 (.seq
 (.reg false [⟨3, .mv (.k (.sc (.string ⟨#[]⟩))), none, false⟩])
 (.seq
 (.cln [3] [2]
 (.block 0
 (.loop [0, 3] b62_1)))
 (.seq
 (.reg false [⟨18, .mv (.t 3), none, false⟩,
 ⟨19, .ar .add false (.k (.sc (.string ⟨#[109]⟩))) (.t 18), none, false⟩,
 ⟨2, .mv (.t 19), none, false⟩])
 .ret)))))⟩
attribute [simp] i62
set_option maxRecDepth 1000000 in
theorem c62 : cFn Try.prog 62 [[], [0, 3], [3], [2]] = some i62 := by kernel_rfl
theorem e62 : enterOk Try.prog 62 = true := by kernel_rfl
def w64_1 : IC :=
(.seq
 (.seq
 (.reg false [⟨12, .mv (.t 5), none, false⟩,
 ⟨13, .mv (.t 0), none, false⟩,
 ⟨14, .ln false (.t 13), none, false⟩,
 ⟨15, .ar .lss false (.t 12) (.t 14), none, false⟩])
 (.ite (.t 15)
 .skip
 (.exit 0)))
 (.seq
 (.block 1
 (.seq
 (.reg false [⟨18, .mv (.t 0), none, false⟩,
 ⟨19, .mv (.t 5), none, false⟩,
 ⟨20, .ia 3 (.t 18) (.t 19), none, false⟩,
 ⟨21, .ld 3 true (.t 20), none, false⟩,
 ⟨22, .mv (.t 1), none, false⟩,
 ⟨23, .ca (.k (.cl 30 [])) [(.t 21), (.t 22)], none, false⟩,
 ⟨1, .mv (.t 23), none, false⟩])
 (.seq
 (.reg false [⟨24, .mv (.t 1), none, false⟩,
 ⟨25, .ar .lss false (.t 24) (.k (.sc (.int .i64 0))), none, false⟩])
 (.ite (.t 25)
 (.seq
 (.reg false [⟨4, .mv (.k (.sc (.int .i64 (-1)))), none, false⟩])
 .ret)
 .skip))))
 (.reg false [⟨16, .mv (.t 5), none, false⟩,
 ⟨17, .ar .add false (.t 16) (.k (.sc (.int .i64 1))), none, false⟩,
 ⟨5, .mv (.t 17), none, false⟩])))
def b64_1 : IC := w64_1
theorem u64_1 (call : CallF) (st : St) : evC call b64_1 st = evC call w64_1 st := rfl
attribute [simp] u64_1 w64_1
def i64 : Ev.Fn := ⟨2, 27, [.tmp 4],
 (.seq
 (.reg false [⟨4, .mv (.k (.sc (.int .i64 0))), none, false⟩])
 (.seq
 (.reg false [⟨6, .mv (.t 1), none, false⟩,
 ⟨7, .mv (.t 0), none, false⟩,
 ⟨8, .ln false (.t 7), none, false⟩,
 ⟨9, .ar .sub false (.t 6) (.t 8), none, false⟩,
 ⟨1, .mv (.t 9), none, false⟩])
 (.seq
 (.seq
 (.reg false [⟨10, .mv (.t 1), none, false⟩,
 ⟨11, .ar .lss false (.t 10) (.k (.sc (.int .i64 0))), none, false⟩])
 (.ite (.t 11)
 (.seq
 (.reg false [⟨4, .mv (.k (.sc (.int .i64 (-1)))), none, false⟩])
 .ret)
 .skip))
 (.seq
 (.seq
 (.reg false [⟨5, .mv (.k (.sc (.int .i64 0))), none, false⟩])
 (.cln [1] [4]
 (.block 0
 (.loop [0, 1, 5] b64_1))))
 (.seq
 (.reg false [⟨26, .mv (.t 1), none, false⟩,
 ⟨4, .mv (.t 26), none, false⟩])
 .ret)))))⟩
attribute [simp] i64
set_option maxRecDepth 1000000 in
theorem c64 : cFn Try.prog 64 [[], [0, 1, 5], [1], [4]] = some i64 := by kernel_rfl
theorem e64 : enterOk Try.prog 64 = true := by kernel_rfl
def i65 : Ev.Fn := ⟨1, 28, [.tmp 2],
 (.seq
 (.reg false [⟨2, .mv (.k (.sc (.bool false))), none, false⟩])
 (.seq
 (.reg true [⟨3, .mv (.t 0), none, false⟩,
 ⟨4, .nc (.t 3), none, false⟩,
 ⟨5, .fa 0 (.t 4), none, false⟩,
 ⟨6, .ca (.k (.cl 126 [])) [(.t 5)], none, false⟩,
 ⟨7, .mv (.t 6), none, false⟩,
 ⟨8, .mv (.t 0), (some (7, true)), false⟩,
 ⟨9, .nc (.t 8), (some (7, true)), false⟩,
 ⟨10, .fa 4 (.t 9), (some (7, true)), false⟩,
 ⟨11, .ld 1 false (.t 10), (some (7, true)), false⟩,
 ⟨12, .ca (.k (.cl 127 [])) [(.t 11)], (some (7, true)), false⟩,
 ⟨13, .pk (.t 7) (.t 12) (.k (.sc (.bool false))), none, false⟩,
 ⟨14, .mv (.t 13), none, false⟩,
 ⟨15, .mv (.t 0), (some (14, true)), false⟩,
 ⟨16, .nc (.t 15), (some (14, true)), false⟩,
 ⟨17, .fa 4 (.t 16), (some (14, true)), false⟩,
 ⟨18, .ld 1 false (.t 17), (some (14, true)), false⟩,
 ⟨19, .ln false (.t 18), (some (14, true)), false⟩,
 ⟨20, .mv (.t 0), (some (14, true)), false⟩,
 ⟨21, .nc (.t 20), (some (14, true)), false⟩,
 ⟨22, .fa 0 (.t 21), (some (14, true)), false⟩,
 ⟨23, .fa 3 (.t 22), (some (14, true)), false⟩,
 ⟨24, .ld 1 false (.t 23), (some (14, true)), false⟩,
 ⟨25, .ln false (.t 24), (some (14, true)), false⟩,
 ⟨26, .ar .eql false (.t 19) (.t 25), (some (14, true)), false⟩,
 ⟨27, .pk (.t 14) (.t 26) (.k (.sc (.bool false))), none, false⟩,
 ⟨2, .mv (.t 27), none, false⟩])
 .ret))⟩
attribute [simp] i65
set_option maxRecDepth 1000000 in
theorem c65 : cFn Try.prog 65 [[]] = some i65 := by kernel_rfl
theorem e65 : enterOk Try.prog 65 = true := by kernel_rfl
def w67_1 : IC :=
(.seq
 (.seq
 (.reg false [⟨8, .mv (.t 4), none, false⟩,
 ⟨9, .mv (.t 0), none, false⟩,
 ⟨10, .ln false (.t 9), none, false⟩,
 ⟨11, .ar .lss false (.t 8) (.t 10), none, false⟩])
 (.ite (.t 11)
 .skip
 (.exit 0)))
 (.seq
 (.block 1
 (.reg false [⟨14, .mv (.t 3), none, false⟩,
 ⟨15, .mv (.t 4), none, false⟩,
 ⟨16, .mv (.t 0), none, false⟩,
 ⟨17, .mv (.t 4), none, false⟩,
 ⟨18, .ia 3 (.t 16) (.t 17), none, false⟩,
 ⟨19, .ld 3 true (.t 18), none, false⟩,
 ⟨20, .ca (.k (.cl 32 [])) [(.t 19)], none, false⟩,
 ⟨21, .ia 3 (.t 14) (.t 15), none, false⟩,
 ⟨1, .so 3 (.t 21) (.t 20), none, true⟩]))
 (.reg false [⟨12, .mv (.t 4), none, false⟩,
 ⟨13, .ar .add false (.t 12) (.k (.sc (.int .i64 1))), none, false⟩,
 ⟨4, .mv (.t 13), none, false⟩])))
def b67_1 : IC := w67_1
theorem u67_1 (call : CallF) (st : St) : evC call b67_1 st = evC call w67_1 st := rfl
attribute [simp] u67_1 w67_1
def i67 : Ev.Fn := ⟨1, 23, [.tmp 2],
 (.seq
 (.reg false [⟨2, .mv (.k .nl), none, false⟩])
 (.seq
 (.reg false [⟨5, .mv (.t 0), none, false⟩,
 ⟨6, .ln false (.t 5), none, false⟩,
 ⟨7, .ms 64 3 [(.sc (.string ⟨#[]⟩)), (.sc (.int .i64 0)), (.sc (.int .i64 0))] (.t 6), none, false⟩,
 ⟨3, .mv (.t 7), none, false⟩])
 (.seq
 (.seq
 (.reg false [⟨4, .mv (.k (.sc (.int .i64 0))), none, false⟩])
 (.cln [3] [2]
 (.block 0
 (.loop [0, 3, 4] b67_1))))
 (.seq
 (.reg false [⟨22, .mv (.t 3), none, false⟩,
 ⟨2, .mv (.t 22), none, false⟩])
 .ret))))⟩
attribute [simp] i67
set_option maxRecDepth 1000000 in
theorem c67 : cFn Try.prog 67 [[], [0, 3, 4], [3], [2]] = some i67 := by kernel_rfl
theorem e67 : enterOk Try.prog 67 = true := by kernel_rfl
def i68 : Ev.Fn := ⟨1, 21, [.tmp 2],
 (.seq
 (.reg false [⟨1, .bx (.t 0), none, false⟩,
 ⟨2, .mv (.k (.sc (.bool false))), none, false⟩])
 (.seq
 (.reg false [⟨3, .fa 0 (.t 1), none, false⟩,
 ⟨4, .ld 4 true (.t 3), none, false⟩,
 ⟨5, .ca (.k (.cl 130 [])) [(.t 4)], none, false⟩,
 ⟨6, .mv (.t 5), none, false⟩,
 ⟨7, .fa 4 (.t 1), (some (6, true)), false⟩,
 ⟨8, .ld 1 false (.t 7), (some (6, true)), false⟩,
 ⟨9, .ln false (.t 8), (some (6, true)), false⟩,
 ⟨10, .fa 0 (.t 1), (some (6, true)), false⟩,
 ⟨11, .fa 3 (.t 10), (some (6, true)), false⟩,
 ⟨12, .ld 1 false (.t 11), (some (6, true)), false⟩,
 ⟨13, .ln false (.t 12), (some (6, true)), false⟩,
 ⟨14, .ar .eql false (.t 9) (.t 13), (some (6, true)), false⟩,
 ⟨15, .pk (.t 6) (.t 14) (.k (.sc (.bool false))), none, false⟩,
 ⟨16, .mv (.t 15), none, false⟩,
 ⟨17, .fa 4 (.t 1), (some (16, true)), false⟩,
 ⟨18, .ld 1 false (.t 17), (some (16, true)), false⟩,
 ⟨19, .ca (.k (.cl 131 [])) [(.t 18)], (some (16, true)), false⟩,
 ⟨20, .pk (.t 16) (.t 19) (.k (.sc (.bool false))), none, false⟩,
 ⟨2, .mv (.t 20), none, false⟩])
 .ret))⟩
attribute [simp] i68
set_option maxRecDepth 1000000 in
theorem c68 : cFn Try.prog 68 [[]] = some i68 := by kernel_rfl
theorem e68 : enterOk Try.prog 68 = true := by kernel_rfl
def w70_1 : IC :=
(.seq
 (.seq
 (.reg false [⟨11, .mv (.t 5), none, false⟩,
 ⟨12, .mv (.t 0), none, false⟩,
 ⟨13, .ln false (.t 12), none, false⟩,
 ⟨14, .ar .lss false (.t 11) (.t 13), none, false⟩])
 (.ite (.t 14)
 .skip
 (.exit 0)))
 (.seq
 (.block 1
 (.seq
 (.reg true [⟨17, .mv (.t 0), none, false⟩,
 ⟨18, .mv (.t 5), none, false⟩,
 ⟨19, .ia 3 (.t 17) (.t 18), none, false⟩,
 ⟨20, .ld 3 true (.t 19), none, false⟩,
 ⟨21, .mv (.t 1), none, false⟩,
 ⟨22, .mv (.t 5), none, false⟩,
 ⟨23, .ia 3 (.t 21) (.t 22), none, false⟩,
 ⟨24, .ld 3 true (.t 23), none, false⟩,
 ⟨25, .ca (.k (.cl 88 [])) [(.t 20), (.t 24)], none, false⟩,
 ⟨26, .nt (.t 25), none, false⟩])
 (.ite (.t 26)
 (.seq
 (.reg false [⟨4, .mv (.k (.sc (.bool false))), none, false⟩])
 .ret)
 .skip)))
 (.reg false [⟨15, .mv (.t 5), none, false⟩,
 ⟨16, .ar .add false (.t 15) (.k (.sc (.int .i64 1))), none, false⟩,
 ⟨5, .mv (.t 16), none, false⟩])))
def b70_1 : IC := w70_1
theorem u70_1 (call : CallF) (st : St) : evC call b70_1 st = evC call w70_1 st := rfl
attribute [simp] u70_1 w70_1
def i70 : Ev.Fn := ⟨2, 27, [.tmp 4],
 (.seq
 (.reg false [⟨4, .mv (.k (.sc (.bool false))), none, false⟩])
 (.seq
 (.seq
 (.reg false [⟨6, .mv (.t 0), none, false⟩,
 ⟨7, .ln false (.t 6), none, false⟩,
 ⟨8, .mv (.t 1), none, false⟩,
 ⟨9, .ln false (.t 8), none, false⟩,
 ⟨10, .ar .neq false (.t 7) (.t 9), none, false⟩])
 (.ite (.t 10)
 (.seq
 (.reg false [⟨4, .mv (.k (.sc (.bool false))), none, false⟩])
 .ret)
 .skip))
 (.seq
 (.seq
 (.reg false [⟨5, .mv (.k (.sc (.int .i64 0))), none, false⟩])
 (.cln [] [4]
 (.block 0
 (.loop [0, 1, 5] b70_1))))
 (.seq
 (.reg false [⟨4, .mv (.k (.sc (.bool true))), none, false⟩])
 .ret))))⟩
attribute [simp] i70
set_option maxRecDepth 1000000 in
theorem c70 : cFn Try.prog 70 [[], [0, 1, 5], [], [4]] = some i70 := by kernel_rfl
theorem e70 : enterOk Try.prog 70 = true := by kernel_rfl
def i71 : Ev.Fn := ⟨1, 42, [.tmp 2],
 (.seq
 (.reg false [⟨2, .mv (.k (.sc (.bool false))), none, false⟩])
 (.seq
 (.reg false [⟨5, .mv (.t 0), none, false⟩,
 ⟨6, .nc (.t 5), none, false⟩,
 ⟨7, .fa 0 (.t 6), none, false⟩,
 ⟨8, .ld 1 false (.t 7), none, false⟩,
 ⟨9, .ca (.k (.cl 134 [])) [(.t 8)], none, false⟩,
 ⟨3, .mv (.t 9), none, false⟩])
 (.seq
 (.seq
 (.reg false [⟨10, .mv (.t 3), none, false⟩,
 ⟨11, .ar .lss false (.t 10) (.k (.sc (.int .i64 0))), none, false⟩,
 ⟨12, .mv (.t 11), none, false⟩,
 ⟨13, .mv (.t 0), (some (12, false)), false⟩,
 ⟨14, .nc (.t 13), (some (12, false)), false⟩,
 ⟨15, .fa 1 (.t 14), (some (12, false)), false⟩,
 ⟨16, .ld 1 false (.t 15), (some (12, false)), false⟩,
 ⟨17, .ca (.k (.cl 135 [])) [(.t 16), (.k (.sc (.int .i64 0))), (.k (.sc (.int .i64 100)))], (some (12, false)), false⟩,
 ⟨18, .nt (.t 17), (some (12, false)), false⟩,
 ⟨19, .pk (.t 12) (.k (.sc (.bool true))) (.t 18), none, false⟩])
 (.ite (.t 19)
 (.seq
 (.reg false [⟨2, .mv (.k (.sc (.bool false))), none, false⟩])
 .ret)
 .skip))
 (.seq
 (.reg false [⟨20, .ca (.k (.cl 136 [])) [], none, false⟩,
 ⟨21, .mv (.t 3), none, false⟩,
 ⟨22, .ia 1 (.t 20) (.t 21), none, false⟩,
 ⟨23, .ld 1 false (.t 22), none, false⟩,
 ⟨24, .ia 1 (.t 23) (.k (.sc (.int .i64 0))), none, false⟩,
 ⟨25, .ld 1 false (.t 24), none, false⟩,
 ⟨4, .mv (.t 25), none, false⟩])
 (.seq
 (.reg false [⟨26, .mv (.t 0), none, false⟩,
 ⟨27, .nc (.t 26), none, false⟩,
 ⟨28, .fa 1 (.t 27), none, false⟩,
 ⟨29, .ld 1 false (.t 28), none, false⟩,
 ⟨30, .mv (.t 4), none, false⟩,
 ⟨31, .ar .sub false (.t 30) (.k (.sc (.int .i64 15))), none, false⟩,
 ⟨32, .mv (.t 4), none, false⟩,
 ⟨33, .ar .add false (.t 32) (.k (.sc (.int .i64 15))), none, false⟩,
 ⟨34, .ca (.k (.cl 135 [])) [(.t 29), (.t 31), (.t 33)], none, false⟩,
 ⟨35, .mv (.t 34), none, false⟩,
 ⟨36, .mv (.t 0), (some (35, true)), false⟩,
 ⟨37, .nc (.t 36), (some (35, true)), false⟩,
 ⟨38, .fa 2 (.t 37), (some (35, true)), false⟩,
 ⟨39, .ld 1 false (.t 38), (some (35, true)), false⟩,
 ⟨40, .ca (.k (.cl 137 [])) [(.t 39)], (some (35, true)), false⟩,
 ⟨41, .pk (.t 35) (.t 40) (.k (.sc (.bool false))), none, false⟩,
 ⟨2, .mv (.t 41), none, false⟩])
 .ret)))))⟩
attribute [simp] i71
set_option maxRecDepth 1000000 in
theorem c71 : cFn Try.prog 71 [[]] = some i71 := by kernel_rfl
theorem e71 : enterOk Try.prog 71 = true := by kernel_rfl
def i72 : Ev.Fn := ⟨2, 13, [.tmp 4],
 (.seq
 (.reg false [⟨4, .mv (.k (.sc (.bool false))), none, false⟩])
 (.seq
 (.reg false [⟨5, .mv (.t 1), none, false⟩,
 ⟨6, .mv (.t 0), none, false⟩,
 ⟨7, .nc (.t 6), none, false⟩,
 ⟨8, .fa 3 (.t 7), none, false⟩,
 ⟨9, .ld 1 false (.t 8), none, false⟩,
 ⟨10, .ln false (.t 9), none, false⟩,
 ⟨11, .ar .sub false (.t 10) (.k (.sc (.int .i64 1))), none, false⟩,
 ⟨12, .ca (.k (.cl 135 [])) [(.t 5), (.k (.sc (.int .i64 0))), (.t 11)], none, false⟩,
 ⟨4, .mv (.t 12), none, false⟩])
 .ret))⟩
attribute [simp] i72
set_option maxRecDepth 1000000 in
theorem c72 : cFn Try.prog 72 [[]] = some i72 := by kernel_rfl
theorem e72 : enterOk Try.prog 72 = true := by kernel_rfl
def i73 : Ev.Fn := ⟨1, 14, [.cell 2 5 true],
 (.seq
 (.reg false [⟨2, .al [(.sc (.int .i64 0)), (.sc (.int .i64 0)), .nl, .nl, .nl], none, false⟩])
 (.seq
 (.reg true [⟨3, .mv (.t 0), none, false⟩,
 ⟨4, .nc (.t 3), none, false⟩,
 ⟨5, .fa 0 (.t 4), none, false⟩,
 ⟨6, .ca (.k (.cl 138 [])) [(.t 5)], none, false⟩,
 ⟨7, .bs 64 3 [(.sc (.string ⟨#[]⟩)), (.sc (.int .i64 0)), (.sc (.int .i64 0))] 0 [], none, false⟩,
 ⟨8, .mv (.t 0), none, false⟩,
 ⟨9, .nc (.t 8), none, false⟩,
 ⟨10, .fa 4 (.t 9), none, false⟩,
 ⟨11, .ld 1 false (.t 10), none, false⟩,
 ⟨12, .ap 64 3 false (.t 7) (.t 11), none, false⟩,
 ⟨13, .bd [(.sc (.int .i64 0)), (.sc (.int .i64 0)), .nl, .nl, .nl] [(0, 4, (.t 6)), (4, 1, (.t 12))], none, false⟩,
 ⟨1, .so 5 (.t 2) (.t 13), none, true⟩])
 .ret))⟩
attribute [simp] i73
set_option maxRecDepth 1000000 in
theorem c73 : cFn Try.prog 73 [[]] = some i73 := by kernel_rfl
theorem e73 : enterOk Try.prog 73 = true := by kernel_rfl
def i74 : Ev.Fn := ⟨1, 29, [.tmp 2],
 (.seq
 (.reg false [⟨1, .bx (.t 0), none, false⟩,
 ⟨2, .mv (.k (.sc (.bool false))), none, false⟩])
 (.seq
 (.reg false [⟨6, .fa 0 (.t 1), none, false⟩,
 ⟨7, .ld 1 false (.t 6), none, false⟩,
 ⟨8, .ca (.k (.cl 139 [])) [(.t 7)], none, false⟩,
 ⟨5, .mv (.t 8), none, false⟩,
 ⟨9, .xt (.t 5) 0, none, false⟩,
 ⟨10, .xt (.t 5) 1, none, false⟩,
 ⟨3, .mv (.t 9), none, false⟩,
 ⟨4, .mv (.t 10), none, false⟩])
 (.seq
 (.reg false [⟨11, .mv (.t 4), none, false⟩,
 ⟨12, .mv (.t 11), none, false⟩,
 ⟨13, .fa 1 (.t 1), (some (12, true)), false⟩,
 ⟨14, .ld 1 false (.t 13), (some (12, true)), false⟩,
 ⟨15, .ca (.k (.cl 75 [])) [(.t 14), (.k (.sc (.int .i64 0))), (.k (.sc (.int .i64 100)))], (some (12, true)), false⟩,
 ⟨16, .pk (.t 12) (.t 15) (.k (.sc (.bool false))), none, false⟩,
 ⟨17, .mv (.t 16), none, false⟩,
 ⟨18, .fa 1 (.t 1), (some (17, true)), false⟩,
 ⟨19, .ld 1 false (.t 18), (some (17, true)), false⟩,
 ⟨20, .mv (.t 3), (some (17, true)), false⟩,
 ⟨21, .ar .sub false (.t 19) (.t 20), (some (17, true)), false⟩,
 ⟨22, .ca (.k (.cl 75 [])) [(.t 21), (.k (.sc (.int .i64 (-15)))), (.k (.sc (.int .i64 15)))], (some (17, true)), false⟩,
 ⟨23, .pk (.t 17) (.t 22) (.k (.sc (.bool false))), none, false⟩,
 ⟨24, .mv (.t 23), none, false⟩,
 ⟨25, .fa 2 (.t 1), (some (24, true)), false⟩,
 ⟨26, .ld 1 false (.t 25), (some (24, true)), false⟩,
 ⟨27, .ca (.k (.cl 75 [])) [(.t 26), (.k (.sc (.int .i64 0))), (.k (.sc (.int .i64 179)))], (some (24, true)), false⟩,
 ⟨28, .pk (.t 24) (.t 27) (.k (.sc (.bool false))), none, false⟩,
 ⟨2, .mv (.t 28), none, false⟩])
 .ret)))⟩
attribute [simp] i74
set_option maxRecDepth 1000000 in
theorem c74 : cFn Try.prog 74 [[]] = some i74 := by kernel_rfl
theorem e74 : enterOk Try.prog 74 = true := by kernel_rfl
def i75 : Ev.Fn := ⟨3, 15, [.tmp 6],
 (.seq
 (.reg false [⟨6, .mv (.k (.sc (.bool false))), none, false⟩])
 (.seq
 (.reg false [⟨7, .mv (.t 0), none, false⟩,
 ⟨8, .mv (.t 1), none, false⟩,
 ⟨9, .ar .geq false (.t 7) (.t 8), none, false⟩,
 ⟨10, .mv (.t 9), none, false⟩,
 ⟨11, .mv (.t 0), (some (10, true)), false⟩,
 ⟨12, .mv (.t 2), (some (10, true)), false⟩,
 ⟨13, .ar .leq false (.t 11) (.t 12), (some (10, true)), false⟩,
 ⟨14, .pk (.t 10) (.t 13) (.k (.sc (.bool false))), none, false⟩,
 ⟨6, .mv (.t 14), none, false⟩])
 .ret))⟩
attribute [simp] i75
set_option maxRecDepth 1000000 in
theorem c75 : cFn Try.prog 75 [[]] = some i75 := by kernel_rfl
theorem e75 : enterOk Try.prog 75 = true := by kernel_rfl
def i76 : Ev.Fn := ⟨1, 10, [.cell 2 5 true],
 (.seq
 (.reg false [⟨1, .bx (.t 0), none, false⟩,
 ⟨2, .al [(.sc (.int .i64 0)), (.sc (.int .i64 0)), .nl, .nl, .nl], none, false⟩])
 (.seq
 (.reg true [⟨3, .fa 0 (.t 1), none, false⟩,
 ⟨4, .ld 4 true (.t 3), none, false⟩,
 ⟨5, .ca (.k (.cl 140 [])) [(.t 4)], none, false⟩,
 ⟨6, .fa 4 (.t 1), none, false⟩,
 ⟨7, .ld 1 false (.t 6), none, false⟩,
 ⟨8, .ca (.k (.cl 141 [])) [(.t 7)], none, false⟩,
 ⟨9, .bd [(.sc (.int .i64 0)), (.sc (.int .i64 0)), .nl, .nl, .nl] [(0, 4, (.t 5)), (4, 1, (.t 8))], none, false⟩,
 ⟨1, .so 5 (.t 2) (.t 9), none, true⟩])
 .ret))⟩
attribute [simp] i76
set_option maxRecDepth 1000000 in
theorem c76 : cFn Try.prog 76 [[]] = some i76 := by kernel_rfl
theorem e76 : enterOk Try.prog 76 = true := by kernel_rfl
def w77_1 : IC :=
(.seq
 (.seq
 (.reg false [⟨6, .mv (.t 5), none, false⟩,
 ⟨7, .mv (.t 0), none, false⟩,
 ⟨8, .ln false (.t 7), none, false⟩,
 ⟨9, .ar .lss false (.t 6) (.t 8), none, false⟩])
 (.ite (.t 9)
 .skip
 (.exit 0)))
 (.seq
 (.block 1
 (.seq
 (.reg false [⟨12, .mv (.t 0), none, false⟩,
 ⟨13, .mv (.t 5), none, false⟩,
 ⟨14, .mv (.t 1), none, false⟩,
 ⟨15, .ca (.k (.cl 62 [])) [(.t 14)], none, false⟩,
 ⟨16, .ia 3 (.t 12) (.t 13), none, false⟩,
 ⟨17, .fa 0 (.t 16), none, false⟩,
 ⟨1, .so 1 (.t 17) (.t 15), none, true⟩])
 (.seq
 (.reg false [⟨18, .mv (.t 1), none, false⟩,
 ⟨19, .ar .add false (.t 18) (.k (.sc (.int .i64 1))), none, false⟩,
 ⟨1, .mv (.t 19), none, false⟩])
 (.seq
 (.reg false [⟨20, .mv (.t 0), none, false⟩,
 ⟨21, .mv (.t 5), none, false⟩,
 ⟨22, .mv (.t 1), none, false⟩,
 ⟨23, .ia 3 (.t 20) (.t 21), none, false⟩,
 ⟨24, .fa 1 (.t 23), none, false⟩,
 ⟨1, .so 1 (.t 24) (.t 22), none, true⟩])
 (.seq
 (.reg false [⟨25, .mv (.t 1), none, false⟩,
 ⟨26, .ar .add false (.t 25) (.k (.sc (.int .i64 1))), none, false⟩,
 ⟨1, .mv (.t 26), none, false⟩])
 (.seq
 (.reg false [⟨27, .mv (.t 0), none, false⟩,
 ⟨28, .mv (.t 5), none, false⟩,
 ⟨29, .mv (.t 1), none, false⟩,
 ⟨30, .ia 3 (.t 27) (.t 28), none, false⟩,
 ⟨31, .fa 2 (.t 30), none, false⟩,
 ⟨1, .so 1 (.t 31) (.t 29), none, true⟩])
 (.reg false [⟨32, .mv (.t 1), none, false⟩,
 ⟨33, .ar .add false (.t 32) (.k (.sc (.int .i64 1))), none, false⟩,
 ⟨1, .mv (.t 33), none, false⟩])))))))
 (.reg false [⟨10, .mv (.t 5), none, false⟩,
 ⟨11, .ar .add false (.t 10) (.k (.sc (.int .i64 1))), none, false⟩,
 ⟨5, .mv (.t 11), none, false⟩])))
def b77_1 : IC := w77_1
theorem u77_1 (call : CallF) (st : St) : evC call b77_1 st = evC call w77_1 st := rfl
attribute [simp] u77_1 w77_1
def i77 : Ev.Fn := ⟨2, 35, [.tmp 4],
 (.seq
 (.reg false [⟨4, .mv (.k (.sc (.int .i64 0))), none, false⟩])
 (.seq
 (.seq
 (.reg false [⟨5, .mv (.k (.sc (.int .i64 0))), none, false⟩])
 (.cln [1, 100000] [4, 100000]
 (.block 0
 (.loop [0, 1, 5, 100000] b77_1))))
 (.seq
 (.reg false [⟨34, .mv (.t 1), none, false⟩,
 ⟨4, .mv (.t 34), none, false⟩])
 .ret)))⟩
attribute [simp] i77
set_option maxRecDepth 1000000 in
theorem c77 : cFn Try.prog 77 [[], [0, 1, 5, 100000], [1, 100000], [4, 100000]] = some i77 := by kernel_rfl
theorem e77 : enterOk Try.prog 77 = true := by kernel_rfl
def w78_1 : IC :=
(.seq
 (.seq
 (.reg false [⟨6, .mv (.t 5), none, false⟩,
 ⟨7, .mv (.t 0), none, false⟩,
 ⟨8, .ln false (.t 7), none, false⟩,
 ⟨9, .ar .lss false (.t 6) (.t 8), none, false⟩])
 (.ite (.t 9)
 .skip
 (.exit 0)))
 (.seq
 (.block 1
 (.seq
 (.seq
 (.reg true [⟨12, .mv (.t 0), none, false⟩,
 ⟨13, .mv (.t 5), none, false⟩,
 ⟨14, .ia 3 (.t 12) (.t 13), none, false⟩,
 ⟨15, .fa 0 (.t 14), none, false⟩,
 ⟨16, .ld 1 false (.t 15), none, false⟩,
 ⟨17, .mv (.t 1), none, false⟩,
 ⟨18, .ca (.k (.cl 62 [])) [(.t 17)], none, false⟩,
 ⟨19, .ar .neq false (.t 16) (.t 18), none, false⟩])
 (.ite (.t 19)
 (.seq
 (.reg false [⟨4, .mv (.k (.sc (.int .i64 (-1)))), none, false⟩])
 .ret)
 .skip))
 (.seq
 (.reg false [⟨20, .mv (.t 1), none, false⟩,
 ⟨21, .ar .add false (.t 20) (.k (.sc (.int .i64 1))), none, false⟩,
 ⟨1, .mv (.t 21), none, false⟩])
 (.seq
 (.seq
 (.reg false [⟨22, .mv (.t 0), none, false⟩,
 ⟨23, .mv (.t 5), none, false⟩,
 ⟨24, .ia 3 (.t 22) (.t 23), none, false⟩,
 ⟨25, .fa 1 (.t 24), none, false⟩,
 ⟨26, .ld 1 false (.t 25), none, false⟩,
 ⟨27, .mv (.t 1), none, false⟩,
 ⟨28, .ar .neq false (.t 26) (.t 27), none, false⟩])
 (.ite (.t 28)
 (.seq
 (.reg false [⟨4, .mv (.k (.sc (.int .i64 (-1)))), none, false⟩])
 .ret)
 .skip))
 (.seq
 (.reg false [⟨29, .mv (.t 1), none, false⟩,
 ⟨30, .ar .add false (.t 29) (.k (.sc (.int .i64 1))), none, false⟩,
 ⟨1, .mv (.t 30), none, false⟩])
 (.seq
 (.seq
 (.reg false [⟨31, .mv (.t 0), none, false⟩,
 ⟨32, .mv (.t 5), none, false⟩,
 ⟨33, .ia 3 (.t 31) (.t 32), none, false⟩,
 ⟨34, .fa 2 (.t 33), none, false⟩,
 ⟨35, .ld 1 false (.t 34), none, false⟩,
 ⟨36, .mv (.t 1), none, false⟩,
 ⟨37, .ar .neq false (.t 35) (.t 36), none, false⟩])
 (.ite (.t 37)
 (.seq
 (.reg false [⟨4, .mv (.k (.sc (.int .i64 (-1)))), none, false⟩])
 .ret)
 .skip))
 (.reg false [⟨38, .mv (.t 1), none, false⟩,
 ⟨39, .ar .add false (.t 38) (.k (.sc (.int .i64 1))), none, false⟩,
 ⟨1, .mv (.t 39), none, false⟩])))))))
 (.reg false [⟨10, .mv (.t 5), none, false⟩,
 ⟨11, .ar .add false (.t 10) (.k (.sc (.int .i64 1))), none, false⟩,
 ⟨5, .mv (.t 11), none, false⟩])))
def b78_1 : IC := w78_1
theorem u78_1 (call : CallF) (st : St) : evC call b78_1 st = evC call w78_1 st := rfl
attribute [simp] u78_1 w78_1
def i78 : Ev.Fn := ⟨2, 41, [.tmp 4],
 (.seq
 (.reg false [⟨4, .mv (.k (.sc (.int .i64 0))), none, false⟩])
 (.seq
 (.seq
 (.reg false [⟨5, .mv (.k (.sc (.int .i64 0))), none, false⟩])
 (.cln [1] [4]
 (.block 0
 (.loop [0, 1, 5] b78_1))))
 (.seq
 (.reg false [⟨40, .mv (.t 1), none, false⟩,
 ⟨4, .mv (.t 40), none, false⟩])
 .ret)))⟩
attribute [simp] i78
set_option maxRecDepth 1000000 in
theorem c78 : cFn Try.prog 78 [[], [0, 1, 5], [1], [4]] = some i78 := by kernel_rfl
theorem e78 : enterOk Try.prog 78 = true := by kernel_rfl
def i88 : Ev.Fn := ⟨2, 20, [.tmp 4],
 (.seq
 (.reg false [⟨2, .bx (.t 0), none, false⟩,
 ⟨3, .bx (.t 1), none, false⟩,
 ⟨4, .mv (.k (.sc (.bool false))), none, false⟩])
 (.seq
 (.seq
 (.reg false [⟨5, .fa 0 (.t 2), none, false⟩,
 ⟨6, .ld 1 false (.t 5), none, false⟩,
 ⟨7, .fa 0 (.t 3), none, false⟩,
 ⟨8, .ld 1 false (.t 7), none, false⟩,
 ⟨9, .ar .neq false (.t 6) (.t 8), none, false⟩])
 (.ite (.t 9)
 (.seq
 (.reg false [⟨4, .mv (.k (.sc (.bool false))), none, false⟩])
 .ret)
 .skip))
 (.seq
 (.seq
 (.reg false [⟨10, .fa 1 (.t 2), none, false⟩,
 ⟨11, .ld 1 false (.t 10), none, false⟩,
 ⟨12, .fa 1 (.t 3), none, false⟩,
 ⟨13, .ld 1 false (.t 12), none, false⟩,
 ⟨14, .ar .neq false (.t 11) (.t 13), none, false⟩])
 (.ite (.t 14)
 (.seq
 (.reg false [⟨4, .mv (.k (.sc (.bool false))), none, false⟩])
 .ret)
 .skip))
 (.seq
 (.seq
 (.reg false [⟨15, .fa 2 (.t 2), none, false⟩,
 ⟨16, .ld 1 false (.t 15), none, false⟩,
 ⟨17, .fa 2 (.t 3), none, false⟩,
 ⟨18, .ld 1 false (.t 17), none, false⟩,
 ⟨19, .ar .neq false (.t 16) (.t 18), none, false⟩])
 (.ite (.t 19)
 (.seq
 (.reg false [⟨4, .mv (.k (.sc (.bool false))), none, false⟩])
 .ret)
 .skip))
 (.seq
 (.reg false [⟨4, .mv (.k (.sc (.bool true))), none, false⟩])
 .ret)))))⟩
attribute [simp] i88
set_option maxRecDepth 1000000 in
theorem c88 : cFn Try.prog 88 [[]] = some i88 := by kernel_rfl
theorem e88 : enterOk Try.prog 88 = true := by kernel_rfl
def w98_1 : IC :=
(.seq
 (.seq
 (.reg false [⟨18, .mv (.t 4), none, false⟩,
 ⟨19, .mv (.t 3), none, false⟩,
 ⟨20, .ar .lss false (.t 18) (.t 19), none, false⟩])
 (.ite (.t 20)
 .skip
 (.exit 0)))
 (.seq
 (.block 1
 (.seq
 (.reg false [⟨23, .mv (.t 0), none, false⟩,
 ⟨24, .mv (.t 4), none, false⟩,
 ⟨25, .ia 2 (.t 23) (.t 24), none, false⟩,
 ⟨26, .ld 2 true (.t 25), none, false⟩,
 ⟨27, .ca (.k (.cl 161 [])) [(.t 26)], none, false⟩,
 ⟨28, .nt (.t 27), none, false⟩])
 (.ite (.t 28)
 (.seq
 (.reg false [⟨2, .mv (.k (.sc (.bool false))), none, false⟩])
 .ret)
 .skip)))
 (.reg false [⟨21, .mv (.t 4), none, false⟩,
 ⟨22, .ar .add false (.t 21) (.k (.sc (.int .i64 1))), none, false⟩,
 ⟨4, .mv (.t 22), none, false⟩])))
def b98_1 : IC := w98_1
theorem u98_1 (call : CallF) (st : St) : evC call b98_1 st = evC call w98_1 st := rfl
attribute [simp] u98_1 w98_1
def w98_3 : IC :=
(.seq
 (.seq
 (.reg false [⟨69, .mv (.t 9), none, false⟩,
 ⟨70, .mv (.t 3), none, false⟩,
 ⟨71, .ar .lss false (.t 69) (.t 70), none, false⟩])
 (.ite (.t 71)
 .skip
 (.exit 4)))
 (.seq
 (.block 5
 (.seq
 (.reg true [⟨74, .mv (.t 9), none, false⟩,
 ⟨75, .ar .add false (.t 74) (.k (.sc (.int .i64 1))), none, false⟩,
 ⟨76, .mv (.t 3), none, false⟩,
 ⟨77, .ar .rem false (.t 75) (.t 76), none, false⟩,
 ⟨78, .mv (.t 5), none, false⟩,
 ⟨79, .ar .neq false (.t 77) (.t 78), none, false⟩,
 ⟨80, .mv (.t 79), none, false⟩,
 ⟨81, .ld 2 true (.t 6), (some (80, true)), false⟩,
 ⟨82, .ld 2 true (.t 7), (some (80, true)), false⟩,
 ⟨83, .mv (.t 0), (some (80, true)), false⟩,
 ⟨84, .mv (.t 9), (some (80, true)), false⟩,
 ⟨85, .ia 2 (.t 83) (.t 84), (some (80, true)), false⟩,
 ⟨86, .ld 2 true (.t 85), (some (80, true)), false⟩,
 ⟨87, .mv (.t 0), (some (80, true)), false⟩,
 ⟨88, .mv (.t 9), (some (80, true)), false⟩,
 ⟨89, .ar .add false (.t 88) (.k (.sc (.int .i64 1))), (some (80, true)), false⟩,
 ⟨90, .mv (.t 3), (some (80, true)), false⟩,
 ⟨91, .ar .rem false (.t 89) (.t 90), (some (80, true)), false⟩,
 ⟨92, .ia 2 (.t 87) (.t 91), (some (80, true)), false⟩,
 ⟨93, .ld 2 true (.t 92), (some (80, true)), false⟩,
 ⟨94, .ca (.k (.cl 163 [])) [(.t 81), (.t 82), (.t 86), (.t 93)], (some (80, true)), false⟩,
 ⟨95, .pk (.t 80) (.t 94) (.k (.sc (.bool false))), none, false⟩])
 (.ite (.t 95)
 (.seq
 (.reg false [⟨2, .mv (.k (.sc (.bool false))), none, false⟩])
 .ret)
 .skip)))
 (.reg false [⟨72, .mv (.t 9), none, false⟩,
 ⟨73, .ar .add false (.t 72) (.k (.sc (.int .i64 1))), none, false⟩,
 ⟨9, .mv (.t 73), none, false⟩])))
def b98_3 : IC := w98_3
theorem u98_3 (call : CallF) (st : St) : evC call b98_3 st = evC call w98_3 st := rfl
attribute [simp] u98_3 w98_3
def w98_2 : IC :=
(.seq
 (.seq
 (.reg false [⟨29, .mv (.t 5), none, false⟩,
 ⟨30, .mv (.t 3), none, false⟩,
 ⟨31, .ar .lss false (.t 29) (.t 30), none, false⟩])
 (.ite (.t 31)
 .skip
 (.exit 2)))
 (.seq
 (.block 3
 (.seq
 (.reg false [⟨34, .mv (.t 0), none, false⟩,
 ⟨35, .mv (.t 5), none, false⟩,
 ⟨36, .ia 2 (.t 34) (.t 35), none, false⟩,
 ⟨37, .ld 2 true (.t 36), none, false⟩,
 ⟨6, .al [(.sc (.int .i64 0)), (.sc (.int .i64 0))], none, false⟩,
 ⟨1, .so 2 (.t 6) (.t 37), none, true⟩])
 (.seq
 (.reg false [⟨38, .mv (.t 0), none, false⟩,
 ⟨39, .mv (.t 5), none, false⟩,
 ⟨40, .ar .add false (.t 39) (.k (.sc (.int .i64 1))), none, false⟩,
 ⟨41, .mv (.t 3), none, false⟩,
 ⟨42, .ar .rem false (.t 40) (.t 41), none, false⟩,
 ⟨43, .ia 2 (.t 38) (.t 42), none, false⟩,
 ⟨44, .ld 2 true (.t 43), none, false⟩,
 ⟨7, .al [(.sc (.int .i64 0)), (.sc (.int .i64 0))], none, false⟩,
 ⟨1, .so 2 (.t 7) (.t 44), none, true⟩])
 (.seq
 (.reg false [⟨45, .mv (.t 0), none, false⟩,
 ⟨46, .mv (.t 5), none, false⟩,
 ⟨47, .ar .add false (.t 46) (.k (.sc (.int .i64 2))), none, false⟩,
 ⟨48, .mv (.t 3), none, false⟩,
 ⟨49, .ar .rem false (.t 47) (.t 48), none, false⟩,
 ⟨50, .ia 2 (.t 45) (.t 49), none, false⟩,
 ⟨51, .ld 2 true (.t 50), none, false⟩,
 ⟨8, .al [(.sc (.int .i64 0)), (.sc (.int .i64 0))], none, false⟩,
 ⟨1, .so 2 (.t 8) (.t 51), none, true⟩])
 (.seq
 (.seq
 (.reg false [⟨52, .ld 2 true (.t 6), none, false⟩,
 ⟨53, .ld 2 true (.t 7), none, false⟩,
 ⟨54, .eq false [1, 1] (.t 52) (.t 53), none, false⟩,
 ⟨55, .mv (.t 54), none, false⟩,
 ⟨56, .ld 2 true (.t 6), (some (55, false)), false⟩,
 ⟨57, .ld 2 true (.t 7), (some (55, false)), false⟩,
 ⟨58, .ld 2 true (.t 8), (some (55, false)), false⟩,
 ⟨59, .ca (.k (.cl 162 [])) [(.t 56), (.t 57), (.t 58)], (some (55, false)), false⟩,
 ⟨60, .pk (.t 55) (.k (.sc (.bool true))) (.t 59), none, false⟩,
 ⟨61, .mv (.t 60), none, false⟩,
 ⟨62, .ld 2 true (.t 7), (some (61, false)), false⟩,
 ⟨63, .ld 2 true (.t 8), (some (61, false)), false⟩,
 ⟨64, .ld 2 true (.t 6), (some (61, false)), false⟩,
 ⟨65, .ca (.k (.cl 162 [])) [(.t 62), (.t 63), (.t 64)], (some (61, false)), false⟩,
 ⟨66, .pk (.t 61) (.k (.sc (.bool true))) (.t 65), none, false⟩])
 (.ite (.t 66)
 (.seq
 (.reg false [⟨2, .mv (.k (.sc (.bool false))), none, false⟩])
 .ret)
 .skip))
 (.seq
 (.reg false [⟨67, .mv (.t 5), none, false⟩,
 ⟨68, .ar .add false (.t 67) (.k (.sc (.int .i64 2))), none, false⟩,
 ⟨9, .mv (.t 68), none, false⟩])
 (.cln [0, 3, 5] [2]
 (.block 4
 (.loop [0, 3, 5, 6, 7, 9] b98_3)))))))))
 (.reg false [⟨32, .mv (.t 5), none, false⟩,
 ⟨33, .ar .add false (.t 32) (.k (.sc (.int .i64 1))), none, false⟩,
 ⟨5, .mv (.t 33), none, false⟩])))
def b98_2 : IC := w98_2
theorem u98_2 (call : CallF) (st : St) : evC call b98_2 st = evC call w98_2 st := rfl
attribute [simp] u98_2 w98_2
def i98 : Ev.Fn := ⟨1, 99, [.tmp 2],
 (.seq
 (.reg false [⟨2, .mv (.k (.sc (.bool false))), none, false⟩])
 (.seq
 (.reg false [⟨10, .mv (.t 0), none, false⟩,
 ⟨11, .ln false (.t 10), none, false⟩,
 ⟨3, .mv (.t 11), none, false⟩])
 (.seq
 (.seq
 (.reg false [⟨12, .mv (.t 3), none, false⟩,
 ⟨13, .ar .lss false (.t 12) (.k (.sc (.int .i64 3))), none, false⟩,
 ⟨14, .mv (.t 13), none, false⟩,
 ⟨15, .mv (.t 3), (some (14, false)), false⟩,
 ⟨16, .ar .gtr false (.t 15) (.k (.sc (.int .i64 24))), (some (14, false)), false⟩,
 ⟨17, .pk (.t 14) (.k (.sc (.bool true))) (.t 16), none, false⟩])
 (.ite (.t 17)
 (.seq
 (.reg false [⟨2, .mv (.k (.sc (.bool false))), none, false⟩])
 .ret)
 .skip))
 (.seq
 (.seq
 (.reg false [⟨4, .mv (.k (.sc (.int .i64 0))), none, false⟩])
 (.cln [0, 3] [2]
 (.block 0
 (.loop [0, 3, 4] b98_1))))
 (.seq
 (.seq
 (.reg false [⟨5, .mv (.k (.sc (.int .i64 0))), none, false⟩])
 (.cln [0] [2]
 (.block 2
 (.loop [0, 3, 5] b98_2))))
 (.seq
 (.reg false [⟨96, .mv (.t 0), none, false⟩,
 ⟨97, .ca (.k (.cl 164 [])) [(.t 96)], none, false⟩,
 ⟨98, .ar .gtr false (.t 97) (.k (.sc (.int .i64 0))), none, false⟩,
 ⟨2, .mv (.t 98), none, false⟩])
 .ret))))))⟩
attribute [simp] i98
set_option maxRecDepth 1000000 in
theorem c98 : cFn Try.prog 98 [[], [0, 3, 4], [0, 3], [2], [0, 3, 5], [0, 3, 5, 6, 7, 9], [0, 3, 5], [2], [0], [2]] = some i98 := by kernel_rfl
theorem e98 : enterOk Try.prog 98 = true := by kernel_rfl
def i101 : Ev.Fn := ⟨1, 11, [.cell 2 2 true],
 (.seq
 (.reg false [⟨1, .bx (.t 0), none, false⟩,
 ⟨2, .al [(.sc (.int .i64 0)), (.sc (.int .i64 0))], none, false⟩])
 (.seq
 (.reg false [⟨3, .al [(.sc (.int .i64 0)), (.sc (.int .i64 0))], none, false⟩])
 (.seq
 (.reg false [⟨4, .fa 0 (.t 1), none, false⟩,
 ⟨5, .ld 1 false (.t 4), none, false⟩,
 ⟨6, .fa 0 (.t 3), none, false⟩,
 ⟨1, .so 1 (.t 6) (.t 5), none, true⟩])
 (.seq
 (.reg false [⟨7, .fa 1 (.t 1), none, false⟩,
 ⟨8, .ld 1 false (.t 7), none, false⟩,
 ⟨9, .fa 1 (.t 3), none, false⟩,
 ⟨1, .so 1 (.t 9) (.t 8), none, true⟩])
 (.seq
 (.reg false [⟨10, .ld 2 true (.t 3), none, false⟩,
 ⟨1, .so 2 (.t 2) (.t 10), none, true⟩])
 .ret)))))⟩
attribute [simp] i101
set_option maxRecDepth 1000000 in
theorem c101 : cFn Try.prog 101 [[]] = some i101 := by kernel_rfl
theorem e101 : enterOk Try.prog 101 = true := by kernel_rfl
def w102_2 : IC :=
(.seq
 (.seq
 (.reg false [⟨62, .mv (.t 8), none, false⟩,
 ⟨63, .mv (.t 3), none, false⟩,
 ⟨64, .ar .lss false (.t 62) (.t 63), none, false⟩])
 (.ite (.t 64)
 .skip
 (.exit 2)))
 (.seq
 (.block 3
 (.seq
 (.reg true [⟨67, .mv (.t 8), none, false⟩,
 ⟨68, .ar .add false (.t 67) (.k (.sc (.int .i64 1))), none, false⟩,
 ⟨69, .mv (.t 3), none, false⟩,
 ⟨70, .ar .rem false (.t 68) (.t 69), none, false⟩,
 ⟨71, .mv (.t 4), none, false⟩,
 ⟨72, .ar .neq false (.t 70) (.t 71), none, false⟩,
 ⟨73, .mv (.t 72), none, false⟩,
 ⟨74, .ld 2 true (.t 5), (some (73, true)), false⟩,
 ⟨75, .ld 2 true (.t 6), (some (73, true)), false⟩,
 ⟨76, .mv (.t 0), (some (73, true)), false⟩,
 ⟨77, .mv (.t 8), (some (73, true)), false⟩,
 ⟨78, .ia 2 (.t 76) (.t 77), (some (73, true)), false⟩,
 ⟨79, .ld 2 true (.t 78), (some (73, true)), false⟩,
 ⟨80, .mv (.t 0), (some (73, true)), false⟩,
 ⟨81, .mv (.t 8), (some (73, true)), false⟩,
 ⟨82, .ar .add false (.t 81) (.k (.sc (.int .i64 1))), (some (73, true)), false⟩,
 ⟨83, .mv (.t 3), (some (73, true)), false⟩,
 ⟨84, .ar .rem false (.t 82) (.t 83), (some (73, true)), false⟩,
 ⟨85, .ia 2 (.t 80) (.t 84), (some (73, true)), false⟩,
 ⟨86, .ld 2 true (.t 85), (some (73, true)), false⟩,
 ⟨87, .ca (.k (.cl 170 [])) [(.t 74), (.t 75), (.t 79), (.t 86)], (some (73, true)), false⟩,
 ⟨88, .pk (.t 73) (.t 87) (.k (.sc (.bool false))), none, false⟩])
 (.ite (.t 88)
 (.seq
 (.reg false [⟨2, .mv (.k (.sc (.bool false))), none, false⟩])
 .ret)
 .skip)))
 (.reg false [⟨65, .mv (.t 8), none, false⟩,
 ⟨66, .ar .add false (.t 65) (.k (.sc (.int .i64 1))), none, false⟩,
 ⟨8, .mv (.t 66), none, false⟩])))
def b102_2 : IC := w102_2
theorem u102_2 (call : CallF) (st : St) : evC call b102_2 st = evC call w102_2 st := rfl
attribute [simp] u102_2 w102_2
def w102_1 : IC :=
(.seq
 (.reg false [⟨25, .ar .lss false (.t 24) (.t 23), none, false⟩])
 (.seq
 (.ite (.t 25)
 .skip
 (.exit 0))
 (.seq
 (.block 1
 (.seq
 (.reg false [⟨26, .mv (.t 24), none, false⟩,
 ⟨4, .mv (.t 26), none, false⟩])
 (.seq
 (.rgc [.ne 5 31, .ne 5 35, .ne 5 36, .ne 5 38, .ne 5 42, .ne 5 43, .ne 6 38, .ne 6 42, .ne 6 43] [⟨27, .mv (.t 0), none, false⟩,
 ⟨28, .mv (.t 4), none, false⟩,
 ⟨29, .ia 2 (.t 27) (.t 28), none, false⟩,
 ⟨30, .ld 2 true (.t 29), none, false⟩,
 ⟨31, .mv (.t 0), none, false⟩,
 ⟨32, .mv (.t 4), none, false⟩,
 ⟨33, .ar .add false (.t 32) (.k (.sc (.int .i64 1))), none, false⟩,
 ⟨34, .mv (.t 3), none, false⟩,
 ⟨35, .ar .rem false (.t 33) (.t 34), none, false⟩,
 ⟨36, .ia 2 (.t 31) (.t 35), none, false⟩,
 ⟨37, .ld 2 true (.t 36), none, false⟩,
 ⟨38, .mv (.t 0), none, false⟩,
 ⟨39, .mv (.t 4), none, false⟩,
 ⟨40, .ar .add false (.t 39) (.k (.sc (.int .i64 2))), none, false⟩,
 ⟨41, .mv (.t 3), none, false⟩,
 ⟨42, .ar .rem false (.t 40) (.t 41), none, false⟩,
 ⟨43, .ia 2 (.t 38) (.t 42), none, false⟩,
 ⟨44, .ld 2 true (.t 43), none, false⟩,
 ⟨5, .al [(.sc (.int .i64 0)), (.sc (.int .i64 0))], none, false⟩,
 ⟨6, .al [(.sc (.int .i64 0)), (.sc (.int .i64 0))], none, false⟩,
 ⟨7, .al [(.sc (.int .i64 0)), (.sc (.int .i64 0))], none, false⟩,
 ⟨0, .so 2 (.t 5) (.t 30), none, true⟩,
 ⟨0, .so 2 (.t 6) (.t 37), none, true⟩,
 ⟨0, .so 2 (.t 7) (.t 44), none, true⟩])
 (.seq
 (.seq
 (.reg false [⟨45, .ld 2 true (.t 5), none, false⟩,
 ⟨46, .ld 2 true (.t 6), none, false⟩,
 ⟨47, .eq false [1, 1] (.t 45) (.t 46), none, false⟩,
 ⟨48, .mv (.t 47), none, false⟩,
 ⟨49, .ld 2 true (.t 5), (some (48, false)), false⟩,
 ⟨50, .ld 2 true (.t 6), (some (48, false)), false⟩,
 ⟨51, .ld 2 true (.t 7), (some (48, false)), false⟩,
 ⟨52, .ca (.k (.cl 169 [])) [(.t 49), (.t 50), (.t 51)], (some (48, false)), false⟩,
 ⟨53, .pk (.t 48) (.k (.sc (.bool true))) (.t 52), none, false⟩,
 ⟨54, .mv (.t 53), none, false⟩,
 ⟨55, .ld 2 true (.t 6), (some (54, false)), false⟩,
 ⟨56, .ld 2 true (.t 7), (some (54, false)), false⟩,
 ⟨57, .ld 2 true (.t 5), (some (54, false)), false⟩,
 ⟨58, .ca (.k (.cl 169 [])) [(.t 55), (.t 56), (.t 57)], (some (54, false)), false⟩,
 ⟨59, .pk (.t 54) (.k (.sc (.bool true))) (.t 58), none, false⟩])
 (.ite (.t 59)
 (.seq
 (.reg false [⟨2, .mv (.k (.sc (.bool false))), none, false⟩])
 .ret)
 .skip))
 (.seq
 (.reg false [⟨60, .mv (.t 4), none, false⟩,
 ⟨61, .ar .add false (.t 60) (.k (.sc (.int .i64 2))), none, false⟩,
 ⟨8, .mv (.t 61), none, false⟩])
 (.cln [0, 3, 23, 24] [2]
 (.block 2
 (.loop [0, 3, 4, 5, 6, 8, 23, 24] b102_2))))))))
 (.reg false [⟨89, .ar .add false (.t 24) (.k (.sc (.int .i64 1))), none, false⟩,
 ⟨24, .mv (.t 89), none, false⟩]))))
def b102_1 : IC := w102_1
theorem u102_1 (call : CallF) (st : St) : evC call b102_1 st = evC call w102_1 st := rfl
attribute [simp] u102_1 w102_1
def i102 : Ev.Fn := ⟨1, 93, [.tmp 2],
 (.seq
 (.reg false [⟨2, .mv (.k (.sc (.bool false))), none, false⟩])
 (.seq
 (.reg false [⟨9, .mv (.t 0), none, false⟩,
 ⟨10, .ln false (.t 9), none, false⟩,
 ⟨3, .mv (.t 10), none, false⟩])
 (.seq
 (.seq
 (.reg false [⟨11, .mv (.t 3), none, false⟩,
 ⟨12, .ar .lss false (.t 11) (.k (.sc (.int .i64 3))), none, false⟩,
 ⟨13, .mv (.t 12), none, false⟩,
 ⟨14, .mv (.t 3), (some (13, false)), false⟩,
 ⟨15, .ar .gtr false (.t 14) (.k (.sc (.int .i64 24))), (some (13, false)), false⟩,
 ⟨16, .pk (.t 13) (.k (.sc (.bool true))) (.t 15), none, false⟩,
 ⟨17, .mv (.t 16), none, false⟩,
 ⟨18, .mv (.t 0), (some (17, false)), false⟩,
 ⟨19, .ca (.k (.cl 168 [])) [(.t 18)], (some (17, false)), false⟩,
 ⟨20, .nt (.t 19), (some (17, false)), false⟩,
 ⟨21, .pk (.t 17) (.k (.sc (.bool true))) (.t 20), none, false⟩])
 (.ite (.t 21)
 (.seq
 (.reg false [⟨2, .mv (.k (.sc (.bool false))), none, false⟩])
 .ret)
 .skip))
 (.seq
 (.seq
 (.reg false [⟨22, .mv (.t 0), none, false⟩,
 ⟨23, .ln false (.t 22), none, false⟩,
 ⟨24, .mv (.k (.sc (.int .i64 0))), none, false⟩])
 (.cln [0] [2]
 (.block 0
 (.loop [0, 3, 23, 24] b102_1))))
 (.seq
 (.reg false [⟨90, .mv (.t 0), none, false⟩,
 ⟨91, .ca (.k (.cl 171 [])) [(.t 90)], none, false⟩,
 ⟨92, .ar .gtr false (.t 91) (.k (.sc (.int .i64 0))), none, false⟩,
 ⟨2, .mv (.t 92), none, false⟩])
 .ret)))))⟩
attribute [simp] i102
set_option maxRecDepth 1000000 in
theorem c102 : cFn Try.prog 102 [[], [0, 3, 23, 24], [0, 3, 4, 5, 6, 8, 23, 24], [0, 3, 23, 24], [2], [0], [2]] = some i102 := by kernel_rfl
theorem e102 : enterOk Try.prog 102 = true := by kernel_rfl
def i105 : Ev.Fn := ⟨2, 15, [.tmp 4],
 (.seq
 (.reg false [⟨2, .bx (.t 0), none, false⟩,
 ⟨3, .bx (.t 1), none, false⟩,
 ⟨4, .mv (.k (.sc (.bool false))), none, false⟩])
 (.seq
 (.seq
 (.reg false [⟨5, .fa 0 (.t 2), none, false⟩,
 ⟨6, .ld 1 false (.t 5), none, false⟩,
 ⟨7, .fa 0 (.t 3), none, false⟩,
 ⟨8, .ld 1 false (.t 7), none, false⟩,
 ⟨9, .ar .neq false (.t 6) (.t 8), none, false⟩])
 (.ite (.t 9)
 (.seq
 (.reg false [⟨4, .mv (.k (.sc (.bool false))), none, false⟩])
 .ret)
 .skip))
 (.seq
 (.seq
 (.reg false [⟨10, .fa 1 (.t 2), none, false⟩,
 ⟨11, .ld 1 false (.t 10), none, false⟩,
 ⟨12, .fa 1 (.t 3), none, false⟩,
 ⟨13, .ld 1 false (.t 12), none, false⟩,
 ⟨14, .ar .neq false (.t 11) (.t 13), none, false⟩])
 (.ite (.t 14)
 (.seq
 (.reg false [⟨4, .mv (.k (.sc (.bool false))), none, false⟩])
 .ret)
 .skip))
 (.seq
 (.reg false [⟨4, .mv (.k (.sc (.bool true))), none, false⟩])
 .ret))))⟩
attribute [simp] i105
set_option maxRecDepth 1000000 in
theorem c105 : cFn Try.prog 105 [[]] = some i105 := by kernel_rfl
theorem e105 : enterOk Try.prog 105 = true := by kernel_rfl
def w106_1 : IC :=
(.seq
 (.seq
 (.reg false [⟨12, .mv (.t 5), none, false⟩,
 ⟨13, .mv (.t 0), none, false⟩,
 ⟨14, .ln false (.t 13), none, false⟩,
 ⟨15, .ar .lss false (.t 12) (.t 14), none, false⟩])
 (.ite (.t 15)
 .skip
 (.exit 0)))
 (.seq
 (.block 1
 (.seq
 (.reg false [⟨18, .mv (.t 0), none, false⟩,
 ⟨19, .mv (.t 5), none, false⟩,
 ⟨20, .ia 2 (.t 18) (.t 19), none, false⟩,
 ⟨21, .ld 2 true (.t 20), none, false⟩,
 ⟨22, .mv (.t 1), none, false⟩,
 ⟨23, .ca (.k (.cl 175 [])) [(.t 21), (.t 22)], none, false⟩,
 ⟨1, .mv (.t 23), none, false⟩])
 (.seq
 (.reg false [⟨24, .mv (.t 1), none, false⟩,
 ⟨25, .ar .lss false (.t 24) (.k (.sc (.int .i64 0))), none, false⟩])
 (.ite (.t 25)
 (.seq
 (.reg false [⟨4, .mv (.k (.sc (.int .i64 (-1)))), none, false⟩])
 .ret)
 .skip))))
 (.reg false [⟨16, .mv (.t 5), none, false⟩,
 ⟨17, .ar .add false (.t 16) (.k (.sc (.int .i64 1))), none, false⟩,
 ⟨5, .mv (.t 17), none, false⟩])))
def b106_1 : IC := w106_1
theorem u106_1 (call : CallF) (st : St) : evC call b106_1 st = evC call w106_1 st := rfl
attribute [simp] u106_1 w106_1
def i106 : Ev.Fn := ⟨2, 27, [.tmp 4],
 (.seq
 (.reg false [⟨4, .mv (.k (.sc (.int .i64 0))), none, false⟩])
 (.seq
 (.reg false [⟨6, .mv (.t 1), none, false⟩,
 ⟨7, .mv (.t 0), none, false⟩,
 ⟨8, .ln false (.t 7), none, false⟩,
 ⟨9, .ar .sub false (.t 6) (.t 8), none, false⟩,
 ⟨1, .mv (.t 9), none, false⟩])
 (.seq
 (.seq
 (.reg false [⟨10, .mv (.t 1), none, false⟩,
 ⟨11, .ar .lss false (.t 10) (.k (.sc (.int .i64 0))), none, false⟩])
 (.ite (.t 11)
 (.seq
 (.reg false [⟨4, .mv (.k (.sc (.int .i64 (-1)))), none, false⟩])
 .ret)
 .skip))
 (.seq
 (.seq
 (.reg false [⟨5, .mv (.k (.sc (.int .i64 0))), none, false⟩])
 (.cln [1] [4]
 (.block 0
 (.loop [0, 1, 5] b106_1))))
 (.seq
 (.reg false [⟨26, .mv (.t 1), none, false⟩,
 ⟨4, .mv (.t 26), none, false⟩])
 .ret)))))⟩
attribute [simp] i106
set_option maxRecDepth 1000000 in
theorem c106 : cFn Try.prog 106 [[], [0, 1, 5], [1], [4]] = some i106 := by kernel_rfl
theorem e106 : enterOk Try.prog 106 = true := by kernel_rfl
def w111_1 : IC :=
(.seq
 (.seq
 (.reg false [⟨8, .mv (.t 4), none, false⟩,
 ⟨9, .mv (.t 0), none, false⟩,
 ⟨10, .ln false (.t 9), none, false⟩,
 ⟨11, .ar .lss false (.t 8) (.t 10), none, false⟩])
 (.ite (.t 11)
 .skip
 (.exit 0)))
 (.seq
 (.block 1
 (.reg false [⟨14, .mv (.t 3), none, false⟩,
 ⟨15, .mv (.t 4), none, false⟩,
 ⟨16, .mv (.t 0), none, false⟩,
 ⟨17, .mv (.t 4), none, false⟩,
 ⟨18, .ia 2 (.t 16) (.t 17), none, false⟩,
 ⟨19, .ld 2 true (.t 18), none, false⟩,
 ⟨20, .ca (.k (.cl 179 [])) [(.t 19)], none, false⟩,
 ⟨21, .ia 2 (.t 14) (.t 15), none, false⟩,
 ⟨1, .so 2 (.t 21) (.t 20), none, true⟩]))
 (.reg false [⟨12, .mv (.t 4), none, false⟩,
 ⟨13, .ar .add false (.t 12) (.k (.sc (.int .i64 1))), none, false⟩,
 ⟨4, .mv (.t 13), none, false⟩])))
def b111_1 : IC := w111_1
theorem u111_1 (call : CallF) (st : St) : evC call b111_1 st = evC call w111_1 st := rfl
attribute [simp] u111_1 w111_1
def i111 : Ev.Fn := ⟨1, 23, [.tmp 2],
 (.seq
 (.reg false [⟨2, .mv (.k .nl), none, false⟩])
 (.seq
 (.reg false [⟨5, .mv (.t 0), none, false⟩,
 ⟨6, .ln false (.t 5), none, false⟩,
 ⟨7, .ms 162 2 [(.sc (.string ⟨#[]⟩)), .nl] (.t 6), none, false⟩,
 ⟨3, .mv (.t 7), none, false⟩])
 (.seq
 (.seq
 (.reg false [⟨4, .mv (.k (.sc (.int .i64 0))), none, false⟩])
 (.cln [3] [2]
 (.block 0
 (.loop [0, 3, 4] b111_1))))
 (.seq
 (.reg false [⟨22, .mv (.t 3), none, false⟩,
 ⟨2, .mv (.t 22), none, false⟩])
 .ret))))⟩
attribute [simp] i111
set_option maxRecDepth 1000000 in
theorem c111 : cFn Try.prog 111 [[], [0, 3, 4], [3], [2]] = some i111 := by kernel_rfl
theorem e111 : enterOk Try.prog 111 = true := by kernel_rfl
def w117_1 : IC :=
(.seq
 (.seq
 (.reg false [⟨11, .mv (.t 5), none, false⟩,
 ⟨12, .mv (.t 0), none, false⟩,
 ⟨13, .ln false (.t 12), none, false⟩,
 ⟨14, .ar .lss false (.t 11) (.t 13), none, false⟩])
 (.ite (.t 14)
 .skip
 (.exit 0)))
 (.seq
 (.block 1
 (.seq
 (.reg true [⟨17, .mv (.t 0), none, false⟩,
 ⟨18, .mv (.t 5), none, false⟩,
 ⟨19, .ia 2 (.t 17) (.t 18), none, false⟩,
 ⟨20, .ld 2 true (.t 19), none, false⟩,
 ⟨21, .mv (.t 1), none, false⟩,
 ⟨22, .mv (.t 5), none, false⟩,
 ⟨23, .ia 2 (.t 21) (.t 22), none, false⟩,
 ⟨24, .ld 2 true (.t 23), none, false⟩,
 ⟨25, .ca (.k (.cl 182 [])) [(.t 20), (.t 24)], none, false⟩,
 ⟨26, .nt (.t 25), none, false⟩])
 (.ite (.t 26)
 (.seq
 (.reg false [⟨4, .mv (.k (.sc (.bool false))), none, false⟩])
 .ret)
 .skip)))
 (.reg false [⟨15, .mv (.t 5), none, false⟩,
 ⟨16, .ar .add false (.t 15) (.k (.sc (.int .i64 1))), none, false⟩,
 ⟨5, .mv (.t 16), none, false⟩])))
def b117_1 : IC := w117_1
theorem u117_1 (call : CallF) (st : St) : evC call b117_1 st = evC call w117_1 st := rfl
attribute [simp] u117_1 w117_1
def i117 : Ev.Fn := ⟨2, 27, [.tmp 4],
 (.seq
 (.reg false [⟨4, .mv (.k (.sc (.bool false))), none, false⟩])
 (.seq
 (.seq
 (.reg false [⟨6, .mv (.t 0), none, false⟩,
 ⟨7, .ln false (.t 6), none, false⟩,
 ⟨8, .mv (.t 1), none, false⟩,
 ⟨9, .ln false (.t 8), none, false⟩,
 ⟨10, .ar .neq false (.t 7) (.t 9), none, false⟩])
 (.ite (.t 10)
 (.seq
 (.reg false [⟨4, .mv (.k (.sc (.bool false))), none, false⟩])
 .ret)
 .skip))
 (.seq
 (.seq
 (.reg false [⟨5, .mv (.k (.sc (.int .i64 0))), none, false⟩])
 (.cln [] [4]
 (.block 0
 (.loop [0, 1, 5] b117_1))))
 (.seq
 (.reg false [⟨4, .mv (.k (.sc (.bool true))), none, false⟩])
 .ret))))⟩
attribute [simp] i117
set_option maxRecDepth 1000000 in
theorem c117 : cFn Try.prog 117 [[], [0, 1, 5], [], [4]] = some i117 := by kernel_rfl
theorem e117 : enterOk Try.prog 117 = true := by kernel_rfl
def w118_1 : IC :=
(.seq
 (.seq
 (.reg false [⟨6, .mv (.t 5), none, false⟩,
 ⟨7, .mv (.t 0), none, false⟩,
 ⟨8, .ln false (.t 7), none, false⟩,
 ⟨9, .ar .lss false (.t 6) (.t 8), none, false⟩])
 (.ite (.t 9)
 .skip
 (.exit 0)))
 (.seq
 (.block 1
 (.seq
 (.reg false [⟨12, .mv (.t 0), none, false⟩,
 ⟨13, .mv (.t 5), none, false⟩,
 ⟨14, .mv (.t 1), none, false⟩,
 ⟨15, .ia 2 (.t 12) (.t 13), none, false⟩,
 ⟨16, .fa 0 (.t 15), none, false⟩,
 ⟨1, .so 1 (.t 16) (.t 14), none, true⟩])
 (.seq
 (.reg false [⟨17, .mv (.t 1), none, false⟩,
 ⟨18, .ar .add false (.t 17) (.k (.sc (.int .i64 1))), none, false⟩,
 ⟨1, .mv (.t 18), none, false⟩])
 (.seq
 (.reg false [⟨19, .mv (.t 0), none, false⟩,
 ⟨20, .mv (.t 5), none, false⟩,
 ⟨21, .mv (.t 1), none, false⟩,
 ⟨22, .ia 2 (.t 19) (.t 20), none, false⟩,
 ⟨23, .fa 1 (.t 22), none, false⟩,
 ⟨1, .so 1 (.t 23) (.t 21), none, true⟩])
 (.reg false [⟨24, .mv (.t 1), none, false⟩,
 ⟨25, .ar .add false (.t 24) (.k (.sc (.int .i64 1))), none, false⟩,
 ⟨1, .mv (.t 25), none, false⟩])))))
 (.reg false [⟨10, .mv (.t 5), none, false⟩,
 ⟨11, .ar .add false (.t 10) (.k (.sc (.int .i64 1))), none, false⟩,
 ⟨5, .mv (.t 11), none, false⟩])))
def b118_1 : IC := w118_1
theorem u118_1 (call : CallF) (st : St) : evC call b118_1 st = evC call w118_1 st := rfl
attribute [simp] u118_1 w118_1
def i118 : Ev.Fn := ⟨2, 27, [.tmp 4],
 (.seq
 (.reg false [⟨4, .mv (.k (.sc (.int .i64 0))), none, false⟩])
 (.seq
 (.seq
 (.reg false [⟨5, .mv (.k (.sc (.int .i64 0))), none, false⟩])
 (.cln [1, 100000] [4, 100000]
 (.block 0
 (.loop [0, 1, 5, 100000] b118_1))))
 (.seq
 (.reg false [⟨26, .mv (.t 1), none, false⟩,
 ⟨4, .mv (.t 26), none, false⟩])
 .ret)))⟩
attribute [simp] i118
set_option maxRecDepth 1000000 in
theorem c118 : cFn Try.prog 118 [[], [0, 1, 5, 100000], [1, 100000], [4, 100000]] = some i118 := by kernel_rfl
theorem e118 : enterOk Try.prog 118 = true := by kernel_rfl
def w119_1 : IC :=
(.seq
 (.seq
 (.reg false [⟨6, .mv (.t 5), none, false⟩,
 ⟨7, .mv (.t 0), none, false⟩,
 ⟨8, .ln false (.t 7), none, false⟩,
 ⟨9, .ar .lss false (.t 6) (.t 8), none, false⟩])
 (.ite (.t 9)
 .skip
 (.exit 0)))
 (.seq
 (.block 1
 (.seq
 (.reg false [⟨12, .mv (.t 0), none, false⟩,
 ⟨13, .mv (.t 5), none, false⟩,
 ⟨14, .mv (.t 1), none, false⟩,
 ⟨15, .ca (.k (.cl 62 [])) [(.t 14)], none, false⟩,
 ⟨16, .ia 2 (.t 12) (.t 13), none, false⟩,
 ⟨17, .fa 0 (.t 16), none, false⟩,
 ⟨1, .so 1 (.t 17) (.t 15), none, true⟩])
 (.seq
 (.reg false [⟨18, .mv (.t 1), none, false⟩,
 ⟨19, .ar .add false (.t 18) (.k (.sc (.int .i64 1))), none, false⟩,
 ⟨1, .mv (.t 19), none, false⟩])
 (.rgw [⟨20, .mv (.t 0), none, false⟩,
 ⟨21, .mv (.t 5), none, false⟩,
 ⟨22, .ia 2 (.t 20) (.t 21), none, false⟩,
 ⟨23, .fa 1 (.t 22), none, false⟩,
 ⟨24, .ld 1 false (.t 23), none, false⟩,
 ⟨25, .mv (.t 1), none, false⟩,
 ⟨26, .cw 18 [] [(.t 24), (.t 25)], none, false⟩,
 ⟨1, .mv (.t 26), none, false⟩]))))
 (.reg false [⟨10, .mv (.t 5), none, false⟩,
 ⟨11, .ar .add false (.t 10) (.k (.sc (.int .i64 1))), none, false⟩,
 ⟨5, .mv (.t 11), none, false⟩])))
def b119_1 : IC := w119_1
theorem u119_1 (call : CallF) (st : St) : evC call b119_1 st = evC call w119_1 st := rfl
attribute [simp] u119_1 w119_1
def i119 : Ev.Fn := ⟨2, 28, [.tmp 4],
 (.seq
 (.reg false [⟨4, .mv (.k (.sc (.int .i64 0))), none, false⟩])
 (.seq
 (.seq
 (.reg false [⟨5, .mv (.k (.sc (.int .i64 0))), none, false⟩])
 (.cln [1, 100000] [4, 100000]
 (.block 0
 (.loop [0, 1, 5, 100000] b119_1))))
 (.seq
 (.reg false [⟨27, .mv (.t 1), none, false⟩,
 ⟨4, .mv (.t 27), none, false⟩])
 .ret)))⟩
attribute [simp] i119
set_option maxRecDepth 1000000 in
theorem c119 : cFn Try.prog 119 [[18], [0, 1, 5, 100000], [1, 100000], [4, 100000]] = some i119 := by kernel_rfl
theorem e119 : enterOk Try.prog 119 = true := by kernel_rfl
def w120_1 : IC :=
(.seq
 (.seq
 (.reg false [⟨6, .mv (.t 5), none, false⟩,
 ⟨7, .mv (.t 0), none, false⟩,
 ⟨8, .ln false (.t 7), none, false⟩,
 ⟨9, .ar .lss false (.t 6) (.t 8), none, false⟩])
 (.ite (.t 9)
 .skip
 (.exit 0)))
 (.seq
 (.block 1
 (.seq
 (.seq
 (.reg false [⟨12, .mv (.t 0), none, false⟩,
 ⟨13, .mv (.t 5), none, false⟩,
 ⟨14, .ia 2 (.t 12) (.t 13), none, false⟩,
 ⟨15, .fa 0 (.t 14), none, false⟩,
 ⟨16, .ld 1 false (.t 15), none, false⟩,
 ⟨17, .mv (.t 1), none, false⟩,
 ⟨18, .ar .neq false (.t 16) (.t 17), none, false⟩])
 (.ite (.t 18)
 (.seq
 (.reg false [⟨4, .mv (.k (.sc (.int .i64 (-1)))), none, false⟩])
 .ret)
 .skip))
 (.seq
 (.reg false [⟨19, .mv (.t 1), none, false⟩,
 ⟨20, .ar .add false (.t 19) (.k (.sc (.int .i64 1))), none, false⟩,
 ⟨1, .mv (.t 20), none, false⟩])
 (.seq
 (.seq
 (.reg false [⟨21, .mv (.t 0), none, false⟩,
 ⟨22, .mv (.t 5), none, false⟩,
 ⟨23, .ia 2 (.t 21) (.t 22), none, false⟩,
 ⟨24, .fa 1 (.t 23), none, false⟩,
 ⟨25, .ld 1 false (.t 24), none, false⟩,
 ⟨26, .mv (.t 1), none, false⟩,
 ⟨27, .ar .neq false (.t 25) (.t 26), none, false⟩])
 (.ite (.t 27)
 (.seq
 (.reg false [⟨4, .mv (.k (.sc (.int .i64 (-1)))), none, false⟩])
 .ret)
 .skip))
 (.reg false [⟨28, .mv (.t 1), none, false⟩,
 ⟨29, .ar .add false (.t 28) (.k (.sc (.int .i64 1))), none, false⟩,
 ⟨1, .mv (.t 29), none, false⟩])))))
 (.reg false [⟨10, .mv (.t 5), none, false⟩,
 ⟨11, .ar .add false (.t 10) (.k (.sc (.int .i64 1))), none, false⟩,
 ⟨5, .mv (.t 11), none, false⟩])))
def b120_1 : IC := w120_1
theorem u120_1 (call : CallF) (st : St) : evC call b120_1 st = evC call w120_1 st := rfl
attribute [simp] u120_1 w120_1
def i120 : Ev.Fn := ⟨2, 31, [.tmp 4],
 (.seq
 (.reg false [⟨4, .mv (.k (.sc (.int .i64 0))), none, false⟩])
 (.seq
 (.seq
 (.reg false [⟨5, .mv (.k (.sc (.int .i64 0))), none, false⟩])
 (.cln [1] [4]
 (.block 0
 (.loop [0, 1, 5] b120_1))))
 (.seq
 (.reg false [⟨30, .mv (.t 1), none, false⟩,
 ⟨4, .mv (.t 30), none, false⟩])
 .ret)))⟩
attribute [simp] i120
set_option maxRecDepth 1000000 in
theorem c120 : cFn Try.prog 120 [[], [0, 1, 5], [1], [4]] = some i120 := by kernel_rfl
theorem e120 : enterOk Try.prog 120 = true := by kernel_rfl
def w121_1 : IC :=
(.seq
 (.seq
 (.reg false [⟨6, .mv (.t 5), none, false⟩,
 ⟨7, .mv (.t 0), none, false⟩,
 ⟨8, .ln false (.t 7), none, false⟩,
 ⟨9, .ar .lss false (.t 6) (.t 8), none, false⟩])
 (.ite (.t 9)
 .skip
 (.exit 0)))
 (.seq
 (.block 1
 (.seq
 (.seq
 (.reg true [⟨12, .mv (.t 0), none, false⟩,
 ⟨13, .mv (.t 5), none, false⟩,
 ⟨14, .ia 2 (.t 12) (.t 13), none, false⟩,
 ⟨15, .fa 0 (.t 14), none, false⟩,
 ⟨16, .ld 1 false (.t 15), none, false⟩,
 ⟨17, .mv (.t 1), none, false⟩,
 ⟨18, .ca (.k (.cl 62 [])) [(.t 17)], none, false⟩,
 ⟨19, .ar .neq false (.t 16) (.t 18), none, false⟩])
 (.ite (.t 19)
 (.seq
 (.reg false [⟨4, .mv (.k (.sc (.int .i64 (-1)))), none, false⟩])
 .ret)
 .skip))
 (.seq
 (.reg false [⟨20, .mv (.t 1), none, false⟩,
 ⟨21, .ar .add false (.t 20) (.k (.sc (.int .i64 1))), none, false⟩,
 ⟨1, .mv (.t 21), none, false⟩])
 (.seq
 (.reg false [⟨22, .mv (.t 0), none, false⟩,
 ⟨23, .mv (.t 5), none, false⟩,
 ⟨24, .ia 2 (.t 22) (.t 23), none, false⟩,
 ⟨25, .fa 1 (.t 24), none, false⟩,
 ⟨26, .ld 1 false (.t 25), none, false⟩,
 ⟨27, .mv (.t 1), none, false⟩,
 ⟨28, .ca (.k (.cl 19 [])) [(.t 26), (.t 27)], none, false⟩,
 ⟨1, .mv (.t 28), none, false⟩])
 (.seq
 (.reg false [⟨29, .mv (.t 1), none, false⟩,
 ⟨30, .ar .lss false (.t 29) (.k (.sc (.int .i64 0))), none, false⟩])
 (.ite (.t 30)
 (.seq
 (.reg false [⟨4, .mv (.k (.sc (.int .i64 (-1)))), none, false⟩])
 .ret)
 .skip))))))
 (.reg false [⟨10, .mv (.t 5), none, false⟩,
 ⟨11, .ar .add false (.t 10) (.k (.sc (.int .i64 1))), none, false⟩,
 ⟨5, .mv (.t 11), none, false⟩])))
def b121_1 : IC := w121_1
theorem u121_1 (call : CallF) (st : St) : evC call b121_1 st = evC call w121_1 st := rfl
attribute [simp] u121_1 w121_1
def i121 : Ev.Fn := ⟨2, 32, [.tmp 4],
 (.seq
 (.reg false [⟨4, .mv (.k (.sc (.int .i64 0))), none, false⟩])
 (.seq
 (.seq
 (.reg false [⟨5, .mv (.k (.sc (.int .i64 0))), none, false⟩])
 (.cln [1] [4]
 (.block 0
 (.loop [0, 1, 5] b121_1))))
 (.seq
 (.reg false [⟨31, .mv (.t 1), none, false⟩,
 ⟨4, .mv (.t 31), none, false⟩])
 .ret)))⟩
attribute [simp] i121
set_option maxRecDepth 1000000 in
theorem c121 : cFn Try.prog 121 [[], [0, 1, 5], [1], [4]] = some i121 := by kernel_rfl
theorem e121 : enterOk Try.prog 121 = true := by kernel_rfl
def w126_1 : IC :=
(.seq
 (.seq
 (.reg false [⟨33, .mv (.t 3), none, false⟩,
 ⟨34, .mv (.t 0), none, false⟩,
 ⟨35, .nc (.t 34), none, false⟩,
 ⟨36, .fa 3 (.t 35), none, false⟩,
 ⟨37, .ld 1 false (.t 36), none, false⟩,
 ⟨38, .ln false (.t 37), none, false⟩,
 ⟨39, .ar .lss false (.t 33) (.t 38), none, false⟩])
 (.ite (.t 39)
 .skip
 (.exit 0)))
 (.seq
 (.block 1
 (.seq
 (.seq
 (.reg true [⟨42, .mv (.t 0), none, false⟩,
 ⟨43, .nc (.t 42), none, false⟩,
 ⟨44, .fa 3 (.t 43), none, false⟩,
 ⟨45, .ld 1 false (.t 44), none, false⟩,
 ⟨46, .mv (.t 3), none, false⟩,
 ⟨47, .ia 2 (.t 45) (.t 46), none, false⟩,
 ⟨48, .fa 0 (.t 47), none, false⟩,
 ⟨49, .ld 1 false (.t 48), none, false⟩,
 ⟨50, .ca (.k (.cl 142 [])) [(.t 49)], none, false⟩,
 ⟨51, .nt (.t 50), none, false⟩,
 ⟨52, .mv (.t 51), none, false⟩,
 ⟨53, .mv (.t 3), (some (52, false)), false⟩,
 ⟨54, .ar .gtr false (.t 53) (.k (.sc (.int .i64 0))), (some (52, false)), false⟩,
 ⟨55, .mv (.t 54), (some (52, false)), false⟩,
 ⟨56, .mv (.t 0), (some (55, true)), false⟩,
 ⟨57, .nc (.t 56), (some (55, true)), false⟩,
 ⟨58, .fa 3 (.t 57), (some (55, true)), false⟩,
 ⟨59, .ld 1 false (.t 58), (some (55, true)), false⟩,
 ⟨60, .mv (.t 3), (some (55, true)), false⟩,
 ⟨61, .ar .sub false (.t 60) (.k (.sc (.int .i64 1))), (some (55, true)), false⟩,
 ⟨62, .ia 2 (.t 59) (.t 61), (some (55, true)), false⟩,
 ⟨63, .fa 0 (.t 62), (some (55, true)), false⟩,
 ⟨64, .ld 1 false (.t 63), (some (55, true)), false⟩,
 ⟨65, .mv (.t 0), (some (55, true)), false⟩,
 ⟨66, .nc (.t 65), (some (55, true)), false⟩,
 ⟨67, .fa 3 (.t 66), (some (55, true)), false⟩,
 ⟨68, .ld 1 false (.t 67), (some (55, true)), false⟩,
 ⟨69, .mv (.t 3), (some (55, true)), false⟩,
 ⟨70, .ia 2 (.t 68) (.t 69), (some (55, true)), false⟩,
 ⟨71, .fa 0 (.t 70), (some (55, true)), false⟩,
 ⟨72, .ld 1 false (.t 71), (some (55, true)), false⟩,
 ⟨73, .ar .geq false (.t 64) (.t 72), (some (55, true)), false⟩,
 ⟨74, .pk (.t 55) (.t 73) (.k (.sc (.bool false))), (some (52, false)), false⟩,
 ⟨75, .pk (.t 52) (.k (.sc (.bool true))) (.t 74), none, false⟩])
 (.ite (.t 75)
 (.seq
 (.reg false [⟨2, .mv (.k (.sc (.bool false))), none, false⟩])
 .ret)
 .skip))
 (.seq
 (.reg false [⟨77, .mv (.t 0), none, false⟩,
 ⟨78, .mv (.t 0), none, false⟩,
 ⟨79, .nc (.t 78), none, false⟩,
 ⟨80, .fa 3 (.t 79), none, false⟩,
 ⟨81, .ld 1 false (.t 80), none, false⟩,
 ⟨82, .mv (.t 3), none, false⟩,
 ⟨83, .ia 2 (.t 81) (.t 82), none, false⟩,
 ⟨84, .fa 1 (.t 83), none, false⟩,
 ⟨85, .ld 1 false (.t 84), none, false⟩,
 ⟨86, .ca (.k (.cl 185 [])) [(.t 77), (.t 85)], none, false⟩,
 ⟨76, .mv (.t 86), none, false⟩,
 ⟨87, .xt (.t 76) 0, none, false⟩,
 ⟨88, .xt (.t 76) 1, none, false⟩,
 ⟨4, .mv (.t 87), none, false⟩,
 ⟨5, .mv (.t 88), none, false⟩])
 (.seq
 (.reg false [⟨89, .mv (.t 5), none, false⟩,
 ⟨90, .nt (.t 89), none, false⟩,
 ⟨91, .mv (.t 90), none, false⟩,
 ⟨92, .mv (.t 4), (some (91, false)), false⟩,
 ⟨93, .ca (.k (.cl 98 [])) [(.t 92)], (some (91, false)), false⟩,
 ⟨94, .nt (.t 93), (some (91, false)), false⟩,
 ⟨95, .pk (.t 91) (.k (.sc (.bool true))) (.t 94), none, false⟩])
 (.ite (.t 95)
 (.seq
 (.reg false [⟨2, .mv (.k (.sc (.bool false))), none, false⟩])
 .ret)
 .skip)))))
 (.reg false [⟨40, .mv (.t 3), none, false⟩,
 ⟨41, .ar .add false (.t 40) (.k (.sc (.int .i64 1))), none, false⟩,
 ⟨3, .mv (.t 41), none, false⟩])))
def b126_1 : IC := w126_1
theorem u126_1 (call : CallF) (st : St) : evC call b126_1 st = evC call w126_1 st := rfl
attribute [simp] u126_1 w126_1
def i126 : Ev.Fn := ⟨1, 96, [.tmp 2],
 (.seq
 (.reg false [⟨2, .mv (.k (.sc (.bool false))), none, false⟩])
 (.seq
 (.seq
 (.reg false [⟨6, .mv (.t 0), none, false⟩,
 ⟨7, .nc (.t 6), none, false⟩,
 ⟨8, .fa 0 (.t 7), none, false⟩,
 ⟨9, .ld 1 false (.t 8), none, false⟩,
 ⟨10, .ca (.k (.cl 135 [])) [(.t 9), (.k (.sc (.int .i64 10))), (.k (.sc (.int .i64 20000)))], none, false⟩,
 ⟨11, .nt (.t 10), none, false⟩,
 ⟨12, .mv (.t 11), none, false⟩,
 ⟨13, .mv (.t 0), (some (12, false)), false⟩,
 ⟨14, .nc (.t 13), (some (12, false)), false⟩,
 ⟨15, .fa 1 (.t 14), (some (12, false)), false⟩,
 ⟨16, .ld 1 false (.t 15), (some (12, false)), false⟩,
 ⟨17, .ca (.k (.cl 135 [])) [(.t 16), (.k (.sc (.int .i64 10))), (.k (.sc (.int .i64 20000)))], (some (12, false)), false⟩,
 ⟨18, .nt (.t 17), (some (12, false)), false⟩,
 ⟨19, .pk (.t 12) (.k (.sc (.bool true))) (.t 18), none, false⟩,
 ⟨20, .mv (.t 19), none, false⟩,
 ⟨21, .mv (.t 0), (some (20, false)), false⟩,
 ⟨22, .ca (.k (.cl 184 [])) [(.t 21)], (some (20, false)), false⟩,
 ⟨23, .nt (.t 22), (some (20, false)), false⟩,
 ⟨24, .pk (.t 20) (.k (.sc (.bool true))) (.t 23), none, false⟩,
 ⟨25, .mv (.t 24), none, false⟩,
 ⟨26, .mv (.t 0), (some (25, false)), false⟩,
 ⟨27, .nc (.t 26), (some (25, false)), false⟩,
 ⟨28, .fa 3 (.t 27), (some (25, false)), false⟩,
 ⟨29, .ld 1 false (.t 28), (some (25, false)), false⟩,
 ⟨30, .ln false (.t 29), (some (25, false)), false⟩,
 ⟨31, .ar .gtr false (.t 30) (.k (.sc (.int .i64 24))), (some (25, false)), false⟩,
 ⟨32, .pk (.t 25) (.k (.sc (.bool true))) (.t 31), none, false⟩])
 (.ite (.t 32)
 (.seq
 (.reg false [⟨2, .mv (.k (.sc (.bool false))), none, false⟩])
 .ret)
 .skip))
 (.seq
 (.seq
 (.reg false [⟨3, .mv (.k (.sc (.int .i64 0))), none, false⟩])
 (.cln [] [2]
 (.block 0
 (.loop [0, 3] b126_1))))
 (.seq
 (.reg false [⟨2, .mv (.k (.sc (.bool true))), none, false⟩])
 .ret))))⟩
attribute [simp] i126
set_option maxRecDepth 1000000 in
theorem c126 : cFn Try.prog 126 [[], [0, 3], [], [2]] = some i126 := by kernel_rfl
theorem e126 : enterOk Try.prog 126 = true := by kernel_rfl
def w127_1 : IC :=
(.seq
 (.seq
 (.reg false [⟨4, .mv (.t 3), none, false⟩,
 ⟨5, .mv (.t 0), none, false⟩,
 ⟨6, .ln false (.t 5), none, false⟩,
 ⟨7, .ar .lss false (.t 4) (.t 6), none, false⟩])
 (.ite (.t 7)
 .skip
 (.exit 0)))
 (.seq
 (.block 1
 (.seq
 (.reg false [⟨10, .mv (.t 0), none, false⟩,
 ⟨11, .mv (.t 3), none, false⟩,
 ⟨12, .ia 3 (.t 10) (.t 11), none, false⟩,
 ⟨13, .ca (.k (.cl 71 [])) [(.t 12)], none, false⟩,
 ⟨14, .nt (.t 13), none, false⟩])
 (.ite (.t 14)
 (.seq
 (.reg false [⟨2, .mv (.k (.sc (.bool false))), none, false⟩])
 .ret)
 .skip)))
 (.reg false [⟨8, .mv (.t 3), none, false⟩,
 ⟨9, .ar .add false (.t 8) (.k (.sc (.int .i64 1))), none, false⟩,
 ⟨3, .mv (.t 9), none, false⟩])))
def b127_1 : IC := w127_1
theorem u127_1 (call : CallF) (st : St) : evC call b127_1 st = evC call w127_1 st := rfl
attribute [simp] u127_1 w127_1
def i127 : Ev.Fn := ⟨1, 15, [.tmp 2],
 (.seq
 (.reg false [⟨2, .mv (.k (.sc (.bool false))), none, false⟩])
 (.seq
 (.seq
 (.reg false [⟨3, .mv (.k (.sc (.int .i64 0))), none, false⟩])
 (.cln [] [2]
 (.block 0
 (.loop [0, 3] b127_1))))
 (.seq
 (.reg false [⟨2, .mv (.k (.sc (.bool true))), none, false⟩])
 .ret)))⟩
attribute [simp] i127
set_option maxRecDepth 1000000 in
theorem c127 : cFn Try.prog 127 [[], [0, 3], [], [2]] = some i127 := by kernel_rfl
theorem e127 : enterOk Try.prog 127 = true := by kernel_rfl
def w130_1 : IC :=
(.seq
 (.reg false [⟨35, .ar .lss false (.t 34) (.t 33), none, false⟩])
 (.seq
 (.ite (.t 35)
 .skip
 (.exit 0))
 (.seq
 (.block 1
 (.seq
 (.reg false [⟨36, .mv (.t 34), none, false⟩,
 ⟨37, .ia 2 (.t 32) (.t 34), none, false⟩,
 ⟨38, .ld 2 true (.t 37), none, false⟩,
 ⟨4, .al [(.sc (.int .i64 0)), (.sc (.int .i64 0))], none, false⟩,
 ⟨3, .mv (.t 36), none, false⟩,
 ⟨1, .so 2 (.t 4) (.t 38), none, true⟩])
 (.seq
 (.reg true [⟨39, .fa 0 (.t 4), none, false⟩,
 ⟨40, .ld 1 false (.t 39), none, false⟩,
 ⟨41, .fa 0 (.t 1), none, false⟩,
 ⟨42, .ld 1 false (.t 41), none, false⟩,
 ⟨43, .ca (.k (.cl 75 [])) [(.t 40), (.k (.sc (.int .i64 0))), (.t 42)], none, false⟩,
 ⟨44, .nt (.t 43), none, false⟩,
 ⟨45, .mv (.t 44), none, false⟩,
 ⟨46, .fa 1 (.t 4), (some (45, false)), false⟩,
 ⟨47, .ld 1 false (.t 46), (some (45, false)), false⟩,
 ⟨48, .fa 1 (.t 1), (some (45, false)), false⟩,
 ⟨49, .ld 1 false (.t 48), (some (45, false)), false⟩,
 ⟨50, .ca (.k (.cl 75 [])) [(.t 47), (.k (.sc (.int .i64 0))), (.t 49)], (some (45, false)), false⟩,
 ⟨51, .nt (.t 50), (some (45, false)), false⟩,
 ⟨52, .pk (.t 45) (.k (.sc (.bool true))) (.t 51), none, false⟩,
 ⟨53, .mv (.t 52), none, false⟩,
 ⟨54, .fa 2 (.t 1), (some (53, false)), false⟩,
 ⟨55, .ld 1 false (.t 54), (some (53, false)), false⟩,
 ⟨56, .mv (.t 3), (some (53, false)), false⟩,
 ⟨57, .sl 2 (.t 55) none (some (.t 56)), (some (53, false)), false⟩,
 ⟨58, .ld 2 true (.t 4), (some (53, false)), false⟩,
 ⟨59, .ca (.k (.cl 187 [])) [(.t 57), (.t 58)], (some (53, false)), false⟩,
 ⟨60, .pk (.t 53) (.k (.sc (.bool true))) (.t 59), none, false⟩])
 (.ite (.t 60)
 (.seq
 (.reg false [⟨2, .mv (.k (.sc (.bool false))), none, false⟩])
 .ret)
 .skip))))
 (.reg false [⟨61, .ar .add false (.t 34) (.k (.sc (.int .i64 1))), none, false⟩,
 ⟨34, .mv (.t 61), none, false⟩]))))
def b130_1 : IC := w130_1
theorem u130_1 (call : CallF) (st : St) : evC call b130_1 st = evC call w130_1 st := rfl
attribute [simp] u130_1 w130_1
def w130_2 : IC :=
(.seq
 (.reg false [⟨66, .ar .lss false (.t 65) (.t 64), none, false⟩])
 (.seq
 (.ite (.t 66)
 .skip
 (.exit 2))
 (.seq
 (.block 3
 (.seq
 (.reg false [⟨67, .mv (.t 65), none, false⟩,
 ⟨68, .ia 2 (.t 63) (.t 65), none, false⟩,
 ⟨69, .ld 2 true (.t 68), none, false⟩,
 ⟨6, .al [(.sc (.string ⟨#[]⟩)), .nl], none, false⟩,
 ⟨5, .mv (.t 67), none, false⟩,
 ⟨1, .so 2 (.t 6) (.t 69), none, true⟩])
 (.seq
 (.seq
 (.reg true [⟨70, .fa 0 (.t 6), none, false⟩,
 ⟨71, .ld 1 false (.t 70), none, false⟩,
 ⟨72, .ca (.k (.cl 148 [])) [(.t 71)], none, false⟩,
 ⟨73, .nt (.t 72), none, false⟩,
 ⟨74, .mv (.t 73), none, false⟩,
 ⟨75, .mv (.t 5), (some (74, false)), false⟩,
 ⟨76, .ar .gtr false (.t 75) (.k (.sc (.int .i64 0))), (some (74, false)), false⟩,
 ⟨77, .mv (.t 76), (some (74, false)), false⟩,
 ⟨78, .fa 3 (.t 1), (some (77, true)), false⟩,
 ⟨79, .ld 1 false (.t 78), (some (77, true)), false⟩,
 ⟨80, .mv (.t 5), (some (77, true)), false⟩,
 ⟨81, .ar .sub false (.t 80) (.k (.sc (.int .i64 1))), (some (77, true)), false⟩,
 ⟨82, .ia 2 (.t 79) (.t 81), (some (77, true)), false⟩,
 ⟨83, .fa 0 (.t 82), (some (77, true)), false⟩,
 ⟨84, .ld 1 false (.t 83), (some (77, true)), false⟩,
 ⟨85, .fa 0 (.t 6), (some (77, true)), false⟩,
 ⟨86, .ld 1 false (.t 85), (some (77, true)), false⟩,
 ⟨87, .ar .geq false (.t 84) (.t 86), (some (77, true)), false⟩,
 ⟨88, .pk (.t 77) (.t 87) (.k (.sc (.bool false))), (some (74, false)), false⟩,
 ⟨89, .pk (.t 74) (.k (.sc (.bool true))) (.t 88), none, false⟩])
 (.ite (.t 89)
 (.seq
 (.reg false [⟨2, .mv (.k (.sc (.bool false))), none, false⟩])
 .ret)
 .skip))
 (.seq
 (.reg false [⟨91, .fa 2 (.t 1), none, false⟩,
 ⟨92, .ld 1 false (.t 91), none, false⟩,
 ⟨93, .fa 1 (.t 6), none, false⟩,
 ⟨94, .ld 1 false (.t 93), none, false⟩,
 ⟨95, .ca (.k (.cl 188 [])) [(.t 92), (.t 94)], none, false⟩,
 ⟨90, .mv (.t 95), none, false⟩,
 ⟨96, .xt (.t 90) 0, none, false⟩,
 ⟨97, .xt (.t 90) 1, none, false⟩,
 ⟨7, .mv (.t 96), none, false⟩,
 ⟨8, .mv (.t 97), none, false⟩])
 (.seq
 (.reg false [⟨98, .mv (.t 8), none, false⟩,
 ⟨99, .nt (.t 98), none, false⟩,
 ⟨100, .mv (.t 99), none, false⟩,
 ⟨101, .mv (.t 7), (some (100, false)), false⟩,
 ⟨102, .ca (.k (.cl 102 [])) [(.t 101)], (some (100, false)), false⟩,
 ⟨103, .nt (.t 102), (some (100, false)), false⟩,
 ⟨104, .pk (.t 100) (.k (.sc (.bool true))) (.t 103), none, false⟩])
 (.ite (.t 104)
 (.seq
 (.reg false [⟨2, .mv (.k (.sc (.bool false))), none, false⟩])
 .ret)
 .skip))))))
 (.reg false [⟨105, .ar .add false (.t 65) (.k (.sc (.int .i64 1))), none, false⟩,
 ⟨65, .mv (.t 105), none, false⟩]))))
def b130_2 : IC := w130_2
theorem u130_2 (call : CallF) (st : St) : evC call b130_2 st = evC call w130_2 st := rfl
attribute [simp] u130_2 w130_2
def i130 : Ev.Fn := ⟨1, 106, [.tmp 2],
 (.seq
 (.reg false [⟨1, .bx (.t 0), none, false⟩,
 ⟨2, .mv (.k (.sc (.bool false))), none, false⟩])
 (.seq
 (.seq
 (.reg false [⟨9, .fa 0 (.t 1), none, false⟩,
 ⟨10, .ld 1 false (.t 9), none, false⟩,
 ⟨11, .ca (.k (.cl 75 [])) [(.t 10), (.k (.sc (.int .i64 10))), (.k (.sc (.int .i64 20000)))], none, false⟩,
 ⟨12, .nt (.t 11), none, false⟩,
 ⟨13, .mv (.t 12), none, false⟩,
 ⟨14, .fa 1 (.t 1), (some (13, false)), false⟩,
 ⟨15, .ld 1 false (.t 14), (some (13, false)), false⟩,
 ⟨16, .ca (.k (.cl 75 [])) [(.t 15), (.k (.sc (.int .i64 10))), (.k (.sc (.int .i64 20000)))], (some (13, false)), false⟩,
 ⟨17, .nt (.t 16), (some (13, false)), false⟩,
 ⟨18, .pk (.t 13) (.k (.sc (.bool true))) (.t 17), none, false⟩,
 ⟨19, .mv (.t 18), none, false⟩,
 ⟨20, .fa 2 (.t 1), (some (19, false)), false⟩,
 ⟨21, .ld 1 false (.t 20), (some (19, false)), false⟩,
 ⟨22, .ln false (.t 21), (some (19, false)), false⟩,
 ⟨23, .ar .gtr false (.t 22) (.k (.sc (.int .i64 48))), (some (19, false)), false⟩,
 ⟨24, .pk (.t 19) (.k (.sc (.bool true))) (.t 23), none, false⟩,
 ⟨25, .mv (.t 24), none, false⟩,
 ⟨26, .fa 3 (.t 1), (some (25, false)), false⟩,
 ⟨27, .ld 1 false (.t 26), (some (25, false)), false⟩,
 ⟨28, .ln false (.t 27), (some (25, false)), false⟩,
 ⟨29, .ar .gtr false (.t 28) (.k (.sc (.int .i64 24))), (some (25, false)), false⟩,
 ⟨30, .pk (.t 25) (.k (.sc (.bool true))) (.t 29), none, false⟩])
 (.ite (.t 30)
 (.seq
 (.reg false [⟨2, .mv (.k (.sc (.bool false))), none, false⟩])
 .ret)
 .skip))
 (.seq
 (.seq
 (.reg false [⟨31, .fa 2 (.t 1), none, false⟩,
 ⟨32, .ld 1 false (.t 31), none, false⟩,
 ⟨33, .ln false (.t 32), none, false⟩,
 ⟨34, .mv (.k (.sc (.int .i64 0))), none, false⟩])
 (.cln [1] [2]
 (.block 0
 (.loop [1, 32, 33, 34] b130_1))))
 (.seq
 (.seq
 (.reg false [⟨62, .fa 3 (.t 1), none, false⟩,
 ⟨63, .ld 1 false (.t 62), none, false⟩,
 ⟨64, .ln false (.t 63), none, false⟩,
 ⟨65, .mv (.k (.sc (.int .i64 0))), none, false⟩])
 (.cln [] [2]
 (.block 2
 (.loop [1, 63, 64, 65] b130_2))))
 (.seq
 (.reg false [⟨2, .mv (.k (.sc (.bool true))), none, false⟩])
 .ret)))))⟩
attribute [simp] i130
set_option maxRecDepth 1000000 in
theorem c130 : cFn Try.prog 130 [[], [1, 32, 33, 34], [1], [2], [1, 63, 64, 65], [], [2]] = some i130 := by kernel_rfl
theorem e130 : enterOk Try.prog 130 = true := by kernel_rfl
def i131 : Ev.Fn := ⟨1, 6, [.tmp 2],
 (.seq
 (.reg false [⟨2, .mv (.k (.sc (.bool false))), none, false⟩])
 (.seq
 (.reg false [⟨3, .mv (.t 0), none, false⟩,
 ⟨4, .ca (.k (.cl 189 [])) [(.t 3), (.k (.cl 190 []))], none, false⟩,
 ⟨5, .nt (.t 4), none, false⟩,
 ⟨2, .mv (.t 5), none, false⟩])
 .ret))⟩
attribute [simp] i131
set_option maxRecDepth 1000000 in
theorem c131 : cFn Try.prog 131 [[]] = some i131 := by kernel_rfl
theorem e131 : enterOk Try.prog 131 = true := by kernel_rfl
def w134_1 : IC :=
(.seq
 (.seq
 (.reg false [⟨6, .mv (.t 4), none, false⟩,
 ⟨7, .mv (.t 3), none, false⟩,
 ⟨8, .ln false (.t 7), none, false⟩,
 ⟨9, .ar .lss false (.t 6) (.t 8), none, false⟩])
 (.ite (.t 9)
 .skip
 (.exit 0)))
 (.seq
 (.block 1
 (.seq
 (.reg false [⟨12, .mv (.t 3), none, false⟩,
 ⟨13, .mv (.t 4), none, false⟩,
 ⟨14, .ia 1 (.t 12) (.t 13), none, false⟩,
 ⟨15, .ld 1 false (.t 14), none, false⟩,
 ⟨16, .mv (.t 0), none, false⟩,
 ⟨17, .ar .eql false (.t 15) (.t 16), none, false⟩])
 (.ite (.t 17)
 (.seq
 (.reg false [⟨18, .mv (.t 4), none, false⟩,
 ⟨2, .mv (.t 18), none, false⟩])
 .ret)
 .skip)))
 (.reg false [⟨10, .mv (.t 4), none, false⟩,
 ⟨11, .ar .add false (.t 10) (.k (.sc (.int .i64 1))), none, false⟩,
 ⟨4, .mv (.t 11), none, false⟩])))
def b134_1 : IC := w134_1
theorem u134_1 (call : CallF) (st : St) : evC call b134_1 st = evC call w134_1 st := rfl
attribute [simp] u134_1 w134_1
def i134 : Ev.Fn := ⟨1, 19, [.tmp 2],
 (.seq
 (.reg false [⟨2, .mv (.k (.sc (.int .i64 0))), none, false⟩])
 (.seq
 (.reg false [⟨5, .ca (.k (.cl 195 [])) [], none, false⟩,
 ⟨3, .mv (.t 5), none, false⟩])
 (.seq
 (.seq
 (.reg false [⟨4, .mv (.k (.sc (.int .i64 0))), none, false⟩])
 (.cln [] [2]
 (.block 0
 (.loop [0, 3, 4] b134_1))))
 (.seq
 (.reg false [⟨2, .mv (.k (.sc (.int .i64 (-1)))), none, false⟩])
 .ret))))⟩
attribute [simp] i134
set_option maxRecDepth 1000000 in
theorem c134 : cFn Try.prog 134 [[], [0, 3, 4], [], [2]] = some i134 := by kernel_rfl
theorem e134 : enterOk Try.prog 134 = true := by kernel_rfl
def i135 : Ev.Fn := ⟨3, 15, [.tmp 6],
 (.seq
 (.reg false [⟨6, .mv (.k (.sc (.bool false))), none, false⟩])
 (.seq
 (.reg false [⟨7, .mv (.t 0), none, false⟩,
 ⟨8, .mv (.t 1), none, false⟩,
 ⟨9, .ar .geq false (.t 7) (.t 8), none, false⟩,
 ⟨10, .mv (.t 9), none, false⟩,
 ⟨11, .mv (.t 0), (some (10, true)), false⟩,
 ⟨12, .mv (.t 2), (some (10, true)), false⟩,
 ⟨13, .ar .leq false (.t 11) (.t 12), (some (10, true)), false⟩,
 ⟨14, .pk (.t 10) (.t 13) (.k (.sc (.bool false))), none, false⟩,
 ⟨6, .mv (.t 14), none, false⟩])
 .ret))⟩
attribute [simp] i135
set_option maxRecDepth 1000000 in
theorem c135 : cFn Try.prog 135 [[]] = some i135 := by kernel_rfl
theorem e135 : enterOk Try.prog 135 = true := by kernel_rfl
def i136 : Ev.Fn := ⟨0, 12, [.tmp 0],
 (.seq
 (.reg false [⟨0, .mv (.k .nl), none, false⟩])
 (.seq
 (.reg false [⟨1, .bs 2 1 [(.sc (.int .i64 0))] 3 [(0, (.k (.sc (.int .i64 20)))), (1, (.k (.sc (.int .i64 40)))), (2, (.k (.sc (.int .i64 310))))], none, false⟩,
 ⟨2, .bs 2 1 [(.sc (.int .i64 0))] 3 [(0, (.k (.sc (.int .i64 35)))), (1, (.k (.sc (.int .i64 45)))), (2, (.k (.sc (.int .i64 410))))], none, false⟩,
 ⟨3, .bs 2 1 [(.sc (.int .i64 0))] 3 [(0, (.k (.sc (.int .i64 15)))), (1, (.k (.sc (.int .i64 33)))), (2, (.k (.sc (.int .i64 280))))], none, false⟩,
 ⟨4, .bs 2 1 [(.sc (.int .i64 0))] 3 [(0, (.k (.sc (.int .i64 50)))), (1, (.k (.sc (.int .i64 36)))), (2, (.k (.sc (.int .i64 240))))], none, false⟩,
 ⟨5, .bs 2 1 [(.sc (.int .i64 0))] 3 [(0, (.k (.sc (.int .i64 95)))), (1, (.k (.sc (.int .i64 85)))), (2, (.k (.sc (.int .i64 270))))], none, false⟩,
 ⟨6, .bs 2 1 [(.sc (.int .i64 0))] 3 [(0, (.k (.sc (.int .i64 5)))), (1, (.k (.sc (.int .i64 35)))), (2, (.k (.sc (.int .i64 370))))], none, false⟩,
 ⟨7, .bs 2 1 [(.sc (.int .i64 0))] 3 [(0, (.k (.sc (.int .i64 10)))), (1, (.k (.sc (.int .i64 42)))), (2, (.k (.sc (.int .i64 290))))], none, false⟩,
 ⟨8, .bs 2 1 [(.sc (.int .i64 0))] 3 [(0, (.k (.sc (.int .i64 40)))), (1, (.k (.sc (.int .i64 40)))), (2, (.k (.sc (.int .i64 330))))], none, false⟩,
 ⟨9, .bs 2 1 [(.sc (.int .i64 0))] 3 [(0, (.k (.sc (.int .i64 80)))), (1, (.k (.sc (.int .i64 60)))), (2, (.k (.sc (.int .i64 220))))], none, false⟩,
 ⟨10, .bs 2 1 [(.sc (.int .i64 0))] 3 [(0, (.k (.sc (.int .i64 70)))), (1, (.k (.sc (.int .i64 38)))), (2, (.k (.sc (.int .i64 260))))], none, false⟩,
 ⟨11, .bw 24 1 [.nl] 10 [(0, (.t 1)), (1, (.t 2)), (2, (.t 3)), (3, (.t 4)), (4, (.t 5)), (5, (.t 6)), (6, (.t 7)), (7, (.t 8)), (8, (.t 9)), (9, (.t 10))], none, false⟩,
 ⟨0, .mv (.t 11), none, false⟩])
 .ret))⟩
attribute [simp] i136
set_option maxRecDepth 1000000 in
theorem c136 : cFn Try.prog 136 [[]] = some i136 := by kernel_rfl
theorem e136 : enterOk Try.prog 136 = true := by kernel_rfl
def i137 : Ev.Fn := ⟨1, 5, [.tmp 2],
 (.seq
 (.reg false [⟨2, .mv (.k (.sc (.bool false))), none, false⟩])
 (.seq
 (.reg false [⟨3, .mv (.t 0), none, false⟩,
 ⟨4, .ca (.k (.cl 135 [])) [(.t 3), (.k (.sc (.int .i64 0))), (.k (.sc (.int .i64 179)))], none, false⟩,
 ⟨2, .mv (.t 4), none, false⟩])
 .ret))⟩
attribute [simp] i137
set_option maxRecDepth 1000000 in
theorem c137 : cFn Try.prog 137 [[]] = some i137 := by kernel_rfl
theorem e137 : enterOk Try.prog 137 = true := by kernel_rfl
def w138_1 : IC :=
(.seq
 (.seq
 (.reg false [⟨20, .mv (.t 4), none, false⟩,
 ⟨21, .mv (.t 0), none, false⟩,
 ⟨22, .nc (.t 21), none, false⟩,
 ⟨23, .fa 3 (.t 22), none, false⟩,
 ⟨24, .ld 1 false (.t 23), none, false⟩,
 ⟨25, .ln false (.t 24), none, false⟩,
 ⟨26, .ar .lss false (.t 20) (.t 25), none, false⟩])
 (.ite (.t 26)
 .skip
 (.exit 0)))
 (.seq
 (.block 1
 (.rgc [.nx 48 3, .nx 48 29] [⟨29, .fa 3 (.t 3), none, false⟩,
 ⟨30, .ld 1 false (.t 29), none, false⟩,
 ⟨31, .mv (.t 0), none, false⟩,
 ⟨32, .nc (.t 31), none, false⟩,
 ⟨33, .fa 3 (.t 32), none, false⟩,
 ⟨34, .ld 1 false (.t 33), none, false⟩,
 ⟨35, .mv (.t 4), none, false⟩,
 ⟨36, .ia 2 (.t 34) (.t 35), none, false⟩,
 ⟨37, .fa 0 (.t 36), none, false⟩,
 ⟨38, .ld 1 false (.t 37), none, false⟩,
 ⟨39, .mv (.t 0), none, false⟩,
 ⟨40, .nc (.t 39), none, false⟩,
 ⟨41, .fa 3 (.t 40), none, false⟩,
 ⟨42, .ld 1 false (.t 41), none, false⟩,
 ⟨43, .mv (.t 4), none, false⟩,
 ⟨44, .ia 2 (.t 42) (.t 43), none, false⟩,
 ⟨45, .fa 1 (.t 44), none, false⟩,
 ⟨46, .ld 1 false (.t 45), none, false⟩,
 ⟨47, .ca (.k (.cl 59 [])) [(.t 46)], none, false⟩,
 ⟨48, .bd [(.sc (.string ⟨#[]⟩)), .nl] [(0, 1, (.t 38)), (1, 1, (.t 47))], none, false⟩,
 ⟨49, .bw 162 2 [(.sc (.string ⟨#[]⟩)), .nl] 1 [(0, (.t 48))], none, false⟩,
 ⟨50, .ap 162 2 false (.t 30) (.t 49), none, false⟩,
 ⟨51, .fa 3 (.t 3), none, false⟩,
 ⟨0, .so 1 (.t 51) (.t 50), none, true⟩]))
 (.reg false [⟨27, .mv (.t 4), none, false⟩,
 ⟨28, .ar .add false (.t 27) (.k (.sc (.int .i64 1))), none, false⟩,
 ⟨4, .mv (.t 28), none, false⟩])))
def b138_1 : IC := w138_1
theorem u138_1 (call : CallF) (st : St) : evC call b138_1 st = evC call w138_1 st := rfl
attribute [simp] u138_1 w138_1
def i138 : Ev.Fn := ⟨1, 53, [.cell 2 4 true],
 (.seq
 (.reg false [⟨2, .al [(.sc (.int .i64 0)), (.sc (.int .i64 0)), .nl, .nl], none, false⟩])
 (.seq
 (.rgc [.nx 13 5, .nx 17 5, .nx 13 6, .nx 17 6, .nx 13 7, .nx 17 7, .nx 13 9, .nx 17 9, .nx 13 10, .nx 17 10, .nx 13 11, .nx 17 11] [⟨5, .mv (.t 0), none, false⟩,
 ⟨6, .nc (.t 5), none, false⟩,
 ⟨7, .fa 0 (.t 6), none, false⟩,
 ⟨8, .ld 1 false (.t 7), none, false⟩,
 ⟨9, .mv (.t 0), none, false⟩,
 ⟨10, .nc (.t 9), none, false⟩,
 ⟨11, .fa 1 (.t 10), none, false⟩,
 ⟨12, .ld 1 false (.t 11), none, false⟩,
 ⟨13, .bs 146 2 [(.sc (.int .i64 0)), (.sc (.int .i64 0))] 0 [], none, false⟩,
 ⟨14, .mv (.t 0), none, false⟩,
 ⟨15, .nc (.t 14), none, false⟩,
 ⟨16, .fa 2 (.t 15), none, false⟩,
 ⟨17, .ld 1 false (.t 16), none, false⟩,
 ⟨18, .ap 146 2 false (.t 13) (.t 17), none, false⟩,
 ⟨19, .bd [(.sc (.int .i64 0)), (.sc (.int .i64 0)), .nl, .nl] [(0, 1, (.t 8)), (1, 1, (.t 12)), (2, 1, (.t 18))], none, false⟩,
 ⟨3, .al [(.sc (.int .i64 0)), (.sc (.int .i64 0)), .nl, .nl], none, false⟩,
 ⟨0, .so 4 (.t 3) (.t 19), none, true⟩])
 (.seq
 (.seq
 (.reg false [⟨4, .mv (.k (.sc (.int .i64 0))), none, false⟩])
 (.cln [2, 3] [2]
 (.block 0
 (.loop [0, 2, 3, 4] b138_1))))
 (.seq
 (.reg false [⟨52, .ld 4 true (.t 3), none, false⟩,
 ⟨1, .so 4 (.t 2) (.t 52), none, true⟩])
 .ret))))⟩
attribute [simp] i138
set_option maxRecDepth 1000000 in
theorem c138 : cFn Try.prog 138 [[], [0, 2, 3, 4], [2, 3], [2]] = some i138 := by kernel_rfl
theorem e138 : enterOk Try.prog 138 = true := by kernel_rfl
def i139 : Ev.Fn := ⟨1, 18, [.tmp 2, .tmp 3],
 (.seq
 (.reg false [⟨2, .mv (.k (.sc (.int .i64 0))), none, false⟩,
 ⟨3, .mv (.k (.sc (.bool false))), none, false⟩])
 (.seq
 (.reg false [⟨9, .mv (.t 0), none, false⟩,
 ⟨10, .ca (.k (.cl 196 [])) [(.t 9)], none, false⟩,
 ⟨8, .mv (.t 10), none, false⟩,
 ⟨11, .xt (.t 8) 0, none, false⟩,
 ⟨12, .xt (.t 8) 1, none, false⟩,
 ⟨13, .xt (.t 8) 2, none, false⟩,
 ⟨14, .xt (.t 8) 3, none, false⟩,
 ⟨4, .mv (.t 11), none, false⟩,
 ⟨5, .mv (.t 12), none, false⟩,
 ⟨6, .mv (.t 13), none, false⟩,
 ⟨7, .mv (.t 14), none, false⟩])
 (.seq
 (.reg false [⟨15, .mv (.t 4), none, false⟩,
 ⟨16, .mv (.t 7), none, false⟩,
 ⟨17, .ar .eql false (.t 16) (.k (.sc (.int .i64 0))), none, false⟩,
 ⟨2, .mv (.t 15), none, false⟩,
 ⟨3, .mv (.t 17), none, false⟩])
 .ret)))⟩
attribute [simp] i139
set_option maxRecDepth 1000000 in
theorem c139 : cFn Try.prog 139 [[]] = some i139 := by kernel_rfl
theorem e139 : enterOk Try.prog 139 = true := by kernel_rfl
end Go.Proofs.Ytmhddfikpfkeoaa.walkS
