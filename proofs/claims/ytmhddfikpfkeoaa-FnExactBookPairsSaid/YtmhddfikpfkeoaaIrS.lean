/- The functions that some rows reach, turned; no conditions. -/
import Derived.Test.YtmhddfikpfkeoaaIrS1
import Derived.KernelRfl
import Derived.Test.YtmhddfikpfkeoaaProg
namespace Go.Proofs.Ytmhddfikpfkeoaa.walkS
open Go Go.Proofs.Ytmhddfikpfkeoaa.Ev
def w148_1 : IC :=
(.seq
 (.seq
 (.reg false [⟨22, .mv (.t 3), none, false⟩,
 ⟨23, .mv (.t 0), none, false⟩,
 ⟨24, .ln true (.t 23), none, false⟩,
 ⟨25, .ar .lss false (.t 22) (.t 24), none, false⟩])
 (.ite (.t 25)
 .skip
 (.exit 0)))
 (.seq
 (.block 1
 (.seq
 (.reg false [⟨28, .mv (.t 0), none, false⟩,
 ⟨29, .mv (.t 3), none, false⟩,
 ⟨30, .ix (.t 28) (.t 29), none, false⟩,
 ⟨31, .ar .lss false (.t 30) (.k (.sc (.int .u8 97))), none, false⟩,
 ⟨32, .mv (.t 31), none, false⟩,
 ⟨33, .mv (.t 0), (some (32, false)), false⟩,
 ⟨34, .mv (.t 3), (some (32, false)), false⟩,
 ⟨35, .ix (.t 33) (.t 34), (some (32, false)), false⟩,
 ⟨36, .ar .gtr false (.t 35) (.k (.sc (.int .u8 122))), (some (32, false)), false⟩,
 ⟨37, .pk (.t 32) (.k (.sc (.bool true))) (.t 36), none, false⟩,
 ⟨38, .mv (.t 37), none, false⟩,
 ⟨39, .mv (.t 0), (some (38, true)), false⟩,
 ⟨40, .mv (.t 3), (some (38, true)), false⟩,
 ⟨41, .ix (.t 39) (.t 40), (some (38, true)), false⟩,
 ⟨42, .ar .lss false (.t 41) (.k (.sc (.int .u8 48))), (some (38, true)), false⟩,
 ⟨43, .mv (.t 42), (some (38, true)), false⟩,
 ⟨44, .mv (.t 0), (some (43, false)), false⟩,
 ⟨45, .mv (.t 3), (some (43, false)), false⟩,
 ⟨46, .ix (.t 44) (.t 45), (some (43, false)), false⟩,
 ⟨47, .ar .gtr false (.t 46) (.k (.sc (.int .u8 57))), (some (43, false)), false⟩,
 ⟨48, .pk (.t 43) (.k (.sc (.bool true))) (.t 47), (some (38, true)), false⟩,
 ⟨49, .pk (.t 38) (.t 48) (.k (.sc (.bool false))), none, false⟩])
 (.ite (.t 49)
 (.seq
 (.reg false [⟨2, .mv (.k (.sc (.bool false))), none, false⟩])
 .ret)
 .skip)))
 (.reg false [⟨26, .mv (.t 3), none, false⟩,
 ⟨27, .ar .add false (.t 26) (.k (.sc (.int .i64 1))), none, false⟩,
 ⟨3, .mv (.t 27), none, false⟩])))
def b148_1 : IC := w148_1
theorem u148_1 (call : CallF) (st : St) : evC call b148_1 st = evC call w148_1 st := rfl
attribute [simp] u148_1 w148_1
def i148 : Ev.Fn := ⟨1, 50, [.tmp 2],
 (.seq
 (.reg false [⟨2, .mv (.k (.sc (.bool false))), none, false⟩])
 (.seq
 (.seq
 (.reg false [⟨4, .mv (.t 0), none, false⟩,
 ⟨5, .ln true (.t 4), none, false⟩,
 ⟨6, .ar .lss false (.t 5) (.k (.sc (.int .i64 1))), none, false⟩,
 ⟨7, .mv (.t 6), none, false⟩,
 ⟨8, .mv (.t 0), (some (7, false)), false⟩,
 ⟨9, .ln true (.t 8), (some (7, false)), false⟩,
 ⟨10, .ar .gtr false (.t 9) (.k (.sc (.int .i64 10))), (some (7, false)), false⟩,
 ⟨11, .pk (.t 7) (.k (.sc (.bool true))) (.t 10), none, false⟩,
 ⟨12, .mv (.t 11), none, false⟩,
 ⟨13, .mv (.t 0), (some (12, false)), false⟩,
 ⟨14, .ix (.t 13) (.k (.sc (.int .i64 0))), (some (12, false)), false⟩,
 ⟨15, .ar .lss false (.t 14) (.k (.sc (.int .u8 97))), (some (12, false)), false⟩,
 ⟨16, .pk (.t 12) (.k (.sc (.bool true))) (.t 15), none, false⟩,
 ⟨17, .mv (.t 16), none, false⟩,
 ⟨18, .mv (.t 0), (some (17, false)), false⟩,
 ⟨19, .ix (.t 18) (.k (.sc (.int .i64 0))), (some (17, false)), false⟩,
 ⟨20, .ar .gtr false (.t 19) (.k (.sc (.int .u8 122))), (some (17, false)), false⟩,
 ⟨21, .pk (.t 17) (.k (.sc (.bool true))) (.t 20), none, false⟩])
 (.ite (.t 21)
 (.seq
 (.reg false [⟨2, .mv (.k (.sc (.bool false))), none, false⟩])
 .ret)
 .skip))
 (.seq
 (.seq
 (.reg false [⟨3, .mv (.k (.sc (.int .i64 0))), none, false⟩])
 (.cln [] [2]
 (.block 0
 (.loop [0, 3] b148_1))))
 (.seq
 (.reg false [⟨2, .mv (.k (.sc (.bool true))), none, false⟩])
 .ret))))⟩
attribute [simp] i148
set_option maxRecDepth 1000000 in
theorem c148 : cFn Try.prog 148 [[], [0, 3], [], [2]] = some i148 := by kernel_rfl
theorem e148 : enterOk Try.prog 148 = true := by kernel_rfl
def i149 : Ev.Fn := ⟨2, 11, [.tmp 3],
 (.seq
 (.reg false [⟨2, .bx (.t 0), none, false⟩,
 ⟨3, .mv (.k (.sc (.bool false))), none, false⟩])
 (.seq
 (.reg false [⟨4, .ld 4 true (.t 2), none, false⟩,
 ⟨5, .fa 6 (.t 1), none, false⟩,
 ⟨6, .ld 1 false (.t 5), none, false⟩,
 ⟨7, .fa 7 (.t 1), none, false⟩,
 ⟨8, .ld 1 false (.t 7), none, false⟩,
 ⟨9, .ca (.k (.cl 150 [])) [(.t 4), (.t 6), (.t 8)], none, false⟩,
 ⟨10, .nt (.t 9), none, false⟩,
 ⟨3, .mv (.t 10), none, false⟩])
 .ret))⟩
attribute [simp] i149
set_option maxRecDepth 1000000 in
theorem c149 : cFn Try.prog 149 [[]] = some i149 := by kernel_rfl
theorem e149 : enterOk Try.prog 149 = true := by kernel_rfl
def i150 : Ev.Fn := ⟨3, 35, [.tmp 6],
 (.seq
 (.reg false [⟨3, .bx (.t 0), none, false⟩,
 ⟨6, .mv (.k (.sc (.bool false))), none, false⟩])
 (.seq
 (.reg false [⟨7, .fa 0 (.t 3), none, false⟩,
 ⟨8, .ld 1 false (.t 7), none, false⟩,
 ⟨9, .mv (.t 1), none, false⟩,
 ⟨10, .ca (.k (.cl 75 [])) [(.t 8), (.k (.sc (.int .i64 0))), (.t 9)], none, false⟩,
 ⟨11, .mv (.t 10), none, false⟩,
 ⟨12, .fa 1 (.t 3), (some (11, true)), false⟩,
 ⟨13, .ld 1 false (.t 12), (some (11, true)), false⟩,
 ⟨14, .mv (.t 2), (some (11, true)), false⟩,
 ⟨15, .ca (.k (.cl 75 [])) [(.t 13), (.k (.sc (.int .i64 0))), (.t 14)], (some (11, true)), false⟩,
 ⟨16, .pk (.t 11) (.t 15) (.k (.sc (.bool false))), none, false⟩,
 ⟨17, .mv (.t 16), none, false⟩,
 ⟨18, .fa 2 (.t 3), (some (17, true)), false⟩,
 ⟨19, .ld 1 false (.t 18), (some (17, true)), false⟩,
 ⟨20, .mv (.t 1), (some (17, true)), false⟩,
 ⟨21, .fa 0 (.t 3), (some (17, true)), false⟩,
 ⟨22, .ld 1 false (.t 21), (some (17, true)), false⟩,
 ⟨23, .ar .sub false (.t 20) (.t 22), (some (17, true)), false⟩,
 ⟨24, .ca (.k (.cl 75 [])) [(.t 19), (.k (.sc (.int .i64 1))), (.t 23)], (some (17, true)), false⟩,
 ⟨25, .pk (.t 17) (.t 24) (.k (.sc (.bool false))), none, false⟩,
 ⟨26, .mv (.t 25), none, false⟩,
 ⟨27, .fa 3 (.t 3), (some (26, true)), false⟩,
 ⟨28, .ld 1 false (.t 27), (some (26, true)), false⟩,
 ⟨29, .mv (.t 2), (some (26, true)), false⟩,
 ⟨30, .fa 1 (.t 3), (some (26, true)), false⟩,
 ⟨31, .ld 1 false (.t 30), (some (26, true)), false⟩,
 ⟨32, .ar .sub false (.t 29) (.t 31), (some (26, true)), false⟩,
 ⟨33, .ca (.k (.cl 75 [])) [(.t 28), (.k (.sc (.int .i64 1))), (.t 32)], (some (26, true)), false⟩,
 ⟨34, .pk (.t 26) (.t 33) (.k (.sc (.bool false))), none, false⟩,
 ⟨6, .mv (.t 34), none, false⟩])
 .ret))⟩
attribute [simp] i150
set_option maxRecDepth 1000000 in
theorem c150 : cFn Try.prog 150 [[]] = some i150 := by kernel_rfl
theorem e150 : enterOk Try.prog 150 = true := by kernel_rfl
def w151_1 : IC :=
(.seq
 (.reg false [⟨9, .ar .lss false (.t 8) (.t 7), none, false⟩])
 (.seq
 (.ite (.t 9)
 .skip
 (.exit 0))
 (.seq
 (.block 1
 (.seq
 (.reg false [⟨10, .mv (.t 8), none, false⟩,
 ⟨5, .mv (.t 10), none, false⟩])
 (.seq
 (.reg false [⟨11, .mv (.t 1), none, false⟩,
 ⟨12, .mv (.t 0), none, false⟩,
 ⟨13, .mv (.t 5), none, false⟩,
 ⟨14, .ia 4 (.t 12) (.t 13), none, false⟩,
 ⟨15, .ld 4 true (.t 14), none, false⟩,
 ⟨16, .ca (.t 11) [(.t 15)], none, false⟩])
 (.ite (.t 16)
 (.seq
 (.reg false [⟨17, .mv (.t 5), none, false⟩,
 ⟨4, .mv (.t 17), none, false⟩])
 .ret)
 .skip))))
 (.reg false [⟨18, .ar .add false (.t 8) (.k (.sc (.int .i64 1))), none, false⟩,
 ⟨8, .mv (.t 18), none, false⟩]))))
def b151_1 : IC := w151_1
theorem u151_1 (call : CallF) (st : St) : evC call b151_1 st = evC call w151_1 st := rfl
attribute [simp] u151_1 w151_1
def i151 : Ev.Fn := ⟨2, 19, [.tmp 4],
 (.seq
 (.reg false [⟨4, .mv (.k (.sc (.int .i64 0))), none, false⟩])
 (.seq
 (.seq
 (.reg false [⟨6, .mv (.t 0), none, false⟩,
 ⟨7, .ln false (.t 6), none, false⟩,
 ⟨8, .mv (.k (.sc (.int .i64 0))), none, false⟩])
 (.cln [] [4]
 (.block 0
 (.loop [0, 1, 7, 8] b151_1))))
 (.seq
 (.reg false [⟨4, .mv (.k (.sc (.int .i64 (-1)))), none, false⟩])
 .ret)))⟩
attribute [simp] i151
set_option maxRecDepth 1000000 in
theorem c151 : cFn Try.prog 151 [[], [0, 1, 7, 8], [], [4]] = some i151 := by kernel_rfl
theorem e151 : enterOk Try.prog 151 = true := by kernel_rfl
def w183_1 : IC :=
(.seq
 (.seq
 (.reg false [⟨11, .mv (.t 8), none, false⟩,
 ⟨12, .mv (.t 1), none, false⟩,
 ⟨13, .ar .leq false (.t 11) (.t 12), none, false⟩])
 (.ite (.t 13)
 .skip
 (.exit 0)))
 (.block 1
 (.seq
 (.rgw [⟨14, .mv (.t 0), none, false⟩,
 ⟨15, .mv (.t 7), none, false⟩,
 ⟨16, .mv (.t 8), none, false⟩,
 ⟨17, .mv (.t 2), none, false⟩,
 ⟨18, .cw 224 [] [(.t 14), (.t 15), (.t 16), (.t 17)], none, false⟩])
 (.seq
 (.reg false [⟨19, .mv (.t 8), none, false⟩,
 ⟨7, .mv (.t 19), none, false⟩])
 (.reg false [⟨20, .mv (.t 8), none, false⟩,
 ⟨21, .mv (.t 6), none, false⟩,
 ⟨22, .ar .add false (.t 20) (.t 21), none, false⟩,
 ⟨8, .mv (.t 22), none, false⟩])))))
def b183_1 : IC := w183_1
theorem u183_1 (call : CallF) (st : St) : evC call b183_1 st = evC call w183_1 st := rfl
attribute [simp] u183_1 w183_1
def w183_3 : IC :=
(.seq
 (.seq
 (.reg false [⟨33, .mv (.t 8), none, false⟩,
 ⟨34, .mv (.t 1), none, false⟩,
 ⟨35, .ar .leq false (.t 33) (.t 34), none, false⟩])
 (.ite (.t 35)
 .skip
 (.exit 4)))
 (.block 5
 (.seq
 (.reg false [⟨36, .mv (.t 0), none, false⟩,
 ⟨37, .mv (.t 7), none, false⟩,
 ⟨38, .mv (.t 7), none, false⟩,
 ⟨39, .mv (.t 6), none, false⟩,
 ⟨40, .ar .add false (.t 38) (.t 39), none, false⟩,
 ⟨41, .mv (.t 8), none, false⟩,
 ⟨42, .mv (.t 2), none, false⟩,
 ⟨43, .ca (.k (.cl 225 [])) [(.t 36), (.t 37), (.t 40), (.t 41), (.t 42)], none, false⟩])
 (.seq
 (.reg false [⟨44, .mv (.t 8), none, false⟩,
 ⟨7, .mv (.t 44), none, false⟩])
 (.reg false [⟨45, .mv (.t 8), none, false⟩,
 ⟨46, .mv (.t 6), none, false⟩,
 ⟨47, .ar .mul false (.k (.sc (.int .i64 2))) (.t 46), none, false⟩,
 ⟨48, .ar .add false (.t 45) (.t 47), none, false⟩,
 ⟨8, .mv (.t 48), none, false⟩])))))
def b183_3 : IC := w183_3
theorem u183_3 (call : CallF) (st : St) : evC call b183_3 st = evC call w183_3 st := rfl
attribute [simp] u183_3 w183_3
def w183_2 : IC :=
(.seq
 (.seq
 (.reg false [⟨28, .mv (.t 6), none, false⟩,
 ⟨29, .mv (.t 1), none, false⟩,
 ⟨30, .ar .lss false (.t 28) (.t 29), none, false⟩])
 (.ite (.t 30)
 .skip
 (.exit 2)))
 (.block 3
 (.seq
 (.reg false [⟨31, .mv (.t 6), none, false⟩,
 ⟨32, .ar .mul false (.k (.sc (.int .i64 2))) (.t 31), none, false⟩,
 ⟨7, .mv (.k (.sc (.int .i64 0))), none, false⟩,
 ⟨8, .mv (.t 32), none, false⟩])
 (.seq
 (.cln [0, 1, 2, 6, 7, 100000] [100000]
 (.block 4
 (.loop [0, 1, 2, 6, 7, 8, 100000] b183_3)))
 (.seq
 (.seq
 (.reg false [⟨49, .mv (.t 7), none, false⟩,
 ⟨50, .mv (.t 6), none, false⟩,
 ⟨51, .ar .add false (.t 49) (.t 50), none, false⟩,
 ⟨9, .mv (.t 51), none, false⟩])
 (.seq
 (.reg false [⟨52, .mv (.t 9), none, false⟩,
 ⟨53, .mv (.t 1), none, false⟩,
 ⟨54, .ar .lss false (.t 52) (.t 53), none, false⟩])
 (.ite (.t 54)
 (.reg false [⟨55, .mv (.t 0), none, false⟩,
 ⟨56, .mv (.t 7), none, false⟩,
 ⟨57, .mv (.t 9), none, false⟩,
 ⟨58, .mv (.t 1), none, false⟩,
 ⟨59, .mv (.t 2), none, false⟩,
 ⟨60, .ca (.k (.cl 225 [])) [(.t 55), (.t 56), (.t 57), (.t 58), (.t 59)], none, false⟩])
 .skip)))
 (.reg false [⟨61, .mv (.t 6), none, false⟩,
 ⟨62, .ar .mul false (.t 61) (.k (.sc (.int .i64 2))), none, false⟩,
 ⟨6, .mv (.t 62), none, false⟩]))))))
def b183_2 : IC := w183_2
theorem u183_2 (call : CallF) (st : St) : evC call b183_2 st = evC call w183_2 st := rfl
attribute [simp] u183_2 w183_2
def i183 : Ev.Fn := ⟨3, 63, [],
 (.seq
 (.reg false [⟨6, .mv (.k (.sc (.int .i64 20))), none, false⟩])
 (.seq
 (.reg false [⟨10, .mv (.t 6), none, false⟩,
 ⟨7, .mv (.k (.sc (.int .i64 0))), none, false⟩,
 ⟨8, .mv (.t 10), none, false⟩])
 (.seq
 (.cln [0, 1, 2, 6, 7, 100000] [100000]
 (.block 0
 (.loop [0, 1, 2, 6, 7, 8, 100000] b183_1)))
 (.seq
 (.rgw [⟨23, .mv (.t 0), none, false⟩,
 ⟨24, .mv (.t 7), none, false⟩,
 ⟨25, .mv (.t 1), none, false⟩,
 ⟨26, .mv (.t 2), none, false⟩,
 ⟨27, .cw 224 [] [(.t 23), (.t 24), (.t 25), (.t 26)], none, false⟩])
 (.cln [100000] [100000]
 (.block 2
 (.loop [0, 1, 2, 6, 100000] b183_2)))))))⟩
attribute [simp] i183
set_option maxRecDepth 1000000 in
theorem c183 : cFn Try.prog 183 [[224], [0, 1, 2, 6, 7, 8, 100000], [0, 1, 2, 6, 7, 100000], [100000], [0, 1, 2, 6, 100000], [0, 1, 2, 6, 7, 8, 100000], [0, 1, 2, 6, 7, 100000], [100000], [100000], [100000]] = some i183 := by kernel_rfl
theorem e183 : enterOk Try.prog 183 = true := by kernel_rfl
def i195 : Ev.Fn := ⟨0, 2, [.tmp 0],
 (.seq
 (.reg false [⟨0, .mv (.k .nl), none, false⟩])
 (.seq
 (.reg false [⟨1, .bs 9 1 [(.sc (.string ⟨#[]⟩))] 10 [(0, (.k (.sc (.string ⟨#[97, 115, 104]⟩)))), (1, (.k (.sc (.string ⟨#[98, 101, 101, 99, 104]⟩)))), (2, (.k (.sc (.string ⟨#[98, 105, 114, 99, 104]⟩)))), (3, (.k (.sc (.string ⟨#[99, 104, 101, 114, 114, 121]⟩)))), (4, (.k (.sc (.string ⟨#[101, 98, 111, 110, 121]⟩)))), (5, (.k (.sc (.string ⟨#[104, 111, 108, 108, 121]⟩)))), (6, (.k (.sc (.string ⟨#[109, 97, 112, 108, 101]⟩)))), (7, (.k (.sc (.string ⟨#[111, 97, 107]⟩)))), (8, (.k (.sc (.string ⟨#[114, 111, 115, 101, 119, 111, 111, 100]⟩)))), (9, (.k (.sc (.string ⟨#[119, 97, 108, 110, 117, 116]⟩))))], none, false⟩,
 ⟨0, .mv (.t 1), none, false⟩])
 .ret))⟩
attribute [simp] i195
set_option maxRecDepth 1000000 in
theorem c195 : cFn Try.prog 195 [[]] = some i195 := by kernel_rfl
theorem e195 : enterOk Try.prog 195 = true := by kernel_rfl
def i196 : Ev.Fn := ⟨1, 27, [.tmp 2, .tmp 3, .tmp 4, .tmp 5],
 (.seq
 (.reg false [⟨2, .mv (.k (.sc (.int .i64 0))), none, false⟩,
 ⟨3, .mv (.k (.sc (.int .i64 0))), none, false⟩,
 ⟨4, .mv (.k (.sc (.int .i64 0))), none, false⟩,
 ⟨5, .mv (.k (.sc (.int .i64 0))), none, false⟩])
 (.seq
 (.seq
 (.reg false [⟨6, .mv (.t 0), none, false⟩])
 (.block 0
 (.seq
 (.reg false [⟨8, .ar .eql false (.t 6) (.k (.sc (.string ⟨#[97, 115, 104]⟩))), none, false⟩,
 ⟨7, .mv (.t 8), none, false⟩])
 (.ite (.t 7)
 (.seq
 (.reg false [⟨2, .mv (.k (.sc (.int .i64 20))), none, false⟩,
 ⟨3, .mv (.k (.sc (.int .i64 40))), none, false⟩,
 ⟨4, .mv (.k (.sc (.int .i64 310))), none, false⟩,
 ⟨5, .mv (.k (.sc (.int .i64 0))), none, false⟩])
 .ret)
 (.seq
 (.reg false [⟨10, .ar .eql false (.t 6) (.k (.sc (.string ⟨#[98, 101, 101, 99, 104]⟩))), none, false⟩,
 ⟨9, .mv (.t 10), none, false⟩])
 (.ite (.t 9)
 (.seq
 (.reg false [⟨2, .mv (.k (.sc (.int .i64 35))), none, false⟩,
 ⟨3, .mv (.k (.sc (.int .i64 45))), none, false⟩,
 ⟨4, .mv (.k (.sc (.int .i64 410))), none, false⟩,
 ⟨5, .mv (.k (.sc (.int .i64 0))), none, false⟩])
 .ret)
 (.seq
 (.reg false [⟨12, .ar .eql false (.t 6) (.k (.sc (.string ⟨#[98, 105, 114, 99, 104]⟩))), none, false⟩,
 ⟨11, .mv (.t 12), none, false⟩])
 (.ite (.t 11)
 (.seq
 (.reg false [⟨2, .mv (.k (.sc (.int .i64 15))), none, false⟩,
 ⟨3, .mv (.k (.sc (.int .i64 33))), none, false⟩,
 ⟨4, .mv (.k (.sc (.int .i64 280))), none, false⟩,
 ⟨5, .mv (.k (.sc (.int .i64 0))), none, false⟩])
 .ret)
 (.seq
 (.reg false [⟨14, .ar .eql false (.t 6) (.k (.sc (.string ⟨#[99, 104, 101, 114, 114, 121]⟩))), none, false⟩,
 ⟨13, .mv (.t 14), none, false⟩])
 (.ite (.t 13)
 (.seq
 (.reg false [⟨2, .mv (.k (.sc (.int .i64 50))), none, false⟩,
 ⟨3, .mv (.k (.sc (.int .i64 36))), none, false⟩,
 ⟨4, .mv (.k (.sc (.int .i64 240))), none, false⟩,
 ⟨5, .mv (.k (.sc (.int .i64 0))), none, false⟩])
 .ret)
 (.seq
 (.reg false [⟨16, .ar .eql false (.t 6) (.k (.sc (.string ⟨#[101, 98, 111, 110, 121]⟩))), none, false⟩,
 ⟨15, .mv (.t 16), none, false⟩])
 (.ite (.t 15)
 (.seq
 (.reg false [⟨2, .mv (.k (.sc (.int .i64 95))), none, false⟩,
 ⟨3, .mv (.k (.sc (.int .i64 85))), none, false⟩,
 ⟨4, .mv (.k (.sc (.int .i64 270))), none, false⟩,
 ⟨5, .mv (.k (.sc (.int .i64 0))), none, false⟩])
 .ret)
 (.seq
 (.reg false [⟨18, .ar .eql false (.t 6) (.k (.sc (.string ⟨#[104, 111, 108, 108, 121]⟩))), none, false⟩,
 ⟨17, .mv (.t 18), none, false⟩])
 (.ite (.t 17)
 (.seq
 (.reg false [⟨2, .mv (.k (.sc (.int .i64 5))), none, false⟩,
 ⟨3, .mv (.k (.sc (.int .i64 35))), none, false⟩,
 ⟨4, .mv (.k (.sc (.int .i64 370))), none, false⟩,
 ⟨5, .mv (.k (.sc (.int .i64 0))), none, false⟩])
 .ret)
 (.seq
 (.reg false [⟨20, .ar .eql false (.t 6) (.k (.sc (.string ⟨#[109, 97, 112, 108, 101]⟩))), none, false⟩,
 ⟨19, .mv (.t 20), none, false⟩])
 (.ite (.t 19)
 (.seq
 (.reg false [⟨2, .mv (.k (.sc (.int .i64 10))), none, false⟩,
 ⟨3, .mv (.k (.sc (.int .i64 42))), none, false⟩,
 ⟨4, .mv (.k (.sc (.int .i64 290))), none, false⟩,
 ⟨5, .mv (.k (.sc (.int .i64 0))), none, false⟩])
 .ret)
 (.seq
 (.reg false [⟨22, .ar .eql false (.t 6) (.k (.sc (.string ⟨#[111, 97, 107]⟩))), none, false⟩,
 ⟨21, .mv (.t 22), none, false⟩])
 (.ite (.t 21)
 (.seq
 (.reg false [⟨2, .mv (.k (.sc (.int .i64 40))), none, false⟩,
 ⟨3, .mv (.k (.sc (.int .i64 40))), none, false⟩,
 ⟨4, .mv (.k (.sc (.int .i64 330))), none, false⟩,
 ⟨5, .mv (.k (.sc (.int .i64 0))), none, false⟩])
 .ret)
 (.seq
 (.reg false [⟨24, .ar .eql false (.t 6) (.k (.sc (.string ⟨#[114, 111, 115, 101, 119, 111, 111, 100]⟩))), none, false⟩,
 ⟨23, .mv (.t 24), none, false⟩])
 (.ite (.t 23)
 (.seq
 (.reg false [⟨2, .mv (.k (.sc (.int .i64 80))), none, false⟩,
 ⟨3, .mv (.k (.sc (.int .i64 60))), none, false⟩,
 ⟨4, .mv (.k (.sc (.int .i64 220))), none, false⟩,
 ⟨5, .mv (.k (.sc (.int .i64 0))), none, false⟩])
 .ret)
 (.seq
 (.reg false [⟨26, .ar .eql false (.t 6) (.k (.sc (.string ⟨#[119, 97, 108, 110, 117, 116]⟩))), none, false⟩,
 ⟨25, .mv (.t 26), none, false⟩])
 (.ite (.t 25)
 (.seq
 (.reg false [⟨2, .mv (.k (.sc (.int .i64 70))), none, false⟩,
 ⟨3, .mv (.k (.sc (.int .i64 38))), none, false⟩,
 ⟨4, .mv (.k (.sc (.int .i64 260))), none, false⟩,
 ⟨5, .mv (.k (.sc (.int .i64 0))), none, false⟩])
 .ret)
 .skip))))))))))))))))))))))
 (.seq
 (.reg false [⟨2, .mv (.k (.sc (.int .i64 0))), none, false⟩,
 ⟨3, .mv (.k (.sc (.int .i64 0))), none, false⟩,
 ⟨4, .mv (.k (.sc (.int .i64 0))), none, false⟩,
 ⟨5, .mv (.k (.sc (.int .i64 3))), none, false⟩])
 .ret)))⟩
attribute [simp] i196
set_option maxRecDepth 1000000 in
theorem c196 : cFn Try.prog 196 [[]] = some i196 := by kernel_rfl
theorem e196 : enterOk Try.prog 196 = true := by kernel_rfl
def i198 : Ev.Fn := ⟨1, 9, [.tmp 2],
 (.seq
 (.reg false [⟨2, .mv (.k (.sc (.bool false))), none, false⟩])
 (.seq
 (.reg false [⟨3, .mv (.t 0), none, false⟩,
 ⟨4, .ar .geq false (.t 3) (.k (.sc (.int .u8 97))), none, false⟩,
 ⟨5, .mv (.t 4), none, false⟩,
 ⟨6, .mv (.t 0), (some (5, true)), false⟩,
 ⟨7, .ar .leq false (.t 6) (.k (.sc (.int .u8 122))), (some (5, true)), false⟩,
 ⟨8, .pk (.t 5) (.t 7) (.k (.sc (.bool false))), none, false⟩,
 ⟨2, .mv (.t 8), none, false⟩])
 .ret))⟩
attribute [simp] i198
set_option maxRecDepth 1000000 in
theorem c198 : cFn Try.prog 198 [[]] = some i198 := by kernel_rfl
theorem e198 : enterOk Try.prog 198 = true := by kernel_rfl
def i199 : Ev.Fn := ⟨1, 9, [.tmp 2],
 (.seq
 (.reg false [⟨2, .mv (.k (.sc (.bool false))), none, false⟩])
 (.seq
 (.reg false [⟨3, .mv (.t 0), none, false⟩,
 ⟨4, .ar .geq false (.t 3) (.k (.sc (.int .u8 48))), none, false⟩,
 ⟨5, .mv (.t 4), none, false⟩,
 ⟨6, .mv (.t 0), (some (5, true)), false⟩,
 ⟨7, .ar .leq false (.t 6) (.k (.sc (.int .u8 57))), (some (5, true)), false⟩,
 ⟨8, .pk (.t 5) (.t 7) (.k (.sc (.bool false))), none, false⟩,
 ⟨2, .mv (.t 8), none, false⟩])
 .ret))⟩
attribute [simp] i199
set_option maxRecDepth 1000000 in
theorem c199 : cFn Try.prog 199 [[]] = some i199 := by kernel_rfl
theorem e199 : enterOk Try.prog 199 = true := by kernel_rfl
def w224_2 : IC :=
(.seq
 (.seq
 (.reg true [⟨18, .mv (.t 9), none, false⟩,
 ⟨19, .mv (.t 1), none, false⟩,
 ⟨20, .ar .gtr false (.t 18) (.t 19), none, false⟩,
 ⟨21, .mv (.t 20), none, false⟩,
 ⟨22, .mv (.t 3), (some (21, true)), false⟩,
 ⟨23, .mv (.t 0), (some (21, true)), false⟩,
 ⟨24, .mv (.t 9), (some (21, true)), false⟩,
 ⟨25, .ia 1 (.t 23) (.t 24), (some (21, true)), false⟩,
 ⟨26, .ld 1 false (.t 25), (some (21, true)), false⟩,
 ⟨27, .mv (.t 0), (some (21, true)), false⟩,
 ⟨28, .mv (.t 9), (some (21, true)), false⟩,
 ⟨29, .ar .sub false (.t 28) (.k (.sc (.int .i64 1))), (some (21, true)), false⟩,
 ⟨30, .ia 1 (.t 27) (.t 29), (some (21, true)), false⟩,
 ⟨31, .ld 1 false (.t 30), (some (21, true)), false⟩,
 ⟨32, .ca (.t 22) [(.t 26), (.t 31)], (some (21, true)), false⟩,
 ⟨33, .ar .lss false (.t 32) (.k (.sc (.int .i64 0))), (some (21, true)), false⟩,
 ⟨34, .pk (.t 21) (.t 33) (.k (.sc (.bool false))), none, false⟩])
 (.ite (.t 34)
 .skip
 (.exit 2)))
 (.seq
 (.block 3
 (.rgc [] [⟨37, .mv (.t 0), none, false⟩,
 ⟨38, .mv (.t 9), none, false⟩,
 ⟨39, .mv (.t 0), none, false⟩,
 ⟨40, .mv (.t 9), none, false⟩,
 ⟨41, .ar .sub false (.t 40) (.k (.sc (.int .i64 1))), none, false⟩,
 ⟨42, .mv (.t 0), none, false⟩,
 ⟨43, .mv (.t 9), none, false⟩,
 ⟨44, .ar .sub false (.t 43) (.k (.sc (.int .i64 1))), none, false⟩,
 ⟨45, .ia 1 (.t 42) (.t 44), none, false⟩,
 ⟨46, .ld 1 false (.t 45), none, false⟩,
 ⟨47, .mv (.t 0), none, false⟩,
 ⟨48, .mv (.t 9), none, false⟩,
 ⟨49, .ia 1 (.t 47) (.t 48), none, false⟩,
 ⟨50, .ld 1 false (.t 49), none, false⟩,
 ⟨51, .ia 1 (.t 37) (.t 38), none, false⟩,
 ⟨0, .so 1 (.t 51) (.t 46), none, true⟩,
 ⟨52, .ia 1 (.t 39) (.t 41), none, false⟩,
 ⟨0, .so 1 (.t 52) (.t 50), none, true⟩]))
 (.reg false [⟨35, .mv (.t 9), none, false⟩,
 ⟨36, .ar .sub false (.t 35) (.k (.sc (.int .i64 1))), none, false⟩,
 ⟨9, .mv (.t 36), none, false⟩])))
def b224_2 : IC := w224_2
theorem u224_2 (call : CallF) (st : St) : evC call b224_2 st = evC call w224_2 st := rfl
attribute [simp] u224_2 w224_2
def w224_1 : IC :=
(.seq
 (.seq
 (.reg false [⟨12, .mv (.t 8), none, false⟩,
 ⟨13, .mv (.t 2), none, false⟩,
 ⟨14, .ar .lss false (.t 12) (.t 13), none, false⟩])
 (.ite (.t 14)
 .skip
 (.exit 0)))
 (.seq
 (.block 1
 (.seq
 (.reg false [⟨17, .mv (.t 8), none, false⟩,
 ⟨9, .mv (.t 17), none, false⟩])
 (.cln [0, 1, 2, 3, 8, 100000] [100000]
 (.block 2
 (.loop [0, 1, 2, 3, 8, 9, 100000] b224_2)))))
 (.reg false [⟨15, .mv (.t 8), none, false⟩,
 ⟨16, .ar .add false (.t 15) (.k (.sc (.int .i64 1))), none, false⟩,
 ⟨8, .mv (.t 16), none, false⟩])))
def b224_1 : IC := w224_1
theorem u224_1 (call : CallF) (st : St) : evC call b224_1 st = evC call w224_1 st := rfl
attribute [simp] u224_1 w224_1
def i224 : Ev.Fn := ⟨4, 53, [],
 (.seq
 (.reg false [⟨10, .mv (.t 1), none, false⟩,
 ⟨11, .ar .add false (.t 10) (.k (.sc (.int .i64 1))), none, false⟩,
 ⟨8, .mv (.t 11), none, false⟩])
 (.cln [100000] [100000]
 (.block 0
 (.loop [0, 1, 2, 3, 8, 100000] b224_1))))⟩
attribute [simp] i224
set_option maxRecDepth 1000000 in
theorem c224 : cFn Try.prog 224 [[], [0, 1, 2, 3, 8, 100000], [0, 1, 2, 3, 8, 9, 100000], [0, 1, 2, 3, 8, 100000], [100000], [100000], [100000]] = some i224 := by kernel_rfl
theorem e224 : enterOk Try.prog 224 = true := by kernel_rfl
def w225_1 : IC :=
(.seq
 (.seq
 (.reg false [⟨31, .mv (.t 10), none, false⟩,
 ⟨32, .mv (.t 11), none, false⟩,
 ⟨33, .ar .lss false (.t 31) (.t 32), none, false⟩])
 (.ite (.t 33)
 .skip
 (.exit 0)))
 (.block 1
 (.seq
 (.reg false [⟨34, .mv (.t 10), none, false⟩,
 ⟨35, .mv (.t 11), none, false⟩,
 ⟨36, .ar .add false (.t 34) (.t 35), none, false⟩,
 ⟨37, .cv .u64 (.t 36), none, false⟩,
 ⟨38, .ar .shr false (.t 37) (.k (.sc (.int .u64 1))), none, false⟩,
 ⟨39, .cv .i64 (.t 38), none, false⟩,
 ⟨12, .mv (.t 39), none, false⟩])
 (.seq
 (.reg true [⟨40, .mv (.t 4), none, false⟩,
 ⟨41, .mv (.t 0), none, false⟩,
 ⟨42, .mv (.t 12), none, false⟩,
 ⟨43, .ia 1 (.t 41) (.t 42), none, false⟩,
 ⟨44, .ld 1 false (.t 43), none, false⟩,
 ⟨45, .mv (.t 0), none, false⟩,
 ⟨46, .mv (.t 1), none, false⟩,
 ⟨47, .ia 1 (.t 45) (.t 46), none, false⟩,
 ⟨48, .ld 1 false (.t 47), none, false⟩,
 ⟨49, .ca (.t 40) [(.t 44), (.t 48)], none, false⟩,
 ⟨50, .ar .lss false (.t 49) (.k (.sc (.int .i64 0))), none, false⟩])
 (.ite (.t 50)
 (.reg false [⟨51, .mv (.t 12), none, false⟩,
 ⟨52, .ar .add false (.t 51) (.k (.sc (.int .i64 1))), none, false⟩,
 ⟨10, .mv (.t 52), none, false⟩])
 (.reg false [⟨53, .mv (.t 12), none, false⟩,
 ⟨11, .mv (.t 53), none, false⟩]))))))
def b225_1 : IC := w225_1
theorem u225_1 (call : CallF) (st : St) : evC call b225_1 st = evC call w225_1 st := rfl
attribute [simp] u225_1 w225_1
def w225_2 : IC :=
(.seq
 (.seq
 (.reg false [⟨55, .mv (.t 13), none, false⟩,
 ⟨56, .mv (.t 10), none, false⟩,
 ⟨57, .ar .sub false (.t 56) (.k (.sc (.int .i64 1))), none, false⟩,
 ⟨58, .ar .lss false (.t 55) (.t 57), none, false⟩])
 (.ite (.t 58)
 .skip
 (.exit 2)))
 (.seq
 (.block 3
 (.rgc [] [⟨61, .mv (.t 0), none, false⟩,
 ⟨62, .mv (.t 13), none, false⟩,
 ⟨63, .mv (.t 0), none, false⟩,
 ⟨64, .mv (.t 13), none, false⟩,
 ⟨65, .ar .add false (.t 64) (.k (.sc (.int .i64 1))), none, false⟩,
 ⟨66, .mv (.t 0), none, false⟩,
 ⟨67, .mv (.t 13), none, false⟩,
 ⟨68, .ar .add false (.t 67) (.k (.sc (.int .i64 1))), none, false⟩,
 ⟨69, .ia 1 (.t 66) (.t 68), none, false⟩,
 ⟨70, .ld 1 false (.t 69), none, false⟩,
 ⟨71, .mv (.t 0), none, false⟩,
 ⟨72, .mv (.t 13), none, false⟩,
 ⟨73, .ia 1 (.t 71) (.t 72), none, false⟩,
 ⟨74, .ld 1 false (.t 73), none, false⟩,
 ⟨75, .ia 1 (.t 61) (.t 62), none, false⟩,
 ⟨0, .so 1 (.t 75) (.t 70), none, true⟩,
 ⟨76, .ia 1 (.t 63) (.t 65), none, false⟩,
 ⟨0, .so 1 (.t 76) (.t 74), none, true⟩]))
 (.reg false [⟨59, .mv (.t 13), none, false⟩,
 ⟨60, .ar .add false (.t 59) (.k (.sc (.int .i64 1))), none, false⟩,
 ⟨13, .mv (.t 60), none, false⟩])))
def b225_2 : IC := w225_2
theorem u225_2 (call : CallF) (st : St) : evC call b225_2 st = evC call w225_2 st := rfl
attribute [simp] u225_2 w225_2
def w225_3 : IC :=
(.seq
 (.seq
 (.reg false [⟨83, .mv (.t 14), none, false⟩,
 ⟨84, .mv (.t 15), none, false⟩,
 ⟨85, .ar .lss false (.t 83) (.t 84), none, false⟩])
 (.ite (.t 85)
 .skip
 (.exit 4)))
 (.block 5
 (.seq
 (.reg false [⟨86, .mv (.t 14), none, false⟩,
 ⟨87, .mv (.t 15), none, false⟩,
 ⟨88, .ar .add false (.t 86) (.t 87), none, false⟩,
 ⟨89, .cv .u64 (.t 88), none, false⟩,
 ⟨90, .ar .shr false (.t 89) (.k (.sc (.int .u64 1))), none, false⟩,
 ⟨91, .cv .i64 (.t 90), none, false⟩,
 ⟨16, .mv (.t 91), none, false⟩])
 (.seq
 (.reg true [⟨92, .mv (.t 4), none, false⟩,
 ⟨93, .mv (.t 0), none, false⟩,
 ⟨94, .mv (.t 2), none, false⟩,
 ⟨95, .ia 1 (.t 93) (.t 94), none, false⟩,
 ⟨96, .ld 1 false (.t 95), none, false⟩,
 ⟨97, .mv (.t 0), none, false⟩,
 ⟨98, .mv (.t 16), none, false⟩,
 ⟨99, .ia 1 (.t 97) (.t 98), none, false⟩,
 ⟨100, .ld 1 false (.t 99), none, false⟩,
 ⟨101, .ca (.t 92) [(.t 96), (.t 100)], none, false⟩,
 ⟨102, .ar .lss false (.t 101) (.k (.sc (.int .i64 0))), none, false⟩,
 ⟨103, .nt (.t 102), none, false⟩])
 (.ite (.t 103)
 (.reg false [⟨104, .mv (.t 16), none, false⟩,
 ⟨105, .ar .add false (.t 104) (.k (.sc (.int .i64 1))), none, false⟩,
 ⟨14, .mv (.t 105), none, false⟩])
 (.reg false [⟨106, .mv (.t 16), none, false⟩,
 ⟨15, .mv (.t 106), none, false⟩]))))))
def b225_3 : IC := w225_3
theorem u225_3 (call : CallF) (st : St) : evC call b225_3 st = evC call w225_3 st := rfl
attribute [simp] u225_3 w225_3
def w225_4 : IC :=
(.seq
 (.seq
 (.reg false [⟨108, .mv (.t 17), none, false⟩,
 ⟨109, .mv (.t 14), none, false⟩,
 ⟨110, .ar .gtr false (.t 108) (.t 109), none, false⟩])
 (.ite (.t 110)
 .skip
 (.exit 6)))
 (.seq
 (.block 7
 (.rgc [] [⟨113, .mv (.t 0), none, false⟩,
 ⟨114, .mv (.t 17), none, false⟩,
 ⟨115, .mv (.t 0), none, false⟩,
 ⟨116, .mv (.t 17), none, false⟩,
 ⟨117, .ar .sub false (.t 116) (.k (.sc (.int .i64 1))), none, false⟩,
 ⟨118, .mv (.t 0), none, false⟩,
 ⟨119, .mv (.t 17), none, false⟩,
 ⟨120, .ar .sub false (.t 119) (.k (.sc (.int .i64 1))), none, false⟩,
 ⟨121, .ia 1 (.t 118) (.t 120), none, false⟩,
 ⟨122, .ld 1 false (.t 121), none, false⟩,
 ⟨123, .mv (.t 0), none, false⟩,
 ⟨124, .mv (.t 17), none, false⟩,
 ⟨125, .ia 1 (.t 123) (.t 124), none, false⟩,
 ⟨126, .ld 1 false (.t 125), none, false⟩,
 ⟨127, .ia 1 (.t 113) (.t 114), none, false⟩,
 ⟨0, .so 1 (.t 127) (.t 122), none, true⟩,
 ⟨128, .ia 1 (.t 115) (.t 117), none, false⟩,
 ⟨0, .so 1 (.t 128) (.t 126), none, true⟩]))
 (.reg false [⟨111, .mv (.t 17), none, false⟩,
 ⟨112, .ar .sub false (.t 111) (.k (.sc (.int .i64 1))), none, false⟩,
 ⟨17, .mv (.t 112), none, false⟩])))
def b225_4 : IC := w225_4
theorem u225_4 (call : CallF) (st : St) : evC call b225_4 st = evC call w225_4 st := rfl
attribute [simp] u225_4 w225_4
def w225_5 : IC :=
(.seq
 (.seq
 (.reg false [⟨149, .mv (.t 20), none, false⟩,
 ⟨150, .mv (.t 21), none, false⟩,
 ⟨151, .ar .lss false (.t 149) (.t 150), none, false⟩])
 (.ite (.t 151)
 .skip
 (.exit 8)))
 (.block 9
 (.seq
 (.reg false [⟨152, .mv (.t 20), none, false⟩,
 ⟨153, .mv (.t 21), none, false⟩,
 ⟨154, .ar .add false (.t 152) (.t 153), none, false⟩,
 ⟨155, .cv .u64 (.t 154), none, false⟩,
 ⟨156, .ar .shr false (.t 155) (.k (.sc (.int .u64 1))), none, false⟩,
 ⟨157, .cv .i64 (.t 156), none, false⟩,
 ⟨23, .mv (.t 157), none, false⟩])
 (.seq
 (.reg true [⟨158, .mv (.t 4), none, false⟩,
 ⟨159, .mv (.t 0), none, false⟩,
 ⟨160, .mv (.t 22), none, false⟩,
 ⟨161, .mv (.t 23), none, false⟩,
 ⟨162, .ar .sub false (.t 160) (.t 161), none, false⟩,
 ⟨163, .ia 1 (.t 159) (.t 162), none, false⟩,
 ⟨164, .ld 1 false (.t 163), none, false⟩,
 ⟨165, .mv (.t 0), none, false⟩,
 ⟨166, .mv (.t 23), none, false⟩,
 ⟨167, .ia 1 (.t 165) (.t 166), none, false⟩,
 ⟨168, .ld 1 false (.t 167), none, false⟩,
 ⟨169, .ca (.t 158) [(.t 164), (.t 168)], none, false⟩,
 ⟨170, .ar .lss false (.t 169) (.k (.sc (.int .i64 0))), none, false⟩,
 ⟨171, .nt (.t 170), none, false⟩])
 (.ite (.t 171)
 (.reg false [⟨172, .mv (.t 23), none, false⟩,
 ⟨173, .ar .add false (.t 172) (.k (.sc (.int .i64 1))), none, false⟩,
 ⟨20, .mv (.t 173), none, false⟩])
 (.reg false [⟨174, .mv (.t 23), none, false⟩,
 ⟨21, .mv (.t 174), none, false⟩]))))))
def b225_5 : IC := w225_5
theorem u225_5 (call : CallF) (st : St) : evC call b225_5 st = evC call w225_5 st := rfl
attribute [simp] u225_5 w225_5
def i225 : Ev.Fn := ⟨5, 220, [],
 (.seq
 (.seq
 (.reg false [⟨25, .mv (.t 2), none, false⟩,
 ⟨26, .mv (.t 1), none, false⟩,
 ⟨27, .ar .sub false (.t 25) (.t 26), none, false⟩,
 ⟨28, .ar .eql false (.t 27) (.k (.sc (.int .i64 1))), none, false⟩])
 (.ite (.t 28)
 (.seq
 (.reg false [⟨29, .mv (.t 2), none, false⟩,
 ⟨10, .mv (.t 29), none, false⟩])
 (.seq
 (.reg false [⟨30, .mv (.t 3), none, false⟩,
 ⟨11, .mv (.t 30), none, false⟩])
 (.seq
 (.cln [0, 1, 10] []
 (.block 0
 (.loop [0, 1, 4, 10, 11] b225_1)))
 (.seq
 (.seq
 (.reg false [⟨54, .mv (.t 1), none, false⟩,
 ⟨13, .mv (.t 54), none, false⟩])
 (.cln [] []
 (.block 2
 (.loop [0, 10, 13] b225_2))))
 .ret))))
 .skip))
 (.seq
 (.seq
 (.reg false [⟨77, .mv (.t 3), none, false⟩,
 ⟨78, .mv (.t 2), none, false⟩,
 ⟨79, .ar .sub false (.t 77) (.t 78), none, false⟩,
 ⟨80, .ar .eql false (.t 79) (.k (.sc (.int .i64 1))), none, false⟩])
 (.ite (.t 80)
 (.seq
 (.reg false [⟨81, .mv (.t 1), none, false⟩,
 ⟨14, .mv (.t 81), none, false⟩])
 (.seq
 (.reg false [⟨82, .mv (.t 2), none, false⟩,
 ⟨15, .mv (.t 82), none, false⟩])
 (.seq
 (.cln [0, 2, 14] []
 (.block 4
 (.loop [0, 2, 4, 14, 15] b225_3)))
 (.seq
 (.seq
 (.reg false [⟨107, .mv (.t 2), none, false⟩,
 ⟨17, .mv (.t 107), none, false⟩])
 (.cln [] []
 (.block 6
 (.loop [0, 14, 17] b225_4))))
 .ret))))
 .skip))
 (.seq
 (.reg false [⟨129, .mv (.t 1), none, false⟩,
 ⟨130, .mv (.t 3), none, false⟩,
 ⟨131, .ar .add false (.t 129) (.t 130), none, false⟩,
 ⟨132, .cv .u64 (.t 131), none, false⟩,
 ⟨133, .ar .shr false (.t 132) (.k (.sc (.int .u64 1))), none, false⟩,
 ⟨134, .cv .i64 (.t 133), none, false⟩,
 ⟨18, .mv (.t 134), none, false⟩])
 (.seq
 (.reg false [⟨135, .mv (.t 18), none, false⟩,
 ⟨136, .mv (.t 2), none, false⟩,
 ⟨137, .ar .add false (.t 135) (.t 136), none, false⟩,
 ⟨19, .mv (.t 137), none, false⟩])
 (.seq
 (.reg false [⟨20, .mv (.k (.sc (.int .i64 0))), none, false⟩,
 ⟨21, .mv (.k (.sc (.int .i64 0))), none, false⟩])
 (.seq
 (.seq
 (.reg false [⟨138, .mv (.t 2), none, false⟩,
 ⟨139, .mv (.t 18), none, false⟩,
 ⟨140, .ar .gtr false (.t 138) (.t 139), none, false⟩])
 (.ite (.t 140)
 (.seq
 (.reg false [⟨141, .mv (.t 19), none, false⟩,
 ⟨142, .mv (.t 3), none, false⟩,
 ⟨143, .ar .sub false (.t 141) (.t 142), none, false⟩,
 ⟨20, .mv (.t 143), none, false⟩])
 (.reg false [⟨144, .mv (.t 18), none, false⟩,
 ⟨21, .mv (.t 144), none, false⟩]))
 (.seq
 (.reg false [⟨145, .mv (.t 1), none, false⟩,
 ⟨20, .mv (.t 145), none, false⟩])
 (.reg false [⟨146, .mv (.t 2), none, false⟩,
 ⟨21, .mv (.t 146), none, false⟩]))))
 (.seq
 (.reg false [⟨147, .mv (.t 19), none, false⟩,
 ⟨148, .ar .sub false (.t 147) (.k (.sc (.int .i64 1))), none, false⟩,
 ⟨22, .mv (.t 148), none, false⟩])
 (.seq
 (.cln [0, 1, 2, 3, 4, 18, 19, 20] []
 (.block 8
 (.loop [0, 1, 2, 3, 4, 18, 19, 20, 21, 22] b225_5)))
 (.seq
 (.reg false [⟨175, .mv (.t 19), none, false⟩,
 ⟨176, .mv (.t 20), none, false⟩,
 ⟨177, .ar .sub false (.t 175) (.t 176), none, false⟩,
 ⟨24, .mv (.t 177), none, false⟩])
 (.seq
 (.seq
 (.reg false [⟨178, .mv (.t 20), none, false⟩,
 ⟨179, .mv (.t 2), none, false⟩,
 ⟨180, .ar .lss false (.t 178) (.t 179), none, false⟩,
 ⟨181, .mv (.t 180), none, false⟩,
 ⟨182, .mv (.t 2), (some (181, true)), false⟩,
 ⟨183, .mv (.t 24), (some (181, true)), false⟩,
 ⟨184, .ar .lss false (.t 182) (.t 183), (some (181, true)), false⟩,
 ⟨185, .pk (.t 181) (.t 184) (.k (.sc (.bool false))), none, false⟩])
 (.ite (.t 185)
 (.reg false [⟨186, .mv (.t 0), none, false⟩,
 ⟨187, .mv (.t 20), none, false⟩,
 ⟨188, .mv (.t 2), none, false⟩,
 ⟨189, .mv (.t 24), none, false⟩,
 ⟨190, .mv (.t 4), none, false⟩,
 ⟨191, .ca (.k (.cl 240 [])) [(.t 186), (.t 187), (.t 188), (.t 189), (.t 190)], none, false⟩])
 .skip))
 (.seq
 (.seq
 (.reg false [⟨192, .mv (.t 1), none, false⟩,
 ⟨193, .mv (.t 20), none, false⟩,
 ⟨194, .ar .lss false (.t 192) (.t 193), none, false⟩,
 ⟨195, .mv (.t 194), none, false⟩,
 ⟨196, .mv (.t 20), (some (195, true)), false⟩,
 ⟨197, .mv (.t 18), (some (195, true)), false⟩,
 ⟨198, .ar .lss false (.t 196) (.t 197), (some (195, true)), false⟩,
 ⟨199, .pk (.t 195) (.t 198) (.k (.sc (.bool false))), none, false⟩])
 (.ite (.t 199)
 (.reg false [⟨200, .mv (.t 0), none, false⟩,
 ⟨201, .mv (.t 1), none, false⟩,
 ⟨202, .mv (.t 20), none, false⟩,
 ⟨203, .mv (.t 18), none, false⟩,
 ⟨204, .mv (.t 4), none, false⟩,
 ⟨205, .ca (.k (.cl 225 [])) [(.t 200), (.t 201), (.t 202), (.t 203), (.t 204)], none, false⟩])
 .skip))
 (.seq
 (.reg false [⟨206, .mv (.t 18), none, false⟩,
 ⟨207, .mv (.t 24), none, false⟩,
 ⟨208, .ar .lss false (.t 206) (.t 207), none, false⟩,
 ⟨209, .mv (.t 208), none, false⟩,
 ⟨210, .mv (.t 24), (some (209, true)), false⟩,
 ⟨211, .mv (.t 3), (some (209, true)), false⟩,
 ⟨212, .ar .lss false (.t 210) (.t 211), (some (209, true)), false⟩,
 ⟨213, .pk (.t 209) (.t 212) (.k (.sc (.bool false))), none, false⟩])
 (.ite (.t 213)
 (.reg false [⟨214, .mv (.t 0), none, false⟩,
 ⟨215, .mv (.t 18), none, false⟩,
 ⟨216, .mv (.t 24), none, false⟩,
 ⟨217, .mv (.t 3), none, false⟩,
 ⟨218, .mv (.t 4), none, false⟩,
 ⟨219, .ca (.k (.cl 225 [])) [(.t 214), (.t 215), (.t 216), (.t 217), (.t 218)], none, false⟩])
 .skip)))))))))))))⟩
attribute [simp] i225
set_option maxRecDepth 1000000 in
theorem c225 : cFn Try.prog 225 [[], [0, 1, 4, 10, 11], [0, 1, 10], [], [0, 10, 13], [], [], [0, 2, 4, 14, 15], [0, 2, 14], [], [0, 14, 17], [], [], [0, 1, 2, 3, 4, 18, 19, 20, 21, 22], [0, 1, 2, 3, 4, 18, 19, 20], []] = some i225 := by kernel_rfl
theorem e225 : enterOk Try.prog 225 = true := by kernel_rfl
def w240_1 : IC :=
(.seq
 (.seq
 (.reg false [⟨18, .mv (.t 10), none, false⟩,
 ⟨19, .mv (.t 11), none, false⟩,
 ⟨20, .ar .neq false (.t 18) (.t 19), none, false⟩])
 (.ite (.t 20)
 .skip
 (.exit 0)))
 (.block 1
 (.seq
 (.reg false [⟨21, .mv (.t 10), none, false⟩,
 ⟨22, .mv (.t 11), none, false⟩,
 ⟨23, .ar .gtr false (.t 21) (.t 22), none, false⟩])
 (.ite (.t 23)
 (.seq
 (.reg false [⟨24, .mv (.t 0), none, false⟩,
 ⟨25, .mv (.t 2), none, false⟩,
 ⟨26, .mv (.t 10), none, false⟩,
 ⟨27, .ar .sub false (.t 25) (.t 26), none, false⟩,
 ⟨28, .mv (.t 2), none, false⟩,
 ⟨29, .mv (.t 11), none, false⟩,
 ⟨30, .mv (.t 4), none, false⟩,
 ⟨31, .ca (.k (.cl 244 [])) [(.t 24), (.t 27), (.t 28), (.t 29), (.t 30)], none, false⟩])
 (.reg false [⟨32, .mv (.t 10), none, false⟩,
 ⟨33, .mv (.t 11), none, false⟩,
 ⟨34, .ar .sub false (.t 32) (.t 33), none, false⟩,
 ⟨10, .mv (.t 34), none, false⟩]))
 (.seq
 (.reg false [⟨35, .mv (.t 0), none, false⟩,
 ⟨36, .mv (.t 2), none, false⟩,
 ⟨37, .mv (.t 10), none, false⟩,
 ⟨38, .ar .sub false (.t 36) (.t 37), none, false⟩,
 ⟨39, .mv (.t 2), none, false⟩,
 ⟨40, .mv (.t 11), none, false⟩,
 ⟨41, .ar .add false (.t 39) (.t 40), none, false⟩,
 ⟨42, .mv (.t 10), none, false⟩,
 ⟨43, .ar .sub false (.t 41) (.t 42), none, false⟩,
 ⟨44, .mv (.t 10), none, false⟩,
 ⟨45, .mv (.t 4), none, false⟩,
 ⟨46, .ca (.k (.cl 244 [])) [(.t 35), (.t 38), (.t 43), (.t 44), (.t 45)], none, false⟩])
 (.reg false [⟨47, .mv (.t 11), none, false⟩,
 ⟨48, .mv (.t 10), none, false⟩,
 ⟨49, .ar .sub false (.t 47) (.t 48), none, false⟩,
 ⟨11, .mv (.t 49), none, false⟩]))))))
def b240_1 : IC := w240_1
theorem u240_1 (call : CallF) (st : St) : evC call b240_1 st = evC call w240_1 st := rfl
attribute [simp] u240_1 w240_1
def i240 : Ev.Fn := ⟨5, 58, [],
 (.seq
 (.reg false [⟨12, .mv (.t 2), none, false⟩,
 ⟨13, .mv (.t 1), none, false⟩,
 ⟨14, .ar .sub false (.t 12) (.t 13), none, false⟩,
 ⟨10, .mv (.t 14), none, false⟩])
 (.seq
 (.reg false [⟨15, .mv (.t 3), none, false⟩,
 ⟨16, .mv (.t 2), none, false⟩,
 ⟨17, .ar .sub false (.t 15) (.t 16), none, false⟩,
 ⟨11, .mv (.t 17), none, false⟩])
 (.seq
 (.cln [0, 2, 4, 10] []
 (.block 0
 (.loop [0, 2, 4, 10, 11] b240_1)))
 (.reg false [⟨50, .mv (.t 0), none, false⟩,
 ⟨51, .mv (.t 2), none, false⟩,
 ⟨52, .mv (.t 10), none, false⟩,
 ⟨53, .ar .sub false (.t 51) (.t 52), none, false⟩,
 ⟨54, .mv (.t 2), none, false⟩,
 ⟨55, .mv (.t 10), none, false⟩,
 ⟨56, .mv (.t 4), none, false⟩,
 ⟨57, .ca (.k (.cl 244 [])) [(.t 50), (.t 53), (.t 54), (.t 55), (.t 56)], none, false⟩]))))⟩
attribute [simp] i240
set_option maxRecDepth 1000000 in
theorem c240 : cFn Try.prog 240 [[], [0, 2, 4, 10, 11], [0, 2, 4, 10], []] = some i240 := by kernel_rfl
theorem e240 : enterOk Try.prog 240 = true := by kernel_rfl
def w244_1 : IC :=
(.seq
 (.seq
 (.reg false [⟨11, .mv (.t 10), none, false⟩,
 ⟨12, .mv (.t 3), none, false⟩,
 ⟨13, .ar .lss false (.t 11) (.t 12), none, false⟩])
 (.ite (.t 13)
 .skip
 (.exit 0)))
 (.seq
 (.block 1
 (.rgc [] [⟨16, .mv (.t 0), none, false⟩,
 ⟨17, .mv (.t 1), none, false⟩,
 ⟨18, .mv (.t 10), none, false⟩,
 ⟨19, .ar .add false (.t 17) (.t 18), none, false⟩,
 ⟨20, .mv (.t 0), none, false⟩,
 ⟨21, .mv (.t 2), none, false⟩,
 ⟨22, .mv (.t 10), none, false⟩,
 ⟨23, .ar .add false (.t 21) (.t 22), none, false⟩,
 ⟨24, .mv (.t 0), none, false⟩,
 ⟨25, .mv (.t 2), none, false⟩,
 ⟨26, .mv (.t 10), none, false⟩,
 ⟨27, .ar .add false (.t 25) (.t 26), none, false⟩,
 ⟨28, .ia 1 (.t 24) (.t 27), none, false⟩,
 ⟨29, .ld 1 false (.t 28), none, false⟩,
 ⟨30, .mv (.t 0), none, false⟩,
 ⟨31, .mv (.t 1), none, false⟩,
 ⟨32, .mv (.t 10), none, false⟩,
 ⟨33, .ar .add false (.t 31) (.t 32), none, false⟩,
 ⟨34, .ia 1 (.t 30) (.t 33), none, false⟩,
 ⟨35, .ld 1 false (.t 34), none, false⟩,
 ⟨36, .ia 1 (.t 16) (.t 19), none, false⟩,
 ⟨0, .so 1 (.t 36) (.t 29), none, true⟩,
 ⟨37, .ia 1 (.t 20) (.t 23), none, false⟩,
 ⟨0, .so 1 (.t 37) (.t 35), none, true⟩]))
 (.reg false [⟨14, .mv (.t 10), none, false⟩,
 ⟨15, .ar .add false (.t 14) (.k (.sc (.int .i64 1))), none, false⟩,
 ⟨10, .mv (.t 15), none, false⟩])))
def b244_1 : IC := w244_1
theorem u244_1 (call : CallF) (st : St) : evC call b244_1 st = evC call w244_1 st := rfl
attribute [simp] u244_1 w244_1
def i244 : Ev.Fn := ⟨5, 38, [],
 (.seq
 (.reg false [⟨10, .mv (.k (.sc (.int .i64 0))), none, false⟩])
 (.cln [] []
 (.block 0
 (.loop [0, 1, 2, 3, 10] b244_1))))⟩
attribute [simp] i244
set_option maxRecDepth 1000000 in
theorem c244 : cFn Try.prog 244 [[], [0, 1, 2, 3, 10], [], []] = some i244 := by kernel_rfl
theorem e244 : enterOk Try.prog 244 = true := by kernel_rfl
theorem mixed : Try.prog.follows .mixedOrders = true := by kernel_rfl
def Ft : List (Nat × Ev.Fn) := [(3, i3), (4, i4), (11, i11), (12, i12), (13, i13), (14, i14), (15, i15), (16, i16), (17, i17), (18, i18), (19, i19), (20, i20), (21, i21), (22, i22), (23, i23), (24, i24), (30, i30), (32, i32), (36, i36), (38, i38), (40, i40), (41, i41), (57, i57), (58, i58), (59, i59), (60, i60), (61, i61), (62, i62), (63, i63), (71, i71), (74, i74), (75, i75), (79, i79), (80, i80), (82, i82), (83, i83), (84, i84), (88, i88), (89, i89), (93, i93), (122, i122), (123, i123), (124, i124), (125, i125), (134, i134), (135, i135), (136, i136), (137, i137), (139, i139), (142, i142), (143, i143), (147, i147), (148, i148), (149, i149), (150, i150), (151, i151), (183, i183), (195, i195), (196, i196), (198, i198), (199, i199), (224, i224), (225, i225), (240, i240), (244, i244)]
def F : Nat → Option Ev.Fn := getF Ft
noncomputable def ev (d : Nat) : CallF := evF F (fun _ _ => none) d
theorem ev_fn {f : Nat} {fn : Ev.Fn} (h : F f = some fn) (d : Nat) (args : List LV) (hl : args.length = fn.nargs) : ev (d + 1) f args = Ev.finish fn.res (evC (ev d) fn.body (Ev.start args)) := evF_fn h d args hl
set_option maxRecDepth 1000000 in
theorem tab : ∀ f fn, F f = some fn → enterOk Try.prog f = true ∧ ∃ ks, cFn Try.prog f ks = some fn :=
  tabF (L := Ft) ⟨⟨e3, _, c3⟩, ⟨e4, _, c4⟩, ⟨e11, _, c11⟩, ⟨e12, _, c12⟩, ⟨e13, _, c13⟩, ⟨e14, _, c14⟩, ⟨e15, _, c15⟩, ⟨e16, _, c16⟩, ⟨e17, _, c17⟩, ⟨e18, _, c18⟩, ⟨e19, _, c19⟩, ⟨e20, _, c20⟩, ⟨e21, _, c21⟩, ⟨e22, _, c22⟩, ⟨e23, _, c23⟩, ⟨e24, _, c24⟩, ⟨e30, _, c30⟩, ⟨e32, _, c32⟩, ⟨e36, _, c36⟩, ⟨e38, _, c38⟩, ⟨e40, _, c40⟩, ⟨e41, _, c41⟩, ⟨e57, _, c57⟩, ⟨e58, _, c58⟩, ⟨e59, _, c59⟩, ⟨e60, _, c60⟩, ⟨e61, _, c61⟩, ⟨e62, _, c62⟩, ⟨e63, _, c63⟩, ⟨e71, _, c71⟩, ⟨e74, _, c74⟩, ⟨e75, _, c75⟩, ⟨e79, _, c79⟩, ⟨e80, _, c80⟩, ⟨e82, _, c82⟩, ⟨e83, _, c83⟩, ⟨e84, _, c84⟩, ⟨e88, _, c88⟩, ⟨e89, _, c89⟩, ⟨e93, _, c93⟩, ⟨e122, _, c122⟩, ⟨e123, _, c123⟩, ⟨e124, _, c124⟩, ⟨e125, _, c125⟩, ⟨e134, _, c134⟩, ⟨e135, _, c135⟩, ⟨e136, _, c136⟩, ⟨e137, _, c137⟩, ⟨e139, _, c139⟩, ⟨e142, _, c142⟩, ⟨e143, _, c143⟩, ⟨e147, _, c147⟩, ⟨e148, _, c148⟩, ⟨e149, _, c149⟩, ⟨e150, _, c150⟩, ⟨e151, _, c151⟩, ⟨e183, _, c183⟩, ⟨e195, _, c195⟩, ⟨e196, _, c196⟩, ⟨e198, _, c198⟩, ⟨e199, _, c199⟩, ⟨e224, _, c224⟩, ⟨e225, _, c225⟩, ⟨e240, _, c240⟩, ⟨e244, _, c244⟩, trivial⟩
theorem tabn : ∀ f fn, F f = some fn → f < wrN := tabN (L := Ft) (by kernel_rfl)
theorem callOk (d : Nat) : CallOk Try.prog (ev d) := (evF_ok2 mixed tab tabn (noPrim_ok _) (noPrim_okW _) d).1
abbrev I (n : Int) : LV := .sc (.int .i64 n)
abbrev B (b : Bool) : LV := .sc (.bool b)
abbrev T (s : ByteArray) : LV := .sc (.string s)
theorem s3 (d : Nat) (args : List LV) (hl : args.length = i3.nargs) : ev (d + 1) 3 args = Ev.finish i3.res (evC (ev d) i3.body (Ev.start args)) := ev_fn (by kernel_rfl) d args hl
theorem s4 (d : Nat) (args : List LV) (hl : args.length = i4.nargs) : ev (d + 1) 4 args = Ev.finish i4.res (evC (ev d) i4.body (Ev.start args)) := ev_fn (by kernel_rfl) d args hl
theorem s11 (d : Nat) (args : List LV) (hl : args.length = i11.nargs) : ev (d + 1) 11 args = Ev.finish i11.res (evC (ev d) i11.body (Ev.start args)) := ev_fn (by kernel_rfl) d args hl
theorem s12 (d : Nat) (args : List LV) (hl : args.length = i12.nargs) : ev (d + 1) 12 args = Ev.finish i12.res (evC (ev d) i12.body (Ev.start args)) := ev_fn (by kernel_rfl) d args hl
theorem s13 (d : Nat) (args : List LV) (hl : args.length = i13.nargs) : ev (d + 1) 13 args = Ev.finish i13.res (evC (ev d) i13.body (Ev.start args)) := ev_fn (by kernel_rfl) d args hl
theorem s14 (d : Nat) (args : List LV) (hl : args.length = i14.nargs) : ev (d + 1) 14 args = Ev.finish i14.res (evC (ev d) i14.body (Ev.start args)) := ev_fn (by kernel_rfl) d args hl
theorem s15 (d : Nat) (args : List LV) (hl : args.length = i15.nargs) : ev (d + 1) 15 args = Ev.finish i15.res (evC (ev d) i15.body (Ev.start args)) := ev_fn (by kernel_rfl) d args hl
theorem s16 (d : Nat) (args : List LV) (hl : args.length = i16.nargs) : ev (d + 1) 16 args = Ev.finish i16.res (evC (ev d) i16.body (Ev.start args)) := ev_fn (by kernel_rfl) d args hl
theorem s17 (d : Nat) (args : List LV) (hl : args.length = i17.nargs) : ev (d + 1) 17 args = Ev.finish i17.res (evC (ev d) i17.body (Ev.start args)) := ev_fn (by kernel_rfl) d args hl
theorem s18 (d : Nat) (args : List LV) (hl : args.length = i18.nargs) : ev (d + 1) 18 args = Ev.finish i18.res (evC (ev d) i18.body (Ev.start args)) := ev_fn (by kernel_rfl) d args hl
theorem s19 (d : Nat) (args : List LV) (hl : args.length = i19.nargs) : ev (d + 1) 19 args = Ev.finish i19.res (evC (ev d) i19.body (Ev.start args)) := ev_fn (by kernel_rfl) d args hl
theorem s20 (d : Nat) (args : List LV) (hl : args.length = i20.nargs) : ev (d + 1) 20 args = Ev.finish i20.res (evC (ev d) i20.body (Ev.start args)) := ev_fn (by kernel_rfl) d args hl
theorem s21 (d : Nat) (args : List LV) (hl : args.length = i21.nargs) : ev (d + 1) 21 args = Ev.finish i21.res (evC (ev d) i21.body (Ev.start args)) := ev_fn (by kernel_rfl) d args hl
theorem s22 (d : Nat) (args : List LV) (hl : args.length = i22.nargs) : ev (d + 1) 22 args = Ev.finish i22.res (evC (ev d) i22.body (Ev.start args)) := ev_fn (by kernel_rfl) d args hl
theorem s23 (d : Nat) (args : List LV) (hl : args.length = i23.nargs) : ev (d + 1) 23 args = Ev.finish i23.res (evC (ev d) i23.body (Ev.start args)) := ev_fn (by kernel_rfl) d args hl
theorem s24 (d : Nat) (args : List LV) (hl : args.length = i24.nargs) : ev (d + 1) 24 args = Ev.finish i24.res (evC (ev d) i24.body (Ev.start args)) := ev_fn (by kernel_rfl) d args hl
theorem s30 (d : Nat) (args : List LV) (hl : args.length = i30.nargs) : ev (d + 1) 30 args = Ev.finish i30.res (evC (ev d) i30.body (Ev.start args)) := ev_fn (by kernel_rfl) d args hl
theorem s32 (d : Nat) (args : List LV) (hl : args.length = i32.nargs) : ev (d + 1) 32 args = Ev.finish i32.res (evC (ev d) i32.body (Ev.start args)) := ev_fn (by kernel_rfl) d args hl
theorem s36 (d : Nat) (args : List LV) (hl : args.length = i36.nargs) : ev (d + 1) 36 args = Ev.finish i36.res (evC (ev d) i36.body (Ev.start args)) := ev_fn (by kernel_rfl) d args hl
theorem s38 (d : Nat) (args : List LV) (hl : args.length = i38.nargs) : ev (d + 1) 38 args = Ev.finish i38.res (evC (ev d) i38.body (Ev.start args)) := ev_fn (by kernel_rfl) d args hl
theorem s40 (d : Nat) (args : List LV) (hl : args.length = i40.nargs) : ev (d + 1) 40 args = Ev.finish i40.res (evC (ev d) i40.body (Ev.start args)) := ev_fn (by kernel_rfl) d args hl
theorem s41 (d : Nat) (args : List LV) (hl : args.length = i41.nargs) : ev (d + 1) 41 args = Ev.finish i41.res (evC (ev d) i41.body (Ev.start args)) := ev_fn (by kernel_rfl) d args hl
theorem s57 (d : Nat) (args : List LV) (hl : args.length = i57.nargs) : ev (d + 1) 57 args = Ev.finish i57.res (evC (ev d) i57.body (Ev.start args)) := ev_fn (by kernel_rfl) d args hl
theorem s58 (d : Nat) (args : List LV) (hl : args.length = i58.nargs) : ev (d + 1) 58 args = Ev.finish i58.res (evC (ev d) i58.body (Ev.start args)) := ev_fn (by kernel_rfl) d args hl
theorem s59 (d : Nat) (args : List LV) (hl : args.length = i59.nargs) : ev (d + 1) 59 args = Ev.finish i59.res (evC (ev d) i59.body (Ev.start args)) := ev_fn (by kernel_rfl) d args hl
theorem s60 (d : Nat) (args : List LV) (hl : args.length = i60.nargs) : ev (d + 1) 60 args = Ev.finish i60.res (evC (ev d) i60.body (Ev.start args)) := ev_fn (by kernel_rfl) d args hl
theorem s61 (d : Nat) (args : List LV) (hl : args.length = i61.nargs) : ev (d + 1) 61 args = Ev.finish i61.res (evC (ev d) i61.body (Ev.start args)) := ev_fn (by kernel_rfl) d args hl
theorem s62 (d : Nat) (args : List LV) (hl : args.length = i62.nargs) : ev (d + 1) 62 args = Ev.finish i62.res (evC (ev d) i62.body (Ev.start args)) := ev_fn (by kernel_rfl) d args hl
theorem s63 (d : Nat) (args : List LV) (hl : args.length = i63.nargs) : ev (d + 1) 63 args = Ev.finish i63.res (evC (ev d) i63.body (Ev.start args)) := ev_fn (by kernel_rfl) d args hl
theorem s71 (d : Nat) (args : List LV) (hl : args.length = i71.nargs) : ev (d + 1) 71 args = Ev.finish i71.res (evC (ev d) i71.body (Ev.start args)) := ev_fn (by kernel_rfl) d args hl
theorem s74 (d : Nat) (args : List LV) (hl : args.length = i74.nargs) : ev (d + 1) 74 args = Ev.finish i74.res (evC (ev d) i74.body (Ev.start args)) := ev_fn (by kernel_rfl) d args hl
theorem s75 (d : Nat) (args : List LV) (hl : args.length = i75.nargs) : ev (d + 1) 75 args = Ev.finish i75.res (evC (ev d) i75.body (Ev.start args)) := ev_fn (by kernel_rfl) d args hl
theorem s79 (d : Nat) (args : List LV) (hl : args.length = i79.nargs) : ev (d + 1) 79 args = Ev.finish i79.res (evC (ev d) i79.body (Ev.start args)) := ev_fn (by kernel_rfl) d args hl
theorem s80 (d : Nat) (args : List LV) (hl : args.length = i80.nargs) : ev (d + 1) 80 args = Ev.finish i80.res (evC (ev d) i80.body (Ev.start args)) := ev_fn (by kernel_rfl) d args hl
theorem s82 (d : Nat) (args : List LV) (hl : args.length = i82.nargs) : ev (d + 1) 82 args = Ev.finish i82.res (evC (ev d) i82.body (Ev.start args)) := ev_fn (by kernel_rfl) d args hl
theorem s83 (d : Nat) (args : List LV) (hl : args.length = i83.nargs) : ev (d + 1) 83 args = Ev.finish i83.res (evC (ev d) i83.body (Ev.start args)) := ev_fn (by kernel_rfl) d args hl
theorem s84 (d : Nat) (args : List LV) (hl : args.length = i84.nargs) : ev (d + 1) 84 args = Ev.finish i84.res (evC (ev d) i84.body (Ev.start args)) := ev_fn (by kernel_rfl) d args hl
theorem s88 (d : Nat) (args : List LV) (hl : args.length = i88.nargs) : ev (d + 1) 88 args = Ev.finish i88.res (evC (ev d) i88.body (Ev.start args)) := ev_fn (by kernel_rfl) d args hl
theorem s89 (d : Nat) (args : List LV) (hl : args.length = i89.nargs) : ev (d + 1) 89 args = Ev.finish i89.res (evC (ev d) i89.body (Ev.start args)) := ev_fn (by kernel_rfl) d args hl
theorem s93 (d : Nat) (args : List LV) (hl : args.length = i93.nargs) : ev (d + 1) 93 args = Ev.finish i93.res (evC (ev d) i93.body (Ev.start args)) := ev_fn (by kernel_rfl) d args hl
theorem s122 (d : Nat) (args : List LV) (hl : args.length = i122.nargs) : ev (d + 1) 122 args = Ev.finish i122.res (evC (ev d) i122.body (Ev.start args)) := ev_fn (by kernel_rfl) d args hl
theorem s123 (d : Nat) (args : List LV) (hl : args.length = i123.nargs) : ev (d + 1) 123 args = Ev.finish i123.res (evC (ev d) i123.body (Ev.start args)) := ev_fn (by kernel_rfl) d args hl
theorem s124 (d : Nat) (args : List LV) (hl : args.length = i124.nargs) : ev (d + 1) 124 args = Ev.finish i124.res (evC (ev d) i124.body (Ev.start args)) := ev_fn (by kernel_rfl) d args hl
theorem s125 (d : Nat) (args : List LV) (hl : args.length = i125.nargs) : ev (d + 1) 125 args = Ev.finish i125.res (evC (ev d) i125.body (Ev.start args)) := ev_fn (by kernel_rfl) d args hl
theorem s134 (d : Nat) (args : List LV) (hl : args.length = i134.nargs) : ev (d + 1) 134 args = Ev.finish i134.res (evC (ev d) i134.body (Ev.start args)) := ev_fn (by kernel_rfl) d args hl
theorem s135 (d : Nat) (args : List LV) (hl : args.length = i135.nargs) : ev (d + 1) 135 args = Ev.finish i135.res (evC (ev d) i135.body (Ev.start args)) := ev_fn (by kernel_rfl) d args hl
theorem s136 (d : Nat) (args : List LV) (hl : args.length = i136.nargs) : ev (d + 1) 136 args = Ev.finish i136.res (evC (ev d) i136.body (Ev.start args)) := ev_fn (by kernel_rfl) d args hl
theorem s137 (d : Nat) (args : List LV) (hl : args.length = i137.nargs) : ev (d + 1) 137 args = Ev.finish i137.res (evC (ev d) i137.body (Ev.start args)) := ev_fn (by kernel_rfl) d args hl
theorem s139 (d : Nat) (args : List LV) (hl : args.length = i139.nargs) : ev (d + 1) 139 args = Ev.finish i139.res (evC (ev d) i139.body (Ev.start args)) := ev_fn (by kernel_rfl) d args hl
theorem s142 (d : Nat) (args : List LV) (hl : args.length = i142.nargs) : ev (d + 1) 142 args = Ev.finish i142.res (evC (ev d) i142.body (Ev.start args)) := ev_fn (by kernel_rfl) d args hl
theorem s143 (d : Nat) (args : List LV) (hl : args.length = i143.nargs) : ev (d + 1) 143 args = Ev.finish i143.res (evC (ev d) i143.body (Ev.start args)) := ev_fn (by kernel_rfl) d args hl
theorem s147 (d : Nat) (args : List LV) (hl : args.length = i147.nargs) : ev (d + 1) 147 args = Ev.finish i147.res (evC (ev d) i147.body (Ev.start args)) := ev_fn (by kernel_rfl) d args hl
theorem s148 (d : Nat) (args : List LV) (hl : args.length = i148.nargs) : ev (d + 1) 148 args = Ev.finish i148.res (evC (ev d) i148.body (Ev.start args)) := ev_fn (by kernel_rfl) d args hl
theorem s149 (d : Nat) (args : List LV) (hl : args.length = i149.nargs) : ev (d + 1) 149 args = Ev.finish i149.res (evC (ev d) i149.body (Ev.start args)) := ev_fn (by kernel_rfl) d args hl
theorem s150 (d : Nat) (args : List LV) (hl : args.length = i150.nargs) : ev (d + 1) 150 args = Ev.finish i150.res (evC (ev d) i150.body (Ev.start args)) := ev_fn (by kernel_rfl) d args hl
theorem s151 (d : Nat) (args : List LV) (hl : args.length = i151.nargs) : ev (d + 1) 151 args = Ev.finish i151.res (evC (ev d) i151.body (Ev.start args)) := ev_fn (by kernel_rfl) d args hl
theorem s183 (d : Nat) (args : List LV) (hl : args.length = i183.nargs) : ev (d + 1) 183 args = Ev.finish i183.res (evC (ev d) i183.body (Ev.start args)) := ev_fn (by kernel_rfl) d args hl
theorem s195 (d : Nat) (args : List LV) (hl : args.length = i195.nargs) : ev (d + 1) 195 args = Ev.finish i195.res (evC (ev d) i195.body (Ev.start args)) := ev_fn (by kernel_rfl) d args hl
theorem s196 (d : Nat) (args : List LV) (hl : args.length = i196.nargs) : ev (d + 1) 196 args = Ev.finish i196.res (evC (ev d) i196.body (Ev.start args)) := ev_fn (by kernel_rfl) d args hl
theorem s198 (d : Nat) (args : List LV) (hl : args.length = i198.nargs) : ev (d + 1) 198 args = Ev.finish i198.res (evC (ev d) i198.body (Ev.start args)) := ev_fn (by kernel_rfl) d args hl
theorem s199 (d : Nat) (args : List LV) (hl : args.length = i199.nargs) : ev (d + 1) 199 args = Ev.finish i199.res (evC (ev d) i199.body (Ev.start args)) := ev_fn (by kernel_rfl) d args hl
theorem s224 (d : Nat) (args : List LV) (hl : args.length = i224.nargs) : ev (d + 1) 224 args = Ev.finish i224.res (evC (ev d) i224.body (Ev.start args)) := ev_fn (by kernel_rfl) d args hl
theorem s225 (d : Nat) (args : List LV) (hl : args.length = i225.nargs) : ev (d + 1) 225 args = Ev.finish i225.res (evC (ev d) i225.body (Ev.start args)) := ev_fn (by kernel_rfl) d args hl
theorem s240 (d : Nat) (args : List LV) (hl : args.length = i240.nargs) : ev (d + 1) 240 args = Ev.finish i240.res (evC (ev d) i240.body (Ev.start args)) := ev_fn (by kernel_rfl) d args hl
theorem s244 (d : Nat) (args : List LV) (hl : args.length = i244.nargs) : ev (d + 1) 244 args = Ev.finish i244.res (evC (ev d) i244.body (Ev.start args)) := ev_fn (by kernel_rfl) d args hl
theorem v17 (d : Nat) {args bs : List LV} {st : St} (hs : startW args = some (bs, st)) (hl : bs.length = i17.nargs) : ev (d + 1) (wrN + 17) args = finishW bs i17.res (evC (ev d) i17.body st) := evF_fnW (by kernel_rfl) tabn d hs hl
theorem v18 (d : Nat) {args bs : List LV} {st : St} (hs : startW args = some (bs, st)) (hl : bs.length = i18.nargs) : ev (d + 1) (wrN + 18) args = finishW bs i18.res (evC (ev d) i18.body st) := evF_fnW (by kernel_rfl) tabn d hs hl
theorem v23 (d : Nat) {args bs : List LV} {st : St} (hs : startW args = some (bs, st)) (hl : bs.length = i23.nargs) : ev (d + 1) (wrN + 23) args = finishW bs i23.res (evC (ev d) i23.body st) := evF_fnW (by kernel_rfl) tabn d hs hl
theorem v63 (d : Nat) {args bs : List LV} {st : St} (hs : startW args = some (bs, st)) (hl : bs.length = i63.nargs) : ev (d + 1) (wrN + 63) args = finishW bs i63.res (evC (ev d) i63.body st) := evF_fnW (by kernel_rfl) tabn d hs hl
theorem v124 (d : Nat) {args bs : List LV} {st : St} (hs : startW args = some (bs, st)) (hl : bs.length = i124.nargs) : ev (d + 1) (wrN + 124) args = finishW bs i124.res (evC (ev d) i124.body st) := evF_fnW (by kernel_rfl) tabn d hs hl
theorem v183 (d : Nat) {args bs : List LV} {st : St} (hs : startW args = some (bs, st)) (hl : bs.length = i183.nargs) : ev (d + 1) (wrN + 183) args = finishW bs i183.res (evC (ev d) i183.body st) := evF_fnW (by kernel_rfl) tabn d hs hl
theorem v224 (d : Nat) {args bs : List LV} {st : St} (hs : startW args = some (bs, st)) (hl : bs.length = i224.nargs) : ev (d + 1) (wrN + 224) args = finishW bs i224.res (evC (ev d) i224.body st) := evF_fnW (by kernel_rfl) tabn d hs hl
end Go.Proofs.Ytmhddfikpfkeoaa.walkS
