/- The functions that some rows reach, turned; no conditions. -/
import Derived.Test.YthnkioafikmmaaaGreatIrS1
import Derived.KernelRfl
import Derived.Test.YthnkioafikmmaaaGreatProg
namespace Go.Proofs.YthnkioafikmmaaaGreat.walkS
open Go Go.Proofs.YthnkioafikmmaaaGreat.Ev
def i98 : Ev.Fn := ⟨2, 16, [.tmp 4],
 (.seq
 (.reg false [⟨2, .bx (.t 0), none, false⟩,
 ⟨3, .bx (.t 1), none, false⟩,
 ⟨4, .mv (.k (.sc (.bool false))), none, false⟩])
 (.seq
 (.seq
 (.reg false [⟨5, .fa 0 (.t 2), none, false⟩,
 ⟨6, .ld 1 false (.t 5), none, false⟩,
 ⟨7, .fa 0 (.t 3), none, false⟩,
 ⟨8, .ld 1 false (.t 7), none, false⟩,
 ⟨9, .ar .neq false (.t 6) (.t 8), none, false⟩])
 (.ite (.t 9)
 (.seq
 (.reg false [⟨4, .mv (.k (.sc (.bool false))), none, false⟩])
 .ret)
 .skip))
 (.seq
 (.seq
 (.reg false [⟨10, .fa 1 (.t 2), none, false⟩,
 ⟨11, .ld 1 false (.t 10), none, false⟩,
 ⟨12, .fa 1 (.t 3), none, false⟩,
 ⟨13, .ld 1 false (.t 12), none, false⟩,
 ⟨14, .ca (.k (.cl 150 [])) [(.t 11), (.t 13)], none, false⟩,
 ⟨15, .nt (.t 14), none, false⟩])
 (.ite (.t 15)
 (.seq
 (.reg false [⟨4, .mv (.k (.sc (.bool false))), none, false⟩])
 .ret)
 .skip))
 (.seq
 (.reg false [⟨4, .mv (.k (.sc (.bool true))), none, false⟩])
 .ret))))⟩
attribute [simp] i98
set_option maxRecDepth 1000000 in
theorem c98 : cFn Tryz.prog 98 [[]] = some i98 := by kernel_rfl
theorem e98 : enterOk Tryz.prog 98 = true := by kernel_rfl
def w99_1 : IC :=
(.seq
 (.seq
 (.reg false [⟨6, .mv (.t 5), none, false⟩,
 ⟨7, .mv (.t 0), none, false⟩,
 ⟨8, .ln false (.t 7), none, false⟩,
 ⟨9, .ar .lss false (.t 6) (.t 8), none, false⟩])
 (.ite (.t 9)
 .skip
 (.exit 0)))
 (.seq
 (.block 1
 (.seq
 (.reg false [⟨12, .mv (.t 0), none, false⟩,
 ⟨13, .mv (.t 5), none, false⟩,
 ⟨14, .mv (.t 1), none, false⟩,
 ⟨15, .ia 1 (.t 12) (.t 13), none, false⟩,
 ⟨1, .so 1 (.t 15) (.t 14), none, true⟩])
 (.reg false [⟨16, .mv (.t 1), none, false⟩,
 ⟨17, .ar .add false (.t 16) (.k (.sc (.int .i64 1))), none, false⟩,
 ⟨1, .mv (.t 17), none, false⟩])))
 (.reg false [⟨10, .mv (.t 5), none, false⟩,
 ⟨11, .ar .add false (.t 10) (.k (.sc (.int .i64 1))), none, false⟩,
 ⟨5, .mv (.t 11), none, false⟩])))
def b99_1 : IC := w99_1
theorem u99_1 (call : CallF) (st : St) : evC call b99_1 st = evC call w99_1 st := rfl
attribute [simp] u99_1 w99_1
def i99 : Ev.Fn := ⟨2, 19, [.tmp 4],
 (.seq
 (.reg false [⟨4, .mv (.k (.sc (.int .i64 0))), none, false⟩])
 (.seq
 (.seq
 (.reg false [⟨5, .mv (.k (.sc (.int .i64 0))), none, false⟩])
 (.cln [1, 100000] [4, 100000]
 (.block 0
 (.loop [0, 1, 5, 100000] b99_1))))
 (.seq
 (.reg false [⟨18, .mv (.t 1), none, false⟩,
 ⟨4, .mv (.t 18), none, false⟩])
 .ret)))⟩
attribute [simp] i99
set_option maxRecDepth 1000000 in
theorem c99 : cFn Tryz.prog 99 [[], [0, 1, 5, 100000], [1, 100000], [4, 100000]] = some i99 := by kernel_rfl
theorem e99 : enterOk Tryz.prog 99 = true := by kernel_rfl
def w100_1 : IC :=
(.seq
 (.seq
 (.reg false [⟨6, .mv (.t 5), none, false⟩,
 ⟨7, .mv (.t 0), none, false⟩,
 ⟨8, .ln false (.t 7), none, false⟩,
 ⟨9, .ar .lss false (.t 6) (.t 8), none, false⟩])
 (.ite (.t 9)
 .skip
 (.exit 0)))
 (.seq
 (.block 1
 (.seq
 (.seq
 (.reg false [⟨12, .mv (.t 0), none, false⟩,
 ⟨13, .mv (.t 5), none, false⟩,
 ⟨14, .ia 1 (.t 12) (.t 13), none, false⟩,
 ⟨15, .ld 1 false (.t 14), none, false⟩,
 ⟨16, .mv (.t 1), none, false⟩,
 ⟨17, .ar .neq false (.t 15) (.t 16), none, false⟩])
 (.ite (.t 17)
 (.seq
 (.reg false [⟨4, .mv (.k (.sc (.int .i64 (-1)))), none, false⟩])
 .ret)
 .skip))
 (.reg false [⟨18, .mv (.t 1), none, false⟩,
 ⟨19, .ar .add false (.t 18) (.k (.sc (.int .i64 1))), none, false⟩,
 ⟨1, .mv (.t 19), none, false⟩])))
 (.reg false [⟨10, .mv (.t 5), none, false⟩,
 ⟨11, .ar .add false (.t 10) (.k (.sc (.int .i64 1))), none, false⟩,
 ⟨5, .mv (.t 11), none, false⟩])))
def b100_1 : IC := w100_1
theorem u100_1 (call : CallF) (st : St) : evC call b100_1 st = evC call w100_1 st := rfl
attribute [simp] u100_1 w100_1
def i100 : Ev.Fn := ⟨2, 21, [.tmp 4],
 (.seq
 (.reg false [⟨4, .mv (.k (.sc (.int .i64 0))), none, false⟩])
 (.seq
 (.seq
 (.reg false [⟨5, .mv (.k (.sc (.int .i64 0))), none, false⟩])
 (.cln [1] [4]
 (.block 0
 (.loop [0, 1, 5] b100_1))))
 (.seq
 (.reg false [⟨20, .mv (.t 1), none, false⟩,
 ⟨4, .mv (.t 20), none, false⟩])
 .ret)))⟩
attribute [simp] i100
set_option maxRecDepth 1000000 in
theorem c100 : cFn Tryz.prog 100 [[], [0, 1, 5], [1], [4]] = some i100 := by kernel_rfl
theorem e100 : enterOk Tryz.prog 100 = true := by kernel_rfl
def w101_2 : IC :=
(.seq
 (.seq
 (.reg false [⟨50, .mv (.t 4), none, false⟩,
 ⟨51, .mv (.t 3), none, false⟩,
 ⟨52, .ar .lss false (.t 50) (.t 51), none, false⟩])
 (.ite (.t 52)
 .skip
 (.exit 2)))
 (.seq
 (.block 3
 (.seq
 (.reg true [⟨55, .mv (.t 0), none, false⟩,
 ⟨56, .nc (.t 55), none, false⟩,
 ⟨57, .fa 2 (.t 56), none, false⟩,
 ⟨58, .ld 1 false (.t 57), none, false⟩,
 ⟨59, .mv (.t 3), none, false⟩,
 ⟨60, .ia 2 (.t 58) (.t 59), none, false⟩,
 ⟨61, .ld 2 true (.t 60), none, false⟩,
 ⟨62, .mv (.t 0), none, false⟩,
 ⟨63, .nc (.t 62), none, false⟩,
 ⟨64, .fa 2 (.t 63), none, false⟩,
 ⟨65, .ld 1 false (.t 64), none, false⟩,
 ⟨66, .mv (.t 4), none, false⟩,
 ⟨67, .ia 2 (.t 65) (.t 66), none, false⟩,
 ⟨68, .ld 2 true (.t 67), none, false⟩,
 ⟨69, .eq false [1, 1] (.t 61) (.t 68), none, false⟩])
 (.ite (.t 69)
 (.seq
 (.reg false [⟨2, .mv (.k (.sc (.bool false))), none, false⟩])
 .ret)
 .skip)))
 (.reg false [⟨53, .mv (.t 4), none, false⟩,
 ⟨54, .ar .add false (.t 53) (.k (.sc (.int .i64 1))), none, false⟩,
 ⟨4, .mv (.t 54), none, false⟩])))
def b101_2 : IC := w101_2
theorem u101_2 (call : CallF) (st : St) : evC call b101_2 st = evC call w101_2 st := rfl
attribute [simp] u101_2 w101_2
def w101_1 : IC :=
(.seq
 (.seq
 (.reg false [⟨11, .mv (.t 3), none, false⟩,
 ⟨12, .mv (.t 0), none, false⟩,
 ⟨13, .nc (.t 12), none, false⟩,
 ⟨14, .fa 2 (.t 13), none, false⟩,
 ⟨15, .ld 1 false (.t 14), none, false⟩,
 ⟨16, .ln false (.t 15), none, false⟩,
 ⟨17, .ar .lss false (.t 11) (.t 16), none, false⟩])
 (.ite (.t 17)
 .skip
 (.exit 0)))
 (.seq
 (.block 1
 (.seq
 (.seq
 (.reg true [⟨20, .mv (.t 0), none, false⟩,
 ⟨21, .nc (.t 20), none, false⟩,
 ⟨22, .fa 2 (.t 21), none, false⟩,
 ⟨23, .ld 1 false (.t 22), none, false⟩,
 ⟨24, .mv (.t 3), none, false⟩,
 ⟨25, .ia 2 (.t 23) (.t 24), none, false⟩,
 ⟨26, .fa 0 (.t 25), none, false⟩,
 ⟨27, .ld 1 false (.t 26), none, false⟩,
 ⟨28, .mv (.t 0), none, false⟩,
 ⟨29, .nc (.t 28), none, false⟩,
 ⟨30, .fa 0 (.t 29), none, false⟩,
 ⟨31, .ld 1 false (.t 30), none, false⟩,
 ⟨32, .ca (.k (.cl 71 [])) [(.t 27), (.k (.sc (.int .i64 0))), (.t 31)], none, false⟩,
 ⟨33, .nt (.t 32), none, false⟩,
 ⟨34, .mv (.t 33), none, false⟩,
 ⟨35, .mv (.t 0), (some (34, false)), false⟩,
 ⟨36, .nc (.t 35), (some (34, false)), false⟩,
 ⟨37, .fa 2 (.t 36), (some (34, false)), false⟩,
 ⟨38, .ld 1 false (.t 37), (some (34, false)), false⟩,
 ⟨39, .mv (.t 3), (some (34, false)), false⟩,
 ⟨40, .ia 2 (.t 38) (.t 39), (some (34, false)), false⟩,
 ⟨41, .fa 1 (.t 40), (some (34, false)), false⟩,
 ⟨42, .ld 1 false (.t 41), (some (34, false)), false⟩,
 ⟨43, .mv (.t 0), (some (34, false)), false⟩,
 ⟨44, .nc (.t 43), (some (34, false)), false⟩,
 ⟨45, .fa 1 (.t 44), (some (34, false)), false⟩,
 ⟨46, .ld 1 false (.t 45), (some (34, false)), false⟩,
 ⟨47, .ca (.k (.cl 71 [])) [(.t 42), (.k (.sc (.int .i64 0))), (.t 46)], (some (34, false)), false⟩,
 ⟨48, .nt (.t 47), (some (34, false)), false⟩,
 ⟨49, .pk (.t 34) (.k (.sc (.bool true))) (.t 48), none, false⟩])
 (.ite (.t 49)
 (.seq
 (.reg false [⟨2, .mv (.k (.sc (.bool false))), none, false⟩])
 .ret)
 .skip))
 (.seq
 (.reg false [⟨4, .mv (.k (.sc (.int .i64 0))), none, false⟩])
 (.cln [0, 3] [2]
 (.block 2
 (.loop [0, 3, 4] b101_2))))))
 (.reg false [⟨18, .mv (.t 3), none, false⟩,
 ⟨19, .ar .add false (.t 18) (.k (.sc (.int .i64 1))), none, false⟩,
 ⟨3, .mv (.t 19), none, false⟩])))
def b101_1 : IC := w101_1
theorem u101_1 (call : CallF) (st : St) : evC call b101_1 st = evC call w101_1 st := rfl
attribute [simp] u101_1 w101_1
def i101 : Ev.Fn := ⟨1, 70, [.tmp 2],
 (.seq
 (.reg false [⟨2, .mv (.k (.sc (.bool false))), none, false⟩])
 (.seq
 (.seq
 (.reg false [⟨5, .mv (.t 0), none, false⟩,
 ⟨6, .nc (.t 5), none, false⟩,
 ⟨7, .fa 2 (.t 6), none, false⟩,
 ⟨8, .ld 1 false (.t 7), none, false⟩,
 ⟨9, .ln false (.t 8), none, false⟩,
 ⟨10, .ar .gtr false (.t 9) (.k (.sc (.int .i64 48))), none, false⟩])
 (.ite (.t 10)
 (.seq
 (.reg false [⟨2, .mv (.k (.sc (.bool false))), none, false⟩])
 .ret)
 .skip))
 (.seq
 (.seq
 (.reg false [⟨3, .mv (.k (.sc (.int .i64 0))), none, false⟩])
 (.cln [] [2]
 (.block 0
 (.loop [0, 3] b101_1))))
 (.seq
 (.reg false [⟨2, .mv (.k (.sc (.bool true))), none, false⟩])
 .ret))))⟩
attribute [simp] i101
set_option maxRecDepth 1000000 in
theorem c101 : cFn Tryz.prog 101 [[], [0, 3], [0, 3, 4], [0, 3], [2], [], [2]] = some i101 := by kernel_rfl
theorem e101 : enterOk Tryz.prog 101 = true := by kernel_rfl
def w102_1 : IC :=
(.seq
 (.seq
 (.reg false [⟨17, .mv (.t 3), none, false⟩,
 ⟨18, .mv (.t 0), none, false⟩,
 ⟨19, .ln true (.t 18), none, false⟩,
 ⟨20, .ar .lss false (.t 17) (.t 19), none, false⟩])
 (.ite (.t 20)
 .skip
 (.exit 0)))
 (.seq
 (.block 1
 (.seq
 (.reg false [⟨23, .mv (.t 0), none, false⟩,
 ⟨24, .mv (.t 3), none, false⟩,
 ⟨25, .ix (.t 23) (.t 24), none, false⟩,
 ⟨26, .ca (.k (.cl 151 [])) [(.t 25)], none, false⟩,
 ⟨27, .nt (.t 26), none, false⟩,
 ⟨28, .mv (.t 27), none, false⟩,
 ⟨29, .mv (.t 0), (some (28, true)), false⟩,
 ⟨30, .mv (.t 3), (some (28, true)), false⟩,
 ⟨31, .ix (.t 29) (.t 30), (some (28, true)), false⟩,
 ⟨32, .ca (.k (.cl 152 [])) [(.t 31)], (some (28, true)), false⟩,
 ⟨33, .nt (.t 32), (some (28, true)), false⟩,
 ⟨34, .pk (.t 28) (.t 33) (.k (.sc (.bool false))), none, false⟩])
 (.ite (.t 34)
 (.seq
 (.reg false [⟨2, .mv (.k (.sc (.bool false))), none, false⟩])
 .ret)
 .skip)))
 (.reg false [⟨21, .mv (.t 3), none, false⟩,
 ⟨22, .ar .add false (.t 21) (.k (.sc (.int .i64 1))), none, false⟩,
 ⟨3, .mv (.t 22), none, false⟩])))
def b102_1 : IC := w102_1
theorem u102_1 (call : CallF) (st : St) : evC call b102_1 st = evC call w102_1 st := rfl
attribute [simp] u102_1 w102_1
def i102 : Ev.Fn := ⟨1, 35, [.tmp 2],
 (.seq
 (.reg false [⟨2, .mv (.k (.sc (.bool false))), none, false⟩])
 (.seq
 (.seq
 (.reg false [⟨4, .mv (.t 0), none, false⟩,
 ⟨5, .ar .eql false (.t 4) (.k (.sc (.string ⟨#[]⟩))), none, false⟩,
 ⟨6, .mv (.t 5), none, false⟩,
 ⟨7, .mv (.t 0), (some (6, false)), false⟩,
 ⟨8, .ln true (.t 7), (some (6, false)), false⟩,
 ⟨9, .ar .gtr false (.t 8) (.k (.sc (.int .i64 10))), (some (6, false)), false⟩,
 ⟨10, .pk (.t 6) (.k (.sc (.bool true))) (.t 9), none, false⟩,
 ⟨11, .mv (.t 10), none, false⟩,
 ⟨12, .mv (.t 0), (some (11, false)), false⟩,
 ⟨13, .ix (.t 12) (.k (.sc (.int .i64 0))), (some (11, false)), false⟩,
 ⟨14, .ca (.k (.cl 151 [])) [(.t 13)], (some (11, false)), false⟩,
 ⟨15, .nt (.t 14), (some (11, false)), false⟩,
 ⟨16, .pk (.t 11) (.k (.sc (.bool true))) (.t 15), none, false⟩])
 (.ite (.t 16)
 (.seq
 (.reg false [⟨2, .mv (.k (.sc (.bool false))), none, false⟩])
 .ret)
 .skip))
 (.seq
 (.seq
 (.reg false [⟨3, .mv (.k (.sc (.int .i64 0))), none, false⟩])
 (.cln [] [2]
 (.block 0
 (.loop [0, 3] b102_1))))
 (.seq
 (.reg false [⟨2, .mv (.k (.sc (.bool true))), none, false⟩])
 .ret))))⟩
attribute [simp] i102
set_option maxRecDepth 1000000 in
theorem c102 : cFn Tryz.prog 102 [[], [0, 3], [], [2]] = some i102 := by kernel_rfl
theorem e102 : enterOk Tryz.prog 102 = true := by kernel_rfl
def w103_1 : IC :=
(.seq
 (.seq
 (.reg false [⟨9, .mv (.t 7), none, false⟩,
 ⟨10, .mv (.t 1), none, false⟩,
 ⟨11, .ln false (.t 10), none, false⟩,
 ⟨12, .ar .lss false (.t 9) (.t 11), none, false⟩])
 (.ite (.t 12)
 .skip
 (.exit 0)))
 (.seq
 (.block 1
 (.seq
 (.seq
 (.reg true [⟨15, .mv (.t 1), none, false⟩,
 ⟨16, .mv (.t 7), none, false⟩,
 ⟨17, .ia 1 (.t 15) (.t 16), none, false⟩,
 ⟨18, .ld 1 false (.t 17), none, false⟩,
 ⟨19, .mv (.t 0), none, false⟩,
 ⟨20, .nc (.t 19), none, false⟩,
 ⟨21, .fa 2 (.t 20), none, false⟩,
 ⟨22, .ld 1 false (.t 21), none, false⟩,
 ⟨23, .ln false (.t 22), none, false⟩,
 ⟨24, .ar .sub false (.t 23) (.k (.sc (.int .i64 1))), none, false⟩,
 ⟨25, .ca (.k (.cl 71 [])) [(.t 18), (.k (.sc (.int .i64 0))), (.t 24)], none, false⟩,
 ⟨26, .nt (.t 25), none, false⟩])
 (.ite (.t 26)
 (.seq
 (.reg false [⟨4, .mv (.k .nl), none, false⟩,
 ⟨5, .mv (.k (.sc (.bool false))), none, false⟩])
 .ret)
 .skip))
 (.reg true [⟨27, .mv (.t 6), none, false⟩,
 ⟨28, .mv (.t 0), none, false⟩,
 ⟨29, .nc (.t 28), none, false⟩,
 ⟨30, .fa 2 (.t 29), none, false⟩,
 ⟨31, .ld 1 false (.t 30), none, false⟩,
 ⟨32, .mv (.t 1), none, false⟩,
 ⟨33, .mv (.t 7), none, false⟩,
 ⟨34, .ia 1 (.t 32) (.t 33), none, false⟩,
 ⟨35, .ld 1 false (.t 34), none, false⟩,
 ⟨36, .ia 2 (.t 31) (.t 35), none, false⟩,
 ⟨37, .ld 2 true (.t 36), none, false⟩,
 ⟨38, .bs 72 2 [(.sc (.int .i64 0)), (.sc (.int .i64 0))] 1 [(0, (.t 37))], none, false⟩,
 ⟨39, .ap 72 2 false (.t 27) (.t 38), none, false⟩,
 ⟨6, .mv (.t 39), none, false⟩])))
 (.reg false [⟨13, .mv (.t 7), none, false⟩,
 ⟨14, .ar .add false (.t 13) (.k (.sc (.int .i64 1))), none, false⟩,
 ⟨7, .mv (.t 14), none, false⟩])))
def b103_1 : IC := w103_1
theorem u103_1 (call : CallF) (st : St) : evC call b103_1 st = evC call w103_1 st := rfl
attribute [simp] u103_1 w103_1
def i103 : Ev.Fn := ⟨2, 41, [.tmp 4, .tmp 5],
 (.seq
 (.reg false [⟨4, .mv (.k .nl), none, false⟩,
 ⟨5, .mv (.k (.sc (.bool false))), none, false⟩])
 (.seq
 (.reg false [⟨8, .bs 72 2 [(.sc (.int .i64 0)), (.sc (.int .i64 0))] 0 [], none, false⟩,
 ⟨6, .mv (.t 8), none, false⟩])
 (.seq
 (.seq
 (.reg false [⟨7, .mv (.k (.sc (.int .i64 0))), none, false⟩])
 (.cln [6] [4, 5]
 (.block 0
 (.loop [0, 1, 6, 7] b103_1))))
 (.seq
 (.reg false [⟨40, .mv (.t 6), none, false⟩,
 ⟨4, .mv (.t 40), none, false⟩,
 ⟨5, .mv (.k (.sc (.bool true))), none, false⟩])
 .ret))))⟩
attribute [simp] i103
set_option maxRecDepth 1000000 in
theorem c103 : cFn Tryz.prog 103 [[], [0, 1, 6, 7], [6], [4, 5]] = some i103 := by kernel_rfl
theorem e103 : enterOk Tryz.prog 103 = true := by kernel_rfl
def w104_1 : IC :=
(.seq
 (.seq
 (.reg false [⟨18, .mv (.t 4), none, false⟩,
 ⟨19, .mv (.t 3), none, false⟩,
 ⟨20, .ar .lss false (.t 18) (.t 19), none, false⟩])
 (.ite (.t 20)
 .skip
 (.exit 0)))
 (.seq
 (.block 1
 (.seq
 (.reg false [⟨23, .mv (.t 0), none, false⟩,
 ⟨24, .mv (.t 4), none, false⟩,
 ⟨25, .ia 2 (.t 23) (.t 24), none, false⟩,
 ⟨26, .ld 2 true (.t 25), none, false⟩,
 ⟨27, .ca (.k (.cl 153 [])) [(.t 26)], none, false⟩,
 ⟨28, .nt (.t 27), none, false⟩])
 (.ite (.t 28)
 (.seq
 (.reg false [⟨2, .mv (.k (.sc (.bool false))), none, false⟩])
 .ret)
 .skip)))
 (.reg false [⟨21, .mv (.t 4), none, false⟩,
 ⟨22, .ar .add false (.t 21) (.k (.sc (.int .i64 1))), none, false⟩,
 ⟨4, .mv (.t 22), none, false⟩])))
def b104_1 : IC := w104_1
theorem u104_1 (call : CallF) (st : St) : evC call b104_1 st = evC call w104_1 st := rfl
attribute [simp] u104_1 w104_1
def w104_3 : IC :=
(.seq
 (.seq
 (.reg false [⟨69, .mv (.t 9), none, false⟩,
 ⟨70, .mv (.t 3), none, false⟩,
 ⟨71, .ar .lss false (.t 69) (.t 70), none, false⟩])
 (.ite (.t 71)
 .skip
 (.exit 4)))
 (.seq
 (.block 5
 (.seq
 (.reg true [⟨74, .mv (.t 9), none, false⟩,
 ⟨75, .ar .add false (.t 74) (.k (.sc (.int .i64 1))), none, false⟩,
 ⟨76, .mv (.t 3), none, false⟩,
 ⟨77, .ar .rem false (.t 75) (.t 76), none, false⟩,
 ⟨78, .mv (.t 5), none, false⟩,
 ⟨79, .ar .neq false (.t 77) (.t 78), none, false⟩,
 ⟨80, .mv (.t 79), none, false⟩,
 ⟨81, .ld 2 true (.t 6), (some (80, true)), false⟩,
 ⟨82, .ld 2 true (.t 7), (some (80, true)), false⟩,
 ⟨83, .mv (.t 0), (some (80, true)), false⟩,
 ⟨84, .mv (.t 9), (some (80, true)), false⟩,
 ⟨85, .ia 2 (.t 83) (.t 84), (some (80, true)), false⟩,
 ⟨86, .ld 2 true (.t 85), (some (80, true)), false⟩,
 ⟨87, .mv (.t 0), (some (80, true)), false⟩,
 ⟨88, .mv (.t 9), (some (80, true)), false⟩,
 ⟨89, .ar .add false (.t 88) (.k (.sc (.int .i64 1))), (some (80, true)), false⟩,
 ⟨90, .mv (.t 3), (some (80, true)), false⟩,
 ⟨91, .ar .rem false (.t 89) (.t 90), (some (80, true)), false⟩,
 ⟨92, .ia 2 (.t 87) (.t 91), (some (80, true)), false⟩,
 ⟨93, .ld 2 true (.t 92), (some (80, true)), false⟩,
 ⟨94, .ca (.k (.cl 155 [])) [(.t 81), (.t 82), (.t 86), (.t 93)], (some (80, true)), false⟩,
 ⟨95, .pk (.t 80) (.t 94) (.k (.sc (.bool false))), none, false⟩])
 (.ite (.t 95)
 (.seq
 (.reg false [⟨2, .mv (.k (.sc (.bool false))), none, false⟩])
 .ret)
 .skip)))
 (.reg false [⟨72, .mv (.t 9), none, false⟩,
 ⟨73, .ar .add false (.t 72) (.k (.sc (.int .i64 1))), none, false⟩,
 ⟨9, .mv (.t 73), none, false⟩])))
def b104_3 : IC := w104_3
theorem u104_3 (call : CallF) (st : St) : evC call b104_3 st = evC call w104_3 st := rfl
attribute [simp] u104_3 w104_3
def w104_2 : IC :=
(.seq
 (.seq
 (.reg false [⟨29, .mv (.t 5), none, false⟩,
 ⟨30, .mv (.t 3), none, false⟩,
 ⟨31, .ar .lss false (.t 29) (.t 30), none, false⟩])
 (.ite (.t 31)
 .skip
 (.exit 2)))
 (.seq
 (.block 3
 (.seq
 (.reg false [⟨34, .mv (.t 0), none, false⟩,
 ⟨35, .mv (.t 5), none, false⟩,
 ⟨36, .ia 2 (.t 34) (.t 35), none, false⟩,
 ⟨37, .ld 2 true (.t 36), none, false⟩,
 ⟨6, .al [(.sc (.int .i64 0)), (.sc (.int .i64 0))], none, false⟩,
 ⟨1, .so 2 (.t 6) (.t 37), none, true⟩])
 (.seq
 (.reg false [⟨38, .mv (.t 0), none, false⟩,
 ⟨39, .mv (.t 5), none, false⟩,
 ⟨40, .ar .add false (.t 39) (.k (.sc (.int .i64 1))), none, false⟩,
 ⟨41, .mv (.t 3), none, false⟩,
 ⟨42, .ar .rem false (.t 40) (.t 41), none, false⟩,
 ⟨43, .ia 2 (.t 38) (.t 42), none, false⟩,
 ⟨44, .ld 2 true (.t 43), none, false⟩,
 ⟨7, .al [(.sc (.int .i64 0)), (.sc (.int .i64 0))], none, false⟩,
 ⟨1, .so 2 (.t 7) (.t 44), none, true⟩])
 (.seq
 (.reg false [⟨45, .mv (.t 0), none, false⟩,
 ⟨46, .mv (.t 5), none, false⟩,
 ⟨47, .ar .add false (.t 46) (.k (.sc (.int .i64 2))), none, false⟩,
 ⟨48, .mv (.t 3), none, false⟩,
 ⟨49, .ar .rem false (.t 47) (.t 48), none, false⟩,
 ⟨50, .ia 2 (.t 45) (.t 49), none, false⟩,
 ⟨51, .ld 2 true (.t 50), none, false⟩,
 ⟨8, .al [(.sc (.int .i64 0)), (.sc (.int .i64 0))], none, false⟩,
 ⟨1, .so 2 (.t 8) (.t 51), none, true⟩])
 (.seq
 (.seq
 (.reg false [⟨52, .ld 2 true (.t 6), none, false⟩,
 ⟨53, .ld 2 true (.t 7), none, false⟩,
 ⟨54, .eq false [1, 1] (.t 52) (.t 53), none, false⟩,
 ⟨55, .mv (.t 54), none, false⟩,
 ⟨56, .ld 2 true (.t 6), (some (55, false)), false⟩,
 ⟨57, .ld 2 true (.t 7), (some (55, false)), false⟩,
 ⟨58, .ld 2 true (.t 8), (some (55, false)), false⟩,
 ⟨59, .ca (.k (.cl 154 [])) [(.t 56), (.t 57), (.t 58)], (some (55, false)), false⟩,
 ⟨60, .pk (.t 55) (.k (.sc (.bool true))) (.t 59), none, false⟩,
 ⟨61, .mv (.t 60), none, false⟩,
 ⟨62, .ld 2 true (.t 7), (some (61, false)), false⟩,
 ⟨63, .ld 2 true (.t 8), (some (61, false)), false⟩,
 ⟨64, .ld 2 true (.t 6), (some (61, false)), false⟩,
 ⟨65, .ca (.k (.cl 154 [])) [(.t 62), (.t 63), (.t 64)], (some (61, false)), false⟩,
 ⟨66, .pk (.t 61) (.k (.sc (.bool true))) (.t 65), none, false⟩])
 (.ite (.t 66)
 (.seq
 (.reg false [⟨2, .mv (.k (.sc (.bool false))), none, false⟩])
 .ret)
 .skip))
 (.seq
 (.reg false [⟨67, .mv (.t 5), none, false⟩,
 ⟨68, .ar .add false (.t 67) (.k (.sc (.int .i64 2))), none, false⟩,
 ⟨9, .mv (.t 68), none, false⟩])
 (.cln [0, 3, 5] [2]
 (.block 4
 (.loop [0, 3, 5, 6, 7, 9] b104_3)))))))))
 (.reg false [⟨32, .mv (.t 5), none, false⟩,
 ⟨33, .ar .add false (.t 32) (.k (.sc (.int .i64 1))), none, false⟩,
 ⟨5, .mv (.t 33), none, false⟩])))
def b104_2 : IC := w104_2
theorem u104_2 (call : CallF) (st : St) : evC call b104_2 st = evC call w104_2 st := rfl
attribute [simp] u104_2 w104_2
def i104 : Ev.Fn := ⟨1, 99, [.tmp 2],
 (.seq
 (.reg false [⟨2, .mv (.k (.sc (.bool false))), none, false⟩])
 (.seq
 (.reg false [⟨10, .mv (.t 0), none, false⟩,
 ⟨11, .ln false (.t 10), none, false⟩,
 ⟨3, .mv (.t 11), none, false⟩])
 (.seq
 (.seq
 (.reg false [⟨12, .mv (.t 3), none, false⟩,
 ⟨13, .ar .lss false (.t 12) (.k (.sc (.int .i64 3))), none, false⟩,
 ⟨14, .mv (.t 13), none, false⟩,
 ⟨15, .mv (.t 3), (some (14, false)), false⟩,
 ⟨16, .ar .gtr false (.t 15) (.k (.sc (.int .i64 24))), (some (14, false)), false⟩,
 ⟨17, .pk (.t 14) (.k (.sc (.bool true))) (.t 16), none, false⟩])
 (.ite (.t 17)
 (.seq
 (.reg false [⟨2, .mv (.k (.sc (.bool false))), none, false⟩])
 .ret)
 .skip))
 (.seq
 (.seq
 (.reg false [⟨4, .mv (.k (.sc (.int .i64 0))), none, false⟩])
 (.cln [0, 3] [2]
 (.block 0
 (.loop [0, 3, 4] b104_1))))
 (.seq
 (.seq
 (.reg false [⟨5, .mv (.k (.sc (.int .i64 0))), none, false⟩])
 (.cln [0] [2]
 (.block 2
 (.loop [0, 3, 5] b104_2))))
 (.seq
 (.reg false [⟨96, .mv (.t 0), none, false⟩,
 ⟨97, .ca (.k (.cl 156 [])) [(.t 96)], none, false⟩,
 ⟨98, .ar .gtr false (.t 97) (.k (.sc (.int .i64 0))), none, false⟩,
 ⟨2, .mv (.t 98), none, false⟩])
 .ret))))))⟩
attribute [simp] i104
set_option maxRecDepth 1000000 in
theorem c104 : cFn Tryz.prog 104 [[], [0, 3, 4], [0, 3], [2], [0, 3, 5], [0, 3, 5, 6, 7, 9], [0, 3, 5], [2], [0], [2]] = some i104 := by kernel_rfl
theorem e104 : enterOk Tryz.prog 104 = true := by kernel_rfl
def i105 : Ev.Fn := ⟨1, 42, [.tmp 2],
 (.seq
 (.reg false [⟨2, .mv (.k (.sc (.bool false))), none, false⟩])
 (.seq
 (.reg false [⟨5, .mv (.t 0), none, false⟩,
 ⟨6, .nc (.t 5), none, false⟩,
 ⟨7, .fa 0 (.t 6), none, false⟩,
 ⟨8, .ld 1 false (.t 7), none, false⟩,
 ⟨9, .ca (.k (.cl 157 [])) [(.t 8)], none, false⟩,
 ⟨3, .mv (.t 9), none, false⟩])
 (.seq
 (.seq
 (.reg false [⟨10, .mv (.t 3), none, false⟩,
 ⟨11, .ar .lss false (.t 10) (.k (.sc (.int .i64 0))), none, false⟩,
 ⟨12, .mv (.t 11), none, false⟩,
 ⟨13, .mv (.t 0), (some (12, false)), false⟩,
 ⟨14, .nc (.t 13), (some (12, false)), false⟩,
 ⟨15, .fa 1 (.t 14), (some (12, false)), false⟩,
 ⟨16, .ld 1 false (.t 15), (some (12, false)), false⟩,
 ⟨17, .ca (.k (.cl 71 [])) [(.t 16), (.k (.sc (.int .i64 0))), (.k (.sc (.int .i64 100)))], (some (12, false)), false⟩,
 ⟨18, .nt (.t 17), (some (12, false)), false⟩,
 ⟨19, .pk (.t 12) (.k (.sc (.bool true))) (.t 18), none, false⟩])
 (.ite (.t 19)
 (.seq
 (.reg false [⟨2, .mv (.k (.sc (.bool false))), none, false⟩])
 .ret)
 .skip))
 (.seq
 (.reg false [⟨20, .ca (.k (.cl 158 [])) [], none, false⟩,
 ⟨21, .mv (.t 3), none, false⟩,
 ⟨22, .ia 1 (.t 20) (.t 21), none, false⟩,
 ⟨23, .ld 1 false (.t 22), none, false⟩,
 ⟨24, .ia 1 (.t 23) (.k (.sc (.int .i64 0))), none, false⟩,
 ⟨25, .ld 1 false (.t 24), none, false⟩,
 ⟨4, .mv (.t 25), none, false⟩])
 (.seq
 (.reg false [⟨26, .mv (.t 0), none, false⟩,
 ⟨27, .nc (.t 26), none, false⟩,
 ⟨28, .fa 1 (.t 27), none, false⟩,
 ⟨29, .ld 1 false (.t 28), none, false⟩,
 ⟨30, .mv (.t 4), none, false⟩,
 ⟨31, .ar .sub false (.t 30) (.k (.sc (.int .i64 15))), none, false⟩,
 ⟨32, .mv (.t 4), none, false⟩,
 ⟨33, .ar .add false (.t 32) (.k (.sc (.int .i64 15))), none, false⟩,
 ⟨34, .ca (.k (.cl 71 [])) [(.t 29), (.t 31), (.t 33)], none, false⟩,
 ⟨35, .mv (.t 34), none, false⟩,
 ⟨36, .mv (.t 0), (some (35, true)), false⟩,
 ⟨37, .nc (.t 36), (some (35, true)), false⟩,
 ⟨38, .fa 2 (.t 37), (some (35, true)), false⟩,
 ⟨39, .ld 1 false (.t 38), (some (35, true)), false⟩,
 ⟨40, .ca (.k (.cl 159 [])) [(.t 39)], (some (35, true)), false⟩,
 ⟨41, .pk (.t 35) (.t 40) (.k (.sc (.bool false))), none, false⟩,
 ⟨2, .mv (.t 41), none, false⟩])
 .ret)))))⟩
attribute [simp] i105
set_option maxRecDepth 1000000 in
theorem c105 : cFn Tryz.prog 105 [[]] = some i105 := by kernel_rfl
theorem e105 : enterOk Tryz.prog 105 = true := by kernel_rfl
def i106 : Ev.Fn := ⟨2, 9, [.tmp 4],
 (.seq
 (.reg false [⟨3, .bx (.t 1), none, false⟩,
 ⟨4, .mv (.k (.sc (.bool false))), none, false⟩])
 (.seq
 (.reg false [⟨5, .mv (.t 0), none, false⟩,
 ⟨6, .ld 2 true (.t 3), none, false⟩,
 ⟨7, .ca (.k (.cl 160 [])) [(.t 5), (.t 6)], none, false⟩,
 ⟨8, .ar .geq false (.t 7) (.k (.sc (.int .i64 0))), none, false⟩,
 ⟨4, .mv (.t 8), none, false⟩])
 .ret))⟩
attribute [simp] i106
set_option maxRecDepth 1000000 in
theorem c106 : cFn Tryz.prog 106 [[]] = some i106 := by kernel_rfl
theorem e106 : enterOk Tryz.prog 106 = true := by kernel_rfl
def w107_1 : IC :=
(.seq
 (.seq
 (.reg false [⟨22, .mv (.t 3), none, false⟩,
 ⟨23, .mv (.t 0), none, false⟩,
 ⟨24, .ln true (.t 23), none, false⟩,
 ⟨25, .ar .lss false (.t 22) (.t 24), none, false⟩])
 (.ite (.t 25)
 .skip
 (.exit 0)))
 (.seq
 (.block 1
 (.seq
 (.reg false [⟨28, .mv (.t 0), none, false⟩,
 ⟨29, .mv (.t 3), none, false⟩,
 ⟨30, .ix (.t 28) (.t 29), none, false⟩,
 ⟨31, .ar .lss false (.t 30) (.k (.sc (.int .u8 97))), none, false⟩,
 ⟨32, .mv (.t 31), none, false⟩,
 ⟨33, .mv (.t 0), (some (32, false)), false⟩,
 ⟨34, .mv (.t 3), (some (32, false)), false⟩,
 ⟨35, .ix (.t 33) (.t 34), (some (32, false)), false⟩,
 ⟨36, .ar .gtr false (.t 35) (.k (.sc (.int .u8 122))), (some (32, false)), false⟩,
 ⟨37, .pk (.t 32) (.k (.sc (.bool true))) (.t 36), none, false⟩,
 ⟨38, .mv (.t 37), none, false⟩,
 ⟨39, .mv (.t 0), (some (38, true)), false⟩,
 ⟨40, .mv (.t 3), (some (38, true)), false⟩,
 ⟨41, .ix (.t 39) (.t 40), (some (38, true)), false⟩,
 ⟨42, .ar .lss false (.t 41) (.k (.sc (.int .u8 48))), (some (38, true)), false⟩,
 ⟨43, .mv (.t 42), (some (38, true)), false⟩,
 ⟨44, .mv (.t 0), (some (43, false)), false⟩,
 ⟨45, .mv (.t 3), (some (43, false)), false⟩,
 ⟨46, .ix (.t 44) (.t 45), (some (43, false)), false⟩,
 ⟨47, .ar .gtr false (.t 46) (.k (.sc (.int .u8 57))), (some (43, false)), false⟩,
 ⟨48, .pk (.t 43) (.k (.sc (.bool true))) (.t 47), (some (38, true)), false⟩,
 ⟨49, .pk (.t 38) (.t 48) (.k (.sc (.bool false))), none, false⟩])
 (.ite (.t 49)
 (.seq
 (.reg false [⟨2, .mv (.k (.sc (.bool false))), none, false⟩])
 .ret)
 .skip)))
 (.reg false [⟨26, .mv (.t 3), none, false⟩,
 ⟨27, .ar .add false (.t 26) (.k (.sc (.int .i64 1))), none, false⟩,
 ⟨3, .mv (.t 27), none, false⟩])))
def b107_1 : IC := w107_1
theorem u107_1 (call : CallF) (st : St) : evC call b107_1 st = evC call w107_1 st := rfl
attribute [simp] u107_1 w107_1
def i107 : Ev.Fn := ⟨1, 50, [.tmp 2],
 (.seq
 (.reg false [⟨2, .mv (.k (.sc (.bool false))), none, false⟩])
 (.seq
 (.seq
 (.reg false [⟨4, .mv (.t 0), none, false⟩,
 ⟨5, .ln true (.t 4), none, false⟩,
 ⟨6, .ar .lss false (.t 5) (.k (.sc (.int .i64 1))), none, false⟩,
 ⟨7, .mv (.t 6), none, false⟩,
 ⟨8, .mv (.t 0), (some (7, false)), false⟩,
 ⟨9, .ln true (.t 8), (some (7, false)), false⟩,
 ⟨10, .ar .gtr false (.t 9) (.k (.sc (.int .i64 10))), (some (7, false)), false⟩,
 ⟨11, .pk (.t 7) (.k (.sc (.bool true))) (.t 10), none, false⟩,
 ⟨12, .mv (.t 11), none, false⟩,
 ⟨13, .mv (.t 0), (some (12, false)), false⟩,
 ⟨14, .ix (.t 13) (.k (.sc (.int .i64 0))), (some (12, false)), false⟩,
 ⟨15, .ar .lss false (.t 14) (.k (.sc (.int .u8 97))), (some (12, false)), false⟩,
 ⟨16, .pk (.t 12) (.k (.sc (.bool true))) (.t 15), none, false⟩,
 ⟨17, .mv (.t 16), none, false⟩,
 ⟨18, .mv (.t 0), (some (17, false)), false⟩,
 ⟨19, .ix (.t 18) (.k (.sc (.int .i64 0))), (some (17, false)), false⟩,
 ⟨20, .ar .gtr false (.t 19) (.k (.sc (.int .u8 122))), (some (17, false)), false⟩,
 ⟨21, .pk (.t 17) (.k (.sc (.bool true))) (.t 20), none, false⟩])
 (.ite (.t 21)
 (.seq
 (.reg false [⟨2, .mv (.k (.sc (.bool false))), none, false⟩])
 .ret)
 .skip))
 (.seq
 (.seq
 (.reg false [⟨3, .mv (.k (.sc (.int .i64 0))), none, false⟩])
 (.cln [] [2]
 (.block 0
 (.loop [0, 3] b107_1))))
 (.seq
 (.reg false [⟨2, .mv (.k (.sc (.bool true))), none, false⟩])
 .ret))))⟩
attribute [simp] i107
set_option maxRecDepth 1000000 in
theorem c107 : cFn Tryz.prog 107 [[], [0, 3], [], [2]] = some i107 := by kernel_rfl
theorem e107 : enterOk Tryz.prog 107 = true := by kernel_rfl
def w108_1 : IC :=
(.seq
 (.reg false [⟨13, .ar .lss false (.t 12) (.t 11), none, false⟩])
 (.seq
 (.ite (.t 13)
 .skip
 (.exit 0))
 (.seq
 (.block 1
 (.seq
 (.reg false [⟨14, .ia 1 (.t 10) (.t 12), none, false⟩,
 ⟨15, .ld 1 false (.t 14), none, false⟩,
 ⟨8, .mv (.t 15), none, false⟩])
 (.seq
 (.seq
 (.reg false [⟨16, .mv (.t 8), none, false⟩,
 ⟨17, .mv (.t 0), none, false⟩,
 ⟨18, .ln false (.t 17), none, false⟩,
 ⟨19, .ar .sub false (.t 18) (.k (.sc (.int .i64 1))), none, false⟩,
 ⟨20, .ca (.k (.cl 40 [])) [(.t 16), (.k (.sc (.int .i64 0))), (.t 19)], none, false⟩,
 ⟨21, .nt (.t 20), none, false⟩])
 (.ite (.t 21)
 (.seq
 (.reg false [⟨4, .mv (.k .nl), none, false⟩,
 ⟨5, .mv (.k (.sc (.bool false))), none, false⟩])
 .ret)
 .skip))
 (.reg false [⟨22, .mv (.t 6), none, false⟩,
 ⟨23, .mv (.t 0), none, false⟩,
 ⟨24, .mv (.t 8), none, false⟩,
 ⟨25, .ia 2 (.t 23) (.t 24), none, false⟩,
 ⟨26, .ld 2 true (.t 25), none, false⟩,
 ⟨27, .bs 72 2 [(.sc (.int .i64 0)), (.sc (.int .i64 0))] 1 [(0, (.t 26))], none, false⟩,
 ⟨28, .ap 72 2 false (.t 22) (.t 27), none, false⟩,
 ⟨6, .mv (.t 28), none, false⟩]))))
 (.reg false [⟨29, .ar .add false (.t 12) (.k (.sc (.int .i64 1))), none, false⟩,
 ⟨12, .mv (.t 29), none, false⟩]))))
def b108_1 : IC := w108_1
theorem u108_1 (call : CallF) (st : St) : evC call b108_1 st = evC call w108_1 st := rfl
attribute [simp] u108_1 w108_1
def i108 : Ev.Fn := ⟨2, 31, [.tmp 4, .tmp 5],
 (.seq
 (.reg false [⟨4, .mv (.k .nl), none, false⟩,
 ⟨5, .mv (.k (.sc (.bool false))), none, false⟩])
 (.seq
 (.reg false [⟨9, .bs 72 2 [(.sc (.int .i64 0)), (.sc (.int .i64 0))] 0 [], none, false⟩,
 ⟨6, .mv (.t 9), none, false⟩])
 (.seq
 (.seq
 (.reg false [⟨10, .mv (.t 1), none, false⟩,
 ⟨11, .ln false (.t 10), none, false⟩,
 ⟨12, .mv (.k (.sc (.int .i64 0))), none, false⟩])
 (.cln [6] [4, 5]
 (.block 0
 (.loop [0, 6, 10, 11, 12] b108_1))))
 (.seq
 (.reg false [⟨30, .mv (.t 6), none, false⟩,
 ⟨4, .mv (.t 30), none, false⟩,
 ⟨5, .mv (.k (.sc (.bool true))), none, false⟩])
 .ret))))⟩
attribute [simp] i108
set_option maxRecDepth 1000000 in
theorem c108 : cFn Tryz.prog 108 [[], [0, 6, 10, 11, 12], [6], [4, 5]] = some i108 := by kernel_rfl
theorem e108 : enterOk Tryz.prog 108 = true := by kernel_rfl
def w109_2 : IC :=
(.seq
 (.seq
 (.reg false [⟨62, .mv (.t 8), none, false⟩,
 ⟨63, .mv (.t 3), none, false⟩,
 ⟨64, .ar .lss false (.t 62) (.t 63), none, false⟩])
 (.ite (.t 64)
 .skip
 (.exit 2)))
 (.seq
 (.block 3
 (.seq
 (.reg true [⟨67, .mv (.t 8), none, false⟩,
 ⟨68, .ar .add false (.t 67) (.k (.sc (.int .i64 1))), none, false⟩,
 ⟨69, .mv (.t 3), none, false⟩,
 ⟨70, .ar .rem false (.t 68) (.t 69), none, false⟩,
 ⟨71, .mv (.t 4), none, false⟩,
 ⟨72, .ar .neq false (.t 70) (.t 71), none, false⟩,
 ⟨73, .mv (.t 72), none, false⟩,
 ⟨74, .ld 2 true (.t 5), (some (73, true)), false⟩,
 ⟨75, .ld 2 true (.t 6), (some (73, true)), false⟩,
 ⟨76, .mv (.t 0), (some (73, true)), false⟩,
 ⟨77, .mv (.t 8), (some (73, true)), false⟩,
 ⟨78, .ia 2 (.t 76) (.t 77), (some (73, true)), false⟩,
 ⟨79, .ld 2 true (.t 78), (some (73, true)), false⟩,
 ⟨80, .mv (.t 0), (some (73, true)), false⟩,
 ⟨81, .mv (.t 8), (some (73, true)), false⟩,
 ⟨82, .ar .add false (.t 81) (.k (.sc (.int .i64 1))), (some (73, true)), false⟩,
 ⟨83, .mv (.t 3), (some (73, true)), false⟩,
 ⟨84, .ar .rem false (.t 82) (.t 83), (some (73, true)), false⟩,
 ⟨85, .ia 2 (.t 80) (.t 84), (some (73, true)), false⟩,
 ⟨86, .ld 2 true (.t 85), (some (73, true)), false⟩,
 ⟨87, .ca (.k (.cl 161 [])) [(.t 74), (.t 75), (.t 79), (.t 86)], (some (73, true)), false⟩,
 ⟨88, .pk (.t 73) (.t 87) (.k (.sc (.bool false))), none, false⟩])
 (.ite (.t 88)
 (.seq
 (.reg false [⟨2, .mv (.k (.sc (.bool false))), none, false⟩])
 .ret)
 .skip)))
 (.reg false [⟨65, .mv (.t 8), none, false⟩,
 ⟨66, .ar .add false (.t 65) (.k (.sc (.int .i64 1))), none, false⟩,
 ⟨8, .mv (.t 66), none, false⟩])))
def b109_2 : IC := w109_2
theorem u109_2 (call : CallF) (st : St) : evC call b109_2 st = evC call w109_2 st := rfl
attribute [simp] u109_2 w109_2
def w109_1 : IC :=
(.seq
 (.reg false [⟨25, .ar .lss false (.t 24) (.t 23), none, false⟩])
 (.seq
 (.ite (.t 25)
 .skip
 (.exit 0))
 (.seq
 (.block 1
 (.seq
 (.reg false [⟨26, .mv (.t 24), none, false⟩,
 ⟨4, .mv (.t 26), none, false⟩])
 (.seq
 (.rgc [.ne 5 31, .ne 5 35, .ne 5 36, .ne 5 38, .ne 5 42, .ne 5 43, .ne 6 38, .ne 6 42, .ne 6 43] [⟨27, .mv (.t 0), none, false⟩,
 ⟨28, .mv (.t 4), none, false⟩,
 ⟨29, .ia 2 (.t 27) (.t 28), none, false⟩,
 ⟨30, .ld 2 true (.t 29), none, false⟩,
 ⟨31, .mv (.t 0), none, false⟩,
 ⟨32, .mv (.t 4), none, false⟩,
 ⟨33, .ar .add false (.t 32) (.k (.sc (.int .i64 1))), none, false⟩,
 ⟨34, .mv (.t 3), none, false⟩,
 ⟨35, .ar .rem false (.t 33) (.t 34), none, false⟩,
 ⟨36, .ia 2 (.t 31) (.t 35), none, false⟩,
 ⟨37, .ld 2 true (.t 36), none, false⟩,
 ⟨38, .mv (.t 0), none, false⟩,
 ⟨39, .mv (.t 4), none, false⟩,
 ⟨40, .ar .add false (.t 39) (.k (.sc (.int .i64 2))), none, false⟩,
 ⟨41, .mv (.t 3), none, false⟩,
 ⟨42, .ar .rem false (.t 40) (.t 41), none, false⟩,
 ⟨43, .ia 2 (.t 38) (.t 42), none, false⟩,
 ⟨44, .ld 2 true (.t 43), none, false⟩,
 ⟨5, .al [(.sc (.int .i64 0)), (.sc (.int .i64 0))], none, false⟩,
 ⟨6, .al [(.sc (.int .i64 0)), (.sc (.int .i64 0))], none, false⟩,
 ⟨7, .al [(.sc (.int .i64 0)), (.sc (.int .i64 0))], none, false⟩,
 ⟨0, .so 2 (.t 5) (.t 30), none, true⟩,
 ⟨0, .so 2 (.t 6) (.t 37), none, true⟩,
 ⟨0, .so 2 (.t 7) (.t 44), none, true⟩])
 (.seq
 (.seq
 (.reg false [⟨45, .ld 2 true (.t 5), none, false⟩,
 ⟨46, .ld 2 true (.t 6), none, false⟩,
 ⟨47, .eq false [1, 1] (.t 45) (.t 46), none, false⟩,
 ⟨48, .mv (.t 47), none, false⟩,
 ⟨49, .ld 2 true (.t 5), (some (48, false)), false⟩,
 ⟨50, .ld 2 true (.t 6), (some (48, false)), false⟩,
 ⟨51, .ld 2 true (.t 7), (some (48, false)), false⟩,
 ⟨52, .ca (.k (.cl 144 [])) [(.t 49), (.t 50), (.t 51)], (some (48, false)), false⟩,
 ⟨53, .pk (.t 48) (.k (.sc (.bool true))) (.t 52), none, false⟩,
 ⟨54, .mv (.t 53), none, false⟩,
 ⟨55, .ld 2 true (.t 6), (some (54, false)), false⟩,
 ⟨56, .ld 2 true (.t 7), (some (54, false)), false⟩,
 ⟨57, .ld 2 true (.t 5), (some (54, false)), false⟩,
 ⟨58, .ca (.k (.cl 144 [])) [(.t 55), (.t 56), (.t 57)], (some (54, false)), false⟩,
 ⟨59, .pk (.t 54) (.k (.sc (.bool true))) (.t 58), none, false⟩])
 (.ite (.t 59)
 (.seq
 (.reg false [⟨2, .mv (.k (.sc (.bool false))), none, false⟩])
 .ret)
 .skip))
 (.seq
 (.reg false [⟨60, .mv (.t 4), none, false⟩,
 ⟨61, .ar .add false (.t 60) (.k (.sc (.int .i64 2))), none, false⟩,
 ⟨8, .mv (.t 61), none, false⟩])
 (.cln [0, 3, 23, 24] [2]
 (.block 2
 (.loop [0, 3, 4, 5, 6, 8, 23, 24] b109_2))))))))
 (.reg false [⟨89, .ar .add false (.t 24) (.k (.sc (.int .i64 1))), none, false⟩,
 ⟨24, .mv (.t 89), none, false⟩]))))
def b109_1 : IC := w109_1
theorem u109_1 (call : CallF) (st : St) : evC call b109_1 st = evC call w109_1 st := rfl
attribute [simp] u109_1 w109_1
def i109 : Ev.Fn := ⟨1, 93, [.tmp 2],
 (.seq
 (.reg false [⟨2, .mv (.k (.sc (.bool false))), none, false⟩])
 (.seq
 (.reg false [⟨9, .mv (.t 0), none, false⟩,
 ⟨10, .ln false (.t 9), none, false⟩,
 ⟨3, .mv (.t 10), none, false⟩])
 (.seq
 (.seq
 (.reg false [⟨11, .mv (.t 3), none, false⟩,
 ⟨12, .ar .lss false (.t 11) (.k (.sc (.int .i64 3))), none, false⟩,
 ⟨13, .mv (.t 12), none, false⟩,
 ⟨14, .mv (.t 3), (some (13, false)), false⟩,
 ⟨15, .ar .gtr false (.t 14) (.k (.sc (.int .i64 24))), (some (13, false)), false⟩,
 ⟨16, .pk (.t 13) (.k (.sc (.bool true))) (.t 15), none, false⟩,
 ⟨17, .mv (.t 16), none, false⟩,
 ⟨18, .mv (.t 0), (some (17, false)), false⟩,
 ⟨19, .ca (.k (.cl 138 [])) [(.t 18)], (some (17, false)), false⟩,
 ⟨20, .nt (.t 19), (some (17, false)), false⟩,
 ⟨21, .pk (.t 17) (.k (.sc (.bool true))) (.t 20), none, false⟩])
 (.ite (.t 21)
 (.seq
 (.reg false [⟨2, .mv (.k (.sc (.bool false))), none, false⟩])
 .ret)
 .skip))
 (.seq
 (.seq
 (.reg false [⟨22, .mv (.t 0), none, false⟩,
 ⟨23, .ln false (.t 22), none, false⟩,
 ⟨24, .mv (.k (.sc (.int .i64 0))), none, false⟩])
 (.cln [0] [2]
 (.block 0
 (.loop [0, 3, 23, 24] b109_1))))
 (.seq
 (.reg false [⟨90, .mv (.t 0), none, false⟩,
 ⟨91, .ca (.k (.cl 162 [])) [(.t 90)], none, false⟩,
 ⟨92, .ar .gtr false (.t 91) (.k (.sc (.int .i64 0))), none, false⟩,
 ⟨2, .mv (.t 92), none, false⟩])
 .ret)))))⟩
attribute [simp] i109
set_option maxRecDepth 1000000 in
theorem c109 : cFn Tryz.prog 109 [[], [0, 3, 23, 24], [0, 3, 4, 5, 6, 8, 23, 24], [0, 3, 23, 24], [2], [0], [2]] = some i109 := by kernel_rfl
theorem e109 : enterOk Tryz.prog 109 = true := by kernel_rfl
def i110 : Ev.Fn := ⟨2, 9, [.tmp 4],
 (.seq
 (.reg false [⟨4, .mv (.k (.sc (.bool false))), none, false⟩])
 (.seq
 (.reg false [⟨5, .mv (.t 0), none, false⟩,
 ⟨6, .mv (.t 1), none, false⟩,
 ⟨7, .ca (.k (.cl 163 [])) [(.t 5), (.t 6)], none, false⟩,
 ⟨8, .ar .geq false (.t 7) (.k (.sc (.int .i64 0))), none, false⟩,
 ⟨4, .mv (.t 8), none, false⟩])
 .ret))⟩
attribute [simp] i110
set_option maxRecDepth 1000000 in
theorem c110 : cFn Tryz.prog 110 [[]] = some i110 := by kernel_rfl
theorem e110 : enterOk Tryz.prog 110 = true := by kernel_rfl
def i111 : Ev.Fn := ⟨1, 6, [.tmp 2],
 (.seq
 (.reg false [⟨1, .bx (.t 0), none, false⟩,
 ⟨2, .mv (.k (.sc (.bool false))), none, false⟩])
 (.seq
 (.reg false [⟨3, .ld 3 true (.t 1), none, false⟩,
 ⟨4, .ca (.k (.cl 112 [])) [(.t 3)], none, false⟩,
 ⟨5, .nt (.t 4), none, false⟩,
 ⟨2, .mv (.t 5), none, false⟩])
 .ret))⟩
attribute [simp] i111
set_option maxRecDepth 1000000 in
theorem c111 : cFn Tryz.prog 111 [[]] = some i111 := by kernel_rfl
theorem e111 : enterOk Tryz.prog 111 = true := by kernel_rfl
def i112 : Ev.Fn := ⟨1, 29, [.tmp 2],
 (.seq
 (.reg false [⟨1, .bx (.t 0), none, false⟩,
 ⟨2, .mv (.k (.sc (.bool false))), none, false⟩])
 (.seq
 (.reg false [⟨6, .fa 0 (.t 1), none, false⟩,
 ⟨7, .ld 1 false (.t 6), none, false⟩,
 ⟨8, .ca (.k (.cl 164 [])) [(.t 7)], none, false⟩,
 ⟨5, .mv (.t 8), none, false⟩,
 ⟨9, .xt (.t 5) 0, none, false⟩,
 ⟨10, .xt (.t 5) 1, none, false⟩,
 ⟨3, .mv (.t 9), none, false⟩,
 ⟨4, .mv (.t 10), none, false⟩])
 (.seq
 (.reg false [⟨11, .mv (.t 4), none, false⟩,
 ⟨12, .mv (.t 11), none, false⟩,
 ⟨13, .fa 1 (.t 1), (some (12, true)), false⟩,
 ⟨14, .ld 1 false (.t 13), (some (12, true)), false⟩,
 ⟨15, .ca (.k (.cl 40 [])) [(.t 14), (.k (.sc (.int .i64 0))), (.k (.sc (.int .i64 100)))], (some (12, true)), false⟩,
 ⟨16, .pk (.t 12) (.t 15) (.k (.sc (.bool false))), none, false⟩,
 ⟨17, .mv (.t 16), none, false⟩,
 ⟨18, .fa 1 (.t 1), (some (17, true)), false⟩,
 ⟨19, .ld 1 false (.t 18), (some (17, true)), false⟩,
 ⟨20, .mv (.t 3), (some (17, true)), false⟩,
 ⟨21, .ar .sub false (.t 19) (.t 20), (some (17, true)), false⟩,
 ⟨22, .ca (.k (.cl 40 [])) [(.t 21), (.k (.sc (.int .i64 (-15)))), (.k (.sc (.int .i64 15)))], (some (17, true)), false⟩,
 ⟨23, .pk (.t 17) (.t 22) (.k (.sc (.bool false))), none, false⟩,
 ⟨24, .mv (.t 23), none, false⟩,
 ⟨25, .fa 2 (.t 1), (some (24, true)), false⟩,
 ⟨26, .ld 1 false (.t 25), (some (24, true)), false⟩,
 ⟨27, .ca (.k (.cl 40 [])) [(.t 26), (.k (.sc (.int .i64 0))), (.k (.sc (.int .i64 179)))], (some (24, true)), false⟩,
 ⟨28, .pk (.t 24) (.t 27) (.k (.sc (.bool false))), none, false⟩,
 ⟨2, .mv (.t 28), none, false⟩])
 .ret)))⟩
attribute [simp] i112
set_option maxRecDepth 1000000 in
theorem c112 : cFn Tryz.prog 112 [[]] = some i112 := by kernel_rfl
theorem e112 : enterOk Tryz.prog 112 = true := by kernel_rfl
def i124 : Ev.Fn := ⟨1, 6, [.tmp 2],
 (.seq
 (.reg false [⟨2, .mv (.k .nl), none, false⟩])
 (.seq
 (.reg false [⟨3, .bs 2 1 [(.sc (.int .i64 0))] 0 [], none, false⟩,
 ⟨4, .mv (.t 0), none, false⟩,
 ⟨5, .ap 2 1 false (.t 3) (.t 4), none, false⟩,
 ⟨2, .mv (.t 5), none, false⟩])
 .ret))⟩
attribute [simp] i124
set_option maxRecDepth 1000000 in
theorem c124 : cFn Tryz.prog 124 [[]] = some i124 := by kernel_rfl
theorem e124 : enterOk Tryz.prog 124 = true := by kernel_rfl
def i125 : Ev.Fn := ⟨1, 8, [.tmp 2],
 (.seq
 (.reg false [⟨2, .mv (.k .nl), none, false⟩])
 (.seq
 (.seq
 (.reg false [⟨3, .mv (.t 0), none, false⟩,
 ⟨4, .isn false (.t 3), none, false⟩])
 (.ite (.t 4)
 (.seq
 (.reg false [⟨2, .mv (.k .nl), none, false⟩])
 .ret)
 .skip))
 (.seq
 (.reg false [⟨5, .bs 72 2 [(.sc (.int .i64 0)), (.sc (.int .i64 0))] 0 [], none, false⟩,
 ⟨6, .mv (.t 0), none, false⟩,
 ⟨7, .ap 72 2 false (.t 5) (.t 6), none, false⟩,
 ⟨2, .mv (.t 7), none, false⟩])
 .ret)))⟩
attribute [simp] i125
set_option maxRecDepth 1000000 in
theorem c125 : cFn Tryz.prog 125 [[]] = some i125 := by kernel_rfl
theorem e125 : enterOk Tryz.prog 125 = true := by kernel_rfl
def i126 : Ev.Fn := ⟨1, 8, [.tmp 2],
 (.seq
 (.reg false [⟨2, .mv (.k .nl), none, false⟩])
 (.seq
 (.seq
 (.reg false [⟨3, .mv (.t 0), none, false⟩,
 ⟨4, .isn false (.t 3), none, false⟩])
 (.ite (.t 4)
 (.seq
 (.reg false [⟨2, .mv (.k .nl), none, false⟩])
 .ret)
 .skip))
 (.seq
 (.reg false [⟨5, .bs 2 1 [(.sc (.int .i64 0))] 0 [], none, false⟩,
 ⟨6, .mv (.t 0), none, false⟩,
 ⟨7, .ap 2 1 false (.t 5) (.t 6), none, false⟩,
 ⟨2, .mv (.t 7), none, false⟩])
 .ret)))⟩
attribute [simp] i126
set_option maxRecDepth 1000000 in
theorem c126 : cFn Tryz.prog 126 [[]] = some i126 := by kernel_rfl
theorem e126 : enterOk Tryz.prog 126 = true := by kernel_rfl
def i127 : Ev.Fn := ⟨2, 12, [.tmp 4],
 (.seq
 (.reg false [⟨4, .mv (.k (.sc (.int .i64 0))), none, false⟩])
 (.seq
 (.reg false [⟨5, .mv (.t 1), none, false⟩,
 ⟨6, .mv (.t 0), none, false⟩,
 ⟨7, .ln false (.t 6), none, false⟩,
 ⟨8, .ar .sub false (.t 5) (.t 7), none, false⟩,
 ⟨1, .mv (.t 8), none, false⟩])
 (.seq
 (.seq
 (.reg false [⟨9, .mv (.t 1), none, false⟩,
 ⟨10, .ar .lss false (.t 9) (.k (.sc (.int .i64 0))), none, false⟩])
 (.ite (.t 10)
 (.seq
 (.reg false [⟨4, .mv (.k (.sc (.int .i64 (-1)))), none, false⟩])
 .ret)
 .skip))
 (.seq
 (.reg false [⟨11, .mv (.t 1), none, false⟩,
 ⟨4, .mv (.t 11), none, false⟩])
 .ret))))⟩
attribute [simp] i127
set_option maxRecDepth 1000000 in
theorem c127 : cFn Tryz.prog 127 [[]] = some i127 := by kernel_rfl
theorem e127 : enterOk Tryz.prog 127 = true := by kernel_rfl
def w137_1 : IC :=
(.seq
 (.seq
 (.reg false [⟨8, .mv (.t 4), none, false⟩,
 ⟨9, .mv (.t 0), none, false⟩,
 ⟨10, .ln false (.t 9), none, false⟩,
 ⟨11, .ar .lss false (.t 8) (.t 10), none, false⟩])
 (.ite (.t 11)
 .skip
 (.exit 0)))
 (.seq
 (.block 1
 (.reg false [⟨14, .mv (.t 3), none, false⟩,
 ⟨15, .mv (.t 4), none, false⟩,
 ⟨16, .mv (.t 0), none, false⟩,
 ⟨17, .mv (.t 4), none, false⟩,
 ⟨18, .ia 1 (.t 16) (.t 17), none, false⟩,
 ⟨19, .ld 1 false (.t 18), none, false⟩,
 ⟨20, .ia 1 (.t 14) (.t 15), none, false⟩,
 ⟨1, .so 1 (.t 20) (.t 19), none, true⟩]))
 (.reg false [⟨12, .mv (.t 4), none, false⟩,
 ⟨13, .ar .add false (.t 12) (.k (.sc (.int .i64 1))), none, false⟩,
 ⟨4, .mv (.t 13), none, false⟩])))
def b137_1 : IC := w137_1
theorem u137_1 (call : CallF) (st : St) : evC call b137_1 st = evC call w137_1 st := rfl
attribute [simp] u137_1 w137_1
def i137 : Ev.Fn := ⟨1, 22, [.tmp 2],
 (.seq
 (.reg false [⟨2, .mv (.k .nl), none, false⟩])
 (.seq
 (.reg false [⟨5, .mv (.t 0), none, false⟩,
 ⟨6, .ln false (.t 5), none, false⟩,
 ⟨7, .ms 2 1 [(.sc (.int .i64 0))] (.t 6), none, false⟩,
 ⟨3, .mv (.t 7), none, false⟩])
 (.seq
 (.seq
 (.reg false [⟨4, .mv (.k (.sc (.int .i64 0))), none, false⟩])
 (.cln [3] [2]
 (.block 0
 (.loop [0, 3, 4] b137_1))))
 (.seq
 (.reg false [⟨21, .mv (.t 3), none, false⟩,
 ⟨2, .mv (.t 21), none, false⟩])
 .ret))))⟩
attribute [simp] i137
set_option maxRecDepth 1000000 in
theorem c137 : cFn Tryz.prog 137 [[], [0, 3, 4], [3], [2]] = some i137 := by kernel_rfl
theorem e137 : enterOk Tryz.prog 137 = true := by kernel_rfl
def w138_1 : IC :=
(.seq
 (.reg false [⟨8, .ar .lss false (.t 7) (.t 6), none, false⟩])
 (.seq
 (.ite (.t 8)
 .skip
 (.exit 0))
 (.seq
 (.block 1
 (.seq
 (.reg false [⟨9, .ia 2 (.t 5) (.t 7), none, false⟩,
 ⟨10, .ld 2 true (.t 9), none, false⟩,
 ⟨4, .al [(.sc (.int .i64 0)), (.sc (.int .i64 0))], none, false⟩,
 ⟨1, .so 2 (.t 4) (.t 10), none, true⟩])
 (.seq
 (.reg false [⟨11, .ld 2 true (.t 4), none, false⟩,
 ⟨12, .ca (.k (.cl 175 [])) [(.t 11)], none, false⟩,
 ⟨13, .nt (.t 12), none, false⟩])
 (.ite (.t 13)
 (.seq
 (.reg false [⟨2, .mv (.k (.sc (.bool false))), none, false⟩])
 .ret)
 .skip))))
 (.reg false [⟨14, .ar .add false (.t 7) (.k (.sc (.int .i64 1))), none, false⟩,
 ⟨7, .mv (.t 14), none, false⟩]))))
def b138_1 : IC := w138_1
theorem u138_1 (call : CallF) (st : St) : evC call b138_1 st = evC call w138_1 st := rfl
attribute [simp] u138_1 w138_1
def i138 : Ev.Fn := ⟨1, 15, [.tmp 2],
 (.seq
 (.reg false [⟨2, .mv (.k (.sc (.bool false))), none, false⟩])
 (.seq
 (.seq
 (.reg false [⟨5, .mv (.t 0), none, false⟩,
 ⟨6, .ln false (.t 5), none, false⟩,
 ⟨7, .mv (.k (.sc (.int .i64 0))), none, false⟩])
 (.cln [] [2]
 (.block 0
 (.loop [5, 6, 7] b138_1))))
 (.seq
 (.reg false [⟨2, .mv (.k (.sc (.bool true))), none, false⟩])
 .ret)))⟩
attribute [simp] i138
set_option maxRecDepth 1000000 in
theorem c138 : cFn Tryz.prog 138 [[], [5, 6, 7], [], [2]] = some i138 := by kernel_rfl
theorem e138 : enterOk Tryz.prog 138 = true := by kernel_rfl
def i144 : Ev.Fn := ⟨3, 42, [.tmp 6],
 (.seq
 (.reg false [⟨3, .bx (.t 0), none, false⟩,
 ⟨4, .bx (.t 1), none, false⟩,
 ⟨5, .bx (.t 2), none, false⟩,
 ⟨6, .mv (.k (.sc (.bool false))), none, false⟩])
 (.seq
 (.reg false [⟨7, .ld 2 true (.t 3), none, false⟩,
 ⟨8, .ld 2 true (.t 4), none, false⟩,
 ⟨9, .ld 2 true (.t 5), none, false⟩,
 ⟨10, .ca (.k (.cl 147 [])) [(.t 7), (.t 8), (.t 9)], none, false⟩,
 ⟨11, .ar .eql false (.t 10) (.k (.sc (.int .i64 0))), none, false⟩,
 ⟨12, .mv (.t 11), none, false⟩,
 ⟨13, .fa 0 (.t 5), (some (12, true)), false⟩,
 ⟨14, .ld 1 false (.t 13), (some (12, true)), false⟩,
 ⟨15, .fa 0 (.t 3), (some (12, true)), false⟩,
 ⟨16, .ld 1 false (.t 15), (some (12, true)), false⟩,
 ⟨17, .fa 0 (.t 4), (some (12, true)), false⟩,
 ⟨18, .ld 1 false (.t 17), (some (12, true)), false⟩,
 ⟨19, .mn (.t 16) (.t 18), (some (12, true)), false⟩,
 ⟨20, .fa 0 (.t 3), (some (12, true)), false⟩,
 ⟨21, .ld 1 false (.t 20), (some (12, true)), false⟩,
 ⟨22, .fa 0 (.t 4), (some (12, true)), false⟩,
 ⟨23, .ld 1 false (.t 22), (some (12, true)), false⟩,
 ⟨24, .mx (.t 21) (.t 23), (some (12, true)), false⟩,
 ⟨25, .ca (.k (.cl 40 [])) [(.t 14), (.t 19), (.t 24)], (some (12, true)), false⟩,
 ⟨26, .pk (.t 12) (.t 25) (.k (.sc (.bool false))), none, false⟩,
 ⟨27, .mv (.t 26), none, false⟩,
 ⟨28, .fa 1 (.t 5), (some (27, true)), false⟩,
 ⟨29, .ld 1 false (.t 28), (some (27, true)), false⟩,
 ⟨30, .fa 1 (.t 3), (some (27, true)), false⟩,
 ⟨31, .ld 1 false (.t 30), (some (27, true)), false⟩,
 ⟨32, .fa 1 (.t 4), (some (27, true)), false⟩,
 ⟨33, .ld 1 false (.t 32), (some (27, true)), false⟩,
 ⟨34, .mn (.t 31) (.t 33), (some (27, true)), false⟩,
 ⟨35, .fa 1 (.t 3), (some (27, true)), false⟩,
 ⟨36, .ld 1 false (.t 35), (some (27, true)), false⟩,
 ⟨37, .fa 1 (.t 4), (some (27, true)), false⟩,
 ⟨38, .ld 1 false (.t 37), (some (27, true)), false⟩,
 ⟨39, .mx (.t 36) (.t 38), (some (27, true)), false⟩,
 ⟨40, .ca (.k (.cl 40 [])) [(.t 29), (.t 34), (.t 39)], (some (27, true)), false⟩,
 ⟨41, .pk (.t 27) (.t 40) (.k (.sc (.bool false))), none, false⟩,
 ⟨6, .mv (.t 41), none, false⟩])
 .ret))⟩
attribute [simp] i144
set_option maxRecDepth 1000000 in
theorem c144 : cFn Tryz.prog 144 [[]] = some i144 := by kernel_rfl
theorem e144 : enterOk Tryz.prog 144 = true := by kernel_rfl
def i147 : Ev.Fn := ⟨3, 37, [.tmp 6],
 (.seq
 (.reg false [⟨3, .bx (.t 0), none, false⟩,
 ⟨4, .bx (.t 1), none, false⟩,
 ⟨5, .bx (.t 2), none, false⟩,
 ⟨6, .mv (.k (.sc (.int .i64 0))), none, false⟩])
 (.seq
 (.reg false [⟨8, .fa 0 (.t 4), none, false⟩,
 ⟨9, .ld 1 false (.t 8), none, false⟩,
 ⟨10, .fa 0 (.t 3), none, false⟩,
 ⟨11, .ld 1 false (.t 10), none, false⟩,
 ⟨12, .ar .sub false (.t 9) (.t 11), none, false⟩,
 ⟨13, .fa 1 (.t 5), none, false⟩,
 ⟨14, .ld 1 false (.t 13), none, false⟩,
 ⟨15, .fa 1 (.t 3), none, false⟩,
 ⟨16, .ld 1 false (.t 15), none, false⟩,
 ⟨17, .ar .sub false (.t 14) (.t 16), none, false⟩,
 ⟨18, .ar .mul false (.t 12) (.t 17), none, false⟩,
 ⟨19, .fa 1 (.t 4), none, false⟩,
 ⟨20, .ld 1 false (.t 19), none, false⟩,
 ⟨21, .fa 1 (.t 3), none, false⟩,
 ⟨22, .ld 1 false (.t 21), none, false⟩,
 ⟨23, .ar .sub false (.t 20) (.t 22), none, false⟩,
 ⟨24, .fa 0 (.t 5), none, false⟩,
 ⟨25, .ld 1 false (.t 24), none, false⟩,
 ⟨26, .fa 0 (.t 3), none, false⟩,
 ⟨27, .ld 1 false (.t 26), none, false⟩,
 ⟨28, .ar .sub false (.t 25) (.t 27), none, false⟩,
 ⟨29, .ar .mul false (.t 23) (.t 28), none, false⟩,
 ⟨30, .ar .sub false (.t 18) (.t 29), none, false⟩,
 ⟨7, .mv (.t 30), none, false⟩])
 (.seq
 (.block 0
 (.seq
 (.reg false [⟨32, .mv (.t 7), none, false⟩,
 ⟨33, .ar .gtr false (.t 32) (.k (.sc (.int .i64 0))), none, false⟩,
 ⟨31, .mv (.t 33), none, false⟩])
 (.ite (.t 31)
 (.seq
 (.reg false [⟨6, .mv (.k (.sc (.int .i64 1))), none, false⟩])
 .ret)
 (.seq
 (.reg false [⟨35, .mv (.t 7), none, false⟩,
 ⟨36, .ar .lss false (.t 35) (.k (.sc (.int .i64 0))), none, false⟩,
 ⟨34, .mv (.t 36), none, false⟩])
 (.ite (.t 34)
 (.seq
 (.reg false [⟨6, .mv (.k (.sc (.int .i64 (-1)))), none, false⟩])
 .ret)
 .skip)))))
 (.seq
 (.reg false [⟨6, .mv (.k (.sc (.int .i64 0))), none, false⟩])
 .ret))))⟩
attribute [simp] i147
set_option maxRecDepth 1000000 in
theorem c147 : cFn Tryz.prog 147 [[]] = some i147 := by kernel_rfl
theorem e147 : enterOk Tryz.prog 147 = true := by kernel_rfl
def w150_1 : IC :=
(.seq
 (.seq
 (.reg false [⟨11, .mv (.t 5), none, false⟩,
 ⟨12, .mv (.t 0), none, false⟩,
 ⟨13, .ln false (.t 12), none, false⟩,
 ⟨14, .ar .lss false (.t 11) (.t 13), none, false⟩])
 (.ite (.t 14)
 .skip
 (.exit 0)))
 (.seq
 (.block 1
 (.seq
 (.reg true [⟨17, .mv (.t 0), none, false⟩,
 ⟨18, .mv (.t 5), none, false⟩,
 ⟨19, .ia 1 (.t 17) (.t 18), none, false⟩,
 ⟨20, .ld 1 false (.t 19), none, false⟩,
 ⟨21, .mv (.t 1), none, false⟩,
 ⟨22, .mv (.t 5), none, false⟩,
 ⟨23, .ia 1 (.t 21) (.t 22), none, false⟩,
 ⟨24, .ld 1 false (.t 23), none, false⟩,
 ⟨25, .ar .neq false (.t 20) (.t 24), none, false⟩])
 (.ite (.t 25)
 (.seq
 (.reg false [⟨4, .mv (.k (.sc (.bool false))), none, false⟩])
 .ret)
 .skip)))
 (.reg false [⟨15, .mv (.t 5), none, false⟩,
 ⟨16, .ar .add false (.t 15) (.k (.sc (.int .i64 1))), none, false⟩,
 ⟨5, .mv (.t 16), none, false⟩])))
def b150_1 : IC := w150_1
theorem u150_1 (call : CallF) (st : St) : evC call b150_1 st = evC call w150_1 st := rfl
attribute [simp] u150_1 w150_1
def i150 : Ev.Fn := ⟨2, 26, [.tmp 4],
 (.seq
 (.reg false [⟨4, .mv (.k (.sc (.bool false))), none, false⟩])
 (.seq
 (.seq
 (.reg false [⟨6, .mv (.t 0), none, false⟩,
 ⟨7, .ln false (.t 6), none, false⟩,
 ⟨8, .mv (.t 1), none, false⟩,
 ⟨9, .ln false (.t 8), none, false⟩,
 ⟨10, .ar .neq false (.t 7) (.t 9), none, false⟩])
 (.ite (.t 10)
 (.seq
 (.reg false [⟨4, .mv (.k (.sc (.bool false))), none, false⟩])
 .ret)
 .skip))
 (.seq
 (.seq
 (.reg false [⟨5, .mv (.k (.sc (.int .i64 0))), none, false⟩])
 (.cln [] [4]
 (.block 0
 (.loop [0, 1, 5] b150_1))))
 (.seq
 (.reg false [⟨4, .mv (.k (.sc (.bool true))), none, false⟩])
 .ret))))⟩
attribute [simp] i150
set_option maxRecDepth 1000000 in
theorem c150 : cFn Tryz.prog 150 [[], [0, 1, 5], [], [4]] = some i150 := by kernel_rfl
theorem e150 : enterOk Tryz.prog 150 = true := by kernel_rfl
def i151 : Ev.Fn := ⟨1, 9, [.tmp 2],
 (.seq
 (.reg false [⟨2, .mv (.k (.sc (.bool false))), none, false⟩])
 (.seq
 (.reg false [⟨3, .mv (.t 0), none, false⟩,
 ⟨4, .ar .geq false (.t 3) (.k (.sc (.int .u8 97))), none, false⟩,
 ⟨5, .mv (.t 4), none, false⟩,
 ⟨6, .mv (.t 0), (some (5, true)), false⟩,
 ⟨7, .ar .leq false (.t 6) (.k (.sc (.int .u8 122))), (some (5, true)), false⟩,
 ⟨8, .pk (.t 5) (.t 7) (.k (.sc (.bool false))), none, false⟩,
 ⟨2, .mv (.t 8), none, false⟩])
 .ret))⟩
attribute [simp] i151
set_option maxRecDepth 1000000 in
theorem c151 : cFn Tryz.prog 151 [[]] = some i151 := by kernel_rfl
theorem e151 : enterOk Tryz.prog 151 = true := by kernel_rfl
def i152 : Ev.Fn := ⟨1, 9, [.tmp 2],
 (.seq
 (.reg false [⟨2, .mv (.k (.sc (.bool false))), none, false⟩])
 (.seq
 (.reg false [⟨3, .mv (.t 0), none, false⟩,
 ⟨4, .ar .geq false (.t 3) (.k (.sc (.int .u8 48))), none, false⟩,
 ⟨5, .mv (.t 4), none, false⟩,
 ⟨6, .mv (.t 0), (some (5, true)), false⟩,
 ⟨7, .ar .leq false (.t 6) (.k (.sc (.int .u8 57))), (some (5, true)), false⟩,
 ⟨8, .pk (.t 5) (.t 7) (.k (.sc (.bool false))), none, false⟩,
 ⟨2, .mv (.t 8), none, false⟩])
 .ret))⟩
attribute [simp] i152
set_option maxRecDepth 1000000 in
theorem c152 : cFn Tryz.prog 152 [[]] = some i152 := by kernel_rfl
theorem e152 : enterOk Tryz.prog 152 = true := by kernel_rfl
def i153 : Ev.Fn := ⟨1, 11, [.tmp 2],
 (.seq
 (.reg false [⟨1, .bx (.t 0), none, false⟩,
 ⟨2, .mv (.k (.sc (.bool false))), none, false⟩])
 (.seq
 (.reg false [⟨3, .fa 0 (.t 1), none, false⟩,
 ⟨4, .ld 1 false (.t 3), none, false⟩,
 ⟨5, .ca (.k (.cl 71 [])) [(.t 4), (.k (.sc (.int .i64 0))), (.k (.sc (.int .i64 20000)))], none, false⟩,
 ⟨6, .mv (.t 5), none, false⟩,
 ⟨7, .fa 1 (.t 1), (some (6, true)), false⟩,
 ⟨8, .ld 1 false (.t 7), (some (6, true)), false⟩,
 ⟨9, .ca (.k (.cl 71 [])) [(.t 8), (.k (.sc (.int .i64 0))), (.k (.sc (.int .i64 20000)))], (some (6, true)), false⟩,
 ⟨10, .pk (.t 6) (.t 9) (.k (.sc (.bool false))), none, false⟩,
 ⟨2, .mv (.t 10), none, false⟩])
 .ret))⟩
attribute [simp] i153
set_option maxRecDepth 1000000 in
theorem c153 : cFn Tryz.prog 153 [[]] = some i153 := by kernel_rfl
theorem e153 : enterOk Tryz.prog 153 = true := by kernel_rfl
def i154 : Ev.Fn := ⟨3, 42, [.tmp 6],
 (.seq
 (.reg false [⟨3, .bx (.t 0), none, false⟩,
 ⟨4, .bx (.t 1), none, false⟩,
 ⟨5, .bx (.t 2), none, false⟩,
 ⟨6, .mv (.k (.sc (.bool false))), none, false⟩])
 (.seq
 (.reg true [⟨7, .ld 2 true (.t 3), none, false⟩,
 ⟨8, .ld 2 true (.t 4), none, false⟩,
 ⟨9, .ld 2 true (.t 5), none, false⟩,
 ⟨10, .ca (.k (.cl 174 [])) [(.t 7), (.t 8), (.t 9)], none, false⟩,
 ⟨11, .ar .eql false (.t 10) (.k (.sc (.int .i64 0))), none, false⟩,
 ⟨12, .mv (.t 11), none, false⟩,
 ⟨13, .fa 0 (.t 5), (some (12, true)), false⟩,
 ⟨14, .ld 1 false (.t 13), (some (12, true)), false⟩,
 ⟨15, .fa 0 (.t 3), (some (12, true)), false⟩,
 ⟨16, .ld 1 false (.t 15), (some (12, true)), false⟩,
 ⟨17, .fa 0 (.t 4), (some (12, true)), false⟩,
 ⟨18, .ld 1 false (.t 17), (some (12, true)), false⟩,
 ⟨19, .ca (.k (.cl 38 [])) [(.t 16), (.t 18)], (some (12, true)), false⟩,
 ⟨20, .fa 0 (.t 3), (some (12, true)), false⟩,
 ⟨21, .ld 1 false (.t 20), (some (12, true)), false⟩,
 ⟨22, .fa 0 (.t 4), (some (12, true)), false⟩,
 ⟨23, .ld 1 false (.t 22), (some (12, true)), false⟩,
 ⟨24, .ca (.k (.cl 178 [])) [(.t 21), (.t 23)], (some (12, true)), false⟩,
 ⟨25, .ca (.k (.cl 71 [])) [(.t 14), (.t 19), (.t 24)], (some (12, true)), false⟩,
 ⟨26, .pk (.t 12) (.t 25) (.k (.sc (.bool false))), none, false⟩,
 ⟨27, .mv (.t 26), none, false⟩,
 ⟨28, .fa 1 (.t 5), (some (27, true)), false⟩,
 ⟨29, .ld 1 false (.t 28), (some (27, true)), false⟩,
 ⟨30, .fa 1 (.t 3), (some (27, true)), false⟩,
 ⟨31, .ld 1 false (.t 30), (some (27, true)), false⟩,
 ⟨32, .fa 1 (.t 4), (some (27, true)), false⟩,
 ⟨33, .ld 1 false (.t 32), (some (27, true)), false⟩,
 ⟨34, .ca (.k (.cl 38 [])) [(.t 31), (.t 33)], (some (27, true)), false⟩,
 ⟨35, .fa 1 (.t 3), (some (27, true)), false⟩,
 ⟨36, .ld 1 false (.t 35), (some (27, true)), false⟩,
 ⟨37, .fa 1 (.t 4), (some (27, true)), false⟩,
 ⟨38, .ld 1 false (.t 37), (some (27, true)), false⟩,
 ⟨39, .ca (.k (.cl 178 [])) [(.t 36), (.t 38)], (some (27, true)), false⟩,
 ⟨40, .ca (.k (.cl 71 [])) [(.t 29), (.t 34), (.t 39)], (some (27, true)), false⟩,
 ⟨41, .pk (.t 27) (.t 40) (.k (.sc (.bool false))), none, false⟩,
 ⟨6, .mv (.t 41), none, false⟩])
 .ret))⟩
attribute [simp] i154
set_option maxRecDepth 1000000 in
theorem c154 : cFn Tryz.prog 154 [[]] = some i154 := by kernel_rfl
theorem e154 : enterOk Tryz.prog 154 = true := by kernel_rfl
def i155 : Ev.Fn := ⟨4, 38, [.tmp 8],
 (.seq
 (.reg false [⟨4, .bx (.t 0), none, false⟩,
 ⟨5, .bx (.t 1), none, false⟩,
 ⟨6, .bx (.t 2), none, false⟩,
 ⟨7, .bx (.t 3), none, false⟩,
 ⟨8, .mv (.k (.sc (.bool false))), none, false⟩])
 (.seq
 (.reg false [⟨9, .ld 2 true (.t 4), none, false⟩,
 ⟨10, .ld 2 true (.t 5), none, false⟩,
 ⟨11, .ld 2 true (.t 6), none, false⟩,
 ⟨12, .ld 2 true (.t 7), none, false⟩,
 ⟨13, .ca (.k (.cl 179 [])) [(.t 9), (.t 10), (.t 11), (.t 12)], none, false⟩,
 ⟨14, .mv (.t 13), none, false⟩,
 ⟨15, .ld 2 true (.t 4), (some (14, false)), false⟩,
 ⟨16, .ld 2 true (.t 5), (some (14, false)), false⟩,
 ⟨17, .ld 2 true (.t 6), (some (14, false)), false⟩,
 ⟨18, .ca (.k (.cl 154 [])) [(.t 15), (.t 16), (.t 17)], (some (14, false)), false⟩,
 ⟨19, .pk (.t 14) (.k (.sc (.bool true))) (.t 18), none, false⟩,
 ⟨20, .mv (.t 19), none, false⟩,
 ⟨21, .ld 2 true (.t 4), (some (20, false)), false⟩,
 ⟨22, .ld 2 true (.t 5), (some (20, false)), false⟩,
 ⟨23, .ld 2 true (.t 7), (some (20, false)), false⟩,
 ⟨24, .ca (.k (.cl 154 [])) [(.t 21), (.t 22), (.t 23)], (some (20, false)), false⟩,
 ⟨25, .pk (.t 20) (.k (.sc (.bool true))) (.t 24), none, false⟩,
 ⟨26, .mv (.t 25), none, false⟩,
 ⟨27, .ld 2 true (.t 6), (some (26, false)), false⟩,
 ⟨28, .ld 2 true (.t 7), (some (26, false)), false⟩,
 ⟨29, .ld 2 true (.t 4), (some (26, false)), false⟩,
 ⟨30, .ca (.k (.cl 154 [])) [(.t 27), (.t 28), (.t 29)], (some (26, false)), false⟩,
 ⟨31, .pk (.t 26) (.k (.sc (.bool true))) (.t 30), none, false⟩,
 ⟨32, .mv (.t 31), none, false⟩,
 ⟨33, .ld 2 true (.t 6), (some (32, false)), false⟩,
 ⟨34, .ld 2 true (.t 7), (some (32, false)), false⟩,
 ⟨35, .ld 2 true (.t 5), (some (32, false)), false⟩,
 ⟨36, .ca (.k (.cl 154 [])) [(.t 33), (.t 34), (.t 35)], (some (32, false)), false⟩,
 ⟨37, .pk (.t 32) (.k (.sc (.bool true))) (.t 36), none, false⟩,
 ⟨8, .mv (.t 37), none, false⟩])
 .ret))⟩
attribute [simp] i155
set_option maxRecDepth 1000000 in
theorem c155 : cFn Tryz.prog 155 [[]] = some i155 := by kernel_rfl
theorem e155 : enterOk Tryz.prog 155 = true := by kernel_rfl
def w156_1 : IC :=
(.seq
 (.seq
 (.reg false [⟨6, .mv (.t 4), none, false⟩,
 ⟨7, .mv (.t 0), none, false⟩,
 ⟨8, .ln false (.t 7), none, false⟩,
 ⟨9, .ar .lss false (.t 6) (.t 8), none, false⟩])
 (.ite (.t 9)
 .skip
 (.exit 0)))
 (.seq
 (.block 1
 (.seq
 (.reg false [⟨12, .mv (.t 0), none, false⟩,
 ⟨13, .mv (.t 4), none, false⟩,
 ⟨14, .ar .add false (.t 13) (.k (.sc (.int .i64 1))), none, false⟩,
 ⟨15, .mv (.t 0), none, false⟩,
 ⟨16, .ln false (.t 15), none, false⟩,
 ⟨17, .ar .rem false (.t 14) (.t 16), none, false⟩,
 ⟨18, .ia 2 (.t 12) (.t 17), none, false⟩,
 ⟨19, .ld 2 true (.t 18), none, false⟩,
 ⟨5, .al [(.sc (.int .i64 0)), (.sc (.int .i64 0))], none, false⟩,
 ⟨1, .so 2 (.t 5) (.t 19), none, true⟩])
 (.reg true [⟨20, .mv (.t 3), none, false⟩,
 ⟨21, .mv (.t 0), none, false⟩,
 ⟨22, .mv (.t 4), none, false⟩,
 ⟨23, .ia 2 (.t 21) (.t 22), none, false⟩,
 ⟨24, .fa 0 (.t 23), none, false⟩,
 ⟨25, .ld 1 false (.t 24), none, false⟩,
 ⟨26, .fa 1 (.t 5), none, false⟩,
 ⟨27, .ld 1 false (.t 26), none, false⟩,
 ⟨28, .ar .mul false (.t 25) (.t 27), none, false⟩,
 ⟨29, .mv (.t 0), none, false⟩,
 ⟨30, .mv (.t 4), none, false⟩,
 ⟨31, .ia 2 (.t 29) (.t 30), none, false⟩,
 ⟨32, .fa 1 (.t 31), none, false⟩,
 ⟨33, .ld 1 false (.t 32), none, false⟩,
 ⟨34, .fa 0 (.t 5), none, false⟩,
 ⟨35, .ld 1 false (.t 34), none, false⟩,
 ⟨36, .ar .mul false (.t 33) (.t 35), none, false⟩,
 ⟨37, .ar .sub false (.t 28) (.t 36), none, false⟩,
 ⟨38, .ar .add false (.t 20) (.t 37), none, false⟩,
 ⟨3, .mv (.t 38), none, false⟩])))
 (.reg false [⟨10, .mv (.t 4), none, false⟩,
 ⟨11, .ar .add false (.t 10) (.k (.sc (.int .i64 1))), none, false⟩,
 ⟨4, .mv (.t 11), none, false⟩])))
def b156_1 : IC := w156_1
theorem u156_1 (call : CallF) (st : St) : evC call b156_1 st = evC call w156_1 st := rfl
attribute [simp] u156_1 w156_1
def i156 : Ev.Fn := ⟨1, 40, [.tmp 2],
 (.seq
 (.reg false [⟨2, .mv (.k (.sc (.int .i64 0))), none, false⟩])
 (.seq
 (.reg false [⟨3, .mv (.k (.sc (.int .i64 0))), none, false⟩])
 (.seq
 (.seq
 (.reg false [⟨4, .mv (.k (.sc (.int .i64 0))), none, false⟩])
 (.cln [3] [2]
 (.block 0
 (.loop [0, 3, 4] b156_1))))
 (.seq
 (.reg false [⟨39, .mv (.t 3), none, false⟩,
 ⟨2, .mv (.t 39), none, false⟩])
 .ret))))⟩
attribute [simp] i156
set_option maxRecDepth 1000000 in
theorem c156 : cFn Tryz.prog 156 [[], [0, 3, 4], [3], [2]] = some i156 := by kernel_rfl
theorem e156 : enterOk Tryz.prog 156 = true := by kernel_rfl
def w157_1 : IC :=
(.seq
 (.seq
 (.reg false [⟨6, .mv (.t 4), none, false⟩,
 ⟨7, .mv (.t 3), none, false⟩,
 ⟨8, .ln false (.t 7), none, false⟩,
 ⟨9, .ar .lss false (.t 6) (.t 8), none, false⟩])
 (.ite (.t 9)
 .skip
 (.exit 0)))
 (.seq
 (.block 1
 (.seq
 (.reg false [⟨12, .mv (.t 3), none, false⟩,
 ⟨13, .mv (.t 4), none, false⟩,
 ⟨14, .ia 1 (.t 12) (.t 13), none, false⟩,
 ⟨15, .ld 1 false (.t 14), none, false⟩,
 ⟨16, .mv (.t 0), none, false⟩,
 ⟨17, .ar .eql false (.t 15) (.t 16), none, false⟩])
 (.ite (.t 17)
 (.seq
 (.reg false [⟨18, .mv (.t 4), none, false⟩,
 ⟨2, .mv (.t 18), none, false⟩])
 .ret)
 .skip)))
 (.reg false [⟨10, .mv (.t 4), none, false⟩,
 ⟨11, .ar .add false (.t 10) (.k (.sc (.int .i64 1))), none, false⟩,
 ⟨4, .mv (.t 11), none, false⟩])))
def b157_1 : IC := w157_1
theorem u157_1 (call : CallF) (st : St) : evC call b157_1 st = evC call w157_1 st := rfl
attribute [simp] u157_1 w157_1
def i157 : Ev.Fn := ⟨1, 19, [.tmp 2],
 (.seq
 (.reg false [⟨2, .mv (.k (.sc (.int .i64 0))), none, false⟩])
 (.seq
 (.reg false [⟨5, .ca (.k (.cl 27 [])) [], none, false⟩,
 ⟨3, .mv (.t 5), none, false⟩])
 (.seq
 (.seq
 (.reg false [⟨4, .mv (.k (.sc (.int .i64 0))), none, false⟩])
 (.cln [] [2]
 (.block 0
 (.loop [0, 3, 4] b157_1))))
 (.seq
 (.reg false [⟨2, .mv (.k (.sc (.int .i64 (-1)))), none, false⟩])
 .ret))))⟩
attribute [simp] i157
set_option maxRecDepth 1000000 in
theorem c157 : cFn Tryz.prog 157 [[], [0, 3, 4], [], [2]] = some i157 := by kernel_rfl
theorem e157 : enterOk Tryz.prog 157 = true := by kernel_rfl
def i158 : Ev.Fn := ⟨0, 12, [.tmp 0],
 (.seq
 (.reg false [⟨0, .mv (.k .nl), none, false⟩])
 (.seq
 (.reg false [⟨1, .bs 2 1 [(.sc (.int .i64 0))] 3 [(0, (.k (.sc (.int .i64 20)))), (1, (.k (.sc (.int .i64 40)))), (2, (.k (.sc (.int .i64 310))))], none, false⟩,
 ⟨2, .bs 2 1 [(.sc (.int .i64 0))] 3 [(0, (.k (.sc (.int .i64 35)))), (1, (.k (.sc (.int .i64 45)))), (2, (.k (.sc (.int .i64 410))))], none, false⟩,
 ⟨3, .bs 2 1 [(.sc (.int .i64 0))] 3 [(0, (.k (.sc (.int .i64 15)))), (1, (.k (.sc (.int .i64 33)))), (2, (.k (.sc (.int .i64 280))))], none, false⟩,
 ⟨4, .bs 2 1 [(.sc (.int .i64 0))] 3 [(0, (.k (.sc (.int .i64 50)))), (1, (.k (.sc (.int .i64 36)))), (2, (.k (.sc (.int .i64 240))))], none, false⟩,
 ⟨5, .bs 2 1 [(.sc (.int .i64 0))] 3 [(0, (.k (.sc (.int .i64 95)))), (1, (.k (.sc (.int .i64 85)))), (2, (.k (.sc (.int .i64 270))))], none, false⟩,
 ⟨6, .bs 2 1 [(.sc (.int .i64 0))] 3 [(0, (.k (.sc (.int .i64 5)))), (1, (.k (.sc (.int .i64 35)))), (2, (.k (.sc (.int .i64 370))))], none, false⟩,
 ⟨7, .bs 2 1 [(.sc (.int .i64 0))] 3 [(0, (.k (.sc (.int .i64 10)))), (1, (.k (.sc (.int .i64 42)))), (2, (.k (.sc (.int .i64 290))))], none, false⟩,
 ⟨8, .bs 2 1 [(.sc (.int .i64 0))] 3 [(0, (.k (.sc (.int .i64 40)))), (1, (.k (.sc (.int .i64 40)))), (2, (.k (.sc (.int .i64 330))))], none, false⟩,
 ⟨9, .bs 2 1 [(.sc (.int .i64 0))] 3 [(0, (.k (.sc (.int .i64 80)))), (1, (.k (.sc (.int .i64 60)))), (2, (.k (.sc (.int .i64 220))))], none, false⟩,
 ⟨10, .bs 2 1 [(.sc (.int .i64 0))] 3 [(0, (.k (.sc (.int .i64 70)))), (1, (.k (.sc (.int .i64 38)))), (2, (.k (.sc (.int .i64 260))))], none, false⟩,
 ⟨11, .bw 75 1 [.nl] 10 [(0, (.t 1)), (1, (.t 2)), (2, (.t 3)), (3, (.t 4)), (4, (.t 5)), (5, (.t 6)), (6, (.t 7)), (7, (.t 8)), (8, (.t 9)), (9, (.t 10))], none, false⟩,
 ⟨0, .mv (.t 11), none, false⟩])
 .ret))⟩
attribute [simp] i158
set_option maxRecDepth 1000000 in
theorem c158 : cFn Tryz.prog 158 [[]] = some i158 := by kernel_rfl
theorem e158 : enterOk Tryz.prog 158 = true := by kernel_rfl
def i159 : Ev.Fn := ⟨1, 5, [.tmp 2],
 (.seq
 (.reg false [⟨2, .mv (.k (.sc (.bool false))), none, false⟩])
 (.seq
 (.reg false [⟨3, .mv (.t 0), none, false⟩,
 ⟨4, .ca (.k (.cl 71 [])) [(.t 3), (.k (.sc (.int .i64 0))), (.k (.sc (.int .i64 179)))], none, false⟩,
 ⟨2, .mv (.t 4), none, false⟩])
 .ret))⟩
attribute [simp] i159
set_option maxRecDepth 1000000 in
theorem c159 : cFn Tryz.prog 159 [[]] = some i159 := by kernel_rfl
theorem e159 : enterOk Tryz.prog 159 = true := by kernel_rfl
def w160_1 : IC :=
(.seq
 (.reg false [⟨9, .ar .lss false (.t 8) (.t 7), none, false⟩])
 (.seq
 (.ite (.t 9)
 .skip
 (.exit 0))
 (.seq
 (.block 1
 (.seq
 (.reg false [⟨10, .mv (.t 8), none, false⟩,
 ⟨5, .mv (.t 10), none, false⟩])
 (.seq
 (.reg true [⟨11, .ld 2 true (.t 3), none, false⟩,
 ⟨12, .mv (.t 0), none, false⟩,
 ⟨13, .mv (.t 5), none, false⟩,
 ⟨14, .ia 2 (.t 12) (.t 13), none, false⟩,
 ⟨15, .ld 2 true (.t 14), none, false⟩,
 ⟨16, .eq false [1, 1] (.t 11) (.t 15), none, false⟩])
 (.ite (.t 16)
 (.seq
 (.reg false [⟨17, .mv (.t 5), none, false⟩,
 ⟨4, .mv (.t 17), none, false⟩])
 .ret)
 .skip))))
 (.reg false [⟨18, .ar .add false (.t 8) (.k (.sc (.int .i64 1))), none, false⟩,
 ⟨8, .mv (.t 18), none, false⟩]))))
def b160_1 : IC := w160_1
theorem u160_1 (call : CallF) (st : St) : evC call b160_1 st = evC call w160_1 st := rfl
attribute [simp] u160_1 w160_1
def i160 : Ev.Fn := ⟨2, 19, [.tmp 4],
 (.seq
 (.reg false [⟨3, .bx (.t 1), none, false⟩,
 ⟨4, .mv (.k (.sc (.int .i64 0))), none, false⟩])
 (.seq
 (.seq
 (.reg false [⟨6, .mv (.t 0), none, false⟩,
 ⟨7, .ln false (.t 6), none, false⟩,
 ⟨8, .mv (.k (.sc (.int .i64 0))), none, false⟩])
 (.cln [] [4]
 (.block 0
 (.loop [0, 3, 7, 8] b160_1))))
 (.seq
 (.reg false [⟨4, .mv (.k (.sc (.int .i64 (-1)))), none, false⟩])
 .ret)))⟩
attribute [simp] i160
set_option maxRecDepth 1000000 in
theorem c160 : cFn Tryz.prog 160 [[], [0, 3, 7, 8], [], [4]] = some i160 := by kernel_rfl
theorem e160 : enterOk Tryz.prog 160 = true := by kernel_rfl
def i161 : Ev.Fn := ⟨4, 38, [.tmp 8],
 (.seq
 (.reg false [⟨4, .bx (.t 0), none, false⟩,
 ⟨5, .bx (.t 1), none, false⟩,
 ⟨6, .bx (.t 2), none, false⟩,
 ⟨7, .bx (.t 3), none, false⟩,
 ⟨8, .mv (.k (.sc (.bool false))), none, false⟩])
 (.seq
 (.reg false [⟨9, .ld 2 true (.t 4), none, false⟩,
 ⟨10, .ld 2 true (.t 5), none, false⟩,
 ⟨11, .ld 2 true (.t 6), none, false⟩,
 ⟨12, .ld 2 true (.t 7), none, false⟩,
 ⟨13, .ca (.k (.cl 180 [])) [(.t 9), (.t 10), (.t 11), (.t 12)], none, false⟩,
 ⟨14, .mv (.t 13), none, false⟩,
 ⟨15, .ld 2 true (.t 4), (some (14, false)), false⟩,
 ⟨16, .ld 2 true (.t 5), (some (14, false)), false⟩,
 ⟨17, .ld 2 true (.t 6), (some (14, false)), false⟩,
 ⟨18, .ca (.k (.cl 144 [])) [(.t 15), (.t 16), (.t 17)], (some (14, false)), false⟩,
 ⟨19, .pk (.t 14) (.k (.sc (.bool true))) (.t 18), none, false⟩,
 ⟨20, .mv (.t 19), none, false⟩,
 ⟨21, .ld 2 true (.t 4), (some (20, false)), false⟩,
 ⟨22, .ld 2 true (.t 5), (some (20, false)), false⟩,
 ⟨23, .ld 2 true (.t 7), (some (20, false)), false⟩,
 ⟨24, .ca (.k (.cl 144 [])) [(.t 21), (.t 22), (.t 23)], (some (20, false)), false⟩,
 ⟨25, .pk (.t 20) (.k (.sc (.bool true))) (.t 24), none, false⟩,
 ⟨26, .mv (.t 25), none, false⟩,
 ⟨27, .ld 2 true (.t 6), (some (26, false)), false⟩,
 ⟨28, .ld 2 true (.t 7), (some (26, false)), false⟩,
 ⟨29, .ld 2 true (.t 4), (some (26, false)), false⟩,
 ⟨30, .ca (.k (.cl 144 [])) [(.t 27), (.t 28), (.t 29)], (some (26, false)), false⟩,
 ⟨31, .pk (.t 26) (.k (.sc (.bool true))) (.t 30), none, false⟩,
 ⟨32, .mv (.t 31), none, false⟩,
 ⟨33, .ld 2 true (.t 6), (some (32, false)), false⟩,
 ⟨34, .ld 2 true (.t 7), (some (32, false)), false⟩,
 ⟨35, .ld 2 true (.t 5), (some (32, false)), false⟩,
 ⟨36, .ca (.k (.cl 144 [])) [(.t 33), (.t 34), (.t 35)], (some (32, false)), false⟩,
 ⟨37, .pk (.t 32) (.k (.sc (.bool true))) (.t 36), none, false⟩,
 ⟨8, .mv (.t 37), none, false⟩])
 .ret))⟩
attribute [simp] i161
set_option maxRecDepth 1000000 in
theorem c161 : cFn Tryz.prog 161 [[]] = some i161 := by kernel_rfl
theorem e161 : enterOk Tryz.prog 161 = true := by kernel_rfl
def w162_1 : IC :=
(.seq
 (.reg false [⟨10, .ar .lss false (.t 9) (.t 8), none, false⟩])
 (.seq
 (.ite (.t 10)
 .skip
 (.exit 0))
 (.seq
 (.block 1
 (.seq
 (.reg false [⟨11, .mv (.t 9), none, false⟩,
 ⟨12, .ia 2 (.t 7) (.t 9), none, false⟩,
 ⟨13, .ld 2 true (.t 12), none, false⟩,
 ⟨5, .al [(.sc (.int .i64 0)), (.sc (.int .i64 0))], none, false⟩,
 ⟨4, .mv (.t 11), none, false⟩,
 ⟨1, .so 2 (.t 5) (.t 13), none, true⟩])
 (.seq
 (.reg false [⟨14, .mv (.t 0), none, false⟩,
 ⟨15, .mv (.t 4), none, false⟩,
 ⟨16, .ar .add false (.t 15) (.k (.sc (.int .i64 1))), none, false⟩,
 ⟨17, .mv (.t 0), none, false⟩,
 ⟨18, .ln false (.t 17), none, false⟩,
 ⟨19, .ar .rem false (.t 16) (.t 18), none, false⟩,
 ⟨20, .ia 2 (.t 14) (.t 19), none, false⟩,
 ⟨21, .ld 2 true (.t 20), none, false⟩,
 ⟨6, .al [(.sc (.int .i64 0)), (.sc (.int .i64 0))], none, false⟩,
 ⟨1, .so 2 (.t 6) (.t 21), none, true⟩])
 (.reg false [⟨22, .mv (.t 3), none, false⟩,
 ⟨23, .fa 0 (.t 5), none, false⟩,
 ⟨24, .ld 1 false (.t 23), none, false⟩,
 ⟨25, .fa 1 (.t 6), none, false⟩,
 ⟨26, .ld 1 false (.t 25), none, false⟩,
 ⟨27, .ar .mul false (.t 24) (.t 26), none, false⟩,
 ⟨28, .fa 1 (.t 5), none, false⟩,
 ⟨29, .ld 1 false (.t 28), none, false⟩,
 ⟨30, .fa 0 (.t 6), none, false⟩,
 ⟨31, .ld 1 false (.t 30), none, false⟩,
 ⟨32, .ar .mul false (.t 29) (.t 31), none, false⟩,
 ⟨33, .ar .sub false (.t 27) (.t 32), none, false⟩,
 ⟨34, .ar .add false (.t 22) (.t 33), none, false⟩,
 ⟨3, .mv (.t 34), none, false⟩]))))
 (.reg false [⟨35, .ar .add false (.t 9) (.k (.sc (.int .i64 1))), none, false⟩,
 ⟨9, .mv (.t 35), none, false⟩]))))
def b162_1 : IC := w162_1
theorem u162_1 (call : CallF) (st : St) : evC call b162_1 st = evC call w162_1 st := rfl
attribute [simp] u162_1 w162_1
def i162 : Ev.Fn := ⟨1, 37, [.tmp 2],
 (.seq
 (.reg false [⟨2, .mv (.k (.sc (.int .i64 0))), none, false⟩])
 (.seq
 (.reg false [⟨3, .mv (.k (.sc (.int .i64 0))), none, false⟩])
 (.seq
 (.seq
 (.reg false [⟨7, .mv (.t 0), none, false⟩,
 ⟨8, .ln false (.t 7), none, false⟩,
 ⟨9, .mv (.k (.sc (.int .i64 0))), none, false⟩])
 (.cln [3] [2]
 (.block 0
 (.loop [0, 3, 7, 8, 9] b162_1))))
 (.seq
 (.reg false [⟨36, .mv (.t 3), none, false⟩,
 ⟨2, .mv (.t 36), none, false⟩])
 .ret))))⟩
attribute [simp] i162
set_option maxRecDepth 1000000 in
theorem c162 : cFn Tryz.prog 162 [[], [0, 3, 7, 8, 9], [3], [2]] = some i162 := by kernel_rfl
theorem e162 : enterOk Tryz.prog 162 = true := by kernel_rfl
def w163_1 : IC :=
(.seq
 (.reg false [⟨9, .ar .lss false (.t 8) (.t 7), none, false⟩])
 (.seq
 (.ite (.t 9)
 .skip
 (.exit 0))
 (.seq
 (.block 1
 (.seq
 (.reg false [⟨10, .mv (.t 8), none, false⟩,
 ⟨5, .mv (.t 10), none, false⟩])
 (.seq
 (.reg false [⟨11, .mv (.t 1), none, false⟩,
 ⟨12, .mv (.t 0), none, false⟩,
 ⟨13, .mv (.t 5), none, false⟩,
 ⟨14, .ia 3 (.t 12) (.t 13), none, false⟩,
 ⟨15, .ld 3 true (.t 14), none, false⟩,
 ⟨16, .ca (.t 11) [(.t 15)], none, false⟩])
 (.ite (.t 16)
 (.seq
 (.reg false [⟨17, .mv (.t 5), none, false⟩,
 ⟨4, .mv (.t 17), none, false⟩])
 .ret)
 .skip))))
 (.reg false [⟨18, .ar .add false (.t 8) (.k (.sc (.int .i64 1))), none, false⟩,
 ⟨8, .mv (.t 18), none, false⟩]))))
def b163_1 : IC := w163_1
theorem u163_1 (call : CallF) (st : St) : evC call b163_1 st = evC call w163_1 st := rfl
attribute [simp] u163_1 w163_1
def i163 : Ev.Fn := ⟨2, 19, [.tmp 4],
 (.seq
 (.reg false [⟨4, .mv (.k (.sc (.int .i64 0))), none, false⟩])
 (.seq
 (.seq
 (.reg false [⟨6, .mv (.t 0), none, false⟩,
 ⟨7, .ln false (.t 6), none, false⟩,
 ⟨8, .mv (.k (.sc (.int .i64 0))), none, false⟩])
 (.cln [] [4]
 (.block 0
 (.loop [0, 1, 7, 8] b163_1))))
 (.seq
 (.reg false [⟨4, .mv (.k (.sc (.int .i64 (-1)))), none, false⟩])
 .ret)))⟩
attribute [simp] i163
set_option maxRecDepth 1000000 in
theorem c163 : cFn Tryz.prog 163 [[], [0, 1, 7, 8], [], [4]] = some i163 := by kernel_rfl
theorem e163 : enterOk Tryz.prog 163 = true := by kernel_rfl
def i164 : Ev.Fn := ⟨1, 18, [.tmp 2, .tmp 3],
 (.seq
 (.reg false [⟨2, .mv (.k (.sc (.int .i64 0))), none, false⟩,
 ⟨3, .mv (.k (.sc (.bool false))), none, false⟩])
 (.seq
 (.reg false [⟨9, .mv (.t 0), none, false⟩,
 ⟨10, .ca (.k (.cl 181 [])) [(.t 9)], none, false⟩,
 ⟨8, .mv (.t 10), none, false⟩,
 ⟨11, .xt (.t 8) 0, none, false⟩,
 ⟨12, .xt (.t 8) 1, none, false⟩,
 ⟨13, .xt (.t 8) 2, none, false⟩,
 ⟨14, .xt (.t 8) 3, none, false⟩,
 ⟨4, .mv (.t 11), none, false⟩,
 ⟨5, .mv (.t 12), none, false⟩,
 ⟨6, .mv (.t 13), none, false⟩,
 ⟨7, .mv (.t 14), none, false⟩])
 (.seq
 (.reg false [⟨15, .mv (.t 4), none, false⟩,
 ⟨16, .mv (.t 7), none, false⟩,
 ⟨17, .ar .eql false (.t 16) (.k (.sc (.int .i64 0))), none, false⟩,
 ⟨2, .mv (.t 15), none, false⟩,
 ⟨3, .mv (.t 17), none, false⟩])
 .ret)))⟩
attribute [simp] i164
set_option maxRecDepth 1000000 in
theorem c164 : cFn Tryz.prog 164 [[]] = some i164 := by kernel_rfl
theorem e164 : enterOk Tryz.prog 164 = true := by kernel_rfl
def i174 : Ev.Fn := ⟨3, 16, [.tmp 6],
 (.seq
 (.reg false [⟨3, .bx (.t 0), none, false⟩,
 ⟨4, .bx (.t 1), none, false⟩,
 ⟨5, .bx (.t 2), none, false⟩,
 ⟨6, .mv (.k (.sc (.int .i64 0))), none, false⟩])
 (.seq
 (.reg false [⟨8, .ld 2 true (.t 3), none, false⟩,
 ⟨9, .ld 2 true (.t 4), none, false⟩,
 ⟨10, .ld 2 true (.t 5), none, false⟩,
 ⟨11, .ca (.k (.cl 183 [])) [(.t 8), (.t 9), (.t 10)], none, false⟩,
 ⟨7, .mv (.t 11), none, false⟩])
 (.seq
 (.seq
 (.reg false [⟨12, .mv (.t 7), none, false⟩,
 ⟨13, .ar .gtr false (.t 12) (.k (.sc (.int .i64 0))), none, false⟩])
 (.ite (.t 13)
 (.seq
 (.reg false [⟨6, .mv (.k (.sc (.int .i64 1))), none, false⟩])
 .ret)
 .skip))
 (.seq
 (.seq
 (.reg false [⟨14, .mv (.t 7), none, false⟩,
 ⟨15, .ar .lss false (.t 14) (.k (.sc (.int .i64 0))), none, false⟩])
 (.ite (.t 15)
 (.seq
 (.reg false [⟨6, .mv (.k (.sc (.int .i64 (-1)))), none, false⟩])
 .ret)
 .skip))
 (.seq
 (.reg false [⟨6, .mv (.k (.sc (.int .i64 0))), none, false⟩])
 .ret)))))⟩
attribute [simp] i174
set_option maxRecDepth 1000000 in
theorem c174 : cFn Tryz.prog 174 [[]] = some i174 := by kernel_rfl
theorem e174 : enterOk Tryz.prog 174 = true := by kernel_rfl
def i175 : Ev.Fn := ⟨1, 11, [.tmp 2],
 (.seq
 (.reg false [⟨1, .bx (.t 0), none, false⟩,
 ⟨2, .mv (.k (.sc (.bool false))), none, false⟩])
 (.seq
 (.reg false [⟨3, .fa 0 (.t 1), none, false⟩,
 ⟨4, .ld 1 false (.t 3), none, false⟩,
 ⟨5, .ca (.k (.cl 40 [])) [(.t 4), (.k (.sc (.int .i64 0))), (.k (.sc (.int .i64 20000)))], none, false⟩,
 ⟨6, .mv (.t 5), none, false⟩,
 ⟨7, .fa 1 (.t 1), (some (6, true)), false⟩,
 ⟨8, .ld 1 false (.t 7), (some (6, true)), false⟩,
 ⟨9, .ca (.k (.cl 40 [])) [(.t 8), (.k (.sc (.int .i64 0))), (.k (.sc (.int .i64 20000)))], (some (6, true)), false⟩,
 ⟨10, .pk (.t 6) (.t 9) (.k (.sc (.bool false))), none, false⟩,
 ⟨2, .mv (.t 10), none, false⟩])
 .ret))⟩
attribute [simp] i175
set_option maxRecDepth 1000000 in
theorem c175 : cFn Tryz.prog 175 [[]] = some i175 := by kernel_rfl
theorem e175 : enterOk Tryz.prog 175 = true := by kernel_rfl
def i178 : Ev.Fn := ⟨2, 10, [.tmp 4],
 (.seq
 (.reg false [⟨4, .mv (.k (.sc (.int .i64 0))), none, false⟩])
 (.seq
 (.seq
 (.reg false [⟨5, .mv (.t 0), none, false⟩,
 ⟨6, .mv (.t 1), none, false⟩,
 ⟨7, .ar .gtr false (.t 5) (.t 6), none, false⟩])
 (.ite (.t 7)
 (.seq
 (.reg false [⟨8, .mv (.t 0), none, false⟩,
 ⟨4, .mv (.t 8), none, false⟩])
 .ret)
 .skip))
 (.seq
 (.reg false [⟨9, .mv (.t 1), none, false⟩,
 ⟨4, .mv (.t 9), none, false⟩])
 .ret)))⟩
attribute [simp] i178
set_option maxRecDepth 1000000 in
theorem c178 : cFn Tryz.prog 178 [[]] = some i178 := by kernel_rfl
theorem e178 : enterOk Tryz.prog 178 = true := by kernel_rfl
def i179 : Ev.Fn := ⟨4, 31, [.tmp 8],
 (.seq
 (.reg false [⟨4, .bx (.t 0), none, false⟩,
 ⟨5, .bx (.t 1), none, false⟩,
 ⟨6, .bx (.t 2), none, false⟩,
 ⟨7, .bx (.t 3), none, false⟩,
 ⟨8, .mv (.k (.sc (.bool false))), none, false⟩])
 (.seq
 (.reg true [⟨9, .ld 2 true (.t 4), none, false⟩,
 ⟨10, .ld 2 true (.t 5), none, false⟩,
 ⟨11, .ld 2 true (.t 6), none, false⟩,
 ⟨12, .ca (.k (.cl 174 [])) [(.t 9), (.t 10), (.t 11)], none, false⟩,
 ⟨13, .ld 2 true (.t 4), none, false⟩,
 ⟨14, .ld 2 true (.t 5), none, false⟩,
 ⟨15, .ld 2 true (.t 7), none, false⟩,
 ⟨16, .ca (.k (.cl 174 [])) [(.t 13), (.t 14), (.t 15)], none, false⟩,
 ⟨17, .ar .mul false (.t 12) (.t 16), none, false⟩,
 ⟨18, .ar .lss false (.t 17) (.k (.sc (.int .i64 0))), none, false⟩,
 ⟨19, .mv (.t 18), none, false⟩,
 ⟨20, .ld 2 true (.t 6), (some (19, true)), false⟩,
 ⟨21, .ld 2 true (.t 7), (some (19, true)), false⟩,
 ⟨22, .ld 2 true (.t 4), (some (19, true)), false⟩,
 ⟨23, .ca (.k (.cl 174 [])) [(.t 20), (.t 21), (.t 22)], (some (19, true)), false⟩,
 ⟨24, .ld 2 true (.t 6), (some (19, true)), false⟩,
 ⟨25, .ld 2 true (.t 7), (some (19, true)), false⟩,
 ⟨26, .ld 2 true (.t 5), (some (19, true)), false⟩,
 ⟨27, .ca (.k (.cl 174 [])) [(.t 24), (.t 25), (.t 26)], (some (19, true)), false⟩,
 ⟨28, .ar .mul false (.t 23) (.t 27), (some (19, true)), false⟩,
 ⟨29, .ar .lss false (.t 28) (.k (.sc (.int .i64 0))), (some (19, true)), false⟩,
 ⟨30, .pk (.t 19) (.t 29) (.k (.sc (.bool false))), none, false⟩,
 ⟨8, .mv (.t 30), none, false⟩])
 .ret))⟩
attribute [simp] i179
set_option maxRecDepth 1000000 in
theorem c179 : cFn Tryz.prog 179 [[]] = some i179 := by kernel_rfl
theorem e179 : enterOk Tryz.prog 179 = true := by kernel_rfl
def i180 : Ev.Fn := ⟨4, 31, [.tmp 8],
 (.seq
 (.reg false [⟨4, .bx (.t 0), none, false⟩,
 ⟨5, .bx (.t 1), none, false⟩,
 ⟨6, .bx (.t 2), none, false⟩,
 ⟨7, .bx (.t 3), none, false⟩,
 ⟨8, .mv (.k (.sc (.bool false))), none, false⟩])
 (.seq
 (.reg true [⟨9, .ld 2 true (.t 4), none, false⟩,
 ⟨10, .ld 2 true (.t 5), none, false⟩,
 ⟨11, .ld 2 true (.t 6), none, false⟩,
 ⟨12, .ca (.k (.cl 147 [])) [(.t 9), (.t 10), (.t 11)], none, false⟩,
 ⟨13, .ld 2 true (.t 4), none, false⟩,
 ⟨14, .ld 2 true (.t 5), none, false⟩,
 ⟨15, .ld 2 true (.t 7), none, false⟩,
 ⟨16, .ca (.k (.cl 147 [])) [(.t 13), (.t 14), (.t 15)], none, false⟩,
 ⟨17, .ar .mul false (.t 12) (.t 16), none, false⟩,
 ⟨18, .ar .lss false (.t 17) (.k (.sc (.int .i64 0))), none, false⟩,
 ⟨19, .mv (.t 18), none, false⟩,
 ⟨20, .ld 2 true (.t 6), (some (19, true)), false⟩,
 ⟨21, .ld 2 true (.t 7), (some (19, true)), false⟩,
 ⟨22, .ld 2 true (.t 4), (some (19, true)), false⟩,
 ⟨23, .ca (.k (.cl 147 [])) [(.t 20), (.t 21), (.t 22)], (some (19, true)), false⟩,
 ⟨24, .ld 2 true (.t 6), (some (19, true)), false⟩,
 ⟨25, .ld 2 true (.t 7), (some (19, true)), false⟩,
 ⟨26, .ld 2 true (.t 5), (some (19, true)), false⟩,
 ⟨27, .ca (.k (.cl 147 [])) [(.t 24), (.t 25), (.t 26)], (some (19, true)), false⟩,
 ⟨28, .ar .mul false (.t 23) (.t 27), (some (19, true)), false⟩,
 ⟨29, .ar .lss false (.t 28) (.k (.sc (.int .i64 0))), (some (19, true)), false⟩,
 ⟨30, .pk (.t 19) (.t 29) (.k (.sc (.bool false))), none, false⟩,
 ⟨8, .mv (.t 30), none, false⟩])
 .ret))⟩
attribute [simp] i180
set_option maxRecDepth 1000000 in
theorem c180 : cFn Tryz.prog 180 [[]] = some i180 := by kernel_rfl
theorem e180 : enterOk Tryz.prog 180 = true := by kernel_rfl
def i181 : Ev.Fn := ⟨1, 27, [.tmp 2, .tmp 3, .tmp 4, .tmp 5],
 (.seq
 (.reg false [⟨2, .mv (.k (.sc (.int .i64 0))), none, false⟩,
 ⟨3, .mv (.k (.sc (.int .i64 0))), none, false⟩,
 ⟨4, .mv (.k (.sc (.int .i64 0))), none, false⟩,
 ⟨5, .mv (.k (.sc (.int .i64 0))), none, false⟩])
 (.seq
 (.seq
 (.reg false [⟨6, .mv (.t 0), none, false⟩])
 (.block 0
 (.seq
 (.reg false [⟨8, .ar .eql false (.t 6) (.k (.sc (.string ⟨#[97, 115, 104]⟩))), none, false⟩,
 ⟨7, .mv (.t 8), none, false⟩])
 (.ite (.t 7)
 (.seq
 (.reg false [⟨2, .mv (.k (.sc (.int .i64 20))), none, false⟩,
 ⟨3, .mv (.k (.sc (.int .i64 40))), none, false⟩,
 ⟨4, .mv (.k (.sc (.int .i64 310))), none, false⟩,
 ⟨5, .mv (.k (.sc (.int .i64 0))), none, false⟩])
 .ret)
 (.seq
 (.reg false [⟨10, .ar .eql false (.t 6) (.k (.sc (.string ⟨#[98, 101, 101, 99, 104]⟩))), none, false⟩,
 ⟨9, .mv (.t 10), none, false⟩])
 (.ite (.t 9)
 (.seq
 (.reg false [⟨2, .mv (.k (.sc (.int .i64 35))), none, false⟩,
 ⟨3, .mv (.k (.sc (.int .i64 45))), none, false⟩,
 ⟨4, .mv (.k (.sc (.int .i64 410))), none, false⟩,
 ⟨5, .mv (.k (.sc (.int .i64 0))), none, false⟩])
 .ret)
 (.seq
 (.reg false [⟨12, .ar .eql false (.t 6) (.k (.sc (.string ⟨#[98, 105, 114, 99, 104]⟩))), none, false⟩,
 ⟨11, .mv (.t 12), none, false⟩])
 (.ite (.t 11)
 (.seq
 (.reg false [⟨2, .mv (.k (.sc (.int .i64 15))), none, false⟩,
 ⟨3, .mv (.k (.sc (.int .i64 33))), none, false⟩,
 ⟨4, .mv (.k (.sc (.int .i64 280))), none, false⟩,
 ⟨5, .mv (.k (.sc (.int .i64 0))), none, false⟩])
 .ret)
 (.seq
 (.reg false [⟨14, .ar .eql false (.t 6) (.k (.sc (.string ⟨#[99, 104, 101, 114, 114, 121]⟩))), none, false⟩,
 ⟨13, .mv (.t 14), none, false⟩])
 (.ite (.t 13)
 (.seq
 (.reg false [⟨2, .mv (.k (.sc (.int .i64 50))), none, false⟩,
 ⟨3, .mv (.k (.sc (.int .i64 36))), none, false⟩,
 ⟨4, .mv (.k (.sc (.int .i64 240))), none, false⟩,
 ⟨5, .mv (.k (.sc (.int .i64 0))), none, false⟩])
 .ret)
 (.seq
 (.reg false [⟨16, .ar .eql false (.t 6) (.k (.sc (.string ⟨#[101, 98, 111, 110, 121]⟩))), none, false⟩,
 ⟨15, .mv (.t 16), none, false⟩])
 (.ite (.t 15)
 (.seq
 (.reg false [⟨2, .mv (.k (.sc (.int .i64 95))), none, false⟩,
 ⟨3, .mv (.k (.sc (.int .i64 85))), none, false⟩,
 ⟨4, .mv (.k (.sc (.int .i64 270))), none, false⟩,
 ⟨5, .mv (.k (.sc (.int .i64 0))), none, false⟩])
 .ret)
 (.seq
 (.reg false [⟨18, .ar .eql false (.t 6) (.k (.sc (.string ⟨#[104, 111, 108, 108, 121]⟩))), none, false⟩,
 ⟨17, .mv (.t 18), none, false⟩])
 (.ite (.t 17)
 (.seq
 (.reg false [⟨2, .mv (.k (.sc (.int .i64 5))), none, false⟩,
 ⟨3, .mv (.k (.sc (.int .i64 35))), none, false⟩,
 ⟨4, .mv (.k (.sc (.int .i64 370))), none, false⟩,
 ⟨5, .mv (.k (.sc (.int .i64 0))), none, false⟩])
 .ret)
 (.seq
 (.reg false [⟨20, .ar .eql false (.t 6) (.k (.sc (.string ⟨#[109, 97, 112, 108, 101]⟩))), none, false⟩,
 ⟨19, .mv (.t 20), none, false⟩])
 (.ite (.t 19)
 (.seq
 (.reg false [⟨2, .mv (.k (.sc (.int .i64 10))), none, false⟩,
 ⟨3, .mv (.k (.sc (.int .i64 42))), none, false⟩,
 ⟨4, .mv (.k (.sc (.int .i64 290))), none, false⟩,
 ⟨5, .mv (.k (.sc (.int .i64 0))), none, false⟩])
 .ret)
 (.seq
 (.reg false [⟨22, .ar .eql false (.t 6) (.k (.sc (.string ⟨#[111, 97, 107]⟩))), none, false⟩,
 ⟨21, .mv (.t 22), none, false⟩])
 (.ite (.t 21)
 (.seq
 (.reg false [⟨2, .mv (.k (.sc (.int .i64 40))), none, false⟩,
 ⟨3, .mv (.k (.sc (.int .i64 40))), none, false⟩,
 ⟨4, .mv (.k (.sc (.int .i64 330))), none, false⟩,
 ⟨5, .mv (.k (.sc (.int .i64 0))), none, false⟩])
 .ret)
 (.seq
 (.reg false [⟨24, .ar .eql false (.t 6) (.k (.sc (.string ⟨#[114, 111, 115, 101, 119, 111, 111, 100]⟩))), none, false⟩,
 ⟨23, .mv (.t 24), none, false⟩])
 (.ite (.t 23)
 (.seq
 (.reg false [⟨2, .mv (.k (.sc (.int .i64 80))), none, false⟩,
 ⟨3, .mv (.k (.sc (.int .i64 60))), none, false⟩,
 ⟨4, .mv (.k (.sc (.int .i64 220))), none, false⟩,
 ⟨5, .mv (.k (.sc (.int .i64 0))), none, false⟩])
 .ret)
 (.seq
 (.reg false [⟨26, .ar .eql false (.t 6) (.k (.sc (.string ⟨#[119, 97, 108, 110, 117, 116]⟩))), none, false⟩,
 ⟨25, .mv (.t 26), none, false⟩])
 (.ite (.t 25)
 (.seq
 (.reg false [⟨2, .mv (.k (.sc (.int .i64 70))), none, false⟩,
 ⟨3, .mv (.k (.sc (.int .i64 38))), none, false⟩,
 ⟨4, .mv (.k (.sc (.int .i64 260))), none, false⟩,
 ⟨5, .mv (.k (.sc (.int .i64 0))), none, false⟩])
 .ret)
 .skip))))))))))))))))))))))
 (.seq
 (.reg false [⟨2, .mv (.k (.sc (.int .i64 0))), none, false⟩,
 ⟨3, .mv (.k (.sc (.int .i64 0))), none, false⟩,
 ⟨4, .mv (.k (.sc (.int .i64 0))), none, false⟩,
 ⟨5, .mv (.k (.sc (.int .i64 3))), none, false⟩])
 .ret)))⟩
attribute [simp] i181
set_option maxRecDepth 1000000 in
theorem c181 : cFn Tryz.prog 181 [[]] = some i181 := by kernel_rfl
theorem e181 : enterOk Tryz.prog 181 = true := by kernel_rfl
def i183 : Ev.Fn := ⟨3, 30, [.tmp 6],
 (.seq
 (.reg false [⟨3, .bx (.t 0), none, false⟩,
 ⟨4, .bx (.t 1), none, false⟩,
 ⟨5, .bx (.t 2), none, false⟩,
 ⟨6, .mv (.k (.sc (.int .i64 0))), none, false⟩])
 (.seq
 (.reg false [⟨7, .fa 0 (.t 4), none, false⟩,
 ⟨8, .ld 1 false (.t 7), none, false⟩,
 ⟨9, .fa 0 (.t 3), none, false⟩,
 ⟨10, .ld 1 false (.t 9), none, false⟩,
 ⟨11, .ar .sub false (.t 8) (.t 10), none, false⟩,
 ⟨12, .fa 1 (.t 5), none, false⟩,
 ⟨13, .ld 1 false (.t 12), none, false⟩,
 ⟨14, .fa 1 (.t 3), none, false⟩,
 ⟨15, .ld 1 false (.t 14), none, false⟩,
 ⟨16, .ar .sub false (.t 13) (.t 15), none, false⟩,
 ⟨17, .ar .mul false (.t 11) (.t 16), none, false⟩,
 ⟨18, .fa 1 (.t 4), none, false⟩,
 ⟨19, .ld 1 false (.t 18), none, false⟩,
 ⟨20, .fa 1 (.t 3), none, false⟩,
 ⟨21, .ld 1 false (.t 20), none, false⟩,
 ⟨22, .ar .sub false (.t 19) (.t 21), none, false⟩,
 ⟨23, .fa 0 (.t 5), none, false⟩,
 ⟨24, .ld 1 false (.t 23), none, false⟩,
 ⟨25, .fa 0 (.t 3), none, false⟩,
 ⟨26, .ld 1 false (.t 25), none, false⟩,
 ⟨27, .ar .sub false (.t 24) (.t 26), none, false⟩,
 ⟨28, .ar .mul false (.t 22) (.t 27), none, false⟩,
 ⟨29, .ar .sub false (.t 17) (.t 28), none, false⟩,
 ⟨6, .mv (.t 29), none, false⟩])
 .ret))⟩
attribute [simp] i183
set_option maxRecDepth 1000000 in
theorem c183 : cFn Tryz.prog 183 [[]] = some i183 := by kernel_rfl
theorem e183 : enterOk Tryz.prog 183 = true := by kernel_rfl
theorem mixed : Tryz.prog.follows .mixedOrders = true := by kernel_rfl
def Ft : List (Nat × Ev.Fn) := [(4, i4), (6, i6), (8, i8), (11, i11), (12, i12), (15, i15), (16, i16), (17, i17), (18, i18), (20, i20), (22, i22), (23, i23), (24, i24), (25, i25), (26, i26), (27, i27), (28, i28), (29, i29), (32, i32), (33, i33), (34, i34), (35, i35), (36, i36), (37, i37), (38, i38), (39, i39), (40, i40), (41, i41), (42, i42), (43, i43), (44, i44), (45, i45), (46, i46), (47, i47), (49, i49), (50, i50), (56, i56), (57, i57), (58, i58), (59, i59), (60, i60), (61, i61), (62, i62), (63, i63), (64, i64), (65, i65), (66, i66), (67, i67), (70, i70), (71, i71), (72, i72), (73, i73), (74, i74), (75, i75), (81, i81), (82, i82), (97, i97), (98, i98), (99, i99), (100, i100), (101, i101), (102, i102), (103, i103), (104, i104), (105, i105), (106, i106), (107, i107), (108, i108), (109, i109), (110, i110), (111, i111), (112, i112), (124, i124), (125, i125), (126, i126), (127, i127), (137, i137), (138, i138), (144, i144), (147, i147), (150, i150), (151, i151), (152, i152), (153, i153), (154, i154), (155, i155), (156, i156), (157, i157), (158, i158), (159, i159), (160, i160), (161, i161), (162, i162), (163, i163), (164, i164), (174, i174), (175, i175), (178, i178), (179, i179), (180, i180), (181, i181), (183, i183)]
def F : Nat → Option Ev.Fn := getF Ft
noncomputable def ev (d : Nat) : CallF := evF F (fun _ _ => none) d
theorem ev_fn {f : Nat} {fn : Ev.Fn} (h : F f = some fn) (d : Nat) (args : List LV) (hl : args.length = fn.nargs) : ev (d + 1) f args = Ev.finish fn.res (evC (ev d) fn.body (Ev.start args)) := evF_fn h d args hl
set_option maxRecDepth 1000000 in
theorem tab : ∀ f fn, F f = some fn → enterOk Tryz.prog f = true ∧ ∃ ks, cFn Tryz.prog f ks = some fn :=
  tabF (L := Ft) ⟨⟨e4, _, c4⟩, ⟨e6, _, c6⟩, ⟨e8, _, c8⟩, ⟨e11, _, c11⟩, ⟨e12, _, c12⟩, ⟨e15, _, c15⟩, ⟨e16, _, c16⟩, ⟨e17, _, c17⟩, ⟨e18, _, c18⟩, ⟨e20, _, c20⟩, ⟨e22, _, c22⟩, ⟨e23, _, c23⟩, ⟨e24, _, c24⟩, ⟨e25, _, c25⟩, ⟨e26, _, c26⟩, ⟨e27, _, c27⟩, ⟨e28, _, c28⟩, ⟨e29, _, c29⟩, ⟨e32, _, c32⟩, ⟨e33, _, c33⟩, ⟨e34, _, c34⟩, ⟨e35, _, c35⟩, ⟨e36, _, c36⟩, ⟨e37, _, c37⟩, ⟨e38, _, c38⟩, ⟨e39, _, c39⟩, ⟨e40, _, c40⟩, ⟨e41, _, c41⟩, ⟨e42, _, c42⟩, ⟨e43, _, c43⟩, ⟨e44, _, c44⟩, ⟨e45, _, c45⟩, ⟨e46, _, c46⟩, ⟨e47, _, c47⟩, ⟨e49, _, c49⟩, ⟨e50, _, c50⟩, ⟨e56, _, c56⟩, ⟨e57, _, c57⟩, ⟨e58, _, c58⟩, ⟨e59, _, c59⟩, ⟨e60, _, c60⟩, ⟨e61, _, c61⟩, ⟨e62, _, c62⟩, ⟨e63, _, c63⟩, ⟨e64, _, c64⟩, ⟨e65, _, c65⟩, ⟨e66, _, c66⟩, ⟨e67, _, c67⟩, ⟨e70, _, c70⟩, ⟨e71, _, c71⟩, ⟨e72, _, c72⟩, ⟨e73, _, c73⟩, ⟨e74, _, c74⟩, ⟨e75, _, c75⟩, ⟨e81, _, c81⟩, ⟨e82, _, c82⟩, ⟨e97, _, c97⟩, ⟨e98, _, c98⟩, ⟨e99, _, c99⟩, ⟨e100, _, c100⟩, ⟨e101, _, c101⟩, ⟨e102, _, c102⟩, ⟨e103, _, c103⟩, ⟨e104, _, c104⟩, ⟨e105, _, c105⟩, ⟨e106, _, c106⟩, ⟨e107, _, c107⟩, ⟨e108, _, c108⟩, ⟨e109, _, c109⟩, ⟨e110, _, c110⟩, ⟨e111, _, c111⟩, ⟨e112, _, c112⟩, ⟨e124, _, c124⟩, ⟨e125, _, c125⟩, ⟨e126, _, c126⟩, ⟨e127, _, c127⟩, ⟨e137, _, c137⟩, ⟨e138, _, c138⟩, ⟨e144, _, c144⟩, ⟨e147, _, c147⟩, ⟨e150, _, c150⟩, ⟨e151, _, c151⟩, ⟨e152, _, c152⟩, ⟨e153, _, c153⟩, ⟨e154, _, c154⟩, ⟨e155, _, c155⟩, ⟨e156, _, c156⟩, ⟨e157, _, c157⟩, ⟨e158, _, c158⟩, ⟨e159, _, c159⟩, ⟨e160, _, c160⟩, ⟨e161, _, c161⟩, ⟨e162, _, c162⟩, ⟨e163, _, c163⟩, ⟨e164, _, c164⟩, ⟨e174, _, c174⟩, ⟨e175, _, c175⟩, ⟨e178, _, c178⟩, ⟨e179, _, c179⟩, ⟨e180, _, c180⟩, ⟨e181, _, c181⟩, ⟨e183, _, c183⟩, trivial⟩
theorem tabn : ∀ f fn, F f = some fn → f < wrN := tabN (L := Ft) (by kernel_rfl)
theorem callOk (d : Nat) : CallOk [] Tryz.prog (ev d) := (evF_ok2 mixed tab tabn (noPrim_ok _ _) (noPrim_okW _ _) d).1
abbrev I (n : Int) : LV := .sc (.int .i64 n)
abbrev B (b : Bool) : LV := .sc (.bool b)
abbrev T (s : ByteArray) : LV := .sc (.string s)
theorem s4 (d : Nat) (args : List LV) (hl : args.length = i4.nargs) : ev (d + 1) 4 args = Ev.finish i4.res (evC (ev d) i4.body (Ev.start args)) := ev_fn (by kernel_rfl) d args hl
theorem s6 (d : Nat) (args : List LV) (hl : args.length = i6.nargs) : ev (d + 1) 6 args = Ev.finish i6.res (evC (ev d) i6.body (Ev.start args)) := ev_fn (by kernel_rfl) d args hl
theorem s8 (d : Nat) (args : List LV) (hl : args.length = i8.nargs) : ev (d + 1) 8 args = Ev.finish i8.res (evC (ev d) i8.body (Ev.start args)) := ev_fn (by kernel_rfl) d args hl
theorem s11 (d : Nat) (args : List LV) (hl : args.length = i11.nargs) : ev (d + 1) 11 args = Ev.finish i11.res (evC (ev d) i11.body (Ev.start args)) := ev_fn (by kernel_rfl) d args hl
theorem s12 (d : Nat) (args : List LV) (hl : args.length = i12.nargs) : ev (d + 1) 12 args = Ev.finish i12.res (evC (ev d) i12.body (Ev.start args)) := ev_fn (by kernel_rfl) d args hl
theorem s15 (d : Nat) (args : List LV) (hl : args.length = i15.nargs) : ev (d + 1) 15 args = Ev.finish i15.res (evC (ev d) i15.body (Ev.start args)) := ev_fn (by kernel_rfl) d args hl
theorem s16 (d : Nat) (args : List LV) (hl : args.length = i16.nargs) : ev (d + 1) 16 args = Ev.finish i16.res (evC (ev d) i16.body (Ev.start args)) := ev_fn (by kernel_rfl) d args hl
theorem s17 (d : Nat) (args : List LV) (hl : args.length = i17.nargs) : ev (d + 1) 17 args = Ev.finish i17.res (evC (ev d) i17.body (Ev.start args)) := ev_fn (by kernel_rfl) d args hl
theorem s18 (d : Nat) (args : List LV) (hl : args.length = i18.nargs) : ev (d + 1) 18 args = Ev.finish i18.res (evC (ev d) i18.body (Ev.start args)) := ev_fn (by kernel_rfl) d args hl
theorem s20 (d : Nat) (args : List LV) (hl : args.length = i20.nargs) : ev (d + 1) 20 args = Ev.finish i20.res (evC (ev d) i20.body (Ev.start args)) := ev_fn (by kernel_rfl) d args hl
theorem s22 (d : Nat) (args : List LV) (hl : args.length = i22.nargs) : ev (d + 1) 22 args = Ev.finish i22.res (evC (ev d) i22.body (Ev.start args)) := ev_fn (by kernel_rfl) d args hl
theorem s23 (d : Nat) (args : List LV) (hl : args.length = i23.nargs) : ev (d + 1) 23 args = Ev.finish i23.res (evC (ev d) i23.body (Ev.start args)) := ev_fn (by kernel_rfl) d args hl
theorem s24 (d : Nat) (args : List LV) (hl : args.length = i24.nargs) : ev (d + 1) 24 args = Ev.finish i24.res (evC (ev d) i24.body (Ev.start args)) := ev_fn (by kernel_rfl) d args hl
theorem s25 (d : Nat) (args : List LV) (hl : args.length = i25.nargs) : ev (d + 1) 25 args = Ev.finish i25.res (evC (ev d) i25.body (Ev.start args)) := ev_fn (by kernel_rfl) d args hl
theorem s26 (d : Nat) (args : List LV) (hl : args.length = i26.nargs) : ev (d + 1) 26 args = Ev.finish i26.res (evC (ev d) i26.body (Ev.start args)) := ev_fn (by kernel_rfl) d args hl
theorem s27 (d : Nat) (args : List LV) (hl : args.length = i27.nargs) : ev (d + 1) 27 args = Ev.finish i27.res (evC (ev d) i27.body (Ev.start args)) := ev_fn (by kernel_rfl) d args hl
theorem s28 (d : Nat) (args : List LV) (hl : args.length = i28.nargs) : ev (d + 1) 28 args = Ev.finish i28.res (evC (ev d) i28.body (Ev.start args)) := ev_fn (by kernel_rfl) d args hl
theorem s29 (d : Nat) (args : List LV) (hl : args.length = i29.nargs) : ev (d + 1) 29 args = Ev.finish i29.res (evC (ev d) i29.body (Ev.start args)) := ev_fn (by kernel_rfl) d args hl
theorem s32 (d : Nat) (args : List LV) (hl : args.length = i32.nargs) : ev (d + 1) 32 args = Ev.finish i32.res (evC (ev d) i32.body (Ev.start args)) := ev_fn (by kernel_rfl) d args hl
theorem s33 (d : Nat) (args : List LV) (hl : args.length = i33.nargs) : ev (d + 1) 33 args = Ev.finish i33.res (evC (ev d) i33.body (Ev.start args)) := ev_fn (by kernel_rfl) d args hl
theorem s34 (d : Nat) (args : List LV) (hl : args.length = i34.nargs) : ev (d + 1) 34 args = Ev.finish i34.res (evC (ev d) i34.body (Ev.start args)) := ev_fn (by kernel_rfl) d args hl
theorem s35 (d : Nat) (args : List LV) (hl : args.length = i35.nargs) : ev (d + 1) 35 args = Ev.finish i35.res (evC (ev d) i35.body (Ev.start args)) := ev_fn (by kernel_rfl) d args hl
theorem s36 (d : Nat) (args : List LV) (hl : args.length = i36.nargs) : ev (d + 1) 36 args = Ev.finish i36.res (evC (ev d) i36.body (Ev.start args)) := ev_fn (by kernel_rfl) d args hl
theorem s37 (d : Nat) (args : List LV) (hl : args.length = i37.nargs) : ev (d + 1) 37 args = Ev.finish i37.res (evC (ev d) i37.body (Ev.start args)) := ev_fn (by kernel_rfl) d args hl
theorem s38 (d : Nat) (args : List LV) (hl : args.length = i38.nargs) : ev (d + 1) 38 args = Ev.finish i38.res (evC (ev d) i38.body (Ev.start args)) := ev_fn (by kernel_rfl) d args hl
theorem s39 (d : Nat) (args : List LV) (hl : args.length = i39.nargs) : ev (d + 1) 39 args = Ev.finish i39.res (evC (ev d) i39.body (Ev.start args)) := ev_fn (by kernel_rfl) d args hl
theorem s40 (d : Nat) (args : List LV) (hl : args.length = i40.nargs) : ev (d + 1) 40 args = Ev.finish i40.res (evC (ev d) i40.body (Ev.start args)) := ev_fn (by kernel_rfl) d args hl
theorem s41 (d : Nat) (args : List LV) (hl : args.length = i41.nargs) : ev (d + 1) 41 args = Ev.finish i41.res (evC (ev d) i41.body (Ev.start args)) := ev_fn (by kernel_rfl) d args hl
theorem s42 (d : Nat) (args : List LV) (hl : args.length = i42.nargs) : ev (d + 1) 42 args = Ev.finish i42.res (evC (ev d) i42.body (Ev.start args)) := ev_fn (by kernel_rfl) d args hl
theorem s43 (d : Nat) (args : List LV) (hl : args.length = i43.nargs) : ev (d + 1) 43 args = Ev.finish i43.res (evC (ev d) i43.body (Ev.start args)) := ev_fn (by kernel_rfl) d args hl
theorem s44 (d : Nat) (args : List LV) (hl : args.length = i44.nargs) : ev (d + 1) 44 args = Ev.finish i44.res (evC (ev d) i44.body (Ev.start args)) := ev_fn (by kernel_rfl) d args hl
theorem s45 (d : Nat) (args : List LV) (hl : args.length = i45.nargs) : ev (d + 1) 45 args = Ev.finish i45.res (evC (ev d) i45.body (Ev.start args)) := ev_fn (by kernel_rfl) d args hl
theorem s46 (d : Nat) (args : List LV) (hl : args.length = i46.nargs) : ev (d + 1) 46 args = Ev.finish i46.res (evC (ev d) i46.body (Ev.start args)) := ev_fn (by kernel_rfl) d args hl
theorem s47 (d : Nat) (args : List LV) (hl : args.length = i47.nargs) : ev (d + 1) 47 args = Ev.finish i47.res (evC (ev d) i47.body (Ev.start args)) := ev_fn (by kernel_rfl) d args hl
theorem s49 (d : Nat) (args : List LV) (hl : args.length = i49.nargs) : ev (d + 1) 49 args = Ev.finish i49.res (evC (ev d) i49.body (Ev.start args)) := ev_fn (by kernel_rfl) d args hl
theorem s50 (d : Nat) (args : List LV) (hl : args.length = i50.nargs) : ev (d + 1) 50 args = Ev.finish i50.res (evC (ev d) i50.body (Ev.start args)) := ev_fn (by kernel_rfl) d args hl
theorem s56 (d : Nat) (args : List LV) (hl : args.length = i56.nargs) : ev (d + 1) 56 args = Ev.finish i56.res (evC (ev d) i56.body (Ev.start args)) := ev_fn (by kernel_rfl) d args hl
theorem s57 (d : Nat) (args : List LV) (hl : args.length = i57.nargs) : ev (d + 1) 57 args = Ev.finish i57.res (evC (ev d) i57.body (Ev.start args)) := ev_fn (by kernel_rfl) d args hl
theorem s58 (d : Nat) (args : List LV) (hl : args.length = i58.nargs) : ev (d + 1) 58 args = Ev.finish i58.res (evC (ev d) i58.body (Ev.start args)) := ev_fn (by kernel_rfl) d args hl
theorem s59 (d : Nat) (args : List LV) (hl : args.length = i59.nargs) : ev (d + 1) 59 args = Ev.finish i59.res (evC (ev d) i59.body (Ev.start args)) := ev_fn (by kernel_rfl) d args hl
theorem s60 (d : Nat) (args : List LV) (hl : args.length = i60.nargs) : ev (d + 1) 60 args = Ev.finish i60.res (evC (ev d) i60.body (Ev.start args)) := ev_fn (by kernel_rfl) d args hl
theorem s61 (d : Nat) (args : List LV) (hl : args.length = i61.nargs) : ev (d + 1) 61 args = Ev.finish i61.res (evC (ev d) i61.body (Ev.start args)) := ev_fn (by kernel_rfl) d args hl
theorem s62 (d : Nat) (args : List LV) (hl : args.length = i62.nargs) : ev (d + 1) 62 args = Ev.finish i62.res (evC (ev d) i62.body (Ev.start args)) := ev_fn (by kernel_rfl) d args hl
theorem s63 (d : Nat) (args : List LV) (hl : args.length = i63.nargs) : ev (d + 1) 63 args = Ev.finish i63.res (evC (ev d) i63.body (Ev.start args)) := ev_fn (by kernel_rfl) d args hl
theorem s64 (d : Nat) (args : List LV) (hl : args.length = i64.nargs) : ev (d + 1) 64 args = Ev.finish i64.res (evC (ev d) i64.body (Ev.start args)) := ev_fn (by kernel_rfl) d args hl
theorem s65 (d : Nat) (args : List LV) (hl : args.length = i65.nargs) : ev (d + 1) 65 args = Ev.finish i65.res (evC (ev d) i65.body (Ev.start args)) := ev_fn (by kernel_rfl) d args hl
theorem s66 (d : Nat) (args : List LV) (hl : args.length = i66.nargs) : ev (d + 1) 66 args = Ev.finish i66.res (evC (ev d) i66.body (Ev.start args)) := ev_fn (by kernel_rfl) d args hl
theorem s67 (d : Nat) (args : List LV) (hl : args.length = i67.nargs) : ev (d + 1) 67 args = Ev.finish i67.res (evC (ev d) i67.body (Ev.start args)) := ev_fn (by kernel_rfl) d args hl
theorem s70 (d : Nat) (args : List LV) (hl : args.length = i70.nargs) : ev (d + 1) 70 args = Ev.finish i70.res (evC (ev d) i70.body (Ev.start args)) := ev_fn (by kernel_rfl) d args hl
theorem s71 (d : Nat) (args : List LV) (hl : args.length = i71.nargs) : ev (d + 1) 71 args = Ev.finish i71.res (evC (ev d) i71.body (Ev.start args)) := ev_fn (by kernel_rfl) d args hl
theorem s72 (d : Nat) (args : List LV) (hl : args.length = i72.nargs) : ev (d + 1) 72 args = Ev.finish i72.res (evC (ev d) i72.body (Ev.start args)) := ev_fn (by kernel_rfl) d args hl
theorem s73 (d : Nat) (args : List LV) (hl : args.length = i73.nargs) : ev (d + 1) 73 args = Ev.finish i73.res (evC (ev d) i73.body (Ev.start args)) := ev_fn (by kernel_rfl) d args hl
theorem s74 (d : Nat) (args : List LV) (hl : args.length = i74.nargs) : ev (d + 1) 74 args = Ev.finish i74.res (evC (ev d) i74.body (Ev.start args)) := ev_fn (by kernel_rfl) d args hl
theorem s75 (d : Nat) (args : List LV) (hl : args.length = i75.nargs) : ev (d + 1) 75 args = Ev.finish i75.res (evC (ev d) i75.body (Ev.start args)) := ev_fn (by kernel_rfl) d args hl
theorem s81 (d : Nat) (args : List LV) (hl : args.length = i81.nargs) : ev (d + 1) 81 args = Ev.finish i81.res (evC (ev d) i81.body (Ev.start args)) := ev_fn (by kernel_rfl) d args hl
theorem s82 (d : Nat) (args : List LV) (hl : args.length = i82.nargs) : ev (d + 1) 82 args = Ev.finish i82.res (evC (ev d) i82.body (Ev.start args)) := ev_fn (by kernel_rfl) d args hl
theorem s97 (d : Nat) (args : List LV) (hl : args.length = i97.nargs) : ev (d + 1) 97 args = Ev.finish i97.res (evC (ev d) i97.body (Ev.start args)) := ev_fn (by kernel_rfl) d args hl
theorem s98 (d : Nat) (args : List LV) (hl : args.length = i98.nargs) : ev (d + 1) 98 args = Ev.finish i98.res (evC (ev d) i98.body (Ev.start args)) := ev_fn (by kernel_rfl) d args hl
theorem s99 (d : Nat) (args : List LV) (hl : args.length = i99.nargs) : ev (d + 1) 99 args = Ev.finish i99.res (evC (ev d) i99.body (Ev.start args)) := ev_fn (by kernel_rfl) d args hl
theorem s100 (d : Nat) (args : List LV) (hl : args.length = i100.nargs) : ev (d + 1) 100 args = Ev.finish i100.res (evC (ev d) i100.body (Ev.start args)) := ev_fn (by kernel_rfl) d args hl
theorem s101 (d : Nat) (args : List LV) (hl : args.length = i101.nargs) : ev (d + 1) 101 args = Ev.finish i101.res (evC (ev d) i101.body (Ev.start args)) := ev_fn (by kernel_rfl) d args hl
theorem s102 (d : Nat) (args : List LV) (hl : args.length = i102.nargs) : ev (d + 1) 102 args = Ev.finish i102.res (evC (ev d) i102.body (Ev.start args)) := ev_fn (by kernel_rfl) d args hl
theorem s103 (d : Nat) (args : List LV) (hl : args.length = i103.nargs) : ev (d + 1) 103 args = Ev.finish i103.res (evC (ev d) i103.body (Ev.start args)) := ev_fn (by kernel_rfl) d args hl
theorem s104 (d : Nat) (args : List LV) (hl : args.length = i104.nargs) : ev (d + 1) 104 args = Ev.finish i104.res (evC (ev d) i104.body (Ev.start args)) := ev_fn (by kernel_rfl) d args hl
theorem s105 (d : Nat) (args : List LV) (hl : args.length = i105.nargs) : ev (d + 1) 105 args = Ev.finish i105.res (evC (ev d) i105.body (Ev.start args)) := ev_fn (by kernel_rfl) d args hl
theorem s106 (d : Nat) (args : List LV) (hl : args.length = i106.nargs) : ev (d + 1) 106 args = Ev.finish i106.res (evC (ev d) i106.body (Ev.start args)) := ev_fn (by kernel_rfl) d args hl
theorem s107 (d : Nat) (args : List LV) (hl : args.length = i107.nargs) : ev (d + 1) 107 args = Ev.finish i107.res (evC (ev d) i107.body (Ev.start args)) := ev_fn (by kernel_rfl) d args hl
theorem s108 (d : Nat) (args : List LV) (hl : args.length = i108.nargs) : ev (d + 1) 108 args = Ev.finish i108.res (evC (ev d) i108.body (Ev.start args)) := ev_fn (by kernel_rfl) d args hl
theorem s109 (d : Nat) (args : List LV) (hl : args.length = i109.nargs) : ev (d + 1) 109 args = Ev.finish i109.res (evC (ev d) i109.body (Ev.start args)) := ev_fn (by kernel_rfl) d args hl
theorem s110 (d : Nat) (args : List LV) (hl : args.length = i110.nargs) : ev (d + 1) 110 args = Ev.finish i110.res (evC (ev d) i110.body (Ev.start args)) := ev_fn (by kernel_rfl) d args hl
theorem s111 (d : Nat) (args : List LV) (hl : args.length = i111.nargs) : ev (d + 1) 111 args = Ev.finish i111.res (evC (ev d) i111.body (Ev.start args)) := ev_fn (by kernel_rfl) d args hl
theorem s112 (d : Nat) (args : List LV) (hl : args.length = i112.nargs) : ev (d + 1) 112 args = Ev.finish i112.res (evC (ev d) i112.body (Ev.start args)) := ev_fn (by kernel_rfl) d args hl
theorem s124 (d : Nat) (args : List LV) (hl : args.length = i124.nargs) : ev (d + 1) 124 args = Ev.finish i124.res (evC (ev d) i124.body (Ev.start args)) := ev_fn (by kernel_rfl) d args hl
theorem s125 (d : Nat) (args : List LV) (hl : args.length = i125.nargs) : ev (d + 1) 125 args = Ev.finish i125.res (evC (ev d) i125.body (Ev.start args)) := ev_fn (by kernel_rfl) d args hl
theorem s126 (d : Nat) (args : List LV) (hl : args.length = i126.nargs) : ev (d + 1) 126 args = Ev.finish i126.res (evC (ev d) i126.body (Ev.start args)) := ev_fn (by kernel_rfl) d args hl
theorem s127 (d : Nat) (args : List LV) (hl : args.length = i127.nargs) : ev (d + 1) 127 args = Ev.finish i127.res (evC (ev d) i127.body (Ev.start args)) := ev_fn (by kernel_rfl) d args hl
theorem s137 (d : Nat) (args : List LV) (hl : args.length = i137.nargs) : ev (d + 1) 137 args = Ev.finish i137.res (evC (ev d) i137.body (Ev.start args)) := ev_fn (by kernel_rfl) d args hl
theorem s138 (d : Nat) (args : List LV) (hl : args.length = i138.nargs) : ev (d + 1) 138 args = Ev.finish i138.res (evC (ev d) i138.body (Ev.start args)) := ev_fn (by kernel_rfl) d args hl
theorem s144 (d : Nat) (args : List LV) (hl : args.length = i144.nargs) : ev (d + 1) 144 args = Ev.finish i144.res (evC (ev d) i144.body (Ev.start args)) := ev_fn (by kernel_rfl) d args hl
theorem s147 (d : Nat) (args : List LV) (hl : args.length = i147.nargs) : ev (d + 1) 147 args = Ev.finish i147.res (evC (ev d) i147.body (Ev.start args)) := ev_fn (by kernel_rfl) d args hl
theorem s150 (d : Nat) (args : List LV) (hl : args.length = i150.nargs) : ev (d + 1) 150 args = Ev.finish i150.res (evC (ev d) i150.body (Ev.start args)) := ev_fn (by kernel_rfl) d args hl
theorem s151 (d : Nat) (args : List LV) (hl : args.length = i151.nargs) : ev (d + 1) 151 args = Ev.finish i151.res (evC (ev d) i151.body (Ev.start args)) := ev_fn (by kernel_rfl) d args hl
theorem s152 (d : Nat) (args : List LV) (hl : args.length = i152.nargs) : ev (d + 1) 152 args = Ev.finish i152.res (evC (ev d) i152.body (Ev.start args)) := ev_fn (by kernel_rfl) d args hl
theorem s153 (d : Nat) (args : List LV) (hl : args.length = i153.nargs) : ev (d + 1) 153 args = Ev.finish i153.res (evC (ev d) i153.body (Ev.start args)) := ev_fn (by kernel_rfl) d args hl
theorem s154 (d : Nat) (args : List LV) (hl : args.length = i154.nargs) : ev (d + 1) 154 args = Ev.finish i154.res (evC (ev d) i154.body (Ev.start args)) := ev_fn (by kernel_rfl) d args hl
theorem s155 (d : Nat) (args : List LV) (hl : args.length = i155.nargs) : ev (d + 1) 155 args = Ev.finish i155.res (evC (ev d) i155.body (Ev.start args)) := ev_fn (by kernel_rfl) d args hl
theorem s156 (d : Nat) (args : List LV) (hl : args.length = i156.nargs) : ev (d + 1) 156 args = Ev.finish i156.res (evC (ev d) i156.body (Ev.start args)) := ev_fn (by kernel_rfl) d args hl
theorem s157 (d : Nat) (args : List LV) (hl : args.length = i157.nargs) : ev (d + 1) 157 args = Ev.finish i157.res (evC (ev d) i157.body (Ev.start args)) := ev_fn (by kernel_rfl) d args hl
theorem s158 (d : Nat) (args : List LV) (hl : args.length = i158.nargs) : ev (d + 1) 158 args = Ev.finish i158.res (evC (ev d) i158.body (Ev.start args)) := ev_fn (by kernel_rfl) d args hl
theorem s159 (d : Nat) (args : List LV) (hl : args.length = i159.nargs) : ev (d + 1) 159 args = Ev.finish i159.res (evC (ev d) i159.body (Ev.start args)) := ev_fn (by kernel_rfl) d args hl
theorem s160 (d : Nat) (args : List LV) (hl : args.length = i160.nargs) : ev (d + 1) 160 args = Ev.finish i160.res (evC (ev d) i160.body (Ev.start args)) := ev_fn (by kernel_rfl) d args hl
theorem s161 (d : Nat) (args : List LV) (hl : args.length = i161.nargs) : ev (d + 1) 161 args = Ev.finish i161.res (evC (ev d) i161.body (Ev.start args)) := ev_fn (by kernel_rfl) d args hl
theorem s162 (d : Nat) (args : List LV) (hl : args.length = i162.nargs) : ev (d + 1) 162 args = Ev.finish i162.res (evC (ev d) i162.body (Ev.start args)) := ev_fn (by kernel_rfl) d args hl
theorem s163 (d : Nat) (args : List LV) (hl : args.length = i163.nargs) : ev (d + 1) 163 args = Ev.finish i163.res (evC (ev d) i163.body (Ev.start args)) := ev_fn (by kernel_rfl) d args hl
theorem s164 (d : Nat) (args : List LV) (hl : args.length = i164.nargs) : ev (d + 1) 164 args = Ev.finish i164.res (evC (ev d) i164.body (Ev.start args)) := ev_fn (by kernel_rfl) d args hl
theorem s174 (d : Nat) (args : List LV) (hl : args.length = i174.nargs) : ev (d + 1) 174 args = Ev.finish i174.res (evC (ev d) i174.body (Ev.start args)) := ev_fn (by kernel_rfl) d args hl
theorem s175 (d : Nat) (args : List LV) (hl : args.length = i175.nargs) : ev (d + 1) 175 args = Ev.finish i175.res (evC (ev d) i175.body (Ev.start args)) := ev_fn (by kernel_rfl) d args hl
theorem s178 (d : Nat) (args : List LV) (hl : args.length = i178.nargs) : ev (d + 1) 178 args = Ev.finish i178.res (evC (ev d) i178.body (Ev.start args)) := ev_fn (by kernel_rfl) d args hl
theorem s179 (d : Nat) (args : List LV) (hl : args.length = i179.nargs) : ev (d + 1) 179 args = Ev.finish i179.res (evC (ev d) i179.body (Ev.start args)) := ev_fn (by kernel_rfl) d args hl
theorem s180 (d : Nat) (args : List LV) (hl : args.length = i180.nargs) : ev (d + 1) 180 args = Ev.finish i180.res (evC (ev d) i180.body (Ev.start args)) := ev_fn (by kernel_rfl) d args hl
theorem s181 (d : Nat) (args : List LV) (hl : args.length = i181.nargs) : ev (d + 1) 181 args = Ev.finish i181.res (evC (ev d) i181.body (Ev.start args)) := ev_fn (by kernel_rfl) d args hl
theorem s183 (d : Nat) (args : List LV) (hl : args.length = i183.nargs) : ev (d + 1) 183 args = Ev.finish i183.res (evC (ev d) i183.body (Ev.start args)) := ev_fn (by kernel_rfl) d args hl
theorem p43 (d : Nat) {args bs : List LV} {st : St} (hs : startV 1 args = some (bs, st)) (hl : bs.length = i43.nargs) : ev (d + 1) (puN + 43) (.sc (.int .i64 1) :: args) = finishW bs i43.res (evC (ev d) i43.body st) := evF_fnP (by kernel_rfl) tabn d hs hl
theorem v12 (d : Nat) {args bs : List LV} {st : St} (hs : startW args = some (bs, st)) (hl : bs.length = i12.nargs) : ev (d + 1) (wrN + 12) args = finishW bs i12.res (evC (ev d) i12.body st) := evF_fnW (by kernel_rfl) tabn d hs hl
theorem v23 (d : Nat) {args bs : List LV} {st : St} (hs : startW args = some (bs, st)) (hl : bs.length = i23.nargs) : ev (d + 1) (wrN + 23) args = finishW bs i23.res (evC (ev d) i23.body st) := evF_fnW (by kernel_rfl) tabn d hs hl
theorem v33 (d : Nat) {args bs : List LV} {st : St} (hs : startW args = some (bs, st)) (hl : bs.length = i33.nargs) : ev (d + 1) (wrN + 33) args = finishW bs i33.res (evC (ev d) i33.body st) := evF_fnW (by kernel_rfl) tabn d hs hl
theorem v58 (d : Nat) {args bs : List LV} {st : St} (hs : startW args = some (bs, st)) (hl : bs.length = i58.nargs) : ev (d + 1) (wrN + 58) args = finishW bs i58.res (evC (ev d) i58.body st) := evF_fnW (by kernel_rfl) tabn d hs hl
theorem v59 (d : Nat) {args bs : List LV} {st : St} (hs : startW args = some (bs, st)) (hl : bs.length = i59.nargs) : ev (d + 1) (wrN + 59) args = finishW bs i59.res (evC (ev d) i59.body st) := evF_fnW (by kernel_rfl) tabn d hs hl
theorem v99 (d : Nat) {args bs : List LV} {st : St} (hs : startW args = some (bs, st)) (hl : bs.length = i99.nargs) : ev (d + 1) (wrN + 99) args = finishW bs i99.res (evC (ev d) i99.body st) := evF_fnW (by kernel_rfl) tabn d hs hl
end Go.Proofs.YthnkioafikmmaaaGreat.walkS
