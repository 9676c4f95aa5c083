/- The functions that some rows reach, turned; no conditions. -/
import Derived.Test.YthnkioafikmmaaaGreatEv2
import Derived.KernelRfl
import Derived.Test.YthnkioafikmmaaaGreatProg
namespace Go.Proofs.YthnkioafikmmaaaGreat.walkS
open Go Go.Proofs.YthnkioafikmmaaaGreat.Ev
def i4 : Ev.Fn := ⟨2, 101, [.tmp 4],
 (.seq
 (.reg false [⟨2, .bx (.t 0), none, false⟩,
 ⟨4, .mv (.k (.sc (.bool false))), none, false⟩])
 (.seq
 (.reg false [⟨5, .mv (.k (.sc (.int .i64 1048576))), none, false⟩])
 (.seq
 (.reg false [⟨16, .ld 5 true (.t 2), none, false⟩,
 ⟨17, .mv (.t 5), none, false⟩,
 ⟨18, .ca (.k (.cl 6 [])) [(.t 16), (.t 17)], none, false⟩,
 ⟨5, .mv (.t 18), none, false⟩])
 (.seq
 (.seq
 (.reg false [⟨19, .mv (.t 5), none, false⟩,
 ⟨20, .ar .lss false (.t 19) (.k (.sc (.int .i64 0))), none, false⟩])
 (.ite (.t 20)
 (.seq
 (.reg false [⟨4, .mv (.k (.sc (.bool true))), none, false⟩])
 .ret)
 .skip))
 (.seq
 (.reg false [⟨22, .ld 5 true (.t 2), none, false⟩,
 ⟨23, .ca (.k (.cl 8 [])) [(.t 22)], none, false⟩,
 ⟨24, .mv (.t 1), none, false⟩,
 ⟨25, .ca (.k (.cl 15 [])) [(.t 23), (.t 24)], none, false⟩,
 ⟨21, .mv (.t 25), none, false⟩,
 ⟨26, .xt (.t 21) 0, none, false⟩,
 ⟨27, .xt (.t 21) 1, none, false⟩,
 ⟨6, .al [(.sc (.int .i64 0)), (.sc (.int .i64 0)), .nl, .nl, .nl], none, false⟩,
 ⟨1, .so 5 (.t 6) (.t 26), none, true⟩,
 ⟨7, .mv (.t 27), none, false⟩])
 (.seq
 (.reg false [⟨28, .ld 5 true (.t 2), none, false⟩,
 ⟨29, .ca (.k (.cl 8 [])) [(.t 28)], none, false⟩,
 ⟨8, .al [(.sc (.int .i64 0)), (.sc (.int .i64 0)), .nl, .nl, .nl], none, false⟩,
 ⟨1, .so 5 (.t 8) (.t 29), none, true⟩])
 (.seq
 (.reg false [⟨31, .ld 5 true (.t 8), none, false⟩,
 ⟨32, .mv (.t 1), none, false⟩,
 ⟨33, .ca (.k (.cl 16 [])) [(.t 31), (.t 32)], none, false⟩,
 ⟨30, .mv (.t 33), none, false⟩,
 ⟨34, .xt (.t 30) 0, none, false⟩,
 ⟨35, .xt (.t 30) 1, none, false⟩,
 ⟨9, .al [(.sc (.int .i64 0)), (.sc (.int .i64 0)), .nl, .nl, .nl], none, false⟩,
 ⟨1, .so 5 (.t 9) (.t 34), none, true⟩,
 ⟨10, .mv (.t 35), none, false⟩])
 (.seq
 (.seq
 (.reg false [⟨36, .ld 5 true (.t 9), none, false⟩,
 ⟨37, .ld 5 true (.t 6), none, false⟩,
 ⟨38, .ca (.k (.cl 11 [])) [(.t 36), (.t 37)], none, false⟩,
 ⟨39, .nt (.t 38), none, false⟩,
 ⟨40, .mv (.t 39), none, false⟩,
 ⟨41, .mv (.t 10), (some (40, false)), false⟩,
 ⟨42, .mv (.t 7), (some (40, false)), false⟩,
 ⟨43, .ar .neq false (.t 41) (.t 42), (some (40, false)), false⟩,
 ⟨44, .pk (.t 40) (.k (.sc (.bool true))) (.t 43), none, false⟩])
 (.ite (.t 44)
 (.seq
 (.reg false [⟨4, .mv (.k (.sc (.bool false))), none, false⟩])
 .ret)
 .skip))
 (.seq
 (.seq
 (.reg true [⟨45, .ld 5 true (.t 8), none, false⟩,
 ⟨46, .ld 5 true (.t 2), none, false⟩,
 ⟨47, .ca (.k (.cl 8 [])) [(.t 46)], none, false⟩,
 ⟨48, .ca (.k (.cl 11 [])) [(.t 45), (.t 47)], none, false⟩,
 ⟨49, .nt (.t 48), none, false⟩])
 (.ite (.t 49)
 (.seq
 (.reg false [⟨4, .mv (.k (.sc (.bool false))), none, false⟩])
 .ret)
 .skip))
 (.seq
 (.reg false [⟨11, .mv (.k (.sc (.int .i64 1))), none, false⟩])
 (.seq
 (.rgw [⟨50, .ld 5 true (.t 8), none, false⟩,
 ⟨51, .mv (.t 11), none, false⟩,
 ⟨52, .cw 12 [] [(.t 50), (.t 51)], none, false⟩,
 ⟨11, .mv (.t 52), none, false⟩])
 (.seq
 (.seq
 (.reg false [⟨53, .mv (.t 11), none, false⟩,
 ⟨54, .ar .lss false (.t 53) (.k (.sc (.int .i64 0))), none, false⟩,
 ⟨55, .mv (.t 54), none, false⟩,
 ⟨56, .ld 5 true (.t 9), (some (55, false)), false⟩,
 ⟨57, .ld 5 true (.t 6), (some (55, false)), false⟩,
 ⟨58, .ca (.k (.cl 11 [])) [(.t 56), (.t 57)], (some (55, false)), false⟩,
 ⟨59, .nt (.t 58), (some (55, false)), false⟩,
 ⟨60, .pk (.t 55) (.k (.sc (.bool true))) (.t 59), none, false⟩,
 ⟨61, .mv (.t 60), none, false⟩,
 ⟨62, .mv (.t 10), (some (61, false)), false⟩,
 ⟨63, .mv (.t 7), (some (61, false)), false⟩,
 ⟨64, .ar .neq false (.t 62) (.t 63), (some (61, false)), false⟩,
 ⟨65, .pk (.t 61) (.k (.sc (.bool true))) (.t 64), none, false⟩])
 (.ite (.t 65)
 (.seq
 (.reg false [⟨4, .mv (.k (.sc (.bool false))), none, false⟩])
 .ret)
 .skip))
 (.seq
 (.reg false [⟨12, .mv (.k (.sc (.int .i64 1))), none, false⟩])
 (.seq
 (.rgw [⟨66, .ld 5 true (.t 9), none, false⟩,
 ⟨67, .mv (.t 12), none, false⟩,
 ⟨68, .cw 12 [] [(.t 66), (.t 67)], none, false⟩,
 ⟨12, .mv (.t 68), none, false⟩])
 (.seq
 (.reg false [⟨13, .mv (.k (.sc (.int .i64 1))), none, false⟩])
 (.seq
 (.reg false [⟨69, .ld 5 true (.t 9), none, false⟩,
 ⟨70, .mv (.t 13), none, false⟩,
 ⟨71, .ca (.k (.cl 17 [])) [(.t 69), (.t 70)], none, false⟩,
 ⟨13, .mv (.t 71), none, false⟩])
 (.seq
 (.seq
 (.reg false [⟨72, .mv (.t 13), none, false⟩,
 ⟨73, .ar .lss false (.t 72) (.k (.sc (.int .i64 0))), none, false⟩])
 (.ite (.t 73)
 (.seq
 (.reg false [⟨4, .mv (.k (.sc (.bool false))), none, false⟩])
 .ret)
 .skip))
 (.seq
 (.seq
 (.reg false [⟨74, .mv (.t 13), none, false⟩,
 ⟨75, .mv (.t 12), none, false⟩,
 ⟨76, .ar .neq false (.t 74) (.t 75), none, false⟩])
 (.ite (.t 76)
 (.seq
 (.reg false [⟨4, .mv (.k (.sc (.bool false))), none, false⟩])
 .ret)
 .skip))
 (.seq
 (.reg false [⟨78, .ld 5 true (.t 2), none, false⟩,
 ⟨79, .ca (.k (.cl 8 [])) [(.t 78)], none, false⟩,
 ⟨80, .mv (.t 1), none, false⟩,
 ⟨81, .ca (.k (.cl 16 [])) [(.t 79), (.t 80)], none, false⟩,
 ⟨77, .mv (.t 81), none, false⟩,
 ⟨82, .xt (.t 77) 0, none, false⟩,
 ⟨83, .xt (.t 77) 1, none, false⟩,
 ⟨14, .al [(.sc (.int .i64 0)), (.sc (.int .i64 0)), .nl, .nl, .nl], none, false⟩,
 ⟨1, .so 5 (.t 14) (.t 82), none, true⟩,
 ⟨15, .mv (.t 83), none, false⟩])
 (.seq
 (.seq
 (.reg false [⟨84, .ld 5 true (.t 14), none, false⟩,
 ⟨85, .ld 5 true (.t 6), none, false⟩,
 ⟨86, .ca (.k (.cl 11 [])) [(.t 84), (.t 85)], none, false⟩,
 ⟨87, .nt (.t 86), none, false⟩,
 ⟨88, .mv (.t 87), none, false⟩,
 ⟨89, .mv (.t 15), (some (88, false)), false⟩,
 ⟨90, .mv (.t 7), (some (88, false)), false⟩,
 ⟨91, .ar .neq false (.t 89) (.t 90), (some (88, false)), false⟩,
 ⟨92, .pk (.t 88) (.k (.sc (.bool true))) (.t 91), none, false⟩])
 (.ite (.t 92)
 (.seq
 (.reg false [⟨4, .mv (.k (.sc (.bool false))), none, false⟩])
 .ret)
 .skip))
 (.seq
 (.reg false [⟨13, .mv (.k (.sc (.int .i64 1))), none, false⟩])
 (.seq
 (.reg false [⟨93, .ld 5 true (.t 9), none, false⟩,
 ⟨94, .mv (.t 13), none, false⟩,
 ⟨95, .ca (.k (.cl 17 [])) [(.t 93), (.t 94)], none, false⟩,
 ⟨13, .mv (.t 95), none, false⟩])
 (.seq
 (.seq
 (.reg false [⟨96, .mv (.t 13), none, false⟩,
 ⟨97, .ar .lss false (.t 96) (.k (.sc (.int .i64 0))), none, false⟩])
 (.ite (.t 97)
 (.seq
 (.reg false [⟨4, .mv (.k (.sc (.bool false))), none, false⟩])
 .ret)
 .skip))
 (.seq
 (.seq
 (.reg false [⟨98, .mv (.t 13), none, false⟩,
 ⟨99, .mv (.t 12), none, false⟩,
 ⟨100, .ar .neq false (.t 98) (.t 99), none, false⟩])
 (.ite (.t 100)
 (.seq
 (.reg false [⟨4, .mv (.k (.sc (.bool false))), none, false⟩])
 .ret)
 .skip))
 (.seq
 (.reg false [⟨4, .mv (.k (.sc (.bool true))), none, false⟩])
 .ret)))))))))))))))))))))))))⟩
attribute [simp] i4
set_option maxRecDepth 1000000 in
theorem c4 : cFn Tryz.prog 4 [[12]] = some i4 := by kernel_rfl
theorem e4 : enterOk Tryz.prog 4 = true := by kernel_rfl
def i6 : Ev.Fn := ⟨2, 18, [.tmp 4],
 (.seq
 (.reg false [⟨2, .bx (.t 0), none, false⟩,
 ⟨4, .mv (.k (.sc (.int .i64 0))), none, false⟩])
 (.seq
 (.reg false [⟨5, .fa 0 (.t 2), none, false⟩,
 ⟨6, .ld 4 true (.t 5), none, false⟩,
 ⟨7, .mv (.t 1), none, false⟩,
 ⟨8, .ca (.k (.cl 18 [])) [(.t 6), (.t 7)], none, false⟩,
 ⟨1, .mv (.t 8), none, false⟩])
 (.seq
 (.seq
 (.reg false [⟨9, .mv (.t 1), none, false⟩,
 ⟨10, .ar .lss false (.t 9) (.k (.sc (.int .i64 0))), none, false⟩])
 (.ite (.t 10)
 (.seq
 (.reg false [⟨4, .mv (.k (.sc (.int .i64 (-1)))), none, false⟩])
 .ret)
 .skip))
 (.seq
 (.reg false [⟨11, .fa 4 (.t 2), none, false⟩,
 ⟨12, .ld 1 false (.t 11), none, false⟩,
 ⟨13, .mv (.t 1), none, false⟩,
 ⟨14, .ca (.k (.cl 25 [])) [(.t 12), (.t 13)], none, false⟩,
 ⟨1, .mv (.t 14), none, false⟩])
 (.seq
 (.seq
 (.reg false [⟨15, .mv (.t 1), none, false⟩,
 ⟨16, .ar .lss false (.t 15) (.k (.sc (.int .i64 0))), none, false⟩])
 (.ite (.t 16)
 (.seq
 (.reg false [⟨4, .mv (.k (.sc (.int .i64 (-1)))), none, false⟩])
 .ret)
 .skip))
 (.seq
 (.reg false [⟨17, .mv (.t 1), none, false⟩,
 ⟨4, .mv (.t 17), none, false⟩])
 .ret))))))⟩
attribute [simp] i6
set_option maxRecDepth 1000000 in
theorem c6 : cFn Tryz.prog 6 [[]] = some i6 := by kernel_rfl
theorem e6 : enterOk Tryz.prog 6 = true := by kernel_rfl
def i8 : Ev.Fn := ⟨1, 13, [.cell 2 5 true],
 (.seq
 (.reg false [⟨1, .bx (.t 0), none, false⟩,
 ⟨2, .al [(.sc (.int .i64 0)), (.sc (.int .i64 0)), .nl, .nl, .nl], none, false⟩])
 (.seq
 (.reg false [⟨3, .al [(.sc (.int .i64 0)), (.sc (.int .i64 0)), .nl, .nl, .nl], none, false⟩])
 (.seq
 (.reg false [⟨4, .fa 0 (.t 1), none, false⟩,
 ⟨5, .ld 4 true (.t 4), none, false⟩,
 ⟨6, .ca (.k (.cl 20 [])) [(.t 5)], none, false⟩,
 ⟨7, .fa 0 (.t 3), none, false⟩,
 ⟨1, .so 4 (.t 7) (.t 6), none, true⟩])
 (.seq
 (.reg false [⟨8, .fa 4 (.t 1), none, false⟩,
 ⟨9, .ld 1 false (.t 8), none, false⟩,
 ⟨10, .ca (.k (.cl 28 [])) [(.t 9)], none, false⟩,
 ⟨11, .fa 4 (.t 3), none, false⟩,
 ⟨1, .so 1 (.t 11) (.t 10), none, true⟩])
 (.seq
 (.reg false [⟨12, .ld 5 true (.t 3), none, false⟩,
 ⟨1, .so 5 (.t 2) (.t 12), none, true⟩])
 .ret)))))⟩
attribute [simp] i8
set_option maxRecDepth 1000000 in
theorem c8 : cFn Tryz.prog 8 [[]] = some i8 := by kernel_rfl
theorem e8 : enterOk Tryz.prog 8 = true := by kernel_rfl
def i11 : Ev.Fn := ⟨2, 17, [.tmp 4],
 (.seq
 (.reg false [⟨2, .bx (.t 0), none, false⟩,
 ⟨3, .bx (.t 1), none, false⟩,
 ⟨4, .mv (.k (.sc (.bool false))), none, false⟩])
 (.seq
 (.seq
 (.reg false [⟨5, .fa 0 (.t 2), none, false⟩,
 ⟨6, .ld 4 true (.t 5), none, false⟩,
 ⟨7, .fa 0 (.t 3), none, false⟩,
 ⟨8, .ld 4 true (.t 7), none, false⟩,
 ⟨9, .ca (.k (.cl 22 [])) [(.t 6), (.t 8)], none, false⟩,
 ⟨10, .nt (.t 9), none, false⟩])
 (.ite (.t 10)
 (.seq
 (.reg false [⟨4, .mv (.k (.sc (.bool false))), none, false⟩])
 .ret)
 .skip))
 (.seq
 (.seq
 (.reg false [⟨11, .fa 4 (.t 2), none, false⟩,
 ⟨12, .ld 1 false (.t 11), none, false⟩,
 ⟨13, .fa 4 (.t 3), none, false⟩,
 ⟨14, .ld 1 false (.t 13), none, false⟩,
 ⟨15, .ca (.k (.cl 32 [])) [(.t 12), (.t 14)], none, false⟩,
 ⟨16, .nt (.t 15), none, false⟩])
 (.ite (.t 16)
 (.seq
 (.reg false [⟨4, .mv (.k (.sc (.bool false))), none, false⟩])
 .ret)
 .skip))
 (.seq
 (.reg false [⟨4, .mv (.k (.sc (.bool true))), none, false⟩])
 .ret))))⟩
attribute [simp] i11
set_option maxRecDepth 1000000 in
theorem c11 : cFn Tryz.prog 11 [[]] = some i11 := by kernel_rfl
theorem e11 : enterOk Tryz.prog 11 = true := by kernel_rfl
def i12 : Ev.Fn := ⟨2, 14, [.tmp 4],
 (.seq
 (.reg false [⟨2, .bx (.t 0), none, false⟩,
 ⟨4, .mv (.k (.sc (.int .i64 0))), none, false⟩])
 (.seq
 (.rgw [⟨5, .fa 0 (.t 2), none, false⟩,
 ⟨6, .ld 4 true (.t 5), none, false⟩,
 ⟨7, .mv (.t 1), none, false⟩,
 ⟨8, .cw 23 [] [(.t 6), (.t 7)], none, false⟩,
 ⟨1, .mv (.t 8), none, false⟩])
 (.seq
 (.rgw [⟨9, .fa 4 (.t 2), none, false⟩,
 ⟨10, .ld 1 false (.t 9), none, false⟩,
 ⟨11, .mv (.t 1), none, false⟩,
 ⟨12, .cw 33 [] [(.t 10), (.t 11)], none, false⟩,
 ⟨1, .mv (.t 12), none, false⟩])
 (.seq
 (.reg false [⟨13, .mv (.t 1), none, false⟩,
 ⟨4, .mv (.t 13), none, false⟩])
 .ret))))⟩
attribute [simp] i12
set_option maxRecDepth 1000000 in
theorem c12 : cFn Tryz.prog 12 [[23, 33]] = some i12 := by kernel_rfl
theorem e12 : enterOk Tryz.prog 12 = true := by kernel_rfl
def w15_1 : IC :=
(.seq
 (.seq
 (.reg false [⟨44, .mv (.t 8), none, false⟩,
 ⟨45, .fa 0 (.t 6), none, false⟩,
 ⟨46, .fa 2 (.t 45), none, false⟩,
 ⟨47, .ld 1 false (.t 46), none, false⟩,
 ⟨48, .ln false (.t 47), none, false⟩,
 ⟨49, .ar .lss false (.t 44) (.t 48), none, false⟩])
 (.ite (.t 49)
 .skip
 (.exit 0)))
 (.seq
 (.block 1
 (.seq
 (.reg false [⟨52, .fa 0 (.t 6), none, false⟩,
 ⟨53, .fa 2 (.t 52), none, false⟩,
 ⟨54, .ld 1 false (.t 53), none, false⟩,
 ⟨55, .mv (.t 8), none, false⟩,
 ⟨56, .ia 2 (.t 54) (.t 55), none, false⟩,
 ⟨57, .ld 2 true (.t 56), none, false⟩,
 ⟨58, .mv (.t 1), none, false⟩,
 ⟨59, .ca (.k (.cl 37 [])) [(.t 57), (.t 58)], none, false⟩,
 ⟨9, .al [(.sc (.int .i64 0)), (.sc (.int .i64 0))], none, false⟩,
 ⟨1, .so 2 (.t 9) (.t 59), none, true⟩])
 (.seq
 (.reg true [⟨60, .fa 0 (.t 9), none, false⟩,
 ⟨61, .ld 1 false (.t 60), none, false⟩,
 ⟨62, .fa 0 (.t 7), none, false⟩,
 ⟨63, .ld 1 false (.t 62), none, false⟩,
 ⟨64, .ca (.k (.cl 38 [])) [(.k (.sc (.int .i64 0))), (.t 63)], none, false⟩,
 ⟨65, .ar .sub false (.t 61) (.t 64), none, false⟩,
 ⟨66, .fa 0 (.t 9), none, false⟩,
 ⟨1, .so 1 (.t 66) (.t 65), none, true⟩])
 (.seq
 (.reg true [⟨67, .fa 1 (.t 9), none, false⟩,
 ⟨68, .ld 1 false (.t 67), none, false⟩,
 ⟨69, .fa 1 (.t 7), none, false⟩,
 ⟨70, .ld 1 false (.t 69), none, false⟩,
 ⟨71, .ca (.k (.cl 38 [])) [(.k (.sc (.int .i64 0))), (.t 70)], none, false⟩,
 ⟨72, .ar .sub false (.t 68) (.t 71), none, false⟩,
 ⟨73, .fa 1 (.t 9), none, false⟩,
 ⟨1, .so 1 (.t 73) (.t 72), none, true⟩])
 (.reg false [⟨74, .fa 0 (.t 6), none, false⟩,
 ⟨75, .fa 2 (.t 74), none, false⟩,
 ⟨76, .ld 1 false (.t 75), none, false⟩,
 ⟨77, .mv (.t 8), none, false⟩,
 ⟨78, .ld 2 true (.t 9), none, false⟩,
 ⟨79, .ia 2 (.t 76) (.t 77), none, false⟩,
 ⟨1, .so 2 (.t 79) (.t 78), none, true⟩])))))
 (.reg false [⟨50, .mv (.t 8), none, false⟩,
 ⟨51, .ar .add false (.t 50) (.k (.sc (.int .i64 1))), none, false⟩,
 ⟨8, .mv (.t 51), none, false⟩])))
def b15_1 : IC := w15_1
theorem u15_1 (call : CallF) (st : St) : evC call b15_1 st = evC call w15_1 st := rfl
attribute [simp] u15_1 w15_1
def w15_3 : IC :=
(.seq
 (.seq
 (.reg false [⟨104, .mv (.t 13), none, false⟩,
 ⟨105, .ar .gtr false (.t 104) (.k (.sc (.int .i64 0))), none, false⟩])
 (.ite (.t 105)
 .skip
 (.exit 4)))
 (.seq
 (.block 5
 (.reg false [⟨108, .mv (.t 12), none, false⟩,
 ⟨109, .mv (.t 11), none, false⟩,
 ⟨110, .mv (.t 13), none, false⟩,
 ⟨111, .ia 1 (.t 109) (.t 110), none, false⟩,
 ⟨112, .ld 1 false (.t 111), none, false⟩,
 ⟨113, .bs 2 1 [(.sc (.int .i64 0))] 1 [(0, (.t 112))], none, false⟩,
 ⟨114, .ap 2 1 false (.t 108) (.t 113), none, false⟩,
 ⟨12, .mv (.t 114), none, false⟩]))
 (.reg false [⟨106, .mv (.t 13), none, false⟩,
 ⟨107, .ar .sub false (.t 106) (.k (.sc (.int .i64 1))), none, false⟩,
 ⟨13, .mv (.t 107), none, false⟩])))
def b15_3 : IC := w15_3
theorem u15_3 (call : CallF) (st : St) : evC call b15_3 st = evC call w15_3 st := rfl
attribute [simp] u15_3 w15_3
def w15_2 : IC :=
(.seq
 (.seq
 (.reg false [⟨80, .mv (.t 10), none, false⟩,
 ⟨81, .fa 0 (.t 6), none, false⟩,
 ⟨82, .fa 3 (.t 81), none, false⟩,
 ⟨83, .ld 1 false (.t 82), none, false⟩,
 ⟨84, .ln false (.t 83), none, false⟩,
 ⟨85, .ar .lss false (.t 80) (.t 84), none, false⟩])
 (.ite (.t 85)
 .skip
 (.exit 2)))
 (.seq
 (.block 3
 (.seq
 (.reg false [⟨88, .fa 0 (.t 2), none, false⟩,
 ⟨89, .fa 3 (.t 88), none, false⟩,
 ⟨90, .ld 1 false (.t 89), none, false⟩,
 ⟨91, .mv (.t 10), none, false⟩,
 ⟨92, .ia 2 (.t 90) (.t 91), none, false⟩,
 ⟨93, .fa 1 (.t 92), none, false⟩,
 ⟨94, .ld 1 false (.t 93), none, false⟩,
 ⟨11, .mv (.t 94), none, false⟩])
 (.seq
 (.seq
 (.reg false [⟨95, .mv (.t 1), none, false⟩,
 ⟨96, .ar .geq false (.t 95) (.k (.sc (.int .i64 4))), none, false⟩])
 (.ite (.t 96)
 (.seq
 (.reg false [⟨97, .mv (.t 11), none, false⟩,
 ⟨98, .ia 1 (.t 97) (.k (.sc (.int .i64 0))), none, false⟩,
 ⟨99, .ld 1 false (.t 98), none, false⟩,
 ⟨100, .bs 2 1 [(.sc (.int .i64 0))] 1 [(0, (.t 99))], none, false⟩,
 ⟨12, .mv (.t 100), none, false⟩])
 (.seq
 (.seq
 (.reg false [⟨101, .mv (.t 11), none, false⟩,
 ⟨102, .ln false (.t 101), none, false⟩,
 ⟨103, .ar .sub false (.t 102) (.k (.sc (.int .i64 1))), none, false⟩,
 ⟨13, .mv (.t 103), none, false⟩])
 (.cln [1, 2, 4, 6, 10, 12] [4, 5]
 (.block 4
 (.loop [1, 2, 4, 6, 10, 11, 12, 13] b15_3))))
 (.reg false [⟨115, .fa 0 (.t 6), none, false⟩,
 ⟨116, .fa 3 (.t 115), none, false⟩,
 ⟨117, .ld 1 false (.t 116), none, false⟩,
 ⟨118, .mv (.t 10), none, false⟩,
 ⟨119, .mv (.t 12), none, false⟩,
 ⟨120, .ia 2 (.t 117) (.t 118), none, false⟩,
 ⟨121, .fa 1 (.t 120), none, false⟩,
 ⟨1, .so 1 (.t 121) (.t 119), none, true⟩])))
 .skip))
 (.reg true [⟨122, .fa 4 (.t 6), none, false⟩,
 ⟨123, .ld 1 false (.t 122), none, false⟩,
 ⟨124, .mv (.t 10), none, false⟩,
 ⟨125, .fa 4 (.t 2), none, false⟩,
 ⟨126, .ld 1 false (.t 125), none, false⟩,
 ⟨127, .mv (.t 10), none, false⟩,
 ⟨128, .ia 3 (.t 126) (.t 127), none, false⟩,
 ⟨129, .fa 2 (.t 128), none, false⟩,
 ⟨130, .ld 1 false (.t 129), none, false⟩,
 ⟨131, .mv (.t 1), none, false⟩,
 ⟨132, .ca (.k (.cl 39 [])) [(.t 130), (.t 131)], none, false⟩,
 ⟨133, .ia 3 (.t 123) (.t 124), none, false⟩,
 ⟨134, .fa 2 (.t 133), none, false⟩,
 ⟨1, .so 1 (.t 134) (.t 132), none, true⟩]))))
 (.reg false [⟨86, .mv (.t 10), none, false⟩,
 ⟨87, .ar .add false (.t 86) (.k (.sc (.int .i64 1))), none, false⟩,
 ⟨10, .mv (.t 87), none, false⟩])))
def b15_2 : IC := w15_2
theorem u15_2 (call : CallF) (st : St) : evC call b15_2 st = evC call w15_2 st := rfl
attribute [simp] u15_2 w15_2
def i15 : Ev.Fn := ⟨2, 136, [.cell 4 5 true, .tmp 5],
 (.seq
 (.reg false [⟨2, .bx (.t 0), none, false⟩,
 ⟨4, .al [(.sc (.int .i64 0)), (.sc (.int .i64 0)), .nl, .nl, .nl], none, false⟩,
 ⟨5, .mv (.k (.sc (.int .i64 0))), none, false⟩])
 (.seq
 (.seq
 (.reg false [⟨14, .ca (.k (.cl 26 [])) [(.t 2)], none, false⟩,
 ⟨15, .nt (.t 14), none, false⟩])
 (.ite (.t 15)
 (.seq
 (.reg false [⟨16, .bd [(.sc (.int .i64 0)), (.sc (.int .i64 0)), .nl, .nl, .nl] [], none, false⟩,
 ⟨1, .so 5 (.t 4) (.t 16), none, true⟩,
 ⟨5, .mv (.k (.sc (.int .i64 1))), none, false⟩])
 .ret)
 .skip))
 (.seq
 (.seq
 (.reg false [⟨17, .mv (.t 1), none, false⟩,
 ⟨18, .ca (.k (.cl 35 [])) [(.t 17)], none, false⟩,
 ⟨19, .nt (.t 18), none, false⟩])
 (.ite (.t 19)
 (.seq
 (.reg false [⟨20, .bd [(.sc (.int .i64 0)), (.sc (.int .i64 0)), .nl, .nl, .nl] [], none, false⟩,
 ⟨1, .so 5 (.t 4) (.t 20), none, true⟩,
 ⟨5, .mv (.k (.sc (.int .i64 2))), none, false⟩])
 .ret)
 .skip))
 (.seq
 (.reg false [⟨21, .ca (.k (.cl 36 [])) [(.t 2)], none, false⟩,
 ⟨6, .al [(.sc (.int .i64 0)), (.sc (.int .i64 0)), .nl, .nl, .nl], none, false⟩,
 ⟨1, .so 5 (.t 6) (.t 21), none, true⟩])
 (.seq
 (.reg false [⟨22, .fa 0 (.t 2), none, false⟩,
 ⟨23, .fa 0 (.t 22), none, false⟩,
 ⟨24, .ld 1 false (.t 23), none, false⟩,
 ⟨25, .fa 0 (.t 2), none, false⟩,
 ⟨26, .fa 1 (.t 25), none, false⟩,
 ⟨27, .ld 1 false (.t 26), none, false⟩,
 ⟨28, .bd [(.sc (.int .i64 0)), (.sc (.int .i64 0))] [(0, 1, (.t 24)), (1, 1, (.t 27))], none, false⟩,
 ⟨29, .mv (.t 1), none, false⟩,
 ⟨30, .ca (.k (.cl 37 [])) [(.t 28), (.t 29)], none, false⟩,
 ⟨7, .al [(.sc (.int .i64 0)), (.sc (.int .i64 0))], none, false⟩,
 ⟨1, .so 2 (.t 7) (.t 30), none, true⟩])
 (.seq
 (.seq
 (.reg false [⟨31, .mv (.t 1), none, false⟩,
 ⟨32, .ar .rem false (.t 31) (.k (.sc (.int .i64 2))), none, false⟩,
 ⟨33, .ar .eql false (.t 32) (.k (.sc (.int .i64 1))), none, false⟩])
 (.ite (.t 33)
 (.seq
 (.reg false [⟨34, .fa 0 (.t 2), none, false⟩,
 ⟨35, .fa 1 (.t 34), none, false⟩,
 ⟨36, .ld 1 false (.t 35), none, false⟩,
 ⟨37, .fa 0 (.t 6), none, false⟩,
 ⟨38, .fa 0 (.t 37), none, false⟩,
 ⟨1, .so 1 (.t 38) (.t 36), none, true⟩])
 (.reg false [⟨39, .fa 0 (.t 2), none, false⟩,
 ⟨40, .fa 0 (.t 39), none, false⟩,
 ⟨41, .ld 1 false (.t 40), none, false⟩,
 ⟨42, .fa 0 (.t 6), none, false⟩,
 ⟨43, .fa 1 (.t 42), none, false⟩,
 ⟨1, .so 1 (.t 43) (.t 41), none, true⟩]))
 .skip))
 (.seq
 (.seq
 (.reg false [⟨8, .mv (.k (.sc (.int .i64 0))), none, false⟩])
 (.cln [1, 2, 4, 6] [4, 5]
 (.block 0
 (.loop [1, 2, 4, 6, 7, 8] b15_1))))
 (.seq
 (.seq
 (.reg false [⟨10, .mv (.k (.sc (.int .i64 0))), none, false⟩])
 (.cln [4, 6] [4, 5]
 (.block 2
 (.loop [1, 2, 4, 6, 10] b15_2))))
 (.seq
 (.reg false [⟨135, .ld 5 true (.t 6), none, false⟩,
 ⟨1, .so 5 (.t 4) (.t 135), none, true⟩,
 ⟨5, .mv (.k (.sc (.int .i64 0))), none, false⟩])
 .ret)))))))))⟩
attribute [simp] i15
set_option maxRecDepth 1000000 in
theorem c15 : cFn Tryz.prog 15 [[], [1, 2, 4, 6, 7, 8], [1, 2, 4, 6], [4, 5], [1, 2, 4, 6, 10], [1, 2, 4, 6, 10, 11, 12, 13], [1, 2, 4, 6, 10, 12], [4, 5], [4, 6], [4, 5]] = some i15 := by kernel_rfl
theorem e15 : enterOk Tryz.prog 15 = true := by kernel_rfl
def w16_1 : IC :=
(.seq
 (.reg false [⟨44, .ar .lss false (.t 43) (.t 42), none, false⟩])
 (.seq
 (.ite (.t 44)
 .skip
 (.exit 1))
 (.seq
 (.block 2
 (.seq
 (.reg false [⟨45, .mv (.t 43), none, false⟩,
 ⟨46, .ia 2 (.t 41) (.t 43), none, false⟩,
 ⟨47, .ld 2 true (.t 46), none, false⟩,
 ⟨10, .al [(.sc (.int .i64 0)), (.sc (.int .i64 0))], none, false⟩,
 ⟨9, .mv (.t 45), none, false⟩,
 ⟨1, .so 2 (.t 10) (.t 47), none, true⟩])
 (.seq
 (.reg false [⟨48, .ld 2 true (.t 10), none, false⟩,
 ⟨49, .mv (.t 1), none, false⟩,
 ⟨50, .ca (.k (.cl 42 [])) [(.t 48), (.t 49)], none, false⟩,
 ⟨1, .so 2 (.t 10) (.t 50), none, true⟩])
 (.reg true [⟨51, .mv (.t 7), none, false⟩,
 ⟨52, .nc (.t 51), none, false⟩,
 ⟨53, .fa 2 (.t 52), none, false⟩,
 ⟨54, .ld 1 false (.t 53), none, false⟩,
 ⟨55, .mv (.t 9), none, false⟩,
 ⟨56, .fa 0 (.t 10), none, false⟩,
 ⟨57, .ld 1 false (.t 56), none, false⟩,
 ⟨58, .fa 0 (.t 8), none, false⟩,
 ⟨59, .ld 1 false (.t 58), none, false⟩,
 ⟨60, .mn (.t 59) (.k (.sc (.int .i64 0))), none, false⟩,
 ⟨61, .ar .sub false (.t 57) (.t 60), none, false⟩,
 ⟨62, .fa 1 (.t 10), none, false⟩,
 ⟨63, .ld 1 false (.t 62), none, false⟩,
 ⟨64, .fa 1 (.t 8), none, false⟩,
 ⟨65, .ld 1 false (.t 64), none, false⟩,
 ⟨66, .mn (.t 65) (.k (.sc (.int .i64 0))), none, false⟩,
 ⟨67, .ar .sub false (.t 63) (.t 66), none, false⟩,
 ⟨68, .bd [(.sc (.int .i64 0)), (.sc (.int .i64 0))] [(0, 1, (.t 61)), (1, 1, (.t 67))], none, false⟩,
 ⟨69, .ia 2 (.t 54) (.t 55), none, false⟩,
 ⟨1, .so 2 (.t 69) (.t 68), none, true⟩]))))
 (.reg false [⟨70, .ar .add false (.t 43) (.k (.sc (.int .i64 1))), none, false⟩,
 ⟨43, .mv (.t 70), none, false⟩]))))
def b16_1 : IC := w16_1
theorem u16_1 (call : CallF) (st : St) : evC call b16_1 st = evC call w16_1 st := rfl
attribute [simp] u16_1 w16_1
def w16_2 : IC :=
(.seq
 (.reg false [⟨94, .ar .lss false (.t 93) (.t 92), none, false⟩])
 (.seq
 (.ite (.t 94)
 .skip
 (.exit 3))
 (.seq
 (.block 4
 (.seq
 (.reg false [⟨95, .mv (.t 93), none, false⟩,
 ⟨11, .mv (.t 95), none, false⟩])
 (.seq
 (.reg false [⟨96, .mv (.t 1), none, false⟩,
 ⟨97, .ar .gtr false (.t 96) (.k (.sc (.int .i64 3))), none, false⟩])
 (.ite (.t 97)
 (.rgw [⟨98, .mv (.t 7), none, false⟩,
 ⟨99, .nc (.t 98), none, false⟩,
 ⟨100, .fa 3 (.t 99), none, false⟩,
 ⟨101, .ld 1 false (.t 100), none, false⟩,
 ⟨102, .mv (.t 11), none, false⟩,
 ⟨103, .ia 2 (.t 101) (.t 102), none, false⟩,
 ⟨104, .fa 1 (.t 103), none, false⟩,
 ⟨105, .ld 1 false (.t 104), none, false⟩,
 ⟨106, .sl 1 (.t 105) (some (.k (.sc (.int .i64 1)))) none, none, false⟩,
 ⟨107, .cw 43 [false] [(.t 106)], none, false⟩])
 .skip))))
 (.reg false [⟨108, .ar .add false (.t 93) (.k (.sc (.int .i64 1))), none, false⟩,
 ⟨93, .mv (.t 108), none, false⟩]))))
def b16_2 : IC := w16_2
theorem u16_2 (call : CallF) (st : St) : evC call b16_2 st = evC call w16_2 st := rfl
attribute [simp] u16_2 w16_2
def w16_3 : IC :=
(.seq
 (.reg false [⟨113, .ar .lss false (.t 112) (.t 111), none, false⟩])
 (.seq
 (.ite (.t 113)
 .skip
 (.exit 5))
 (.seq
 (.block 6
 (.seq
 (.reg false [⟨114, .mv (.t 112), none, false⟩,
 ⟨115, .ia 3 (.t 110) (.t 112), none, false⟩,
 ⟨116, .ld 3 true (.t 115), none, false⟩,
 ⟨13, .al [(.sc (.string ⟨#[]⟩)), (.sc (.int .i64 0)), (.sc (.int .i64 0))], none, false⟩,
 ⟨12, .mv (.t 114), none, false⟩,
 ⟨1, .so 3 (.t 13) (.t 116), none, true⟩])
 (.rgc [] [⟨118, .fa 4 (.t 6), none, false⟩,
 ⟨119, .ld 1 false (.t 118), none, false⟩,
 ⟨120, .mv (.t 12), none, false⟩,
 ⟨121, .fa 2 (.t 13), none, false⟩,
 ⟨122, .ld 1 false (.t 121), none, false⟩,
 ⟨123, .mv (.t 1), none, false⟩,
 ⟨124, .ca (.k (.cl 44 [])) [(.t 122), (.t 123)], none, false⟩,
 ⟨117, .mv (.t 124), none, false⟩,
 ⟨125, .xt (.t 117) 0, none, false⟩,
 ⟨126, .xt (.t 117) 1, none, false⟩,
 ⟨127, .ia 3 (.t 119) (.t 120), none, false⟩,
 ⟨128, .fa 2 (.t 127), none, false⟩,
 ⟨0, .so 1 (.t 128) (.t 125), none, true⟩])))
 (.reg false [⟨129, .ar .add false (.t 112) (.k (.sc (.int .i64 1))), none, false⟩,
 ⟨112, .mv (.t 129), none, false⟩]))))
def b16_3 : IC := w16_3
theorem u16_3 (call : CallF) (st : St) : evC call b16_3 st = evC call w16_3 st := rfl
attribute [simp] u16_3 w16_3
def i16 : Ev.Fn := ⟨2, 131, [.cell 4 5 true, .tmp 5],
 (.seq
 (.reg false [⟨2, .bx (.t 0), none, false⟩,
 ⟨4, .al [(.sc (.int .i64 0)), (.sc (.int .i64 0)), .nl, .nl, .nl], none, false⟩,
 ⟨5, .mv (.k (.sc (.int .i64 0))), none, false⟩])
 (.seq
 (.block 0
 (.seq
 (.reg false [⟨15, .ld 5 true (.t 2), none, false⟩,
 ⟨16, .ca (.k (.cl 29 [])) [(.t 15)], none, false⟩,
 ⟨17, .nt (.t 16), none, false⟩,
 ⟨14, .mv (.t 17), none, false⟩])
 (.ite (.t 14)
 (.seq
 (.reg false [⟨18, .bd [(.sc (.int .i64 0)), (.sc (.int .i64 0)), .nl, .nl, .nl] [], none, false⟩,
 ⟨1, .so 5 (.t 4) (.t 18), none, true⟩,
 ⟨5, .mv (.k (.sc (.int .i64 1))), none, false⟩])
 .ret)
 (.seq
 (.reg false [⟨20, .mv (.t 1), none, false⟩,
 ⟨21, .ca (.k (.cl 40 [])) [(.t 20), (.k (.sc (.int .i64 0))), (.k (.sc (.int .i64 7)))], none, false⟩,
 ⟨22, .nt (.t 21), none, false⟩,
 ⟨19, .mv (.t 22), none, false⟩])
 (.ite (.t 19)
 (.seq
 (.reg false [⟨23, .bd [(.sc (.int .i64 0)), (.sc (.int .i64 0)), .nl, .nl, .nl] [], none, false⟩,
 ⟨1, .so 5 (.t 4) (.t 23), none, true⟩,
 ⟨5, .mv (.k (.sc (.int .i64 2))), none, false⟩])
 .ret)
 .skip)))))
 (.seq
 (.reg false [⟨24, .ld 5 true (.t 2), none, false⟩,
 ⟨25, .ca (.k (.cl 41 [])) [(.t 24)], none, false⟩,
 ⟨6, .al [(.sc (.int .i64 0)), (.sc (.int .i64 0)), .nl, .nl, .nl], none, false⟩,
 ⟨1, .so 5 (.t 6) (.t 25), none, true⟩])
 (.seq
 (.reg false [⟨26, .fa 0 (.t 6), none, false⟩,
 ⟨7, .mv (.t 26), none, false⟩])
 (.seq
 (.reg true [⟨27, .mv (.t 7), none, false⟩,
 ⟨28, .nc (.t 27), none, false⟩,
 ⟨29, .fa 0 (.t 28), none, false⟩,
 ⟨30, .ld 1 false (.t 29), none, false⟩,
 ⟨31, .mv (.t 7), none, false⟩,
 ⟨32, .nc (.t 31), none, false⟩,
 ⟨33, .fa 1 (.t 32), none, false⟩,
 ⟨34, .ld 1 false (.t 33), none, false⟩,
 ⟨35, .bd [(.sc (.int .i64 0)), (.sc (.int .i64 0))] [(0, 1, (.t 30)), (1, 1, (.t 34))], none, false⟩,
 ⟨36, .mv (.t 1), none, false⟩,
 ⟨37, .ca (.k (.cl 42 [])) [(.t 35), (.t 36)], none, false⟩,
 ⟨8, .al [(.sc (.int .i64 0)), (.sc (.int .i64 0))], none, false⟩,
 ⟨1, .so 2 (.t 8) (.t 37), none, true⟩])
 (.seq
 (.seq
 (.reg false [⟨38, .mv (.t 7), none, false⟩,
 ⟨39, .nc (.t 38), none, false⟩,
 ⟨40, .fa 2 (.t 39), none, false⟩,
 ⟨41, .ld 1 false (.t 40), none, false⟩,
 ⟨42, .ln false (.t 41), none, false⟩,
 ⟨43, .mv (.k (.sc (.int .i64 0))), none, false⟩])
 (.cln [1, 4, 6, 7] [4, 5]
 (.block 1
 (.loop [1, 4, 6, 7, 8, 41, 42, 43] b16_1))))
 (.seq
 (.seq
 (.reg false [⟨71, .mv (.t 1), none, false⟩,
 ⟨72, .ar .rem false (.t 71) (.k (.sc (.int .i64 2))), none, false⟩,
 ⟨73, .ar .eql false (.t 72) (.k (.sc (.int .i64 1))), none, false⟩])
 (.ite (.t 73)
 (.rgc [] [⟨74, .mv (.t 7), none, false⟩,
 ⟨75, .mv (.t 7), none, false⟩,
 ⟨76, .mv (.t 7), none, false⟩,
 ⟨77, .nc (.t 76), none, false⟩,
 ⟨78, .fa 1 (.t 77), none, false⟩,
 ⟨79, .ld 1 false (.t 78), none, false⟩,
 ⟨80, .mv (.t 7), none, false⟩,
 ⟨81, .nc (.t 80), none, false⟩,
 ⟨82, .fa 0 (.t 81), none, false⟩,
 ⟨83, .ld 1 false (.t 82), none, false⟩,
 ⟨84, .nc (.t 74), none, false⟩,
 ⟨85, .fa 0 (.t 84), none, false⟩,
 ⟨0, .so 1 (.t 85) (.t 79), none, true⟩,
 ⟨86, .nc (.t 75), none, false⟩,
 ⟨87, .fa 1 (.t 86), none, false⟩,
 ⟨0, .so 1 (.t 87) (.t 83), none, true⟩])
 .skip))
 (.seq
 (.seq
 (.reg false [⟨88, .mv (.t 7), none, false⟩,
 ⟨89, .nc (.t 88), none, false⟩,
 ⟨90, .fa 3 (.t 89), none, false⟩,
 ⟨91, .ld 1 false (.t 90), none, false⟩,
 ⟨92, .ln false (.t 91), none, false⟩,
 ⟨93, .mv (.k (.sc (.int .i64 0))), none, false⟩])
 (.cln [1, 4, 6] [4, 5]
 (.block 3
 (.loop [1, 4, 6, 7, 92, 93] b16_2))))
 (.seq
 (.seq
 (.reg false [⟨109, .fa 4 (.t 6), none, false⟩,
 ⟨110, .ld 1 false (.t 109), none, false⟩,
 ⟨111, .ln false (.t 110), none, false⟩,
 ⟨112, .mv (.k (.sc (.int .i64 0))), none, false⟩])
 (.cln [4, 6] [4, 5]
 (.block 5
 (.loop [1, 4, 6, 110, 111, 112] b16_3))))
 (.seq
 (.reg false [⟨130, .ld 5 true (.t 6), none, false⟩,
 ⟨1, .so 5 (.t 4) (.t 130), none, true⟩,
 ⟨5, .mv (.k (.sc (.int .i64 0))), none, false⟩])
 .ret))))))))))⟩
attribute [simp] i16
set_option maxRecDepth 1000000 in
theorem c16 : cFn Tryz.prog 16 [[3000043], [1, 4, 6, 7, 8, 41, 42, 43], [1, 4, 6, 7], [4, 5], [1, 4, 6, 7, 92, 93], [1, 4, 6], [4, 5], [1, 4, 6, 110, 111, 112], [4, 6], [4, 5]] = some i16 := by kernel_rfl
theorem e16 : enterOk Tryz.prog 16 = true := by kernel_rfl
def i17 : Ev.Fn := ⟨2, 18, [.tmp 4],
 (.seq
 (.reg false [⟨2, .bx (.t 0), none, false⟩,
 ⟨4, .mv (.k (.sc (.int .i64 0))), none, false⟩])
 (.seq
 (.reg false [⟨5, .fa 0 (.t 2), none, false⟩,
 ⟨6, .ld 4 true (.t 5), none, false⟩,
 ⟨7, .mv (.t 1), none, false⟩,
 ⟨8, .ca (.k (.cl 24 [])) [(.t 6), (.t 7)], none, false⟩,
 ⟨1, .mv (.t 8), none, false⟩])
 (.seq
 (.seq
 (.reg false [⟨9, .mv (.t 1), none, false⟩,
 ⟨10, .ar .lss false (.t 9) (.k (.sc (.int .i64 0))), none, false⟩])
 (.ite (.t 10)
 (.seq
 (.reg false [⟨4, .mv (.k (.sc (.int .i64 (-1)))), none, false⟩])
 .ret)
 .skip))
 (.seq
 (.reg false [⟨11, .fa 4 (.t 2), none, false⟩,
 ⟨12, .ld 1 false (.t 11), none, false⟩,
 ⟨13, .mv (.t 1), none, false⟩,
 ⟨14, .ca (.k (.cl 45 [])) [(.t 12), (.t 13)], none, false⟩,
 ⟨1, .mv (.t 14), none, false⟩])
 (.seq
 (.seq
 (.reg false [⟨15, .mv (.t 1), none, false⟩,
 ⟨16, .ar .lss false (.t 15) (.k (.sc (.int .i64 0))), none, false⟩])
 (.ite (.t 16)
 (.seq
 (.reg false [⟨4, .mv (.k (.sc (.int .i64 (-1)))), none, false⟩])
 .ret)
 .skip))
 (.seq
 (.reg false [⟨17, .mv (.t 1), none, false⟩,
 ⟨4, .mv (.t 17), none, false⟩])
 .ret))))))⟩
attribute [simp] i17
set_option maxRecDepth 1000000 in
theorem c17 : cFn Tryz.prog 17 [[]] = some i17 := by kernel_rfl
theorem e17 : enterOk Tryz.prog 17 = true := by kernel_rfl
def i18 : Ev.Fn := ⟨2, 18, [.tmp 4],
 (.seq
 (.reg false [⟨2, .bx (.t 0), none, false⟩,
 ⟨4, .mv (.k (.sc (.int .i64 0))), none, false⟩])
 (.seq
 (.reg false [⟨5, .fa 2 (.t 2), none, false⟩,
 ⟨6, .ld 1 false (.t 5), none, false⟩,
 ⟨7, .mv (.t 1), none, false⟩,
 ⟨8, .ca (.k (.cl 46 [])) [(.t 6), (.t 7)], none, false⟩,
 ⟨1, .mv (.t 8), none, false⟩])
 (.seq
 (.seq
 (.reg false [⟨9, .mv (.t 1), none, false⟩,
 ⟨10, .ar .lss false (.t 9) (.k (.sc (.int .i64 0))), none, false⟩])
 (.ite (.t 10)
 (.seq
 (.reg false [⟨4, .mv (.k (.sc (.int .i64 (-1)))), none, false⟩])
 .ret)
 .skip))
 (.seq
 (.reg false [⟨11, .fa 3 (.t 2), none, false⟩,
 ⟨12, .ld 1 false (.t 11), none, false⟩,
 ⟨13, .mv (.t 1), none, false⟩,
 ⟨14, .ca (.k (.cl 47 [])) [(.t 12), (.t 13)], none, false⟩,
 ⟨1, .mv (.t 14), none, false⟩])
 (.seq
 (.seq
 (.reg false [⟨15, .mv (.t 1), none, false⟩,
 ⟨16, .ar .lss false (.t 15) (.k (.sc (.int .i64 0))), none, false⟩])
 (.ite (.t 16)
 (.seq
 (.reg false [⟨4, .mv (.k (.sc (.int .i64 (-1)))), none, false⟩])
 .ret)
 .skip))
 (.seq
 (.reg false [⟨17, .mv (.t 1), none, false⟩,
 ⟨4, .mv (.t 17), none, false⟩])
 .ret))))))⟩
attribute [simp] i18
set_option maxRecDepth 1000000 in
theorem c18 : cFn Tryz.prog 18 [[]] = some i18 := by kernel_rfl
theorem e18 : enterOk Tryz.prog 18 = true := by kernel_rfl
def i20 : Ev.Fn := ⟨1, 19, [.cell 2 4 true],
 (.seq
 (.reg false [⟨1, .bx (.t 0), none, false⟩,
 ⟨2, .al [(.sc (.int .i64 0)), (.sc (.int .i64 0)), .nl, .nl], none, false⟩])
 (.seq
 (.reg false [⟨3, .al [(.sc (.int .i64 0)), (.sc (.int .i64 0)), .nl, .nl], none, false⟩])
 (.seq
 (.reg false [⟨4, .fa 0 (.t 1), none, false⟩,
 ⟨5, .ld 1 false (.t 4), none, false⟩,
 ⟨6, .fa 0 (.t 3), none, false⟩,
 ⟨1, .so 1 (.t 6) (.t 5), none, true⟩])
 (.seq
 (.reg false [⟨7, .fa 1 (.t 1), none, false⟩,
 ⟨8, .ld 1 false (.t 7), none, false⟩,
 ⟨9, .fa 1 (.t 3), none, false⟩,
 ⟨1, .so 1 (.t 9) (.t 8), none, true⟩])
 (.seq
 (.reg false [⟨10, .fa 2 (.t 1), none, false⟩,
 ⟨11, .ld 1 false (.t 10), none, false⟩,
 ⟨12, .ca (.k (.cl 49 [])) [(.t 11)], none, false⟩,
 ⟨13, .fa 2 (.t 3), none, false⟩,
 ⟨1, .so 1 (.t 13) (.t 12), none, true⟩])
 (.seq
 (.reg false [⟨14, .fa 3 (.t 1), none, false⟩,
 ⟨15, .ld 1 false (.t 14), none, false⟩,
 ⟨16, .ca (.k (.cl 50 [])) [(.t 15)], none, false⟩,
 ⟨17, .fa 3 (.t 3), none, false⟩,
 ⟨1, .so 1 (.t 17) (.t 16), none, true⟩])
 (.seq
 (.reg false [⟨18, .ld 4 true (.t 3), none, false⟩,
 ⟨1, .so 4 (.t 2) (.t 18), none, true⟩])
 .ret)))))))⟩
attribute [simp] i20
set_option maxRecDepth 1000000 in
theorem c20 : cFn Tryz.prog 20 [[]] = some i20 := by kernel_rfl
theorem e20 : enterOk Tryz.prog 20 = true := by kernel_rfl
def i22 : Ev.Fn := ⟨2, 27, [.tmp 4],
 (.seq
 (.reg false [⟨2, .bx (.t 0), none, false⟩,
 ⟨3, .bx (.t 1), none, false⟩,
 ⟨4, .mv (.k (.sc (.bool false))), none, false⟩])
 (.seq
 (.seq
 (.reg false [⟨5, .fa 0 (.t 2), none, false⟩,
 ⟨6, .ld 1 false (.t 5), none, false⟩,
 ⟨7, .fa 0 (.t 3), none, false⟩,
 ⟨8, .ld 1 false (.t 7), none, false⟩,
 ⟨9, .ar .neq false (.t 6) (.t 8), none, false⟩])
 (.ite (.t 9)
 (.seq
 (.reg false [⟨4, .mv (.k (.sc (.bool false))), none, false⟩])
 .ret)
 .skip))
 (.seq
 (.seq
 (.reg false [⟨10, .fa 1 (.t 2), none, false⟩,
 ⟨11, .ld 1 false (.t 10), none, false⟩,
 ⟨12, .fa 1 (.t 3), none, false⟩,
 ⟨13, .ld 1 false (.t 12), none, false⟩,
 ⟨14, .ar .neq false (.t 11) (.t 13), none, false⟩])
 (.ite (.t 14)
 (.seq
 (.reg false [⟨4, .mv (.k (.sc (.bool false))), none, false⟩])
 .ret)
 .skip))
 (.seq
 (.seq
 (.reg false [⟨15, .fa 2 (.t 2), none, false⟩,
 ⟨16, .ld 1 false (.t 15), none, false⟩,
 ⟨17, .fa 2 (.t 3), none, false⟩,
 ⟨18, .ld 1 false (.t 17), none, false⟩,
 ⟨19, .ca (.k (.cl 56 [])) [(.t 16), (.t 18)], none, false⟩,
 ⟨20, .nt (.t 19), none, false⟩])
 (.ite (.t 20)
 (.seq
 (.reg false [⟨4, .mv (.k (.sc (.bool false))), none, false⟩])
 .ret)
 .skip))
 (.seq
 (.seq
 (.reg false [⟨21, .fa 3 (.t 2), none, false⟩,
 ⟨22, .ld 1 false (.t 21), none, false⟩,
 ⟨23, .fa 3 (.t 3), none, false⟩,
 ⟨24, .ld 1 false (.t 23), none, false⟩,
 ⟨25, .ca (.k (.cl 57 [])) [(.t 22), (.t 24)], none, false⟩,
 ⟨26, .nt (.t 25), none, false⟩])
 (.ite (.t 26)
 (.seq
 (.reg false [⟨4, .mv (.k (.sc (.bool false))), none, false⟩])
 .ret)
 .skip))
 (.seq
 (.reg false [⟨4, .mv (.k (.sc (.bool true))), none, false⟩])
 .ret))))))⟩
attribute [simp] i22
set_option maxRecDepth 1000000 in
theorem c22 : cFn Tryz.prog 22 [[]] = some i22 := by kernel_rfl
theorem e22 : enterOk Tryz.prog 22 = true := by kernel_rfl
def i23 : Ev.Fn := ⟨2, 14, [.tmp 4],
 (.seq
 (.reg false [⟨2, .bx (.t 0), none, false⟩,
 ⟨4, .mv (.k (.sc (.int .i64 0))), none, false⟩])
 (.seq
 (.rgw [⟨5, .fa 2 (.t 2), none, false⟩,
 ⟨6, .ld 1 false (.t 5), none, false⟩,
 ⟨7, .mv (.t 1), none, false⟩,
 ⟨8, .cw 58 [] [(.t 6), (.t 7)], none, false⟩,
 ⟨1, .mv (.t 8), none, false⟩])
 (.seq
 (.rgw [⟨9, .fa 3 (.t 2), none, false⟩,
 ⟨10, .ld 1 false (.t 9), none, false⟩,
 ⟨11, .mv (.t 1), none, false⟩,
 ⟨12, .cw 59 [] [(.t 10), (.t 11)], none, false⟩,
 ⟨1, .mv (.t 12), none, false⟩])
 (.seq
 (.reg false [⟨13, .mv (.t 1), none, false⟩,
 ⟨4, .mv (.t 13), none, false⟩])
 .ret))))⟩
attribute [simp] i23
set_option maxRecDepth 1000000 in
theorem c23 : cFn Tryz.prog 23 [[58, 59]] = some i23 := by kernel_rfl
theorem e23 : enterOk Tryz.prog 23 = true := by kernel_rfl
def i24 : Ev.Fn := ⟨2, 18, [.tmp 4],
 (.seq
 (.reg false [⟨2, .bx (.t 0), none, false⟩,
 ⟨4, .mv (.k (.sc (.int .i64 0))), none, false⟩])
 (.seq
 (.reg false [⟨5, .fa 2 (.t 2), none, false⟩,
 ⟨6, .ld 1 false (.t 5), none, false⟩,
 ⟨7, .mv (.t 1), none, false⟩,
 ⟨8, .ca (.k (.cl 60 [])) [(.t 6), (.t 7)], none, false⟩,
 ⟨1, .mv (.t 8), none, false⟩])
 (.seq
 (.seq
 (.reg false [⟨9, .mv (.t 1), none, false⟩,
 ⟨10, .ar .lss false (.t 9) (.k (.sc (.int .i64 0))), none, false⟩])
 (.ite (.t 10)
 (.seq
 (.reg false [⟨4, .mv (.k (.sc (.int .i64 (-1)))), none, false⟩])
 .ret)
 .skip))
 (.seq
 (.reg false [⟨11, .fa 3 (.t 2), none, false⟩,
 ⟨12, .ld 1 false (.t 11), none, false⟩,
 ⟨13, .mv (.t 1), none, false⟩,
 ⟨14, .ca (.k (.cl 61 [])) [(.t 12), (.t 13)], none, false⟩,
 ⟨1, .mv (.t 14), none, false⟩])
 (.seq
 (.seq
 (.reg false [⟨15, .mv (.t 1), none, false⟩,
 ⟨16, .ar .lss false (.t 15) (.k (.sc (.int .i64 0))), none, false⟩])
 (.ite (.t 16)
 (.seq
 (.reg false [⟨4, .mv (.k (.sc (.int .i64 (-1)))), none, false⟩])
 .ret)
 .skip))
 (.seq
 (.reg false [⟨17, .mv (.t 1), none, false⟩,
 ⟨4, .mv (.t 17), none, false⟩])
 .ret))))))⟩
attribute [simp] i24
set_option maxRecDepth 1000000 in
theorem c24 : cFn Tryz.prog 24 [[]] = some i24 := by kernel_rfl
theorem e24 : enterOk Tryz.prog 24 = true := by kernel_rfl
def w25_1 : IC :=
(.seq
 (.seq
 (.reg false [⟨12, .mv (.t 5), none, false⟩,
 ⟨13, .mv (.t 0), none, false⟩,
 ⟨14, .ln false (.t 13), none, false⟩,
 ⟨15, .ar .lss false (.t 12) (.t 14), none, false⟩])
 (.ite (.t 15)
 .skip
 (.exit 0)))
 (.seq
 (.block 1
 (.seq
 (.reg false [⟨18, .mv (.t 0), none, false⟩,
 ⟨19, .mv (.t 5), none, false⟩,
 ⟨20, .ia 3 (.t 18) (.t 19), none, false⟩,
 ⟨21, .ld 3 true (.t 20), none, false⟩,
 ⟨22, .mv (.t 1), none, false⟩,
 ⟨23, .ca (.k (.cl 62 [])) [(.t 21), (.t 22)], none, false⟩,
 ⟨1, .mv (.t 23), none, false⟩])
 (.seq
 (.reg false [⟨24, .mv (.t 1), none, false⟩,
 ⟨25, .ar .lss false (.t 24) (.k (.sc (.int .i64 0))), none, false⟩])
 (.ite (.t 25)
 (.seq
 (.reg false [⟨4, .mv (.k (.sc (.int .i64 (-1)))), none, false⟩])
 .ret)
 .skip))))
 (.reg false [⟨16, .mv (.t 5), none, false⟩,
 ⟨17, .ar .add false (.t 16) (.k (.sc (.int .i64 1))), none, false⟩,
 ⟨5, .mv (.t 17), none, false⟩])))
def b25_1 : IC := w25_1
theorem u25_1 (call : CallF) (st : St) : evC call b25_1 st = evC call w25_1 st := rfl
attribute [simp] u25_1 w25_1
def i25 : Ev.Fn := ⟨2, 27, [.tmp 4],
 (.seq
 (.reg false [⟨4, .mv (.k (.sc (.int .i64 0))), none, false⟩])
 (.seq
 (.reg false [⟨6, .mv (.t 1), none, false⟩,
 ⟨7, .mv (.t 0), none, false⟩,
 ⟨8, .ln false (.t 7), none, false⟩,
 ⟨9, .ar .sub false (.t 6) (.t 8), none, false⟩,
 ⟨1, .mv (.t 9), none, false⟩])
 (.seq
 (.seq
 (.reg false [⟨10, .mv (.t 1), none, false⟩,
 ⟨11, .ar .lss false (.t 10) (.k (.sc (.int .i64 0))), none, false⟩])
 (.ite (.t 11)
 (.seq
 (.reg false [⟨4, .mv (.k (.sc (.int .i64 (-1)))), none, false⟩])
 .ret)
 .skip))
 (.seq
 (.seq
 (.reg false [⟨5, .mv (.k (.sc (.int .i64 0))), none, false⟩])
 (.cln [1] [4]
 (.block 0
 (.loop [0, 1, 5] b25_1))))
 (.seq
 (.reg false [⟨26, .mv (.t 1), none, false⟩,
 ⟨4, .mv (.t 26), none, false⟩])
 .ret)))))⟩
attribute [simp] i25
set_option maxRecDepth 1000000 in
theorem c25 : cFn Tryz.prog 25 [[], [0, 1, 5], [1], [4]] = some i25 := by kernel_rfl
theorem e25 : enterOk Tryz.prog 25 = true := by kernel_rfl
def i26 : Ev.Fn := ⟨1, 28, [.tmp 2],
 (.seq
 (.reg false [⟨2, .mv (.k (.sc (.bool false))), none, false⟩])
 (.seq
 (.reg true [⟨3, .mv (.t 0), none, false⟩,
 ⟨4, .nc (.t 3), none, false⟩,
 ⟨5, .fa 0 (.t 4), none, false⟩,
 ⟨6, .ca (.k (.cl 63 [])) [(.t 5)], none, false⟩,
 ⟨7, .mv (.t 6), none, false⟩,
 ⟨8, .mv (.t 0), (some (7, true)), false⟩,
 ⟨9, .nc (.t 8), (some (7, true)), false⟩,
 ⟨10, .fa 4 (.t 9), (some (7, true)), false⟩,
 ⟨11, .ld 1 false (.t 10), (some (7, true)), false⟩,
 ⟨12, .ca (.k (.cl 64 [])) [(.t 11)], (some (7, true)), false⟩,
 ⟨13, .pk (.t 7) (.t 12) (.k (.sc (.bool false))), none, false⟩,
 ⟨14, .mv (.t 13), none, false⟩,
 ⟨15, .mv (.t 0), (some (14, true)), false⟩,
 ⟨16, .nc (.t 15), (some (14, true)), false⟩,
 ⟨17, .fa 4 (.t 16), (some (14, true)), false⟩,
 ⟨18, .ld 1 false (.t 17), (some (14, true)), false⟩,
 ⟨19, .ln false (.t 18), (some (14, true)), false⟩,
 ⟨20, .mv (.t 0), (some (14, true)), false⟩,
 ⟨21, .nc (.t 20), (some (14, true)), false⟩,
 ⟨22, .fa 0 (.t 21), (some (14, true)), false⟩,
 ⟨23, .fa 3 (.t 22), (some (14, true)), false⟩,
 ⟨24, .ld 1 false (.t 23), (some (14, true)), false⟩,
 ⟨25, .ln false (.t 24), (some (14, true)), false⟩,
 ⟨26, .ar .eql false (.t 19) (.t 25), (some (14, true)), false⟩,
 ⟨27, .pk (.t 14) (.t 26) (.k (.sc (.bool false))), none, false⟩,
 ⟨2, .mv (.t 27), none, false⟩])
 .ret))⟩
attribute [simp] i26
set_option maxRecDepth 1000000 in
theorem c26 : cFn Tryz.prog 26 [[]] = some i26 := by kernel_rfl
theorem e26 : enterOk Tryz.prog 26 = true := by kernel_rfl
def i27 : Ev.Fn := ⟨0, 2, [.tmp 0],
 (.seq
 (.reg false [⟨0, .mv (.k .nl), none, false⟩])
 (.seq
 (.reg false [⟨1, .bs 9 1 [(.sc (.string ⟨#[]⟩))] 10 [(0, (.k (.sc (.string ⟨#[97, 115, 104]⟩)))), (1, (.k (.sc (.string ⟨#[98, 101, 101, 99, 104]⟩)))), (2, (.k (.sc (.string ⟨#[98, 105, 114, 99, 104]⟩)))), (3, (.k (.sc (.string ⟨#[99, 104, 101, 114, 114, 121]⟩)))), (4, (.k (.sc (.string ⟨#[101, 98, 111, 110, 121]⟩)))), (5, (.k (.sc (.string ⟨#[104, 111, 108, 108, 121]⟩)))), (6, (.k (.sc (.string ⟨#[109, 97, 112, 108, 101]⟩)))), (7, (.k (.sc (.string ⟨#[111, 97, 107]⟩)))), (8, (.k (.sc (.string ⟨#[114, 111, 115, 101, 119, 111, 111, 100]⟩)))), (9, (.k (.sc (.string ⟨#[119, 97, 108, 110, 117, 116]⟩))))], none, false⟩,
 ⟨0, .mv (.t 1), none, false⟩])
 .ret))⟩
attribute [simp] i27
set_option maxRecDepth 1000000 in
theorem c27 : cFn Tryz.prog 27 [[]] = some i27 := by kernel_rfl
theorem e27 : enterOk Tryz.prog 27 = true := by kernel_rfl
def w28_1 : IC :=
(.seq
 (.seq
 (.reg false [⟨8, .mv (.t 4), none, false⟩,
 ⟨9, .mv (.t 0), none, false⟩,
 ⟨10, .ln false (.t 9), none, false⟩,
 ⟨11, .ar .lss false (.t 8) (.t 10), none, false⟩])
 (.ite (.t 11)
 .skip
 (.exit 0)))
 (.seq
 (.block 1
 (.reg false [⟨14, .mv (.t 3), none, false⟩,
 ⟨15, .mv (.t 4), none, false⟩,
 ⟨16, .mv (.t 0), none, false⟩,
 ⟨17, .mv (.t 4), none, false⟩,
 ⟨18, .ia 3 (.t 16) (.t 17), none, false⟩,
 ⟨19, .ld 3 true (.t 18), none, false⟩,
 ⟨20, .ca (.k (.cl 65 [])) [(.t 19)], none, false⟩,
 ⟨21, .ia 3 (.t 14) (.t 15), none, false⟩,
 ⟨1, .so 3 (.t 21) (.t 20), none, true⟩]))
 (.reg false [⟨12, .mv (.t 4), none, false⟩,
 ⟨13, .ar .add false (.t 12) (.k (.sc (.int .i64 1))), none, false⟩,
 ⟨4, .mv (.t 13), none, false⟩])))
def b28_1 : IC := w28_1
theorem u28_1 (call : CallF) (st : St) : evC call b28_1 st = evC call w28_1 st := rfl
attribute [simp] u28_1 w28_1
def i28 : Ev.Fn := ⟨1, 23, [.tmp 2],
 (.seq
 (.reg false [⟨2, .mv (.k .nl), none, false⟩])
 (.seq
 (.reg false [⟨5, .mv (.t 0), none, false⟩,
 ⟨6, .ln false (.t 5), none, false⟩,
 ⟨7, .ms 61 3 [(.sc (.string ⟨#[]⟩)), (.sc (.int .i64 0)), (.sc (.int .i64 0))] (.t 6), none, false⟩,
 ⟨3, .mv (.t 7), none, false⟩])
 (.seq
 (.seq
 (.reg false [⟨4, .mv (.k (.sc (.int .i64 0))), none, false⟩])
 (.cln [3] [2]
 (.block 0
 (.loop [0, 3, 4] b28_1))))
 (.seq
 (.reg false [⟨22, .mv (.t 3), none, false⟩,
 ⟨2, .mv (.t 22), none, false⟩])
 .ret))))⟩
attribute [simp] i28
set_option maxRecDepth 1000000 in
theorem c28 : cFn Tryz.prog 28 [[], [0, 3, 4], [3], [2]] = some i28 := by kernel_rfl
theorem e28 : enterOk Tryz.prog 28 = true := by kernel_rfl
def i29 : Ev.Fn := ⟨1, 21, [.tmp 2],
 (.seq
 (.reg false [⟨1, .bx (.t 0), none, false⟩,
 ⟨2, .mv (.k (.sc (.bool false))), none, false⟩])
 (.seq
 (.reg false [⟨3, .fa 0 (.t 1), none, false⟩,
 ⟨4, .ld 4 true (.t 3), none, false⟩,
 ⟨5, .ca (.k (.cl 66 [])) [(.t 4)], none, false⟩,
 ⟨6, .mv (.t 5), none, false⟩,
 ⟨7, .fa 4 (.t 1), (some (6, true)), false⟩,
 ⟨8, .ld 1 false (.t 7), (some (6, true)), false⟩,
 ⟨9, .ln false (.t 8), (some (6, true)), false⟩,
 ⟨10, .fa 0 (.t 1), (some (6, true)), false⟩,
 ⟨11, .fa 3 (.t 10), (some (6, true)), false⟩,
 ⟨12, .ld 1 false (.t 11), (some (6, true)), false⟩,
 ⟨13, .ln false (.t 12), (some (6, true)), false⟩,
 ⟨14, .ar .eql false (.t 9) (.t 13), (some (6, true)), false⟩,
 ⟨15, .pk (.t 6) (.t 14) (.k (.sc (.bool false))), none, false⟩,
 ⟨16, .mv (.t 15), none, false⟩,
 ⟨17, .fa 4 (.t 1), (some (16, true)), false⟩,
 ⟨18, .ld 1 false (.t 17), (some (16, true)), false⟩,
 ⟨19, .ca (.k (.cl 67 [])) [(.t 18)], (some (16, true)), false⟩,
 ⟨20, .pk (.t 16) (.t 19) (.k (.sc (.bool false))), none, false⟩,
 ⟨2, .mv (.t 20), none, false⟩])
 .ret))⟩
attribute [simp] i29
set_option maxRecDepth 1000000 in
theorem c29 : cFn Tryz.prog 29 [[]] = some i29 := by kernel_rfl
theorem e29 : enterOk Tryz.prog 29 = true := by kernel_rfl
def w32_1 : IC :=
(.seq
 (.seq
 (.reg false [⟨11, .mv (.t 5), none, false⟩,
 ⟨12, .mv (.t 0), none, false⟩,
 ⟨13, .ln false (.t 12), none, false⟩,
 ⟨14, .ar .lss false (.t 11) (.t 13), none, false⟩])
 (.ite (.t 14)
 .skip
 (.exit 0)))
 (.seq
 (.block 1
 (.seq
 (.reg true [⟨17, .mv (.t 0), none, false⟩,
 ⟨18, .mv (.t 5), none, false⟩,
 ⟨19, .ia 3 (.t 17) (.t 18), none, false⟩,
 ⟨20, .ld 3 true (.t 19), none, false⟩,
 ⟨21, .mv (.t 1), none, false⟩,
 ⟨22, .mv (.t 5), none, false⟩,
 ⟨23, .ia 3 (.t 21) (.t 22), none, false⟩,
 ⟨24, .ld 3 true (.t 23), none, false⟩,
 ⟨25, .ca (.k (.cl 70 [])) [(.t 20), (.t 24)], none, false⟩,
 ⟨26, .nt (.t 25), none, false⟩])
 (.ite (.t 26)
 (.seq
 (.reg false [⟨4, .mv (.k (.sc (.bool false))), none, false⟩])
 .ret)
 .skip)))
 (.reg false [⟨15, .mv (.t 5), none, false⟩,
 ⟨16, .ar .add false (.t 15) (.k (.sc (.int .i64 1))), none, false⟩,
 ⟨5, .mv (.t 16), none, false⟩])))
def b32_1 : IC := w32_1
theorem u32_1 (call : CallF) (st : St) : evC call b32_1 st = evC call w32_1 st := rfl
attribute [simp] u32_1 w32_1
def i32 : Ev.Fn := ⟨2, 27, [.tmp 4],
 (.seq
 (.reg false [⟨4, .mv (.k (.sc (.bool false))), none, false⟩])
 (.seq
 (.seq
 (.reg false [⟨6, .mv (.t 0), none, false⟩,
 ⟨7, .ln false (.t 6), none, false⟩,
 ⟨8, .mv (.t 1), none, false⟩,
 ⟨9, .ln false (.t 8), none, false⟩,
 ⟨10, .ar .neq false (.t 7) (.t 9), none, false⟩])
 (.ite (.t 10)
 (.seq
 (.reg false [⟨4, .mv (.k (.sc (.bool false))), none, false⟩])
 .ret)
 .skip))
 (.seq
 (.seq
 (.reg false [⟨5, .mv (.k (.sc (.int .i64 0))), none, false⟩])
 (.cln [] [4]
 (.block 0
 (.loop [0, 1, 5] b32_1))))
 (.seq
 (.reg false [⟨4, .mv (.k (.sc (.bool true))), none, false⟩])
 .ret))))⟩
attribute [simp] i32
set_option maxRecDepth 1000000 in
theorem c32 : cFn Tryz.prog 32 [[], [0, 1, 5], [], [4]] = some i32 := by kernel_rfl
theorem e32 : enterOk Tryz.prog 32 = true := by kernel_rfl
def w33_1 : IC :=
(.seq
 (.seq
 (.reg false [⟨6, .mv (.t 5), none, false⟩,
 ⟨7, .mv (.t 0), none, false⟩,
 ⟨8, .ln false (.t 7), none, false⟩,
 ⟨9, .ar .lss false (.t 6) (.t 8), none, false⟩])
 (.ite (.t 9)
 .skip
 (.exit 0)))
 (.seq
 (.block 1
 (.seq
 (.reg false [⟨12, .mv (.t 0), none, false⟩,
 ⟨13, .mv (.t 5), none, false⟩,
 ⟨14, .mv (.t 1), none, false⟩,
 ⟨15, .ca (.k (.cl 34 [])) [(.t 14)], none, false⟩,
 ⟨16, .ia 3 (.t 12) (.t 13), none, false⟩,
 ⟨17, .fa 0 (.t 16), none, false⟩,
 ⟨1, .so 1 (.t 17) (.t 15), none, true⟩])
 (.seq
 (.reg false [⟨18, .mv (.t 1), none, false⟩,
 ⟨19, .ar .add false (.t 18) (.k (.sc (.int .i64 1))), none, false⟩,
 ⟨1, .mv (.t 19), none, false⟩])
 (.seq
 (.reg false [⟨20, .mv (.t 0), none, false⟩,
 ⟨21, .mv (.t 5), none, false⟩,
 ⟨22, .mv (.t 1), none, false⟩,
 ⟨23, .ia 3 (.t 20) (.t 21), none, false⟩,
 ⟨24, .fa 1 (.t 23), none, false⟩,
 ⟨1, .so 1 (.t 24) (.t 22), none, true⟩])
 (.seq
 (.reg false [⟨25, .mv (.t 1), none, false⟩,
 ⟨26, .ar .add false (.t 25) (.k (.sc (.int .i64 1))), none, false⟩,
 ⟨1, .mv (.t 26), none, false⟩])
 (.seq
 (.reg false [⟨27, .mv (.t 0), none, false⟩,
 ⟨28, .mv (.t 5), none, false⟩,
 ⟨29, .mv (.t 1), none, false⟩,
 ⟨30, .ia 3 (.t 27) (.t 28), none, false⟩,
 ⟨31, .fa 2 (.t 30), none, false⟩,
 ⟨1, .so 1 (.t 31) (.t 29), none, true⟩])
 (.reg false [⟨32, .mv (.t 1), none, false⟩,
 ⟨33, .ar .add false (.t 32) (.k (.sc (.int .i64 1))), none, false⟩,
 ⟨1, .mv (.t 33), none, false⟩])))))))
 (.reg false [⟨10, .mv (.t 5), none, false⟩,
 ⟨11, .ar .add false (.t 10) (.k (.sc (.int .i64 1))), none, false⟩,
 ⟨5, .mv (.t 11), none, false⟩])))
def b33_1 : IC := w33_1
theorem u33_1 (call : CallF) (st : St) : evC call b33_1 st = evC call w33_1 st := rfl
attribute [simp] u33_1 w33_1
def i33 : Ev.Fn := ⟨2, 35, [.tmp 4],
 (.seq
 (.reg false [⟨4, .mv (.k (.sc (.int .i64 0))), none, false⟩])
 (.seq
 (.seq
 (.reg false [⟨5, .mv (.k (.sc (.int .i64 0))), none, false⟩])
 (.cln [1, 100000] [4, 100000]
 (.block 0
 (.loop [0, 1, 5, 100000] b33_1))))
 (.seq
 (.reg false [⟨34, .mv (.t 1), none, false⟩,
 ⟨4, .mv (.t 34), none, false⟩])
 .ret)))⟩
attribute [simp] i33
set_option maxRecDepth 1000000 in
theorem c33 : cFn Tryz.prog 33 [[], [0, 1, 5, 100000], [1, 100000], [4, 100000]] = some i33 := by kernel_rfl
theorem e33 : enterOk Tryz.prog 33 = true := by kernel_rfl
def w34_1 : IC :=
(.seq
 (.seq
 (.reg false [⟨6, .mv (.t 0), none, false⟩,
 ⟨7, .ar .gtr false (.t 6) (.k (.sc (.int .i64 0))), none, false⟩])
 (.ite (.t 7)
 .skip
 (.exit 0)))
 (.block 1
 (.seq
 (.reg false [⟨8, .mv (.t 0), none, false⟩,
 ⟨9, .ar .rem false (.t 8) (.k (.sc (.int .i64 10))), none, false⟩,
 ⟨10, .ar .add false (.k (.sc (.int .i64 48))) (.t 9), none, false⟩,
 ⟨11, .cv .u8 (.t 10), none, false⟩,
 ⟨12, .bs 5 1 [(.sc (.int .u8 0))] 1 [(0, (.t 11))], none, false⟩,
 ⟨13, .by (.t 12), none, false⟩,
 ⟨14, .mv (.t 3), none, false⟩,
 ⟨15, .ar .add false (.t 13) (.t 14), none, false⟩,
 ⟨3, .mv (.t 15), none, false⟩])
 (.reg false [⟨16, .mv (.t 0), none, false⟩,
 ⟨17, .ar .quo false (.t 16) (.k (.sc (.int .i64 10))), none, false⟩,
 ⟨0, .mv (.t 17), none, false⟩]))))
def b34_1 : IC := w34_1
theorem u34_1 (call : CallF) (st : St) : evC call b34_1 st = evC call w34_1 st := rfl
attribute [simp] u34_1 w34_1
def i34 : Ev.Fn := ⟨1, 20, [.tmp 2],
 (.seq
 (.reg false [⟨2, .mv (.k (.sc (.string ⟨#[]⟩))), none, false⟩])
 (.seq
 (.seq
 (.reg false [⟨4, .mv (.t 0), none, false⟩,
 ⟨5, .ar .leq false (.t 4) (.k (.sc (.int .i64 0))), none, false⟩])
 (.ite (.t 5)
 (.seq
 (.reg false [⟨2, .mv (.k (.sc (.string ⟨#[109, 48]⟩))), none, false⟩])
 .ret)
 .skip))
 (.seq
 (.reg false [⟨3, .mv (.k (.sc (.string ⟨#[]⟩))), none, false⟩])
 (.seq
 (.cln [3] [2]
 (.block 0
 (.loop [0, 3] b34_1)))
 (.seq
 (.reg false [⟨18, .mv (.t 3), none, false⟩,
 ⟨19, .ar .add false (.k (.sc (.string ⟨#[109]⟩))) (.t 18), none, false⟩,
 ⟨2, .mv (.t 19), none, false⟩])
 .ret)))))⟩
attribute [simp] i34
set_option maxRecDepth 1000000 in
theorem c34 : cFn Tryz.prog 34 [[], [0, 3], [3], [2]] = some i34 := by kernel_rfl
theorem e34 : enterOk Tryz.prog 34 = true := by kernel_rfl
def i35 : Ev.Fn := ⟨1, 5, [.tmp 2],
 (.seq
 (.reg false [⟨2, .mv (.k (.sc (.bool false))), none, false⟩])
 (.seq
 (.reg false [⟨3, .mv (.t 0), none, false⟩,
 ⟨4, .ca (.k (.cl 71 [])) [(.t 3), (.k (.sc (.int .i64 0))), (.k (.sc (.int .i64 7)))], none, false⟩,
 ⟨2, .mv (.t 4), none, false⟩])
 .ret))⟩
attribute [simp] i35
set_option maxRecDepth 1000000 in
theorem c35 : cFn Tryz.prog 35 [[]] = some i35 := by kernel_rfl
theorem e35 : enterOk Tryz.prog 35 = true := by kernel_rfl
def i36 : Ev.Fn := ⟨1, 14, [.cell 2 5 true],
 (.seq
 (.reg false [⟨2, .al [(.sc (.int .i64 0)), (.sc (.int .i64 0)), .nl, .nl, .nl], none, false⟩])
 (.seq
 (.reg true [⟨3, .mv (.t 0), none, false⟩,
 ⟨4, .nc (.t 3), none, false⟩,
 ⟨5, .fa 0 (.t 4), none, false⟩,
 ⟨6, .ca (.k (.cl 72 [])) [(.t 5)], none, false⟩,
 ⟨7, .bs 61 3 [(.sc (.string ⟨#[]⟩)), (.sc (.int .i64 0)), (.sc (.int .i64 0))] 0 [], none, false⟩,
 ⟨8, .mv (.t 0), none, false⟩,
 ⟨9, .nc (.t 8), none, false⟩,
 ⟨10, .fa 4 (.t 9), none, false⟩,
 ⟨11, .ld 1 false (.t 10), none, false⟩,
 ⟨12, .ap 61 3 false (.t 7) (.t 11), none, false⟩,
 ⟨13, .bd [(.sc (.int .i64 0)), (.sc (.int .i64 0)), .nl, .nl, .nl] [(0, 4, (.t 6)), (4, 1, (.t 12))], none, false⟩,
 ⟨1, .so 5 (.t 2) (.t 13), none, true⟩])
 .ret))⟩
attribute [simp] i36
set_option maxRecDepth 1000000 in
theorem c36 : cFn Tryz.prog 36 [[]] = some i36 := by kernel_rfl
theorem e36 : enterOk Tryz.prog 36 = true := by kernel_rfl
def w37_1 : IC :=
(.seq
 (.seq
 (.reg false [⟨16, .mv (.t 5), none, false⟩,
 ⟨17, .ar .gtr false (.t 16) (.k (.sc (.int .i64 0))), none, false⟩])
 (.ite (.t 17)
 .skip
 (.exit 0)))
 (.seq
 (.block 1
 (.reg false [⟨20, .fa 1 (.t 2), none, false⟩,
 ⟨21, .ld 1 false (.t 20), none, false⟩,
 ⟨22, .ng (.t 21), none, false⟩,
 ⟨23, .fa 0 (.t 2), none, false⟩,
 ⟨24, .ld 1 false (.t 23), none, false⟩,
 ⟨25, .bd [(.sc (.int .i64 0)), (.sc (.int .i64 0))] [(0, 1, (.t 22)), (1, 1, (.t 24))], none, false⟩,
 ⟨1, .so 2 (.t 2) (.t 25), none, true⟩]))
 (.reg false [⟨18, .mv (.t 5), none, false⟩,
 ⟨19, .ar .sub false (.t 18) (.k (.sc (.int .i64 1))), none, false⟩,
 ⟨5, .mv (.t 19), none, false⟩])))
def b37_1 : IC := w37_1
theorem u37_1 (call : CallF) (st : St) : evC call b37_1 st = evC call w37_1 st := rfl
attribute [simp] u37_1 w37_1
def i37 : Ev.Fn := ⟨2, 27, [.cell 4 2 true],
 (.seq
 (.reg false [⟨2, .bx (.t 0), none, false⟩,
 ⟨4, .al [(.sc (.int .i64 0)), (.sc (.int .i64 0))], none, false⟩])
 (.seq
 (.seq
 (.reg false [⟨6, .mv (.t 1), none, false⟩,
 ⟨7, .ar .geq false (.t 6) (.k (.sc (.int .i64 4))), none, false⟩])
 (.ite (.t 7)
 (.reg false [⟨8, .fa 0 (.t 2), none, false⟩,
 ⟨9, .ld 1 false (.t 8), none, false⟩,
 ⟨10, .ng (.t 9), none, false⟩,
 ⟨11, .fa 1 (.t 2), none, false⟩,
 ⟨12, .ld 1 false (.t 11), none, false⟩,
 ⟨13, .bd [(.sc (.int .i64 0)), (.sc (.int .i64 0))] [(0, 1, (.t 10)), (1, 1, (.t 12))], none, false⟩,
 ⟨1, .so 2 (.t 2) (.t 13), none, true⟩])
 .skip))
 (.seq
 (.seq
 (.reg false [⟨14, .mv (.t 1), none, false⟩,
 ⟨15, .ar .rem false (.t 14) (.k (.sc (.int .i64 4))), none, false⟩,
 ⟨5, .mv (.t 15), none, false⟩])
 (.cln [2, 4] [4]
 (.block 0
 (.loop [2, 4, 5] b37_1))))
 (.seq
 (.reg false [⟨26, .ld 2 true (.t 2), none, false⟩,
 ⟨1, .so 2 (.t 4) (.t 26), none, true⟩])
 .ret))))⟩
attribute [simp] i37
set_option maxRecDepth 1000000 in
theorem c37 : cFn Tryz.prog 37 [[], [2, 4, 5], [2, 4], [4]] = some i37 := by kernel_rfl
theorem e37 : enterOk Tryz.prog 37 = true := by kernel_rfl
def i38 : Ev.Fn := ⟨2, 10, [.tmp 4],
 (.seq
 (.reg false [⟨4, .mv (.k (.sc (.int .i64 0))), none, false⟩])
 (.seq
 (.seq
 (.reg false [⟨5, .mv (.t 0), none, false⟩,
 ⟨6, .mv (.t 1), none, false⟩,
 ⟨7, .ar .lss false (.t 5) (.t 6), none, false⟩])
 (.ite (.t 7)
 (.seq
 (.reg false [⟨8, .mv (.t 0), none, false⟩,
 ⟨4, .mv (.t 8), none, false⟩])
 .ret)
 .skip))
 (.seq
 (.reg false [⟨9, .mv (.t 1), none, false⟩,
 ⟨4, .mv (.t 9), none, false⟩])
 .ret)))⟩
attribute [simp] i38
set_option maxRecDepth 1000000 in
theorem c38 : cFn Tryz.prog 38 [[]] = some i38 := by kernel_rfl
theorem e38 : enterOk Tryz.prog 38 = true := by kernel_rfl
def i39 : Ev.Fn := ⟨2, 14, [.tmp 4],
 (.seq
 (.reg false [⟨4, .mv (.k (.sc (.int .i64 0))), none, false⟩])
 (.seq
 (.seq
 (.reg false [⟨5, .mv (.t 1), none, false⟩,
 ⟨6, .ar .geq false (.t 5) (.k (.sc (.int .i64 4))), none, false⟩])
 (.ite (.t 6)
 (.reg false [⟨7, .mv (.t 0), none, false⟩,
 ⟨8, .ar .sub false (.k (.sc (.int .i64 180))) (.t 7), none, false⟩,
 ⟨0, .mv (.t 8), none, false⟩])
 .skip))
 (.seq
 (.reg false [⟨9, .mv (.t 0), none, false⟩,
 ⟨10, .mv (.t 1), none, false⟩,
 ⟨11, .ar .mul false (.k (.sc (.int .i64 90))) (.t 10), none, false⟩,
 ⟨12, .ar .add false (.t 9) (.t 11), none, false⟩,
 ⟨13, .ar .rem false (.t 12) (.k (.sc (.int .i64 180))), none, false⟩,
 ⟨4, .mv (.t 13), none, false⟩])
 .ret)))⟩
attribute [simp] i39
set_option maxRecDepth 1000000 in
theorem c39 : cFn Tryz.prog 39 [[]] = some i39 := by kernel_rfl
theorem e39 : enterOk Tryz.prog 39 = true := by kernel_rfl
def i40 : Ev.Fn := ⟨3, 15, [.tmp 6],
 (.seq
 (.reg false [⟨6, .mv (.k (.sc (.bool false))), none, false⟩])
 (.seq
 (.reg false [⟨7, .mv (.t 0), none, false⟩,
 ⟨8, .mv (.t 1), none, false⟩,
 ⟨9, .ar .geq false (.t 7) (.t 8), none, false⟩,
 ⟨10, .mv (.t 9), none, false⟩,
 ⟨11, .mv (.t 0), (some (10, true)), false⟩,
 ⟨12, .mv (.t 2), (some (10, true)), false⟩,
 ⟨13, .ar .leq false (.t 11) (.t 12), (some (10, true)), false⟩,
 ⟨14, .pk (.t 10) (.t 13) (.k (.sc (.bool false))), none, false⟩,
 ⟨6, .mv (.t 14), none, false⟩])
 .ret))⟩
attribute [simp] i40
set_option maxRecDepth 1000000 in
theorem c40 : cFn Tryz.prog 40 [[]] = some i40 := by kernel_rfl
theorem e40 : enterOk Tryz.prog 40 = true := by kernel_rfl
def i41 : Ev.Fn := ⟨1, 10, [.cell 2 5 true],
 (.seq
 (.reg false [⟨1, .bx (.t 0), none, false⟩,
 ⟨2, .al [(.sc (.int .i64 0)), (.sc (.int .i64 0)), .nl, .nl, .nl], none, false⟩])
 (.seq
 (.reg true [⟨3, .fa 0 (.t 1), none, false⟩,
 ⟨4, .ld 4 true (.t 3), none, false⟩,
 ⟨5, .ca (.k (.cl 73 [])) [(.t 4)], none, false⟩,
 ⟨6, .fa 4 (.t 1), none, false⟩,
 ⟨7, .ld 1 false (.t 6), none, false⟩,
 ⟨8, .ca (.k (.cl 74 [])) [(.t 7)], none, false⟩,
 ⟨9, .bd [(.sc (.int .i64 0)), (.sc (.int .i64 0)), .nl, .nl, .nl] [(0, 4, (.t 5)), (4, 1, (.t 8))], none, false⟩,
 ⟨1, .so 5 (.t 2) (.t 9), none, true⟩])
 .ret))⟩
attribute [simp] i41
set_option maxRecDepth 1000000 in
theorem c41 : cFn Tryz.prog 41 [[]] = some i41 := by kernel_rfl
theorem e41 : enterOk Tryz.prog 41 = true := by kernel_rfl
def w42_1 : IC :=
(.seq
 (.seq
 (.reg false [⟨30, .mv (.t 5), none, false⟩,
 ⟨31, .ar .gtr false (.t 30) (.k (.sc (.int .i64 0))), none, false⟩])
 (.ite (.t 31)
 .skip
 (.exit 0)))
 (.seq
 (.block 1
 (.reg false [⟨34, .fa 1 (.t 2), none, false⟩,
 ⟨35, .ld 1 false (.t 34), none, false⟩,
 ⟨36, .ng (.t 35), none, false⟩,
 ⟨37, .fa 0 (.t 2), none, false⟩,
 ⟨38, .ld 1 false (.t 37), none, false⟩,
 ⟨39, .bd [(.sc (.int .i64 0)), (.sc (.int .i64 0))] [(0, 1, (.t 36)), (1, 1, (.t 38))], none, false⟩,
 ⟨1, .so 2 (.t 2) (.t 39), none, true⟩]))
 (.reg false [⟨32, .mv (.t 5), none, false⟩,
 ⟨33, .ar .sub false (.t 32) (.k (.sc (.int .i64 1))), none, false⟩,
 ⟨5, .mv (.t 33), none, false⟩])))
def b42_1 : IC := w42_1
theorem u42_1 (call : CallF) (st : St) : evC call b42_1 st = evC call w42_1 st := rfl
attribute [simp] u42_1 w42_1
def i42 : Ev.Fn := ⟨2, 41, [.cell 4 2 true],
 (.seq
 (.reg false [⟨2, .bx (.t 0), none, false⟩,
 ⟨4, .al [(.sc (.int .i64 0)), (.sc (.int .i64 0))], none, false⟩])
 (.seq
 (.seq
 (.reg false [⟨6, .mv (.t 1), none, false⟩,
 ⟨7, .ca (.k (.cl 40 [])) [(.t 6), (.k (.sc (.int .i64 0))), (.k (.sc (.int .i64 7)))], none, false⟩,
 ⟨8, .nt (.t 7), none, false⟩,
 ⟨9, .mv (.t 8), none, false⟩,
 ⟨10, .fa 0 (.t 2), (some (9, false)), false⟩,
 ⟨11, .ld 1 false (.t 10), (some (9, false)), false⟩,
 ⟨12, .ca (.k (.cl 40 [])) [(.t 11), (.k (.sc (.int .i64 (-20000)))), (.k (.sc (.int .i64 20000)))], (some (9, false)), false⟩,
 ⟨13, .nt (.t 12), (some (9, false)), false⟩,
 ⟨14, .pk (.t 9) (.k (.sc (.bool true))) (.t 13), none, false⟩,
 ⟨15, .mv (.t 14), none, false⟩,
 ⟨16, .fa 1 (.t 2), (some (15, false)), false⟩,
 ⟨17, .ld 1 false (.t 16), (some (15, false)), false⟩,
 ⟨18, .ca (.k (.cl 40 [])) [(.t 17), (.k (.sc (.int .i64 (-20000)))), (.k (.sc (.int .i64 20000)))], (some (15, false)), false⟩,
 ⟨19, .nt (.t 18), (some (15, false)), false⟩,
 ⟨20, .pk (.t 15) (.k (.sc (.bool true))) (.t 19), none, false⟩])
 (.ite (.t 20)
 (.seq
 (.reg false [⟨21, .bd [(.sc (.int .i64 0)), (.sc (.int .i64 0))] [], none, false⟩,
 ⟨1, .so 2 (.t 4) (.t 21), none, true⟩])
 .ret)
 .skip))
 (.seq
 (.seq
 (.reg false [⟨22, .mv (.t 1), none, false⟩,
 ⟨23, .ar .gtr false (.t 22) (.k (.sc (.int .i64 3))), none, false⟩])
 (.ite (.t 23)
 (.reg false [⟨24, .fa 0 (.t 2), none, false⟩,
 ⟨25, .ld 1 false (.t 24), none, false⟩,
 ⟨26, .ng (.t 25), none, false⟩,
 ⟨27, .fa 0 (.t 2), none, false⟩,
 ⟨1, .so 1 (.t 27) (.t 26), none, true⟩])
 .skip))
 (.seq
 (.seq
 (.reg false [⟨28, .mv (.t 1), none, false⟩,
 ⟨29, .ar .rem false (.t 28) (.k (.sc (.int .i64 4))), none, false⟩,
 ⟨5, .mv (.t 29), none, false⟩])
 (.cln [2, 4] [4]
 (.block 0
 (.loop [2, 4, 5] b42_1))))
 (.seq
 (.reg false [⟨40, .ld 2 true (.t 2), none, false⟩,
 ⟨1, .so 2 (.t 4) (.t 40), none, true⟩])
 .ret)))))⟩
attribute [simp] i42
set_option maxRecDepth 1000000 in
theorem c42 : cFn Tryz.prog 42 [[], [2, 4, 5], [2, 4], [4]] = some i42 := by kernel_rfl
theorem e42 : enterOk Tryz.prog 42 = true := by kernel_rfl
def w43_1 : IC :=
(.seq
 (.seq
 (.reg false [⟨7, .mv (.t 2), none, false⟩,
 ⟨8, .mv (.t 3), none, false⟩,
 ⟨9, .ar .lss false (.t 7) (.t 8), none, false⟩])
 (.ite (.t 9)
 .skip
 (.exit 0)))
 (.seq
 (.block 1
 (.rgc [] [⟨14, .mv (.t 0), none, false⟩,
 ⟨15, .mv (.t 2), none, false⟩,
 ⟨16, .mv (.t 0), none, false⟩,
 ⟨17, .mv (.t 3), none, false⟩,
 ⟨18, .mv (.t 0), none, false⟩,
 ⟨19, .mv (.t 3), none, false⟩,
 ⟨20, .ia 1 (.t 18) (.t 19), none, false⟩,
 ⟨21, .ld 1 false (.t 20), none, false⟩,
 ⟨22, .mv (.t 0), none, false⟩,
 ⟨23, .mv (.t 2), none, false⟩,
 ⟨24, .ia 1 (.t 22) (.t 23), none, false⟩,
 ⟨25, .ld 1 false (.t 24), none, false⟩,
 ⟨26, .ia 1 (.t 14) (.t 15), none, false⟩,
 ⟨0, .so 1 (.t 26) (.t 21), none, true⟩,
 ⟨27, .ia 1 (.t 16) (.t 17), none, false⟩,
 ⟨0, .so 1 (.t 27) (.t 25), none, true⟩]))
 (.reg false [⟨10, .mv (.t 2), none, false⟩,
 ⟨11, .ar .add false (.t 10) (.k (.sc (.int .i64 1))), none, false⟩,
 ⟨12, .mv (.t 3), none, false⟩,
 ⟨13, .ar .sub false (.t 12) (.k (.sc (.int .i64 1))), none, false⟩,
 ⟨2, .mv (.t 11), none, false⟩,
 ⟨3, .mv (.t 13), none, false⟩])))
def b43_1 : IC := w43_1
theorem u43_1 (call : CallF) (st : St) : evC call b43_1 st = evC call w43_1 st := rfl
attribute [simp] u43_1 w43_1
def i43 : Ev.Fn := ⟨1, 28, [],
 (.seq
 (.reg false [⟨4, .mv (.t 0), none, false⟩,
 ⟨5, .ln false (.t 4), none, false⟩,
 ⟨6, .ar .sub false (.t 5) (.k (.sc (.int .i64 1))), none, false⟩,
 ⟨2, .mv (.k (.sc (.int .i64 0))), none, false⟩,
 ⟨3, .mv (.t 6), none, false⟩])
 (.cln [100000] [100000]
 (.block 0
 (.loop [0, 2, 3, 100000] b43_1))))⟩
attribute [simp] i43
set_option maxRecDepth 1000000 in
theorem c43 : cFn Tryz.prog 43 [[], [0, 2, 3, 100000], [100000], [100000]] = some i43 := by kernel_rfl
theorem e43 : enterOk Tryz.prog 43 = true := by kernel_rfl
def i44 : Ev.Fn := ⟨2, 23, [.tmp 4, .tmp 5],
 (.seq
 (.reg false [⟨4, .mv (.k (.sc (.int .i64 0))), none, false⟩,
 ⟨5, .mv (.k (.sc (.int .i64 0))), none, false⟩])
 (.seq
 (.seq
 (.reg false [⟨6, .mv (.t 0), none, false⟩,
 ⟨7, .ca (.k (.cl 40 [])) [(.t 6), (.k (.sc (.int .i64 0))), (.k (.sc (.int .i64 179)))], none, false⟩,
 ⟨8, .nt (.t 7), none, false⟩,
 ⟨9, .mv (.t 8), none, false⟩,
 ⟨10, .mv (.t 1), (some (9, false)), false⟩,
 ⟨11, .ca (.k (.cl 40 [])) [(.t 10), (.k (.sc (.int .i64 0))), (.k (.sc (.int .i64 7)))], (some (9, false)), false⟩,
 ⟨12, .nt (.t 11), (some (9, false)), false⟩,
 ⟨13, .pk (.t 9) (.k (.sc (.bool true))) (.t 12), none, false⟩])
 (.ite (.t 13)
 (.seq
 (.reg false [⟨4, .mv (.k (.sc (.int .i64 0))), none, false⟩,
 ⟨5, .mv (.k (.sc (.int .i64 2))), none, false⟩])
 .ret)
 .skip))
 (.seq
 (.seq
 (.reg false [⟨14, .mv (.t 1), none, false⟩,
 ⟨15, .ar .gtr false (.t 14) (.k (.sc (.int .i64 3))), none, false⟩])
 (.ite (.t 15)
 (.reg false [⟨16, .mv (.t 0), none, false⟩,
 ⟨17, .ar .sub false (.k (.sc (.int .i64 180))) (.t 16), none, false⟩,
 ⟨0, .mv (.t 17), none, false⟩])
 .skip))
 (.seq
 (.reg false [⟨18, .mv (.t 0), none, false⟩,
 ⟨19, .mv (.t 1), none, false⟩,
 ⟨20, .ar .mul false (.k (.sc (.int .i64 90))) (.t 19), none, false⟩,
 ⟨21, .ar .add false (.t 18) (.t 20), none, false⟩,
 ⟨22, .ar .rem false (.t 21) (.k (.sc (.int .i64 180))), none, false⟩,
 ⟨4, .mv (.t 22), none, false⟩,
 ⟨5, .mv (.k (.sc (.int .i64 0))), none, false⟩])
 .ret))))⟩
attribute [simp] i44
set_option maxRecDepth 1000000 in
theorem c44 : cFn Tryz.prog 44 [[]] = some i44 := by kernel_rfl
theorem e44 : enterOk Tryz.prog 44 = true := by kernel_rfl
def w45_1 : IC :=
(.seq
 (.seq
 (.reg false [⟨6, .mv (.t 5), none, false⟩,
 ⟨7, .mv (.t 0), none, false⟩,
 ⟨8, .ln false (.t 7), none, false⟩,
 ⟨9, .ar .lss false (.t 6) (.t 8), none, false⟩])
 (.ite (.t 9)
 .skip
 (.exit 0)))
 (.seq
 (.block 1
 (.seq
 (.seq
 (.reg true [⟨12, .mv (.t 0), none, false⟩,
 ⟨13, .mv (.t 5), none, false⟩,
 ⟨14, .ia 3 (.t 12) (.t 13), none, false⟩,
 ⟨15, .fa 0 (.t 14), none, false⟩,
 ⟨16, .ld 1 false (.t 15), none, false⟩,
 ⟨17, .mv (.t 1), none, false⟩,
 ⟨18, .ca (.k (.cl 34 [])) [(.t 17)], none, false⟩,
 ⟨19, .ar .neq false (.t 16) (.t 18), none, false⟩])
 (.ite (.t 19)
 (.seq
 (.reg false [⟨4, .mv (.k (.sc (.int .i64 (-1)))), none, false⟩])
 .ret)
 .skip))
 (.seq
 (.reg false [⟨20, .mv (.t 1), none, false⟩,
 ⟨21, .ar .add false (.t 20) (.k (.sc (.int .i64 1))), none, false⟩,
 ⟨1, .mv (.t 21), none, false⟩])
 (.seq
 (.seq
 (.reg false [⟨22, .mv (.t 0), none, false⟩,
 ⟨23, .mv (.t 5), none, false⟩,
 ⟨24, .ia 3 (.t 22) (.t 23), none, false⟩,
 ⟨25, .fa 1 (.t 24), none, false⟩,
 ⟨26, .ld 1 false (.t 25), none, false⟩,
 ⟨27, .mv (.t 1), none, false⟩,
 ⟨28, .ar .neq false (.t 26) (.t 27), none, false⟩])
 (.ite (.t 28)
 (.seq
 (.reg false [⟨4, .mv (.k (.sc (.int .i64 (-1)))), none, false⟩])
 .ret)
 .skip))
 (.seq
 (.reg false [⟨29, .mv (.t 1), none, false⟩,
 ⟨30, .ar .add false (.t 29) (.k (.sc (.int .i64 1))), none, false⟩,
 ⟨1, .mv (.t 30), none, false⟩])
 (.seq
 (.seq
 (.reg false [⟨31, .mv (.t 0), none, false⟩,
 ⟨32, .mv (.t 5), none, false⟩,
 ⟨33, .ia 3 (.t 31) (.t 32), none, false⟩,
 ⟨34, .fa 2 (.t 33), none, false⟩,
 ⟨35, .ld 1 false (.t 34), none, false⟩,
 ⟨36, .mv (.t 1), none, false⟩,
 ⟨37, .ar .neq false (.t 35) (.t 36), none, false⟩])
 (.ite (.t 37)
 (.seq
 (.reg false [⟨4, .mv (.k (.sc (.int .i64 (-1)))), none, false⟩])
 .ret)
 .skip))
 (.reg false [⟨38, .mv (.t 1), none, false⟩,
 ⟨39, .ar .add false (.t 38) (.k (.sc (.int .i64 1))), none, false⟩,
 ⟨1, .mv (.t 39), none, false⟩])))))))
 (.reg false [⟨10, .mv (.t 5), none, false⟩,
 ⟨11, .ar .add false (.t 10) (.k (.sc (.int .i64 1))), none, false⟩,
 ⟨5, .mv (.t 11), none, false⟩])))
def b45_1 : IC := w45_1
theorem u45_1 (call : CallF) (st : St) : evC call b45_1 st = evC call w45_1 st := rfl
attribute [simp] u45_1 w45_1
def i45 : Ev.Fn := ⟨2, 41, [.tmp 4],
 (.seq
 (.reg false [⟨4, .mv (.k (.sc (.int .i64 0))), none, false⟩])
 (.seq
 (.seq
 (.reg false [⟨5, .mv (.k (.sc (.int .i64 0))), none, false⟩])
 (.cln [1] [4]
 (.block 0
 (.loop [0, 1, 5] b45_1))))
 (.seq
 (.reg false [⟨40, .mv (.t 1), none, false⟩,
 ⟨4, .mv (.t 40), none, false⟩])
 .ret)))⟩
attribute [simp] i45
set_option maxRecDepth 1000000 in
theorem c45 : cFn Tryz.prog 45 [[], [0, 1, 5], [1], [4]] = some i45 := by kernel_rfl
theorem e45 : enterOk Tryz.prog 45 = true := by kernel_rfl
def i46 : Ev.Fn := ⟨2, 12, [.tmp 4],
 (.seq
 (.reg false [⟨4, .mv (.k (.sc (.int .i64 0))), none, false⟩])
 (.seq
 (.reg false [⟨5, .mv (.t 1), none, false⟩,
 ⟨6, .mv (.t 0), none, false⟩,
 ⟨7, .ln false (.t 6), none, false⟩,
 ⟨8, .ar .sub false (.t 5) (.t 7), none, false⟩,
 ⟨1, .mv (.t 8), none, false⟩])
 (.seq
 (.seq
 (.reg false [⟨9, .mv (.t 1), none, false⟩,
 ⟨10, .ar .lss false (.t 9) (.k (.sc (.int .i64 0))), none, false⟩])
 (.ite (.t 10)
 (.seq
 (.reg false [⟨4, .mv (.k (.sc (.int .i64 (-1)))), none, false⟩])
 .ret)
 .skip))
 (.seq
 (.reg false [⟨11, .mv (.t 1), none, false⟩,
 ⟨4, .mv (.t 11), none, false⟩])
 .ret))))⟩
attribute [simp] i46
set_option maxRecDepth 1000000 in
theorem c46 : cFn Tryz.prog 46 [[]] = some i46 := by kernel_rfl
theorem e46 : enterOk Tryz.prog 46 = true := by kernel_rfl
def w47_1 : IC :=
(.seq
 (.seq
 (.reg false [⟨12, .mv (.t 5), none, false⟩,
 ⟨13, .mv (.t 0), none, false⟩,
 ⟨14, .ln false (.t 13), none, false⟩,
 ⟨15, .ar .lss false (.t 12) (.t 14), none, false⟩])
 (.ite (.t 15)
 .skip
 (.exit 0)))
 (.seq
 (.block 1
 (.seq
 (.reg false [⟨18, .mv (.t 0), none, false⟩,
 ⟨19, .mv (.t 5), none, false⟩,
 ⟨20, .ia 2 (.t 18) (.t 19), none, false⟩,
 ⟨21, .ld 2 true (.t 20), none, false⟩,
 ⟨22, .mv (.t 1), none, false⟩,
 ⟨23, .ca (.k (.cl 75 [])) [(.t 21), (.t 22)], none, false⟩,
 ⟨1, .mv (.t 23), none, false⟩])
 (.seq
 (.reg false [⟨24, .mv (.t 1), none, false⟩,
 ⟨25, .ar .lss false (.t 24) (.k (.sc (.int .i64 0))), none, false⟩])
 (.ite (.t 25)
 (.seq
 (.reg false [⟨4, .mv (.k (.sc (.int .i64 (-1)))), none, false⟩])
 .ret)
 .skip))))
 (.reg false [⟨16, .mv (.t 5), none, false⟩,
 ⟨17, .ar .add false (.t 16) (.k (.sc (.int .i64 1))), none, false⟩,
 ⟨5, .mv (.t 17), none, false⟩])))
def b47_1 : IC := w47_1
theorem u47_1 (call : CallF) (st : St) : evC call b47_1 st = evC call w47_1 st := rfl
attribute [simp] u47_1 w47_1
def i47 : Ev.Fn := ⟨2, 27, [.tmp 4],
 (.seq
 (.reg false [⟨4, .mv (.k (.sc (.int .i64 0))), none, false⟩])
 (.seq
 (.reg false [⟨6, .mv (.t 1), none, false⟩,
 ⟨7, .mv (.t 0), none, false⟩,
 ⟨8, .ln false (.t 7), none, false⟩,
 ⟨9, .ar .sub false (.t 6) (.t 8), none, false⟩,
 ⟨1, .mv (.t 9), none, false⟩])
 (.seq
 (.seq
 (.reg false [⟨10, .mv (.t 1), none, false⟩,
 ⟨11, .ar .lss false (.t 10) (.k (.sc (.int .i64 0))), none, false⟩])
 (.ite (.t 11)
 (.seq
 (.reg false [⟨4, .mv (.k (.sc (.int .i64 (-1)))), none, false⟩])
 .ret)
 .skip))
 (.seq
 (.seq
 (.reg false [⟨5, .mv (.k (.sc (.int .i64 0))), none, false⟩])
 (.cln [1] [4]
 (.block 0
 (.loop [0, 1, 5] b47_1))))
 (.seq
 (.reg false [⟨26, .mv (.t 1), none, false⟩,
 ⟨4, .mv (.t 26), none, false⟩])
 .ret)))))⟩
attribute [simp] i47
set_option maxRecDepth 1000000 in
theorem c47 : cFn Tryz.prog 47 [[], [0, 1, 5], [1], [4]] = some i47 := by kernel_rfl
theorem e47 : enterOk Tryz.prog 47 = true := by kernel_rfl
def w49_1 : IC :=
(.seq
 (.seq
 (.reg false [⟨8, .mv (.t 4), none, false⟩,
 ⟨9, .mv (.t 0), none, false⟩,
 ⟨10, .ln false (.t 9), none, false⟩,
 ⟨11, .ar .lss false (.t 8) (.t 10), none, false⟩])
 (.ite (.t 11)
 .skip
 (.exit 0)))
 (.seq
 (.block 1
 (.reg false [⟨14, .mv (.t 3), none, false⟩,
 ⟨15, .mv (.t 4), none, false⟩,
 ⟨16, .mv (.t 0), none, false⟩,
 ⟨17, .mv (.t 4), none, false⟩,
 ⟨18, .ia 2 (.t 16) (.t 17), none, false⟩,
 ⟨19, .ld 2 true (.t 18), none, false⟩,
 ⟨20, .ca (.k (.cl 81 [])) [(.t 19)], none, false⟩,
 ⟨21, .ia 2 (.t 14) (.t 15), none, false⟩,
 ⟨1, .so 2 (.t 21) (.t 20), none, true⟩]))
 (.reg false [⟨12, .mv (.t 4), none, false⟩,
 ⟨13, .ar .add false (.t 12) (.k (.sc (.int .i64 1))), none, false⟩,
 ⟨4, .mv (.t 13), none, false⟩])))
def b49_1 : IC := w49_1
theorem u49_1 (call : CallF) (st : St) : evC call b49_1 st = evC call w49_1 st := rfl
attribute [simp] u49_1 w49_1
def i49 : Ev.Fn := ⟨1, 23, [.tmp 2],
 (.seq
 (.reg false [⟨2, .mv (.k .nl), none, false⟩])
 (.seq
 (.reg false [⟨5, .mv (.t 0), none, false⟩,
 ⟨6, .ln false (.t 5), none, false⟩,
 ⟨7, .ms 72 2 [(.sc (.int .i64 0)), (.sc (.int .i64 0))] (.t 6), none, false⟩,
 ⟨3, .mv (.t 7), none, false⟩])
 (.seq
 (.seq
 (.reg false [⟨4, .mv (.k (.sc (.int .i64 0))), none, false⟩])
 (.cln [3] [2]
 (.block 0
 (.loop [0, 3, 4] b49_1))))
 (.seq
 (.reg false [⟨22, .mv (.t 3), none, false⟩,
 ⟨2, .mv (.t 22), none, false⟩])
 .ret))))⟩
attribute [simp] i49
set_option maxRecDepth 1000000 in
theorem c49 : cFn Tryz.prog 49 [[], [0, 3, 4], [3], [2]] = some i49 := by kernel_rfl
theorem e49 : enterOk Tryz.prog 49 = true := by kernel_rfl
def w50_1 : IC :=
(.seq
 (.seq
 (.reg false [⟨8, .mv (.t 4), none, false⟩,
 ⟨9, .mv (.t 0), none, false⟩,
 ⟨10, .ln false (.t 9), none, false⟩,
 ⟨11, .ar .lss false (.t 8) (.t 10), none, false⟩])
 (.ite (.t 11)
 .skip
 (.exit 0)))
 (.seq
 (.block 1
 (.reg false [⟨14, .mv (.t 3), none, false⟩,
 ⟨15, .mv (.t 4), none, false⟩,
 ⟨16, .mv (.t 0), none, false⟩,
 ⟨17, .mv (.t 4), none, false⟩,
 ⟨18, .ia 2 (.t 16) (.t 17), none, false⟩,
 ⟨19, .ld 2 true (.t 18), none, false⟩,
 ⟨20, .ca (.k (.cl 82 [])) [(.t 19)], none, false⟩,
 ⟨21, .ia 2 (.t 14) (.t 15), none, false⟩,
 ⟨1, .so 2 (.t 21) (.t 20), none, true⟩]))
 (.reg false [⟨12, .mv (.t 4), none, false⟩,
 ⟨13, .ar .add false (.t 12) (.k (.sc (.int .i64 1))), none, false⟩,
 ⟨4, .mv (.t 13), none, false⟩])))
def b50_1 : IC := w50_1
theorem u50_1 (call : CallF) (st : St) : evC call b50_1 st = evC call w50_1 st := rfl
attribute [simp] u50_1 w50_1
def i50 : Ev.Fn := ⟨1, 23, [.tmp 2],
 (.seq
 (.reg false [⟨2, .mv (.k .nl), none, false⟩])
 (.seq
 (.reg false [⟨5, .mv (.t 0), none, false⟩,
 ⟨6, .ln false (.t 5), none, false⟩,
 ⟨7, .ms 77 2 [(.sc (.string ⟨#[]⟩)), .nl] (.t 6), none, false⟩,
 ⟨3, .mv (.t 7), none, false⟩])
 (.seq
 (.seq
 (.reg false [⟨4, .mv (.k (.sc (.int .i64 0))), none, false⟩])
 (.cln [3] [2]
 (.block 0
 (.loop [0, 3, 4] b50_1))))
 (.seq
 (.reg false [⟨22, .mv (.t 3), none, false⟩,
 ⟨2, .mv (.t 22), none, false⟩])
 .ret))))⟩
attribute [simp] i50
set_option maxRecDepth 1000000 in
theorem c50 : cFn Tryz.prog 50 [[], [0, 3, 4], [3], [2]] = some i50 := by kernel_rfl
theorem e50 : enterOk Tryz.prog 50 = true := by kernel_rfl
def w56_1 : IC :=
(.seq
 (.seq
 (.reg false [⟨11, .mv (.t 5), none, false⟩,
 ⟨12, .mv (.t 0), none, false⟩,
 ⟨13, .ln false (.t 12), none, false⟩,
 ⟨14, .ar .lss false (.t 11) (.t 13), none, false⟩])
 (.ite (.t 14)
 .skip
 (.exit 0)))
 (.seq
 (.block 1
 (.seq
 (.reg true [⟨17, .mv (.t 0), none, false⟩,
 ⟨18, .mv (.t 5), none, false⟩,
 ⟨19, .ia 2 (.t 17) (.t 18), none, false⟩,
 ⟨20, .ld 2 true (.t 19), none, false⟩,
 ⟨21, .mv (.t 1), none, false⟩,
 ⟨22, .mv (.t 5), none, false⟩,
 ⟨23, .ia 2 (.t 21) (.t 22), none, false⟩,
 ⟨24, .ld 2 true (.t 23), none, false⟩,
 ⟨25, .ca (.k (.cl 97 [])) [(.t 20), (.t 24)], none, false⟩,
 ⟨26, .nt (.t 25), none, false⟩])
 (.ite (.t 26)
 (.seq
 (.reg false [⟨4, .mv (.k (.sc (.bool false))), none, false⟩])
 .ret)
 .skip)))
 (.reg false [⟨15, .mv (.t 5), none, false⟩,
 ⟨16, .ar .add false (.t 15) (.k (.sc (.int .i64 1))), none, false⟩,
 ⟨5, .mv (.t 16), none, false⟩])))
def b56_1 : IC := w56_1
theorem u56_1 (call : CallF) (st : St) : evC call b56_1 st = evC call w56_1 st := rfl
attribute [simp] u56_1 w56_1
def i56 : Ev.Fn := ⟨2, 27, [.tmp 4],
 (.seq
 (.reg false [⟨4, .mv (.k (.sc (.bool false))), none, false⟩])
 (.seq
 (.seq
 (.reg false [⟨6, .mv (.t 0), none, false⟩,
 ⟨7, .ln false (.t 6), none, false⟩,
 ⟨8, .mv (.t 1), none, false⟩,
 ⟨9, .ln false (.t 8), none, false⟩,
 ⟨10, .ar .neq false (.t 7) (.t 9), none, false⟩])
 (.ite (.t 10)
 (.seq
 (.reg false [⟨4, .mv (.k (.sc (.bool false))), none, false⟩])
 .ret)
 .skip))
 (.seq
 (.seq
 (.reg false [⟨5, .mv (.k (.sc (.int .i64 0))), none, false⟩])
 (.cln [] [4]
 (.block 0
 (.loop [0, 1, 5] b56_1))))
 (.seq
 (.reg false [⟨4, .mv (.k (.sc (.bool true))), none, false⟩])
 .ret))))⟩
attribute [simp] i56
set_option maxRecDepth 1000000 in
theorem c56 : cFn Tryz.prog 56 [[], [0, 1, 5], [], [4]] = some i56 := by kernel_rfl
theorem e56 : enterOk Tryz.prog 56 = true := by kernel_rfl
def w57_1 : IC :=
(.seq
 (.seq
 (.reg false [⟨11, .mv (.t 5), none, false⟩,
 ⟨12, .mv (.t 0), none, false⟩,
 ⟨13, .ln false (.t 12), none, false⟩,
 ⟨14, .ar .lss false (.t 11) (.t 13), none, false⟩])
 (.ite (.t 14)
 .skip
 (.exit 0)))
 (.seq
 (.block 1
 (.seq
 (.reg true [⟨17, .mv (.t 0), none, false⟩,
 ⟨18, .mv (.t 5), none, false⟩,
 ⟨19, .ia 2 (.t 17) (.t 18), none, false⟩,
 ⟨20, .ld 2 true (.t 19), none, false⟩,
 ⟨21, .mv (.t 1), none, false⟩,
 ⟨22, .mv (.t 5), none, false⟩,
 ⟨23, .ia 2 (.t 21) (.t 22), none, false⟩,
 ⟨24, .ld 2 true (.t 23), none, false⟩,
 ⟨25, .ca (.k (.cl 98 [])) [(.t 20), (.t 24)], none, false⟩,
 ⟨26, .nt (.t 25), none, false⟩])
 (.ite (.t 26)
 (.seq
 (.reg false [⟨4, .mv (.k (.sc (.bool false))), none, false⟩])
 .ret)
 .skip)))
 (.reg false [⟨15, .mv (.t 5), none, false⟩,
 ⟨16, .ar .add false (.t 15) (.k (.sc (.int .i64 1))), none, false⟩,
 ⟨5, .mv (.t 16), none, false⟩])))
def b57_1 : IC := w57_1
theorem u57_1 (call : CallF) (st : St) : evC call b57_1 st = evC call w57_1 st := rfl
attribute [simp] u57_1 w57_1
def i57 : Ev.Fn := ⟨2, 27, [.tmp 4],
 (.seq
 (.reg false [⟨4, .mv (.k (.sc (.bool false))), none, false⟩])
 (.seq
 (.seq
 (.reg false [⟨6, .mv (.t 0), none, false⟩,
 ⟨7, .ln false (.t 6), none, false⟩,
 ⟨8, .mv (.t 1), none, false⟩,
 ⟨9, .ln false (.t 8), none, false⟩,
 ⟨10, .ar .neq false (.t 7) (.t 9), none, false⟩])
 (.ite (.t 10)
 (.seq
 (.reg false [⟨4, .mv (.k (.sc (.bool false))), none, false⟩])
 .ret)
 .skip))
 (.seq
 (.seq
 (.reg false [⟨5, .mv (.k (.sc (.int .i64 0))), none, false⟩])
 (.cln [] [4]
 (.block 0
 (.loop [0, 1, 5] b57_1))))
 (.seq
 (.reg false [⟨4, .mv (.k (.sc (.bool true))), none, false⟩])
 .ret))))⟩
attribute [simp] i57
set_option maxRecDepth 1000000 in
theorem c57 : cFn Tryz.prog 57 [[], [0, 1, 5], [], [4]] = some i57 := by kernel_rfl
theorem e57 : enterOk Tryz.prog 57 = true := by kernel_rfl
def w58_1 : IC :=
(.seq
 (.seq
 (.reg false [⟨6, .mv (.t 5), none, false⟩,
 ⟨7, .mv (.t 0), none, false⟩,
 ⟨8, .ln false (.t 7), none, false⟩,
 ⟨9, .ar .lss false (.t 6) (.t 8), none, false⟩])
 (.ite (.t 9)
 .skip
 (.exit 0)))
 (.seq
 (.block 1
 (.seq
 (.reg false [⟨12, .mv (.t 0), none, false⟩,
 ⟨13, .mv (.t 5), none, false⟩,
 ⟨14, .mv (.t 1), none, false⟩,
 ⟨15, .ia 2 (.t 12) (.t 13), none, false⟩,
 ⟨16, .fa 0 (.t 15), none, false⟩,
 ⟨1, .so 1 (.t 16) (.t 14), none, true⟩])
 (.seq
 (.reg false [⟨17, .mv (.t 1), none, false⟩,
 ⟨18, .ar .add false (.t 17) (.k (.sc (.int .i64 1))), none, false⟩,
 ⟨1, .mv (.t 18), none, false⟩])
 (.seq
 (.reg false [⟨19, .mv (.t 0), none, false⟩,
 ⟨20, .mv (.t 5), none, false⟩,
 ⟨21, .mv (.t 1), none, false⟩,
 ⟨22, .ia 2 (.t 19) (.t 20), none, false⟩,
 ⟨23, .fa 1 (.t 22), none, false⟩,
 ⟨1, .so 1 (.t 23) (.t 21), none, true⟩])
 (.reg false [⟨24, .mv (.t 1), none, false⟩,
 ⟨25, .ar .add false (.t 24) (.k (.sc (.int .i64 1))), none, false⟩,
 ⟨1, .mv (.t 25), none, false⟩])))))
 (.reg false [⟨10, .mv (.t 5), none, false⟩,
 ⟨11, .ar .add false (.t 10) (.k (.sc (.int .i64 1))), none, false⟩,
 ⟨5, .mv (.t 11), none, false⟩])))
def b58_1 : IC := w58_1
theorem u58_1 (call : CallF) (st : St) : evC call b58_1 st = evC call w58_1 st := rfl
attribute [simp] u58_1 w58_1
def i58 : Ev.Fn := ⟨2, 27, [.tmp 4],
 (.seq
 (.reg false [⟨4, .mv (.k (.sc (.int .i64 0))), none, false⟩])
 (.seq
 (.seq
 (.reg false [⟨5, .mv (.k (.sc (.int .i64 0))), none, false⟩])
 (.cln [1, 100000] [4, 100000]
 (.block 0
 (.loop [0, 1, 5, 100000] b58_1))))
 (.seq
 (.reg false [⟨26, .mv (.t 1), none, false⟩,
 ⟨4, .mv (.t 26), none, false⟩])
 .ret)))⟩
attribute [simp] i58
set_option maxRecDepth 1000000 in
theorem c58 : cFn Tryz.prog 58 [[], [0, 1, 5, 100000], [1, 100000], [4, 100000]] = some i58 := by kernel_rfl
theorem e58 : enterOk Tryz.prog 58 = true := by kernel_rfl
def w59_1 : IC :=
(.seq
 (.seq
 (.reg false [⟨6, .mv (.t 5), none, false⟩,
 ⟨7, .mv (.t 0), none, false⟩,
 ⟨8, .ln false (.t 7), none, false⟩,
 ⟨9, .ar .lss false (.t 6) (.t 8), none, false⟩])
 (.ite (.t 9)
 .skip
 (.exit 0)))
 (.seq
 (.block 1
 (.seq
 (.reg false [⟨12, .mv (.t 0), none, false⟩,
 ⟨13, .mv (.t 5), none, false⟩,
 ⟨14, .mv (.t 1), none, false⟩,
 ⟨15, .ca (.k (.cl 34 [])) [(.t 14)], none, false⟩,
 ⟨16, .ia 2 (.t 12) (.t 13), none, false⟩,
 ⟨17, .fa 0 (.t 16), none, false⟩,
 ⟨1, .so 1 (.t 17) (.t 15), none, true⟩])
 (.seq
 (.reg false [⟨18, .mv (.t 1), none, false⟩,
 ⟨19, .ar .add false (.t 18) (.k (.sc (.int .i64 1))), none, false⟩,
 ⟨1, .mv (.t 19), none, false⟩])
 (.rgw [⟨20, .mv (.t 0), none, false⟩,
 ⟨21, .mv (.t 5), none, false⟩,
 ⟨22, .ia 2 (.t 20) (.t 21), none, false⟩,
 ⟨23, .fa 1 (.t 22), none, false⟩,
 ⟨24, .ld 1 false (.t 23), none, false⟩,
 ⟨25, .mv (.t 1), none, false⟩,
 ⟨26, .cw 99 [] [(.t 24), (.t 25)], none, false⟩,
 ⟨1, .mv (.t 26), none, false⟩]))))
 (.reg false [⟨10, .mv (.t 5), none, false⟩,
 ⟨11, .ar .add false (.t 10) (.k (.sc (.int .i64 1))), none, false⟩,
 ⟨5, .mv (.t 11), none, false⟩])))
def b59_1 : IC := w59_1
theorem u59_1 (call : CallF) (st : St) : evC call b59_1 st = evC call w59_1 st := rfl
attribute [simp] u59_1 w59_1
def i59 : Ev.Fn := ⟨2, 28, [.tmp 4],
 (.seq
 (.reg false [⟨4, .mv (.k (.sc (.int .i64 0))), none, false⟩])
 (.seq
 (.seq
 (.reg false [⟨5, .mv (.k (.sc (.int .i64 0))), none, false⟩])
 (.cln [1, 100000] [4, 100000]
 (.block 0
 (.loop [0, 1, 5, 100000] b59_1))))
 (.seq
 (.reg false [⟨27, .mv (.t 1), none, false⟩,
 ⟨4, .mv (.t 27), none, false⟩])
 .ret)))⟩
attribute [simp] i59
set_option maxRecDepth 1000000 in
theorem c59 : cFn Tryz.prog 59 [[99], [0, 1, 5, 100000], [1, 100000], [4, 100000]] = some i59 := by kernel_rfl
theorem e59 : enterOk Tryz.prog 59 = true := by kernel_rfl
def w60_1 : IC :=
(.seq
 (.seq
 (.reg false [⟨6, .mv (.t 5), none, false⟩,
 ⟨7, .mv (.t 0), none, false⟩,
 ⟨8, .ln false (.t 7), none, false⟩,
 ⟨9, .ar .lss false (.t 6) (.t 8), none, false⟩])
 (.ite (.t 9)
 .skip
 (.exit 0)))
 (.seq
 (.block 1
 (.seq
 (.seq
 (.reg false [⟨12, .mv (.t 0), none, false⟩,
 ⟨13, .mv (.t 5), none, false⟩,
 ⟨14, .ia 2 (.t 12) (.t 13), none, false⟩,
 ⟨15, .fa 0 (.t 14), none, false⟩,
 ⟨16, .ld 1 false (.t 15), none, false⟩,
 ⟨17, .mv (.t 1), none, false⟩,
 ⟨18, .ar .neq false (.t 16) (.t 17), none, false⟩])
 (.ite (.t 18)
 (.seq
 (.reg false [⟨4, .mv (.k (.sc (.int .i64 (-1)))), none, false⟩])
 .ret)
 .skip))
 (.seq
 (.reg false [⟨19, .mv (.t 1), none, false⟩,
 ⟨20, .ar .add false (.t 19) (.k (.sc (.int .i64 1))), none, false⟩,
 ⟨1, .mv (.t 20), none, false⟩])
 (.seq
 (.seq
 (.reg false [⟨21, .mv (.t 0), none, false⟩,
 ⟨22, .mv (.t 5), none, false⟩,
 ⟨23, .ia 2 (.t 21) (.t 22), none, false⟩,
 ⟨24, .fa 1 (.t 23), none, false⟩,
 ⟨25, .ld 1 false (.t 24), none, false⟩,
 ⟨26, .mv (.t 1), none, false⟩,
 ⟨27, .ar .neq false (.t 25) (.t 26), none, false⟩])
 (.ite (.t 27)
 (.seq
 (.reg false [⟨4, .mv (.k (.sc (.int .i64 (-1)))), none, false⟩])
 .ret)
 .skip))
 (.reg false [⟨28, .mv (.t 1), none, false⟩,
 ⟨29, .ar .add false (.t 28) (.k (.sc (.int .i64 1))), none, false⟩,
 ⟨1, .mv (.t 29), none, false⟩])))))
 (.reg false [⟨10, .mv (.t 5), none, false⟩,
 ⟨11, .ar .add false (.t 10) (.k (.sc (.int .i64 1))), none, false⟩,
 ⟨5, .mv (.t 11), none, false⟩])))
def b60_1 : IC := w60_1
theorem u60_1 (call : CallF) (st : St) : evC call b60_1 st = evC call w60_1 st := rfl
attribute [simp] u60_1 w60_1
def i60 : Ev.Fn := ⟨2, 31, [.tmp 4],
 (.seq
 (.reg false [⟨4, .mv (.k (.sc (.int .i64 0))), none, false⟩])
 (.seq
 (.seq
 (.reg false [⟨5, .mv (.k (.sc (.int .i64 0))), none, false⟩])
 (.cln [1] [4]
 (.block 0
 (.loop [0, 1, 5] b60_1))))
 (.seq
 (.reg false [⟨30, .mv (.t 1), none, false⟩,
 ⟨4, .mv (.t 30), none, false⟩])
 .ret)))⟩
attribute [simp] i60
set_option maxRecDepth 1000000 in
theorem c60 : cFn Tryz.prog 60 [[], [0, 1, 5], [1], [4]] = some i60 := by kernel_rfl
theorem e60 : enterOk Tryz.prog 60 = true := by kernel_rfl
def w61_1 : IC :=
(.seq
 (.seq
 (.reg false [⟨6, .mv (.t 5), none, false⟩,
 ⟨7, .mv (.t 0), none, false⟩,
 ⟨8, .ln false (.t 7), none, false⟩,
 ⟨9, .ar .lss false (.t 6) (.t 8), none, false⟩])
 (.ite (.t 9)
 .skip
 (.exit 0)))
 (.seq
 (.block 1
 (.seq
 (.seq
 (.reg true [⟨12, .mv (.t 0), none, false⟩,
 ⟨13, .mv (.t 5), none, false⟩,
 ⟨14, .ia 2 (.t 12) (.t 13), none, false⟩,
 ⟨15, .fa 0 (.t 14), none, false⟩,
 ⟨16, .ld 1 false (.t 15), none, false⟩,
 ⟨17, .mv (.t 1), none, false⟩,
 ⟨18, .ca (.k (.cl 34 [])) [(.t 17)], none, false⟩,
 ⟨19, .ar .neq false (.t 16) (.t 18), none, false⟩])
 (.ite (.t 19)
 (.seq
 (.reg false [⟨4, .mv (.k (.sc (.int .i64 (-1)))), none, false⟩])
 .ret)
 .skip))
 (.seq
 (.reg false [⟨20, .mv (.t 1), none, false⟩,
 ⟨21, .ar .add false (.t 20) (.k (.sc (.int .i64 1))), none, false⟩,
 ⟨1, .mv (.t 21), none, false⟩])
 (.seq
 (.reg false [⟨22, .mv (.t 0), none, false⟩,
 ⟨23, .mv (.t 5), none, false⟩,
 ⟨24, .ia 2 (.t 22) (.t 23), none, false⟩,
 ⟨25, .fa 1 (.t 24), none, false⟩,
 ⟨26, .ld 1 false (.t 25), none, false⟩,
 ⟨27, .mv (.t 1), none, false⟩,
 ⟨28, .ca (.k (.cl 100 [])) [(.t 26), (.t 27)], none, false⟩,
 ⟨1, .mv (.t 28), none, false⟩])
 (.seq
 (.reg false [⟨29, .mv (.t 1), none, false⟩,
 ⟨30, .ar .lss false (.t 29) (.k (.sc (.int .i64 0))), none, false⟩])
 (.ite (.t 30)
 (.seq
 (.reg false [⟨4, .mv (.k (.sc (.int .i64 (-1)))), none, false⟩])
 .ret)
 .skip))))))
 (.reg false [⟨10, .mv (.t 5), none, false⟩,
 ⟨11, .ar .add false (.t 10) (.k (.sc (.int .i64 1))), none, false⟩,
 ⟨5, .mv (.t 11), none, false⟩])))
def b61_1 : IC := w61_1
theorem u61_1 (call : CallF) (st : St) : evC call b61_1 st = evC call w61_1 st := rfl
attribute [simp] u61_1 w61_1
def i61 : Ev.Fn := ⟨2, 32, [.tmp 4],
 (.seq
 (.reg false [⟨4, .mv (.k (.sc (.int .i64 0))), none, false⟩])
 (.seq
 (.seq
 (.reg false [⟨5, .mv (.k (.sc (.int .i64 0))), none, false⟩])
 (.cln [1] [4]
 (.block 0
 (.loop [0, 1, 5] b61_1))))
 (.seq
 (.reg false [⟨31, .mv (.t 1), none, false⟩,
 ⟨4, .mv (.t 31), none, false⟩])
 .ret)))⟩
attribute [simp] i61
set_option maxRecDepth 1000000 in
theorem c61 : cFn Tryz.prog 61 [[], [0, 1, 5], [1], [4]] = some i61 := by kernel_rfl
theorem e61 : enterOk Tryz.prog 61 = true := by kernel_rfl
def i62 : Ev.Fn := ⟨2, 13, [.tmp 4],
 (.seq
 (.reg false [⟨2, .bx (.t 0), none, false⟩,
 ⟨4, .mv (.k (.sc (.int .i64 0))), none, false⟩])
 (.seq
 (.reg false [⟨5, .mv (.t 1), none, false⟩,
 ⟨6, .fa 0 (.t 2), none, false⟩,
 ⟨7, .ld 1 false (.t 6), none, false⟩,
 ⟨8, .ln true (.t 7), none, false⟩,
 ⟨9, .ar .sub false (.t 5) (.t 8), none, false⟩,
 ⟨1, .mv (.t 9), none, false⟩])
 (.seq
 (.seq
 (.reg false [⟨10, .mv (.t 1), none, false⟩,
 ⟨11, .ar .lss false (.t 10) (.k (.sc (.int .i64 0))), none, false⟩])
 (.ite (.t 11)
 (.seq
 (.reg false [⟨4, .mv (.k (.sc (.int .i64 (-1)))), none, false⟩])
 .ret)
 .skip))
 (.seq
 (.reg false [⟨12, .mv (.t 1), none, false⟩,
 ⟨4, .mv (.t 12), none, false⟩])
 .ret))))⟩
attribute [simp] i62
set_option maxRecDepth 1000000 in
theorem c62 : cFn Tryz.prog 62 [[]] = some i62 := by kernel_rfl
theorem e62 : enterOk Tryz.prog 62 = true := by kernel_rfl
def w63_1 : IC :=
(.seq
 (.seq
 (.reg false [⟨33, .mv (.t 3), none, false⟩,
 ⟨34, .mv (.t 0), none, false⟩,
 ⟨35, .nc (.t 34), none, false⟩,
 ⟨36, .fa 3 (.t 35), none, false⟩,
 ⟨37, .ld 1 false (.t 36), none, false⟩,
 ⟨38, .ln false (.t 37), none, false⟩,
 ⟨39, .ar .lss false (.t 33) (.t 38), none, false⟩])
 (.ite (.t 39)
 .skip
 (.exit 0)))
 (.seq
 (.block 1
 (.seq
 (.seq
 (.reg true [⟨42, .mv (.t 0), none, false⟩,
 ⟨43, .nc (.t 42), none, false⟩,
 ⟨44, .fa 3 (.t 43), none, false⟩,
 ⟨45, .ld 1 false (.t 44), none, false⟩,
 ⟨46, .mv (.t 3), none, false⟩,
 ⟨47, .ia 2 (.t 45) (.t 46), none, false⟩,
 ⟨48, .fa 0 (.t 47), none, false⟩,
 ⟨49, .ld 1 false (.t 48), none, false⟩,
 ⟨50, .ca (.k (.cl 102 [])) [(.t 49)], none, false⟩,
 ⟨51, .nt (.t 50), none, false⟩,
 ⟨52, .mv (.t 51), none, false⟩,
 ⟨53, .mv (.t 3), (some (52, false)), false⟩,
 ⟨54, .ar .gtr false (.t 53) (.k (.sc (.int .i64 0))), (some (52, false)), false⟩,
 ⟨55, .mv (.t 54), (some (52, false)), false⟩,
 ⟨56, .mv (.t 0), (some (55, true)), false⟩,
 ⟨57, .nc (.t 56), (some (55, true)), false⟩,
 ⟨58, .fa 3 (.t 57), (some (55, true)), false⟩,
 ⟨59, .ld 1 false (.t 58), (some (55, true)), false⟩,
 ⟨60, .mv (.t 3), (some (55, true)), false⟩,
 ⟨61, .ar .sub false (.t 60) (.k (.sc (.int .i64 1))), (some (55, true)), false⟩,
 ⟨62, .ia 2 (.t 59) (.t 61), (some (55, true)), false⟩,
 ⟨63, .fa 0 (.t 62), (some (55, true)), false⟩,
 ⟨64, .ld 1 false (.t 63), (some (55, true)), false⟩,
 ⟨65, .mv (.t 0), (some (55, true)), false⟩,
 ⟨66, .nc (.t 65), (some (55, true)), false⟩,
 ⟨67, .fa 3 (.t 66), (some (55, true)), false⟩,
 ⟨68, .ld 1 false (.t 67), (some (55, true)), false⟩,
 ⟨69, .mv (.t 3), (some (55, true)), false⟩,
 ⟨70, .ia 2 (.t 68) (.t 69), (some (55, true)), false⟩,
 ⟨71, .fa 0 (.t 70), (some (55, true)), false⟩,
 ⟨72, .ld 1 false (.t 71), (some (55, true)), false⟩,
 ⟨73, .ar .geq false (.t 64) (.t 72), (some (55, true)), false⟩,
 ⟨74, .pk (.t 55) (.t 73) (.k (.sc (.bool false))), (some (52, false)), false⟩,
 ⟨75, .pk (.t 52) (.k (.sc (.bool true))) (.t 74), none, false⟩])
 (.ite (.t 75)
 (.seq
 (.reg false [⟨2, .mv (.k (.sc (.bool false))), none, false⟩])
 .ret)
 .skip))
 (.seq
 (.reg false [⟨77, .mv (.t 0), none, false⟩,
 ⟨78, .mv (.t 0), none, false⟩,
 ⟨79, .nc (.t 78), none, false⟩,
 ⟨80, .fa 3 (.t 79), none, false⟩,
 ⟨81, .ld 1 false (.t 80), none, false⟩,
 ⟨82, .mv (.t 3), none, false⟩,
 ⟨83, .ia 2 (.t 81) (.t 82), none, false⟩,
 ⟨84, .fa 1 (.t 83), none, false⟩,
 ⟨85, .ld 1 false (.t 84), none, false⟩,
 ⟨86, .ca (.k (.cl 103 [])) [(.t 77), (.t 85)], none, false⟩,
 ⟨76, .mv (.t 86), none, false⟩,
 ⟨87, .xt (.t 76) 0, none, false⟩,
 ⟨88, .xt (.t 76) 1, none, false⟩,
 ⟨4, .mv (.t 87), none, false⟩,
 ⟨5, .mv (.t 88), none, false⟩])
 (.seq
 (.reg false [⟨89, .mv (.t 5), none, false⟩,
 ⟨90, .nt (.t 89), none, false⟩,
 ⟨91, .mv (.t 90), none, false⟩,
 ⟨92, .mv (.t 4), (some (91, false)), false⟩,
 ⟨93, .ca (.k (.cl 104 [])) [(.t 92)], (some (91, false)), false⟩,
 ⟨94, .nt (.t 93), (some (91, false)), false⟩,
 ⟨95, .pk (.t 91) (.k (.sc (.bool true))) (.t 94), none, false⟩])
 (.ite (.t 95)
 (.seq
 (.reg false [⟨2, .mv (.k (.sc (.bool false))), none, false⟩])
 .ret)
 .skip)))))
 (.reg false [⟨40, .mv (.t 3), none, false⟩,
 ⟨41, .ar .add false (.t 40) (.k (.sc (.int .i64 1))), none, false⟩,
 ⟨3, .mv (.t 41), none, false⟩])))
def b63_1 : IC := w63_1
theorem u63_1 (call : CallF) (st : St) : evC call b63_1 st = evC call w63_1 st := rfl
attribute [simp] u63_1 w63_1
def i63 : Ev.Fn := ⟨1, 96, [.tmp 2],
 (.seq
 (.reg false [⟨2, .mv (.k (.sc (.bool false))), none, false⟩])
 (.seq
 (.seq
 (.reg false [⟨6, .mv (.t 0), none, false⟩,
 ⟨7, .nc (.t 6), none, false⟩,
 ⟨8, .fa 0 (.t 7), none, false⟩,
 ⟨9, .ld 1 false (.t 8), none, false⟩,
 ⟨10, .ca (.k (.cl 71 [])) [(.t 9), (.k (.sc (.int .i64 10))), (.k (.sc (.int .i64 20000)))], none, false⟩,
 ⟨11, .nt (.t 10), none, false⟩,
 ⟨12, .mv (.t 11), none, false⟩,
 ⟨13, .mv (.t 0), (some (12, false)), false⟩,
 ⟨14, .nc (.t 13), (some (12, false)), false⟩,
 ⟨15, .fa 1 (.t 14), (some (12, false)), false⟩,
 ⟨16, .ld 1 false (.t 15), (some (12, false)), false⟩,
 ⟨17, .ca (.k (.cl 71 [])) [(.t 16), (.k (.sc (.int .i64 10))), (.k (.sc (.int .i64 20000)))], (some (12, false)), false⟩,
 ⟨18, .nt (.t 17), (some (12, false)), false⟩,
 ⟨19, .pk (.t 12) (.k (.sc (.bool true))) (.t 18), none, false⟩,
 ⟨20, .mv (.t 19), none, false⟩,
 ⟨21, .mv (.t 0), (some (20, false)), false⟩,
 ⟨22, .ca (.k (.cl 101 [])) [(.t 21)], (some (20, false)), false⟩,
 ⟨23, .nt (.t 22), (some (20, false)), false⟩,
 ⟨24, .pk (.t 20) (.k (.sc (.bool true))) (.t 23), none, false⟩,
 ⟨25, .mv (.t 24), none, false⟩,
 ⟨26, .mv (.t 0), (some (25, false)), false⟩,
 ⟨27, .nc (.t 26), (some (25, false)), false⟩,
 ⟨28, .fa 3 (.t 27), (some (25, false)), false⟩,
 ⟨29, .ld 1 false (.t 28), (some (25, false)), false⟩,
 ⟨30, .ln false (.t 29), (some (25, false)), false⟩,
 ⟨31, .ar .gtr false (.t 30) (.k (.sc (.int .i64 24))), (some (25, false)), false⟩,
 ⟨32, .pk (.t 25) (.k (.sc (.bool true))) (.t 31), none, false⟩])
 (.ite (.t 32)
 (.seq
 (.reg false [⟨2, .mv (.k (.sc (.bool false))), none, false⟩])
 .ret)
 .skip))
 (.seq
 (.seq
 (.reg false [⟨3, .mv (.k (.sc (.int .i64 0))), none, false⟩])
 (.cln [] [2]
 (.block 0
 (.loop [0, 3] b63_1))))
 (.seq
 (.reg false [⟨2, .mv (.k (.sc (.bool true))), none, false⟩])
 .ret))))⟩
attribute [simp] i63
set_option maxRecDepth 1000000 in
theorem c63 : cFn Tryz.prog 63 [[], [0, 3], [], [2]] = some i63 := by kernel_rfl
theorem e63 : enterOk Tryz.prog 63 = true := by kernel_rfl
def w64_1 : IC :=
(.seq
 (.seq
 (.reg false [⟨4, .mv (.t 3), none, false⟩,
 ⟨5, .mv (.t 0), none, false⟩,
 ⟨6, .ln false (.t 5), none, false⟩,
 ⟨7, .ar .lss false (.t 4) (.t 6), none, false⟩])
 (.ite (.t 7)
 .skip
 (.exit 0)))
 (.seq
 (.block 1
 (.seq
 (.reg false [⟨10, .mv (.t 0), none, false⟩,
 ⟨11, .mv (.t 3), none, false⟩,
 ⟨12, .ia 3 (.t 10) (.t 11), none, false⟩,
 ⟨13, .ca (.k (.cl 105 [])) [(.t 12)], none, false⟩,
 ⟨14, .nt (.t 13), none, false⟩])
 (.ite (.t 14)
 (.seq
 (.reg false [⟨2, .mv (.k (.sc (.bool false))), none, false⟩])
 .ret)
 .skip)))
 (.reg false [⟨8, .mv (.t 3), none, false⟩,
 ⟨9, .ar .add false (.t 8) (.k (.sc (.int .i64 1))), none, false⟩,
 ⟨3, .mv (.t 9), none, false⟩])))
def b64_1 : IC := w64_1
theorem u64_1 (call : CallF) (st : St) : evC call b64_1 st = evC call w64_1 st := rfl
attribute [simp] u64_1 w64_1
def i64 : Ev.Fn := ⟨1, 15, [.tmp 2],
 (.seq
 (.reg false [⟨2, .mv (.k (.sc (.bool false))), none, false⟩])
 (.seq
 (.seq
 (.reg false [⟨3, .mv (.k (.sc (.int .i64 0))), none, false⟩])
 (.cln [] [2]
 (.block 0
 (.loop [0, 3] b64_1))))
 (.seq
 (.reg false [⟨2, .mv (.k (.sc (.bool true))), none, false⟩])
 .ret)))⟩
attribute [simp] i64
set_option maxRecDepth 1000000 in
theorem c64 : cFn Tryz.prog 64 [[], [0, 3], [], [2]] = some i64 := by kernel_rfl
theorem e64 : enterOk Tryz.prog 64 = true := by kernel_rfl
def i65 : Ev.Fn := ⟨1, 14, [.cell 2 3 true],
 (.seq
 (.reg false [⟨1, .bx (.t 0), none, false⟩,
 ⟨2, .al [(.sc (.string ⟨#[]⟩)), (.sc (.int .i64 0)), (.sc (.int .i64 0))], none, false⟩])
 (.seq
 (.reg false [⟨3, .al [(.sc (.string ⟨#[]⟩)), (.sc (.int .i64 0)), (.sc (.int .i64 0))], none, false⟩])
 (.seq
 (.reg false [⟨4, .fa 0 (.t 1), none, false⟩,
 ⟨5, .ld 1 false (.t 4), none, false⟩,
 ⟨6, .fa 0 (.t 3), none, false⟩,
 ⟨1, .so 1 (.t 6) (.t 5), none, true⟩])
 (.seq
 (.reg false [⟨7, .fa 1 (.t 1), none, false⟩,
 ⟨8, .ld 1 false (.t 7), none, false⟩,
 ⟨9, .fa 1 (.t 3), none, false⟩,
 ⟨1, .so 1 (.t 9) (.t 8), none, true⟩])
 (.seq
 (.reg false [⟨10, .fa 2 (.t 1), none, false⟩,
 ⟨11, .ld 1 false (.t 10), none, false⟩,
 ⟨12, .fa 2 (.t 3), none, false⟩,
 ⟨1, .so 1 (.t 12) (.t 11), none, true⟩])
 (.seq
 (.reg false [⟨13, .ld 3 true (.t 3), none, false⟩,
 ⟨1, .so 3 (.t 2) (.t 13), none, true⟩])
 .ret))))))⟩
attribute [simp] i65
set_option maxRecDepth 1000000 in
theorem c65 : cFn Tryz.prog 65 [[]] = some i65 := by kernel_rfl
theorem e65 : enterOk Tryz.prog 65 = true := by kernel_rfl
def w66_1 : IC :=
(.seq
 (.reg false [⟨35, .ar .lss false (.t 34) (.t 33), none, false⟩])
 (.seq
 (.ite (.t 35)
 .skip
 (.exit 0))
 (.seq
 (.block 1
 (.seq
 (.reg false [⟨36, .mv (.t 34), none, false⟩,
 ⟨37, .ia 2 (.t 32) (.t 34), none, false⟩,
 ⟨38, .ld 2 true (.t 37), none, false⟩,
 ⟨4, .al [(.sc (.int .i64 0)), (.sc (.int .i64 0))], none, false⟩,
 ⟨3, .mv (.t 36), none, false⟩,
 ⟨1, .so 2 (.t 4) (.t 38), none, true⟩])
 (.seq
 (.reg true [⟨39, .fa 0 (.t 4), none, false⟩,
 ⟨40, .ld 1 false (.t 39), none, false⟩,
 ⟨41, .fa 0 (.t 1), none, false⟩,
 ⟨42, .ld 1 false (.t 41), none, false⟩,
 ⟨43, .ca (.k (.cl 40 [])) [(.t 40), (.k (.sc (.int .i64 0))), (.t 42)], none, false⟩,
 ⟨44, .nt (.t 43), none, false⟩,
 ⟨45, .mv (.t 44), none, false⟩,
 ⟨46, .fa 1 (.t 4), (some (45, false)), false⟩,
 ⟨47, .ld 1 false (.t 46), (some (45, false)), false⟩,
 ⟨48, .fa 1 (.t 1), (some (45, false)), false⟩,
 ⟨49, .ld 1 false (.t 48), (some (45, false)), false⟩,
 ⟨50, .ca (.k (.cl 40 [])) [(.t 47), (.k (.sc (.int .i64 0))), (.t 49)], (some (45, false)), false⟩,
 ⟨51, .nt (.t 50), (some (45, false)), false⟩,
 ⟨52, .pk (.t 45) (.k (.sc (.bool true))) (.t 51), none, false⟩,
 ⟨53, .mv (.t 52), none, false⟩,
 ⟨54, .fa 2 (.t 1), (some (53, false)), false⟩,
 ⟨55, .ld 1 false (.t 54), (some (53, false)), false⟩,
 ⟨56, .mv (.t 3), (some (53, false)), false⟩,
 ⟨57, .sl 2 (.t 55) none (some (.t 56)), (some (53, false)), false⟩,
 ⟨58, .ld 2 true (.t 4), (some (53, false)), false⟩,
 ⟨59, .ca (.k (.cl 106 [])) [(.t 57), (.t 58)], (some (53, false)), false⟩,
 ⟨60, .pk (.t 53) (.k (.sc (.bool true))) (.t 59), none, false⟩])
 (.ite (.t 60)
 (.seq
 (.reg false [⟨2, .mv (.k (.sc (.bool false))), none, false⟩])
 .ret)
 .skip))))
 (.reg false [⟨61, .ar .add false (.t 34) (.k (.sc (.int .i64 1))), none, false⟩,
 ⟨34, .mv (.t 61), none, false⟩]))))
def b66_1 : IC := w66_1
theorem u66_1 (call : CallF) (st : St) : evC call b66_1 st = evC call w66_1 st := rfl
attribute [simp] u66_1 w66_1
def w66_2 : IC :=
(.seq
 (.reg false [⟨66, .ar .lss false (.t 65) (.t 64), none, false⟩])
 (.seq
 (.ite (.t 66)
 .skip
 (.exit 2))
 (.seq
 (.block 3
 (.seq
 (.reg false [⟨67, .mv (.t 65), none, false⟩,
 ⟨68, .ia 2 (.t 63) (.t 65), none, false⟩,
 ⟨69, .ld 2 true (.t 68), none, false⟩,
 ⟨6, .al [(.sc (.string ⟨#[]⟩)), .nl], none, false⟩,
 ⟨5, .mv (.t 67), none, false⟩,
 ⟨1, .so 2 (.t 6) (.t 69), none, true⟩])
 (.seq
 (.seq
 (.reg true [⟨70, .fa 0 (.t 6), none, false⟩,
 ⟨71, .ld 1 false (.t 70), none, false⟩,
 ⟨72, .ca (.k (.cl 107 [])) [(.t 71)], none, false⟩,
 ⟨73, .nt (.t 72), none, false⟩,
 ⟨74, .mv (.t 73), none, false⟩,
 ⟨75, .mv (.t 5), (some (74, false)), false⟩,
 ⟨76, .ar .gtr false (.t 75) (.k (.sc (.int .i64 0))), (some (74, false)), false⟩,
 ⟨77, .mv (.t 76), (some (74, false)), false⟩,
 ⟨78, .fa 3 (.t 1), (some (77, true)), false⟩,
 ⟨79, .ld 1 false (.t 78), (some (77, true)), false⟩,
 ⟨80, .mv (.t 5), (some (77, true)), false⟩,
 ⟨81, .ar .sub false (.t 80) (.k (.sc (.int .i64 1))), (some (77, true)), false⟩,
 ⟨82, .ia 2 (.t 79) (.t 81), (some (77, true)), false⟩,
 ⟨83, .fa 0 (.t 82), (some (77, true)), false⟩,
 ⟨84, .ld 1 false (.t 83), (some (77, true)), false⟩,
 ⟨85, .fa 0 (.t 6), (some (77, true)), false⟩,
 ⟨86, .ld 1 false (.t 85), (some (77, true)), false⟩,
 ⟨87, .ar .geq false (.t 84) (.t 86), (some (77, true)), false⟩,
 ⟨88, .pk (.t 77) (.t 87) (.k (.sc (.bool false))), (some (74, false)), false⟩,
 ⟨89, .pk (.t 74) (.k (.sc (.bool true))) (.t 88), none, false⟩])
 (.ite (.t 89)
 (.seq
 (.reg false [⟨2, .mv (.k (.sc (.bool false))), none, false⟩])
 .ret)
 .skip))
 (.seq
 (.reg false [⟨91, .fa 2 (.t 1), none, false⟩,
 ⟨92, .ld 1 false (.t 91), none, false⟩,
 ⟨93, .fa 1 (.t 6), none, false⟩,
 ⟨94, .ld 1 false (.t 93), none, false⟩,
 ⟨95, .ca (.k (.cl 108 [])) [(.t 92), (.t 94)], none, false⟩,
 ⟨90, .mv (.t 95), none, false⟩,
 ⟨96, .xt (.t 90) 0, none, false⟩,
 ⟨97, .xt (.t 90) 1, none, false⟩,
 ⟨7, .mv (.t 96), none, false⟩,
 ⟨8, .mv (.t 97), none, false⟩])
 (.seq
 (.reg false [⟨98, .mv (.t 8), none, false⟩,
 ⟨99, .nt (.t 98), none, false⟩,
 ⟨100, .mv (.t 99), none, false⟩,
 ⟨101, .mv (.t 7), (some (100, false)), false⟩,
 ⟨102, .ca (.k (.cl 109 [])) [(.t 101)], (some (100, false)), false⟩,
 ⟨103, .nt (.t 102), (some (100, false)), false⟩,
 ⟨104, .pk (.t 100) (.k (.sc (.bool true))) (.t 103), none, false⟩])
 (.ite (.t 104)
 (.seq
 (.reg false [⟨2, .mv (.k (.sc (.bool false))), none, false⟩])
 .ret)
 .skip))))))
 (.reg false [⟨105, .ar .add false (.t 65) (.k (.sc (.int .i64 1))), none, false⟩,
 ⟨65, .mv (.t 105), none, false⟩]))))
def b66_2 : IC := w66_2
theorem u66_2 (call : CallF) (st : St) : evC call b66_2 st = evC call w66_2 st := rfl
attribute [simp] u66_2 w66_2
def i66 : Ev.Fn := ⟨1, 106, [.tmp 2],
 (.seq
 (.reg false [⟨1, .bx (.t 0), none, false⟩,
 ⟨2, .mv (.k (.sc (.bool false))), none, false⟩])
 (.seq
 (.seq
 (.reg false [⟨9, .fa 0 (.t 1), none, false⟩,
 ⟨10, .ld 1 false (.t 9), none, false⟩,
 ⟨11, .ca (.k (.cl 40 [])) [(.t 10), (.k (.sc (.int .i64 10))), (.k (.sc (.int .i64 20000)))], none, false⟩,
 ⟨12, .nt (.t 11), none, false⟩,
 ⟨13, .mv (.t 12), none, false⟩,
 ⟨14, .fa 1 (.t 1), (some (13, false)), false⟩,
 ⟨15, .ld 1 false (.t 14), (some (13, false)), false⟩,
 ⟨16, .ca (.k (.cl 40 [])) [(.t 15), (.k (.sc (.int .i64 10))), (.k (.sc (.int .i64 20000)))], (some (13, false)), false⟩,
 ⟨17, .nt (.t 16), (some (13, false)), false⟩,
 ⟨18, .pk (.t 13) (.k (.sc (.bool true))) (.t 17), none, false⟩,
 ⟨19, .mv (.t 18), none, false⟩,
 ⟨20, .fa 2 (.t 1), (some (19, false)), false⟩,
 ⟨21, .ld 1 false (.t 20), (some (19, false)), false⟩,
 ⟨22, .ln false (.t 21), (some (19, false)), false⟩,
 ⟨23, .ar .gtr false (.t 22) (.k (.sc (.int .i64 48))), (some (19, false)), false⟩,
 ⟨24, .pk (.t 19) (.k (.sc (.bool true))) (.t 23), none, false⟩,
 ⟨25, .mv (.t 24), none, false⟩,
 ⟨26, .fa 3 (.t 1), (some (25, false)), false⟩,
 ⟨27, .ld 1 false (.t 26), (some (25, false)), false⟩,
 ⟨28, .ln false (.t 27), (some (25, false)), false⟩,
 ⟨29, .ar .gtr false (.t 28) (.k (.sc (.int .i64 24))), (some (25, false)), false⟩,
 ⟨30, .pk (.t 25) (.k (.sc (.bool true))) (.t 29), none, false⟩])
 (.ite (.t 30)
 (.seq
 (.reg false [⟨2, .mv (.k (.sc (.bool false))), none, false⟩])
 .ret)
 .skip))
 (.seq
 (.seq
 (.reg false [⟨31, .fa 2 (.t 1), none, false⟩,
 ⟨32, .ld 1 false (.t 31), none, false⟩,
 ⟨33, .ln false (.t 32), none, false⟩,
 ⟨34, .mv (.k (.sc (.int .i64 0))), none, false⟩])
 (.cln [1] [2]
 (.block 0
 (.loop [1, 32, 33, 34] b66_1))))
 (.seq
 (.seq
 (.reg false [⟨62, .fa 3 (.t 1), none, false⟩,
 ⟨63, .ld 1 false (.t 62), none, false⟩,
 ⟨64, .ln false (.t 63), none, false⟩,
 ⟨65, .mv (.k (.sc (.int .i64 0))), none, false⟩])
 (.cln [] [2]
 (.block 2
 (.loop [1, 63, 64, 65] b66_2))))
 (.seq
 (.reg false [⟨2, .mv (.k (.sc (.bool true))), none, false⟩])
 .ret)))))⟩
attribute [simp] i66
set_option maxRecDepth 1000000 in
theorem c66 : cFn Tryz.prog 66 [[], [1, 32, 33, 34], [1], [2], [1, 63, 64, 65], [], [2]] = some i66 := by kernel_rfl
theorem e66 : enterOk Tryz.prog 66 = true := by kernel_rfl
def i67 : Ev.Fn := ⟨1, 6, [.tmp 2],
 (.seq
 (.reg false [⟨2, .mv (.k (.sc (.bool false))), none, false⟩])
 (.seq
 (.reg false [⟨3, .mv (.t 0), none, false⟩,
 ⟨4, .ca (.k (.cl 110 [])) [(.t 3), (.k (.cl 111 []))], none, false⟩,
 ⟨5, .nt (.t 4), none, false⟩,
 ⟨2, .mv (.t 5), none, false⟩])
 .ret))⟩
attribute [simp] i67
set_option maxRecDepth 1000000 in
theorem c67 : cFn Tryz.prog 67 [[]] = some i67 := by kernel_rfl
theorem e67 : enterOk Tryz.prog 67 = true := by kernel_rfl
def i70 : Ev.Fn := ⟨2, 20, [.tmp 4],
 (.seq
 (.reg false [⟨2, .bx (.t 0), none, false⟩,
 ⟨3, .bx (.t 1), none, false⟩,
 ⟨4, .mv (.k (.sc (.bool false))), none, false⟩])
 (.seq
 (.seq
 (.reg false [⟨5, .fa 0 (.t 2), none, false⟩,
 ⟨6, .ld 1 false (.t 5), none, false⟩,
 ⟨7, .fa 0 (.t 3), none, false⟩,
 ⟨8, .ld 1 false (.t 7), none, false⟩,
 ⟨9, .ar .neq false (.t 6) (.t 8), none, false⟩])
 (.ite (.t 9)
 (.seq
 (.reg false [⟨4, .mv (.k (.sc (.bool false))), none, false⟩])
 .ret)
 .skip))
 (.seq
 (.seq
 (.reg false [⟨10, .fa 1 (.t 2), none, false⟩,
 ⟨11, .ld 1 false (.t 10), none, false⟩,
 ⟨12, .fa 1 (.t 3), none, false⟩,
 ⟨13, .ld 1 false (.t 12), none, false⟩,
 ⟨14, .ar .neq false (.t 11) (.t 13), none, false⟩])
 (.ite (.t 14)
 (.seq
 (.reg false [⟨4, .mv (.k (.sc (.bool false))), none, false⟩])
 .ret)
 .skip))
 (.seq
 (.seq
 (.reg false [⟨15, .fa 2 (.t 2), none, false⟩,
 ⟨16, .ld 1 false (.t 15), none, false⟩,
 ⟨17, .fa 2 (.t 3), none, false⟩,
 ⟨18, .ld 1 false (.t 17), none, false⟩,
 ⟨19, .ar .neq false (.t 16) (.t 18), none, false⟩])
 (.ite (.t 19)
 (.seq
 (.reg false [⟨4, .mv (.k (.sc (.bool false))), none, false⟩])
 .ret)
 .skip))
 (.seq
 (.reg false [⟨4, .mv (.k (.sc (.bool true))), none, false⟩])
 .ret)))))⟩
attribute [simp] i70
set_option maxRecDepth 1000000 in
theorem c70 : cFn Tryz.prog 70 [[]] = some i70 := by kernel_rfl
theorem e70 : enterOk Tryz.prog 70 = true := by kernel_rfl
def i71 : Ev.Fn := ⟨3, 15, [.tmp 6],
 (.seq
 (.reg false [⟨6, .mv (.k (.sc (.bool false))), none, false⟩])
 (.seq
 (.reg false [⟨7, .mv (.t 0), none, false⟩,
 ⟨8, .mv (.t 1), none, false⟩,
 ⟨9, .ar .geq false (.t 7) (.t 8), none, false⟩,
 ⟨10, .mv (.t 9), none, false⟩,
 ⟨11, .mv (.t 0), (some (10, true)), false⟩,
 ⟨12, .mv (.t 2), (some (10, true)), false⟩,
 ⟨13, .ar .leq false (.t 11) (.t 12), (some (10, true)), false⟩,
 ⟨14, .pk (.t 10) (.t 13) (.k (.sc (.bool false))), none, false⟩,
 ⟨6, .mv (.t 14), none, false⟩])
 .ret))⟩
attribute [simp] i71
set_option maxRecDepth 1000000 in
theorem c71 : cFn Tryz.prog 71 [[]] = some i71 := by kernel_rfl
theorem e71 : enterOk Tryz.prog 71 = true := by kernel_rfl
def w72_1 : IC :=
(.seq
 (.seq
 (.reg false [⟨20, .mv (.t 4), none, false⟩,
 ⟨21, .mv (.t 0), none, false⟩,
 ⟨22, .nc (.t 21), none, false⟩,
 ⟨23, .fa 3 (.t 22), none, false⟩,
 ⟨24, .ld 1 false (.t 23), none, false⟩,
 ⟨25, .ln false (.t 24), none, false⟩,
 ⟨26, .ar .lss false (.t 20) (.t 25), none, false⟩])
 (.ite (.t 26)
 .skip
 (.exit 0)))
 (.seq
 (.block 1
 (.rgc [.nx 48 3, .nx 48 29] [⟨29, .fa 3 (.t 3), none, false⟩,
 ⟨30, .ld 1 false (.t 29), none, false⟩,
 ⟨31, .mv (.t 0), none, false⟩,
 ⟨32, .nc (.t 31), none, false⟩,
 ⟨33, .fa 3 (.t 32), none, false⟩,
 ⟨34, .ld 1 false (.t 33), none, false⟩,
 ⟨35, .mv (.t 4), none, false⟩,
 ⟨36, .ia 2 (.t 34) (.t 35), none, false⟩,
 ⟨37, .fa 0 (.t 36), none, false⟩,
 ⟨38, .ld 1 false (.t 37), none, false⟩,
 ⟨39, .mv (.t 0), none, false⟩,
 ⟨40, .nc (.t 39), none, false⟩,
 ⟨41, .fa 3 (.t 40), none, false⟩,
 ⟨42, .ld 1 false (.t 41), none, false⟩,
 ⟨43, .mv (.t 4), none, false⟩,
 ⟨44, .ia 2 (.t 42) (.t 43), none, false⟩,
 ⟨45, .fa 1 (.t 44), none, false⟩,
 ⟨46, .ld 1 false (.t 45), none, false⟩,
 ⟨47, .ca (.k (.cl 124 [])) [(.t 46)], none, false⟩,
 ⟨48, .bd [(.sc (.string ⟨#[]⟩)), .nl] [(0, 1, (.t 38)), (1, 1, (.t 47))], none, false⟩,
 ⟨49, .bw 77 2 [(.sc (.string ⟨#[]⟩)), .nl] 1 [(0, (.t 48))], none, false⟩,
 ⟨50, .ap 77 2 false (.t 30) (.t 49), none, false⟩,
 ⟨51, .fa 3 (.t 3), none, false⟩,
 ⟨0, .so 1 (.t 51) (.t 50), none, true⟩]))
 (.reg false [⟨27, .mv (.t 4), none, false⟩,
 ⟨28, .ar .add false (.t 27) (.k (.sc (.int .i64 1))), none, false⟩,
 ⟨4, .mv (.t 28), none, false⟩])))
def b72_1 : IC := w72_1
theorem u72_1 (call : CallF) (st : St) : evC call b72_1 st = evC call w72_1 st := rfl
attribute [simp] u72_1 w72_1
def i72 : Ev.Fn := ⟨1, 53, [.cell 2 4 true],
 (.seq
 (.reg false [⟨2, .al [(.sc (.int .i64 0)), (.sc (.int .i64 0)), .nl, .nl], none, false⟩])
 (.seq
 (.rgc [.nx 13 5, .nx 17 5, .nx 13 6, .nx 17 6, .nx 13 7, .nx 17 7, .nx 13 9, .nx 17 9, .nx 13 10, .nx 17 10, .nx 13 11, .nx 17 11] [⟨5, .mv (.t 0), none, false⟩,
 ⟨6, .nc (.t 5), none, false⟩,
 ⟨7, .fa 0 (.t 6), none, false⟩,
 ⟨8, .ld 1 false (.t 7), none, false⟩,
 ⟨9, .mv (.t 0), none, false⟩,
 ⟨10, .nc (.t 9), none, false⟩,
 ⟨11, .fa 1 (.t 10), none, false⟩,
 ⟨12, .ld 1 false (.t 11), none, false⟩,
 ⟨13, .bs 72 2 [(.sc (.int .i64 0)), (.sc (.int .i64 0))] 0 [], none, false⟩,
 ⟨14, .mv (.t 0), none, false⟩,
 ⟨15, .nc (.t 14), none, false⟩,
 ⟨16, .fa 2 (.t 15), none, false⟩,
 ⟨17, .ld 1 false (.t 16), none, false⟩,
 ⟨18, .ap 72 2 false (.t 13) (.t 17), none, false⟩,
 ⟨19, .bd [(.sc (.int .i64 0)), (.sc (.int .i64 0)), .nl, .nl] [(0, 1, (.t 8)), (1, 1, (.t 12)), (2, 1, (.t 18))], none, false⟩,
 ⟨3, .al [(.sc (.int .i64 0)), (.sc (.int .i64 0)), .nl, .nl], none, false⟩,
 ⟨0, .so 4 (.t 3) (.t 19), none, true⟩])
 (.seq
 (.seq
 (.reg false [⟨4, .mv (.k (.sc (.int .i64 0))), none, false⟩])
 (.cln [2, 3] [2]
 (.block 0
 (.loop [0, 2, 3, 4] b72_1))))
 (.seq
 (.reg false [⟨52, .ld 4 true (.t 3), none, false⟩,
 ⟨1, .so 4 (.t 2) (.t 52), none, true⟩])
 .ret))))⟩
attribute [simp] i72
set_option maxRecDepth 1000000 in
theorem c72 : cFn Tryz.prog 72 [[], [0, 2, 3, 4], [2, 3], [2]] = some i72 := by kernel_rfl
theorem e72 : enterOk Tryz.prog 72 = true := by kernel_rfl
def w73_1 : IC :=
(.seq
 (.reg false [⟨18, .ar .lss false (.t 17) (.t 16), none, false⟩])
 (.seq
 (.ite (.t 18)
 .skip
 (.exit 0))
 (.seq
 (.block 1
 (.seq
 (.reg false [⟨19, .ia 2 (.t 15) (.t 17), none, false⟩,
 ⟨20, .ld 2 true (.t 19), none, false⟩,
 ⟨5, .al [(.sc (.string ⟨#[]⟩)), .nl], none, false⟩,
 ⟨1, .so 2 (.t 5) (.t 20), none, true⟩])
 (.rgc [.nx 28 3, .nx 28 21] [⟨21, .fa 3 (.t 3), none, false⟩,
 ⟨22, .ld 1 false (.t 21), none, false⟩,
 ⟨23, .fa 0 (.t 5), none, false⟩,
 ⟨24, .ld 1 false (.t 23), none, false⟩,
 ⟨25, .fa 1 (.t 5), none, false⟩,
 ⟨26, .ld 1 false (.t 25), none, false⟩,
 ⟨27, .ca (.k (.cl 126 [])) [(.t 26)], none, false⟩,
 ⟨28, .bd [(.sc (.string ⟨#[]⟩)), .nl] [(0, 1, (.t 24)), (1, 1, (.t 27))], none, false⟩,
 ⟨29, .bw 77 2 [(.sc (.string ⟨#[]⟩)), .nl] 1 [(0, (.t 28))], none, false⟩,
 ⟨30, .ap 77 2 false (.t 22) (.t 29), none, false⟩,
 ⟨31, .fa 3 (.t 3), none, false⟩,
 ⟨0, .so 1 (.t 31) (.t 30), none, true⟩])))
 (.reg false [⟨32, .ar .add false (.t 17) (.k (.sc (.int .i64 1))), none, false⟩,
 ⟨17, .mv (.t 32), none, false⟩]))))
def b73_1 : IC := w73_1
theorem u73_1 (call : CallF) (st : St) : evC call b73_1 st = evC call w73_1 st := rfl
attribute [simp] u73_1 w73_1
def i73 : Ev.Fn := ⟨1, 34, [.cell 2 4 true],
 (.seq
 (.reg false [⟨1, .bx (.t 0), none, false⟩,
 ⟨2, .al [(.sc (.int .i64 0)), (.sc (.int .i64 0)), .nl, .nl], none, false⟩])
 (.seq
 (.reg true [⟨6, .fa 0 (.t 1), none, false⟩,
 ⟨7, .ld 1 false (.t 6), none, false⟩,
 ⟨8, .fa 1 (.t 1), none, false⟩,
 ⟨9, .ld 1 false (.t 8), none, false⟩,
 ⟨10, .fa 2 (.t 1), none, false⟩,
 ⟨11, .ld 1 false (.t 10), none, false⟩,
 ⟨12, .ca (.k (.cl 125 [])) [(.t 11)], none, false⟩,
 ⟨13, .bd [(.sc (.int .i64 0)), (.sc (.int .i64 0)), .nl, .nl] [(0, 1, (.t 7)), (1, 1, (.t 9)), (2, 1, (.t 12))], none, false⟩,
 ⟨3, .al [(.sc (.int .i64 0)), (.sc (.int .i64 0)), .nl, .nl], none, false⟩,
 ⟨1, .so 4 (.t 3) (.t 13), none, true⟩])
 (.seq
 (.seq
 (.reg false [⟨14, .fa 3 (.t 1), none, false⟩,
 ⟨15, .ld 1 false (.t 14), none, false⟩,
 ⟨16, .ln false (.t 15), none, false⟩,
 ⟨17, .mv (.k (.sc (.int .i64 0))), none, false⟩])
 (.cln [2, 3] [2]
 (.block 0
 (.loop [2, 3, 15, 16, 17] b73_1))))
 (.seq
 (.reg false [⟨33, .ld 4 true (.t 3), none, false⟩,
 ⟨1, .so 4 (.t 2) (.t 33), none, true⟩])
 .ret))))⟩
attribute [simp] i73
set_option maxRecDepth 1000000 in
theorem c73 : cFn Tryz.prog 73 [[], [2, 3, 15, 16, 17], [2, 3], [2]] = some i73 := by kernel_rfl
theorem e73 : enterOk Tryz.prog 73 = true := by kernel_rfl
def i74 : Ev.Fn := ⟨1, 8, [.tmp 2],
 (.seq
 (.reg false [⟨2, .mv (.k .nl), none, false⟩])
 (.seq
 (.seq
 (.reg false [⟨3, .mv (.t 0), none, false⟩,
 ⟨4, .isn false (.t 3), none, false⟩])
 (.ite (.t 4)
 (.seq
 (.reg false [⟨2, .mv (.k .nl), none, false⟩])
 .ret)
 .skip))
 (.seq
 (.reg false [⟨5, .bs 61 3 [(.sc (.string ⟨#[]⟩)), (.sc (.int .i64 0)), (.sc (.int .i64 0))] 0 [], none, false⟩,
 ⟨6, .mv (.t 0), none, false⟩,
 ⟨7, .ap 61 3 false (.t 5) (.t 6), none, false⟩,
 ⟨2, .mv (.t 7), none, false⟩])
 .ret)))⟩
attribute [simp] i74
set_option maxRecDepth 1000000 in
theorem c74 : cFn Tryz.prog 74 [[]] = some i74 := by kernel_rfl
theorem e74 : enterOk Tryz.prog 74 = true := by kernel_rfl
def i75 : Ev.Fn := ⟨2, 19, [.tmp 4],
 (.seq
 (.reg false [⟨2, .bx (.t 0), none, false⟩,
 ⟨4, .mv (.k (.sc (.int .i64 0))), none, false⟩])
 (.seq
 (.reg false [⟨5, .mv (.t 1), none, false⟩,
 ⟨6, .fa 0 (.t 2), none, false⟩,
 ⟨7, .ld 1 false (.t 6), none, false⟩,
 ⟨8, .ln true (.t 7), none, false⟩,
 ⟨9, .ar .sub false (.t 5) (.t 8), none, false⟩,
 ⟨1, .mv (.t 9), none, false⟩])
 (.seq
 (.seq
 (.reg false [⟨10, .mv (.t 1), none, false⟩,
 ⟨11, .ar .lss false (.t 10) (.k (.sc (.int .i64 0))), none, false⟩])
 (.ite (.t 11)
 (.seq
 (.reg false [⟨4, .mv (.k (.sc (.int .i64 (-1)))), none, false⟩])
 .ret)
 .skip))
 (.seq
 (.reg false [⟨12, .fa 1 (.t 2), none, false⟩,
 ⟨13, .ld 1 false (.t 12), none, false⟩,
 ⟨14, .mv (.t 1), none, false⟩,
 ⟨15, .ca (.k (.cl 127 [])) [(.t 13), (.t 14)], none, false⟩,
 ⟨1, .mv (.t 15), none, false⟩])
 (.seq
 (.seq
 (.reg false [⟨16, .mv (.t 1), none, false⟩,
 ⟨17, .ar .lss false (.t 16) (.k (.sc (.int .i64 0))), none, false⟩])
 (.ite (.t 17)
 (.seq
 (.reg false [⟨4, .mv (.k (.sc (.int .i64 (-1)))), none, false⟩])
 .ret)
 .skip))
 (.seq
 (.reg false [⟨18, .mv (.t 1), none, false⟩,
 ⟨4, .mv (.t 18), none, false⟩])
 .ret))))))⟩
attribute [simp] i75
set_option maxRecDepth 1000000 in
theorem c75 : cFn Tryz.prog 75 [[]] = some i75 := by kernel_rfl
theorem e75 : enterOk Tryz.prog 75 = true := by kernel_rfl
def i81 : Ev.Fn := ⟨1, 11, [.cell 2 2 true],
 (.seq
 (.reg false [⟨1, .bx (.t 0), none, false⟩,
 ⟨2, .al [(.sc (.int .i64 0)), (.sc (.int .i64 0))], none, false⟩])
 (.seq
 (.reg false [⟨3, .al [(.sc (.int .i64 0)), (.sc (.int .i64 0))], none, false⟩])
 (.seq
 (.reg false [⟨4, .fa 0 (.t 1), none, false⟩,
 ⟨5, .ld 1 false (.t 4), none, false⟩,
 ⟨6, .fa 0 (.t 3), none, false⟩,
 ⟨1, .so 1 (.t 6) (.t 5), none, true⟩])
 (.seq
 (.reg false [⟨7, .fa 1 (.t 1), none, false⟩,
 ⟨8, .ld 1 false (.t 7), none, false⟩,
 ⟨9, .fa 1 (.t 3), none, false⟩,
 ⟨1, .so 1 (.t 9) (.t 8), none, true⟩])
 (.seq
 (.reg false [⟨10, .ld 2 true (.t 3), none, false⟩,
 ⟨1, .so 2 (.t 2) (.t 10), none, true⟩])
 .ret)))))⟩
attribute [simp] i81
set_option maxRecDepth 1000000 in
theorem c81 : cFn Tryz.prog 81 [[]] = some i81 := by kernel_rfl
theorem e81 : enterOk Tryz.prog 81 = true := by kernel_rfl
def i82 : Ev.Fn := ⟨1, 12, [.cell 2 2 true],
 (.seq
 (.reg false [⟨1, .bx (.t 0), none, false⟩,
 ⟨2, .al [(.sc (.string ⟨#[]⟩)), .nl], none, false⟩])
 (.seq
 (.reg false [⟨3, .al [(.sc (.string ⟨#[]⟩)), .nl], none, false⟩])
 (.seq
 (.reg false [⟨4, .fa 0 (.t 1), none, false⟩,
 ⟨5, .ld 1 false (.t 4), none, false⟩,
 ⟨6, .fa 0 (.t 3), none, false⟩,
 ⟨1, .so 1 (.t 6) (.t 5), none, true⟩])
 (.seq
 (.reg false [⟨7, .fa 1 (.t 1), none, false⟩,
 ⟨8, .ld 1 false (.t 7), none, false⟩,
 ⟨9, .ca (.k (.cl 137 [])) [(.t 8)], none, false⟩,
 ⟨10, .fa 1 (.t 3), none, false⟩,
 ⟨1, .so 1 (.t 10) (.t 9), none, true⟩])
 (.seq
 (.reg false [⟨11, .ld 2 true (.t 3), none, false⟩,
 ⟨1, .so 2 (.t 2) (.t 11), none, true⟩])
 .ret)))))⟩
attribute [simp] i82
set_option maxRecDepth 1000000 in
theorem c82 : cFn Tryz.prog 82 [[]] = some i82 := by kernel_rfl
theorem e82 : enterOk Tryz.prog 82 = true := by kernel_rfl
def i97 : Ev.Fn := ⟨2, 15, [.tmp 4],
 (.seq
 (.reg false [⟨2, .bx (.t 0), none, false⟩,
 ⟨3, .bx (.t 1), none, false⟩,
 ⟨4, .mv (.k (.sc (.bool false))), none, false⟩])
 (.seq
 (.seq
 (.reg false [⟨5, .fa 0 (.t 2), none, false⟩,
 ⟨6, .ld 1 false (.t 5), none, false⟩,
 ⟨7, .fa 0 (.t 3), none, false⟩,
 ⟨8, .ld 1 false (.t 7), none, false⟩,
 ⟨9, .ar .neq false (.t 6) (.t 8), none, false⟩])
 (.ite (.t 9)
 (.seq
 (.reg false [⟨4, .mv (.k (.sc (.bool false))), none, false⟩])
 .ret)
 .skip))
 (.seq
 (.seq
 (.reg false [⟨10, .fa 1 (.t 2), none, false⟩,
 ⟨11, .ld 1 false (.t 10), none, false⟩,
 ⟨12, .fa 1 (.t 3), none, false⟩,
 ⟨13, .ld 1 false (.t 12), none, false⟩,
 ⟨14, .ar .neq false (.t 11) (.t 13), none, false⟩])
 (.ite (.t 14)
 (.seq
 (.reg false [⟨4, .mv (.k (.sc (.bool false))), none, false⟩])
 .ret)
 .skip))
 (.seq
 (.reg false [⟨4, .mv (.k (.sc (.bool true))), none, false⟩])
 .ret))))⟩
attribute [simp] i97
set_option maxRecDepth 1000000 in
theorem c97 : cFn Tryz.prog 97 [[]] = some i97 := by kernel_rfl
theorem e97 : enterOk Tryz.prog 97 = true := by kernel_rfl
end Go.Proofs.YthnkioafikmmaaaGreat.walkS
