/- The functions that some rows reach, turned; no conditions. -/
import Derived.Test.YtmfcdjkeofohpaaIrS2
import Derived.KernelRfl
import Derived.Test.YtmfcdjkeofohpaaProg
namespace Go.Proofs.Ytmfcdjkeofohpaa.walkS
open Go Go.Proofs.Ytmfcdjkeofohpaa.Ev
def i95 : Ev.Fn := ⟨3, 90, [.tmp 6],
 (.seq
 (.reg false [⟨6, .mv (.k (.sc (.int .i64 0))), none, false⟩])
 (.seq
 (.reg false [⟨10, .mv (.t 1), none, false⟩,
 ⟨11, .nc (.t 10), none, false⟩,
 ⟨12, .fa 3 (.t 11), none, false⟩,
 ⟨13, .fa 2 (.t 12), none, false⟩,
 ⟨14, .ld 1 false (.t 13), none, false⟩,
 ⟨7, .mv (.t 14), none, false⟩])
 (.seq
 (.seq
 (.reg false [⟨15, .mv (.t 2), none, false⟩])
 (.ite (.t 15)
 (.reg false [⟨16, .mv (.t 7), none, false⟩,
 ⟨17, .ar .sub false (.k (.sc (.int .i64 180))) (.t 16), none, false⟩,
 ⟨18, .ar .rem false (.t 17) (.k (.sc (.int .i64 180))), none, false⟩,
 ⟨7, .mv (.t 18), none, false⟩])
 .skip))
 (.seq
 (.reg true [⟨19, .mv (.t 0), none, false⟩,
 ⟨20, .nc (.t 19), none, false⟩,
 ⟨21, .fa 3 (.t 20), none, false⟩,
 ⟨22, .fa 1 (.t 21), none, false⟩,
 ⟨23, .ld 1 false (.t 22), none, false⟩,
 ⟨24, .mv (.t 1), none, false⟩,
 ⟨25, .nc (.t 24), none, false⟩,
 ⟨26, .fa 3 (.t 25), none, false⟩,
 ⟨27, .fa 1 (.t 26), none, false⟩,
 ⟨28, .ld 1 false (.t 27), none, false⟩,
 ⟨29, .ar .sub false (.t 23) (.t 28), none, false⟩,
 ⟨8, .mv (.t 29), none, false⟩])
 (.seq
 (.reg true [⟨30, .mv (.t 8), none, false⟩,
 ⟨31, .mv (.t 8), none, false⟩,
 ⟨32, .ng (.t 31), none, false⟩,
 ⟨33, .ca (.k (.cl 108 [])) [(.t 30), (.t 32)], none, false⟩,
 ⟨34, .ar .mul false (.k (.sc (.int .i64 3))) (.t 33), none, false⟩,
 ⟨35, .mv (.t 0), none, false⟩,
 ⟨36, .nc (.t 35), none, false⟩,
 ⟨37, .fa 3 (.t 36), none, false⟩,
 ⟨38, .fa 2 (.t 37), none, false⟩,
 ⟨39, .ld 1 false (.t 38), none, false⟩,
 ⟨40, .mv (.t 7), none, false⟩,
 ⟨41, .ca (.k (.cl 136 [])) [(.t 39), (.t 40)], none, false⟩,
 ⟨42, .ar .add false (.t 34) (.t 41), none, false⟩,
 ⟨9, .mv (.t 42), none, false⟩])
 (.seq
 (.seq
 (.reg true [⟨43, .mv (.t 0), none, false⟩,
 ⟨44, .nc (.t 43), none, false⟩,
 ⟨45, .fa 1 (.t 44), none, false⟩,
 ⟨46, .ld 1 false (.t 45), none, false⟩,
 ⟨47, .mv (.t 1), none, false⟩,
 ⟨48, .nc (.t 47), none, false⟩,
 ⟨49, .fa 1 (.t 48), none, false⟩,
 ⟨50, .ld 1 false (.t 49), none, false⟩,
 ⟨51, .ar .eql false (.t 46) (.t 50), none, false⟩])
 (.ite (.t 51)
 (.reg true [⟨52, .mv (.t 9), none, false⟩,
 ⟨53, .mv (.t 0), none, false⟩,
 ⟨54, .nc (.t 53), none, false⟩,
 ⟨55, .fa 2 (.t 54), none, false⟩,
 ⟨56, .ld 1 false (.t 55), none, false⟩,
 ⟨57, .mv (.t 1), none, false⟩,
 ⟨58, .nc (.t 57), none, false⟩,
 ⟨59, .fa 2 (.t 58), none, false⟩,
 ⟨60, .ld 1 false (.t 59), none, false⟩,
 ⟨61, .ar .sub false (.t 56) (.t 60), none, false⟩,
 ⟨62, .mv (.t 1), none, false⟩,
 ⟨63, .nc (.t 62), none, false⟩,
 ⟨64, .fa 2 (.t 63), none, false⟩,
 ⟨65, .ld 1 false (.t 64), none, false⟩,
 ⟨66, .mv (.t 0), none, false⟩,
 ⟨67, .nc (.t 66), none, false⟩,
 ⟨68, .fa 2 (.t 67), none, false⟩,
 ⟨69, .ld 1 false (.t 68), none, false⟩,
 ⟨70, .ar .sub false (.t 65) (.t 69), none, false⟩,
 ⟨71, .ca (.k (.cl 108 [])) [(.t 61), (.t 70)], none, false⟩,
 ⟨72, .ca (.k (.cl 109 [])) [(.k (.sc (.int .i64 20))), (.t 71)], none, false⟩,
 ⟨73, .ar .add false (.t 52) (.t 72), none, false⟩,
 ⟨9, .mv (.t 73), none, false⟩])
 (.reg false [⟨74, .mv (.t 9), none, false⟩,
 ⟨75, .ar .add false (.t 74) (.k (.sc (.int .i64 500))), none, false⟩,
 ⟨9, .mv (.t 75), none, false⟩])))
 (.seq
 (.seq
 (.reg true [⟨76, .mv (.t 0), none, false⟩,
 ⟨77, .nc (.t 76), none, false⟩,
 ⟨78, .fa 3 (.t 77), none, false⟩,
 ⟨79, .fa 0 (.t 78), none, false⟩,
 ⟨80, .ld 1 false (.t 79), none, false⟩,
 ⟨81, .mv (.t 1), none, false⟩,
 ⟨82, .nc (.t 81), none, false⟩,
 ⟨83, .fa 3 (.t 82), none, false⟩,
 ⟨84, .fa 0 (.t 83), none, false⟩,
 ⟨85, .ld 1 false (.t 84), none, false⟩,
 ⟨86, .ar .neq false (.t 80) (.t 85), none, false⟩])
 (.ite (.t 86)
 (.reg false [⟨87, .mv (.t 9), none, false⟩,
 ⟨88, .ar .add false (.t 87) (.k (.sc (.int .i64 500))), none, false⟩,
 ⟨9, .mv (.t 88), none, false⟩])
 .skip))
 (.seq
 (.reg false [⟨89, .mv (.t 9), none, false⟩,
 ⟨6, .mv (.t 89), none, false⟩])
 .ret))))))))⟩
attribute [simp] i95
set_option maxRecDepth 1000000 in
theorem c95 : cFn Try.prog 95 [[]] = some i95 := by kernel_rfl
theorem e95 : enterOk Try.prog 95 = true := by kernel_rfl
def i96 : Ev.Fn := ⟨3, 74, [.tmp 6],
 (.seq
 (.reg false [⟨3, .bx (.t 0), none, false⟩,
 ⟨4, .bx (.t 1), none, false⟩,
 ⟨6, .mv (.k (.sc (.int .i64 0))), none, false⟩])
 (.seq
 (.reg false [⟨11, .fa 3 (.t 4), none, false⟩,
 ⟨12, .fa 2 (.t 11), none, false⟩,
 ⟨13, .ld 1 false (.t 12), none, false⟩,
 ⟨7, .mv (.t 13), none, false⟩])
 (.seq
 (.seq
 (.reg false [⟨14, .mv (.t 2), none, false⟩])
 (.ite (.t 14)
 (.reg false [⟨15, .mv (.t 7), none, false⟩,
 ⟨16, .ca (.k (.cl 99 [])) [(.t 15)], none, false⟩,
 ⟨7, .mv (.t 16), none, false⟩])
 .skip))
 (.seq
 (.reg false [⟨18, .fa 3 (.t 3), none, false⟩,
 ⟨19, .fa 2 (.t 18), none, false⟩,
 ⟨20, .ld 1 false (.t 19), none, false⟩,
 ⟨21, .mv (.t 7), none, false⟩,
 ⟨22, .ca (.k (.cl 137 [])) [(.t 20), (.t 21)], none, false⟩,
 ⟨17, .mv (.t 22), none, false⟩,
 ⟨23, .xt (.t 17) 0, none, false⟩,
 ⟨24, .xt (.t 17) 1, none, false⟩,
 ⟨8, .mv (.t 23), none, false⟩,
 ⟨9, .mv (.t 24), none, false⟩])
 (.seq
 (.reg false [⟨25, .fa 3 (.t 3), none, false⟩,
 ⟨26, .fa 1 (.t 25), none, false⟩,
 ⟨27, .ld 1 false (.t 26), none, false⟩,
 ⟨28, .fa 3 (.t 4), none, false⟩,
 ⟨29, .fa 1 (.t 28), none, false⟩,
 ⟨30, .ld 1 false (.t 29), none, false⟩,
 ⟨31, .ar .sub false (.t 27) (.t 30), none, false⟩,
 ⟨32, .fa 3 (.t 4), none, false⟩,
 ⟨33, .fa 1 (.t 32), none, false⟩,
 ⟨34, .ld 1 false (.t 33), none, false⟩,
 ⟨35, .fa 3 (.t 3), none, false⟩,
 ⟨36, .fa 1 (.t 35), none, false⟩,
 ⟨37, .ld 1 false (.t 36), none, false⟩,
 ⟨38, .ar .sub false (.t 34) (.t 37), none, false⟩,
 ⟨39, .mx (.t 31) (.t 38), none, false⟩,
 ⟨40, .ar .mul false (.k (.sc (.int .i64 3))) (.t 39), none, false⟩,
 ⟨41, .mv (.t 8), none, false⟩,
 ⟨42, .ar .add false (.t 40) (.t 41), none, false⟩,
 ⟨10, .mv (.t 42), none, false⟩])
 (.seq
 (.seq
 (.reg false [⟨43, .fa 1 (.t 3), none, false⟩,
 ⟨44, .ld 1 false (.t 43), none, false⟩,
 ⟨45, .fa 1 (.t 4), none, false⟩,
 ⟨46, .ld 1 false (.t 45), none, false⟩,
 ⟨47, .ar .eql false (.t 44) (.t 46), none, false⟩])
 (.ite (.t 47)
 (.reg false [⟨48, .mv (.t 10), none, false⟩,
 ⟨49, .fa 2 (.t 3), none, false⟩,
 ⟨50, .ld 1 false (.t 49), none, false⟩,
 ⟨51, .fa 2 (.t 4), none, false⟩,
 ⟨52, .ld 1 false (.t 51), none, false⟩,
 ⟨53, .ar .sub false (.t 50) (.t 52), none, false⟩,
 ⟨54, .fa 2 (.t 4), none, false⟩,
 ⟨55, .ld 1 false (.t 54), none, false⟩,
 ⟨56, .fa 2 (.t 3), none, false⟩,
 ⟨57, .ld 1 false (.t 56), none, false⟩,
 ⟨58, .ar .sub false (.t 55) (.t 57), none, false⟩,
 ⟨59, .mx (.t 53) (.t 58), none, false⟩,
 ⟨60, .mn (.t 59) (.k (.sc (.int .i64 20))), none, false⟩,
 ⟨61, .ar .add false (.t 48) (.t 60), none, false⟩,
 ⟨10, .mv (.t 61), none, false⟩])
 (.reg false [⟨62, .mv (.t 10), none, false⟩,
 ⟨63, .ar .add false (.t 62) (.k (.sc (.int .i64 500))), none, false⟩,
 ⟨10, .mv (.t 63), none, false⟩])))
 (.seq
 (.seq
 (.reg false [⟨64, .fa 3 (.t 3), none, false⟩,
 ⟨65, .fa 0 (.t 64), none, false⟩,
 ⟨66, .ld 1 false (.t 65), none, false⟩,
 ⟨67, .fa 3 (.t 4), none, false⟩,
 ⟨68, .fa 0 (.t 67), none, false⟩,
 ⟨69, .ld 1 false (.t 68), none, false⟩,
 ⟨70, .ar .neq false (.t 66) (.t 69), none, false⟩])
 (.ite (.t 70)
 (.reg false [⟨71, .mv (.t 10), none, false⟩,
 ⟨72, .ar .add false (.t 71) (.k (.sc (.int .i64 500))), none, false⟩,
 ⟨10, .mv (.t 72), none, false⟩])
 .skip))
 (.seq
 (.reg false [⟨73, .mv (.t 10), none, false⟩,
 ⟨6, .mv (.t 73), none, false⟩])
 .ret))))))))⟩
attribute [simp] i96
set_option maxRecDepth 1000000 in
theorem c96 : cFn Try.prog 96 [[]] = some i96 := by kernel_rfl
theorem e96 : enterOk Try.prog 96 = true := by kernel_rfl
def w97_1 : IC :=
(.seq
 (.seq
 (.reg false [⟨11, .mv (.t 4), none, false⟩,
 ⟨12, .mv (.t 0), none, false⟩,
 ⟨13, .nc (.t 12), none, false⟩,
 ⟨14, .fa 8 (.t 13), none, false⟩,
 ⟨15, .ld 1 false (.t 14), none, false⟩,
 ⟨16, .ln false (.t 15), none, false⟩,
 ⟨17, .ar .lss false (.t 11) (.t 16), none, false⟩])
 (.ite (.t 17)
 .skip
 (.exit 0)))
 (.seq
 (.block 1
 (.seq
 (.reg false [⟨20, .mv (.t 0), none, false⟩,
 ⟨21, .nc (.t 20), none, false⟩,
 ⟨22, .fa 8 (.t 21), none, false⟩,
 ⟨23, .ld 1 false (.t 22), none, false⟩,
 ⟨24, .mv (.t 4), none, false⟩,
 ⟨25, .ia 4 (.t 23) (.t 24), none, false⟩,
 ⟨26, .ld 4 true (.t 25), none, false⟩,
 ⟨5, .al [(.sc (.int .i64 0)), (.sc (.int .i64 0)), (.sc (.int .i64 0)), (.sc (.int .i64 0))], none, false⟩,
 ⟨1, .so 4 (.t 5) (.t 26), none, true⟩])
 (.seq
 (.reg true [⟨27, .mv (.t 0), none, false⟩,
 ⟨28, .nc (.t 27), none, false⟩,
 ⟨29, .fa 6 (.t 28), none, false⟩,
 ⟨30, .ld 1 false (.t 29), none, false⟩,
 ⟨31, .fa 0 (.t 5), none, false⟩,
 ⟨32, .ld 1 false (.t 31), none, false⟩,
 ⟨33, .ar .sub false (.t 30) (.t 32), none, false⟩,
 ⟨34, .fa 2 (.t 5), none, false⟩,
 ⟨35, .ld 1 false (.t 34), none, false⟩,
 ⟨36, .ar .sub false (.t 33) (.t 35), none, false⟩,
 ⟨37, .fa 0 (.t 5), none, false⟩,
 ⟨1, .so 1 (.t 37) (.t 36), none, true⟩])
 (.reg false [⟨38, .fa 8 (.t 3), none, false⟩,
 ⟨39, .ld 1 false (.t 38), none, false⟩,
 ⟨40, .ld 4 true (.t 5), none, false⟩,
 ⟨41, .bs 91 4 [(.sc (.int .i64 0)), (.sc (.int .i64 0)), (.sc (.int .i64 0)), (.sc (.int .i64 0))] 1 [(0, (.t 40))], none, false⟩,
 ⟨42, .ap 91 4 false (.t 39) (.t 41), none, false⟩,
 ⟨43, .fa 8 (.t 3), none, false⟩,
 ⟨1, .so 1 (.t 43) (.t 42), none, true⟩]))))
 (.reg false [⟨18, .mv (.t 4), none, false⟩,
 ⟨19, .ar .add false (.t 18) (.k (.sc (.int .i64 1))), none, false⟩,
 ⟨4, .mv (.t 19), none, false⟩])))
def b97_1 : IC := w97_1
theorem u97_1 (call : CallF) (st : St) : evC call b97_1 st = evC call w97_1 st := rfl
attribute [simp] u97_1 w97_1
def i97 : Ev.Fn := ⟨1, 54, [.cell 2 9 true],
 (.seq
 (.reg false [⟨2, .al [(.sc (.string ⟨#[]⟩)), (.sc (.string ⟨#[]⟩)), (.sc (.int .i64 0)), (.sc (.string ⟨#[]⟩)), (.sc (.int .i64 0)), (.sc (.int .i64 0)), (.sc (.int .i64 0)), (.sc (.int .i64 0)), .nl], none, false⟩])
 (.seq
 (.reg false [⟨6, .mv (.t 0), none, false⟩,
 ⟨7, .nc (.t 6), none, false⟩,
 ⟨8, .ld 9 true (.t 7), none, false⟩,
 ⟨3, .al [(.sc (.string ⟨#[]⟩)), (.sc (.string ⟨#[]⟩)), (.sc (.int .i64 0)), (.sc (.string ⟨#[]⟩)), (.sc (.int .i64 0)), (.sc (.int .i64 0)), (.sc (.int .i64 0)), (.sc (.int .i64 0)), .nl], none, false⟩,
 ⟨1, .so 9 (.t 3) (.t 8), none, true⟩])
 (.seq
 (.reg false [⟨9, .bs 91 4 [(.sc (.int .i64 0)), (.sc (.int .i64 0)), (.sc (.int .i64 0)), (.sc (.int .i64 0))] 0 [], none, false⟩,
 ⟨10, .fa 8 (.t 3), none, false⟩,
 ⟨1, .so 1 (.t 10) (.t 9), none, true⟩])
 (.seq
 (.seq
 (.reg false [⟨4, .mv (.k (.sc (.int .i64 0))), none, false⟩])
 (.cln [0, 2, 3] [2]
 (.block 0
 (.loop [0, 2, 3, 4] b97_1))))
 (.seq
 (.reg false [⟨44, .mv (.t 0), none, false⟩,
 ⟨45, .nc (.t 44), none, false⟩,
 ⟨46, .fa 3 (.t 45), none, false⟩,
 ⟨47, .fa 2 (.t 46), none, false⟩,
 ⟨48, .ld 1 false (.t 47), none, false⟩,
 ⟨49, .ar .sub false (.k (.sc (.int .i64 180))) (.t 48), none, false⟩,
 ⟨50, .ar .rem false (.t 49) (.k (.sc (.int .i64 180))), none, false⟩,
 ⟨51, .fa 3 (.t 3), none, false⟩,
 ⟨52, .fa 2 (.t 51), none, false⟩,
 ⟨1, .so 1 (.t 52) (.t 50), none, true⟩])
 (.seq
 (.reg false [⟨53, .ld 9 true (.t 3), none, false⟩,
 ⟨1, .so 9 (.t 2) (.t 53), none, true⟩])
 .ret))))))⟩
attribute [simp] i97
set_option maxRecDepth 1000000 in
theorem c97 : cFn Try.prog 97 [[], [0, 2, 3, 4], [0, 2, 3], [2]] = some i97 := by kernel_rfl
theorem e97 : enterOk Try.prog 97 = true := by kernel_rfl
def i98 : Ev.Fn := ⟨1, 8, [.cell 2 9 true],
 (.seq
 (.reg false [⟨1, .bx (.t 0), none, false⟩,
 ⟨2, .al [(.sc (.string ⟨#[]⟩)), (.sc (.string ⟨#[]⟩)), (.sc (.int .i64 0)), (.sc (.string ⟨#[]⟩)), (.sc (.int .i64 0)), (.sc (.int .i64 0)), (.sc (.int .i64 0)), (.sc (.int .i64 0)), .nl], none, false⟩])
 (.seq
 (.reg false [⟨3, .fa 8 (.t 1), none, false⟩,
 ⟨4, .ld 1 false (.t 3), none, false⟩,
 ⟨5, .ca (.k (.cl 138 [])) [(.t 4)], none, false⟩,
 ⟨6, .fa 8 (.t 1), none, false⟩,
 ⟨1, .so 1 (.t 6) (.t 5), none, true⟩])
 (.seq
 (.reg false [⟨7, .ld 9 true (.t 1), none, false⟩,
 ⟨1, .so 9 (.t 2) (.t 7), none, true⟩])
 .ret)))⟩
attribute [simp] i98
set_option maxRecDepth 1000000 in
theorem c98 : cFn Try.prog 98 [[]] = some i98 := by kernel_rfl
theorem e98 : enterOk Try.prog 98 = true := by kernel_rfl
def i99 : Ev.Fn := ⟨1, 6, [.tmp 2],
 (.seq
 (.reg false [⟨2, .mv (.k (.sc (.int .i64 0))), none, false⟩])
 (.seq
 (.reg false [⟨3, .mv (.t 0), none, false⟩,
 ⟨4, .ar .sub false (.k (.sc (.int .i64 180))) (.t 3), none, false⟩,
 ⟨5, .ar .rem false (.t 4) (.k (.sc (.int .i64 180))), none, false⟩,
 ⟨2, .mv (.t 5), none, false⟩])
 .ret))⟩
attribute [simp] i99
set_option maxRecDepth 1000000 in
theorem c99 : cFn Try.prog 99 [[]] = some i99 := by kernel_rfl
theorem e99 : enterOk Try.prog 99 = true := by kernel_rfl
def w100_1 : IC :=
(.seq
 (.seq
 (.reg false [⟨6, .mv (.t 5), none, false⟩,
 ⟨7, .mv (.t 0), none, false⟩,
 ⟨8, .ln false (.t 7), none, false⟩,
 ⟨9, .ar .lss false (.t 6) (.t 8), none, false⟩])
 (.ite (.t 9)
 .skip
 (.exit 0)))
 (.seq
 (.block 1
 (.seq
 (.reg false [⟨12, .mv (.t 0), none, false⟩,
 ⟨13, .mv (.t 5), none, false⟩,
 ⟨14, .mv (.t 1), none, false⟩,
 ⟨15, .ia 4 (.t 12) (.t 13), none, false⟩,
 ⟨16, .fa 0 (.t 15), none, false⟩,
 ⟨1, .so 1 (.t 16) (.t 14), none, true⟩])
 (.seq
 (.reg false [⟨17, .mv (.t 1), none, false⟩,
 ⟨18, .ar .add false (.t 17) (.k (.sc (.int .i64 1))), none, false⟩,
 ⟨1, .mv (.t 18), none, false⟩])
 (.seq
 (.reg false [⟨19, .mv (.t 0), none, false⟩,
 ⟨20, .mv (.t 5), none, false⟩,
 ⟨21, .mv (.t 1), none, false⟩,
 ⟨22, .ia 4 (.t 19) (.t 20), none, false⟩,
 ⟨23, .fa 1 (.t 22), none, false⟩,
 ⟨1, .so 1 (.t 23) (.t 21), none, true⟩])
 (.seq
 (.reg false [⟨24, .mv (.t 1), none, false⟩,
 ⟨25, .ar .add false (.t 24) (.k (.sc (.int .i64 1))), none, false⟩,
 ⟨1, .mv (.t 25), none, false⟩])
 (.seq
 (.reg false [⟨26, .mv (.t 0), none, false⟩,
 ⟨27, .mv (.t 5), none, false⟩,
 ⟨28, .mv (.t 1), none, false⟩,
 ⟨29, .ia 4 (.t 26) (.t 27), none, false⟩,
 ⟨30, .fa 2 (.t 29), none, false⟩,
 ⟨1, .so 1 (.t 30) (.t 28), none, true⟩])
 (.seq
 (.reg false [⟨31, .mv (.t 1), none, false⟩,
 ⟨32, .ar .add false (.t 31) (.k (.sc (.int .i64 1))), none, false⟩,
 ⟨1, .mv (.t 32), none, false⟩])
 (.seq
 (.reg false [⟨33, .mv (.t 0), none, false⟩,
 ⟨34, .mv (.t 5), none, false⟩,
 ⟨35, .mv (.t 1), none, false⟩,
 ⟨36, .ia 4 (.t 33) (.t 34), none, false⟩,
 ⟨37, .fa 3 (.t 36), none, false⟩,
 ⟨1, .so 1 (.t 37) (.t 35), none, true⟩])
 (.reg false [⟨38, .mv (.t 1), none, false⟩,
 ⟨39, .ar .add false (.t 38) (.k (.sc (.int .i64 1))), none, false⟩,
 ⟨1, .mv (.t 39), none, false⟩])))))))))
 (.reg false [⟨10, .mv (.t 5), none, false⟩,
 ⟨11, .ar .add false (.t 10) (.k (.sc (.int .i64 1))), none, false⟩,
 ⟨5, .mv (.t 11), none, false⟩])))
def b100_1 : IC := w100_1
theorem u100_1 (call : CallF) (st : St) : evC call b100_1 st = evC call w100_1 st := rfl
attribute [simp] u100_1 w100_1
def i100 : Ev.Fn := ⟨2, 41, [.tmp 4],
 (.seq
 (.reg false [⟨4, .mv (.k (.sc (.int .i64 0))), none, false⟩])
 (.seq
 (.seq
 (.reg false [⟨5, .mv (.k (.sc (.int .i64 0))), none, false⟩])
 (.cln [1, 100000] [4, 100000]
 (.block 0
 (.loop [0, 1, 5, 100000] b100_1))))
 (.seq
 (.reg false [⟨40, .mv (.t 1), none, false⟩,
 ⟨4, .mv (.t 40), none, false⟩])
 .ret)))⟩
attribute [simp] i100
set_option maxRecDepth 1000000 in
theorem c100 : cFn Try.prog 100 [[], [0, 1, 5, 100000], [1, 100000], [4, 100000]] = some i100 := by kernel_rfl
theorem e100 : enterOk Try.prog 100 = true := by kernel_rfl
def w101_1 : IC :=
(.seq
 (.seq
 (.reg false [⟨6, .mv (.t 5), none, false⟩,
 ⟨7, .mv (.t 0), none, false⟩,
 ⟨8, .ln false (.t 7), none, false⟩,
 ⟨9, .ar .lss false (.t 6) (.t 8), none, false⟩])
 (.ite (.t 9)
 .skip
 (.exit 0)))
 (.seq
 (.block 1
 (.seq
 (.seq
 (.reg false [⟨12, .mv (.t 0), none, false⟩,
 ⟨13, .mv (.t 5), none, false⟩,
 ⟨14, .ia 4 (.t 12) (.t 13), none, false⟩,
 ⟨15, .fa 0 (.t 14), none, false⟩,
 ⟨16, .ld 1 false (.t 15), none, false⟩,
 ⟨17, .mv (.t 1), none, false⟩,
 ⟨18, .ar .neq false (.t 16) (.t 17), none, false⟩])
 (.ite (.t 18)
 (.seq
 (.reg false [⟨4, .mv (.k (.sc (.int .i64 (-1)))), none, false⟩])
 .ret)
 .skip))
 (.seq
 (.reg false [⟨19, .mv (.t 1), none, false⟩,
 ⟨20, .ar .add false (.t 19) (.k (.sc (.int .i64 1))), none, false⟩,
 ⟨1, .mv (.t 20), none, false⟩])
 (.seq
 (.seq
 (.reg false [⟨21, .mv (.t 0), none, false⟩,
 ⟨22, .mv (.t 5), none, false⟩,
 ⟨23, .ia 4 (.t 21) (.t 22), none, false⟩,
 ⟨24, .fa 1 (.t 23), none, false⟩,
 ⟨25, .ld 1 false (.t 24), none, false⟩,
 ⟨26, .mv (.t 1), none, false⟩,
 ⟨27, .ar .neq false (.t 25) (.t 26), none, false⟩])
 (.ite (.t 27)
 (.seq
 (.reg false [⟨4, .mv (.k (.sc (.int .i64 (-1)))), none, false⟩])
 .ret)
 .skip))
 (.seq
 (.reg false [⟨28, .mv (.t 1), none, false⟩,
 ⟨29, .ar .add false (.t 28) (.k (.sc (.int .i64 1))), none, false⟩,
 ⟨1, .mv (.t 29), none, false⟩])
 (.seq
 (.seq
 (.reg false [⟨30, .mv (.t 0), none, false⟩,
 ⟨31, .mv (.t 5), none, false⟩,
 ⟨32, .ia 4 (.t 30) (.t 31), none, false⟩,
 ⟨33, .fa 2 (.t 32), none, false⟩,
 ⟨34, .ld 1 false (.t 33), none, false⟩,
 ⟨35, .mv (.t 1), none, false⟩,
 ⟨36, .ar .neq false (.t 34) (.t 35), none, false⟩])
 (.ite (.t 36)
 (.seq
 (.reg false [⟨4, .mv (.k (.sc (.int .i64 (-1)))), none, false⟩])
 .ret)
 .skip))
 (.seq
 (.reg false [⟨37, .mv (.t 1), none, false⟩,
 ⟨38, .ar .add false (.t 37) (.k (.sc (.int .i64 1))), none, false⟩,
 ⟨1, .mv (.t 38), none, false⟩])
 (.seq
 (.seq
 (.reg false [⟨39, .mv (.t 0), none, false⟩,
 ⟨40, .mv (.t 5), none, false⟩,
 ⟨41, .ia 4 (.t 39) (.t 40), none, false⟩,
 ⟨42, .fa 3 (.t 41), none, false⟩,
 ⟨43, .ld 1 false (.t 42), none, false⟩,
 ⟨44, .mv (.t 1), none, false⟩,
 ⟨45, .ar .neq false (.t 43) (.t 44), none, false⟩])
 (.ite (.t 45)
 (.seq
 (.reg false [⟨4, .mv (.k (.sc (.int .i64 (-1)))), none, false⟩])
 .ret)
 .skip))
 (.reg false [⟨46, .mv (.t 1), none, false⟩,
 ⟨47, .ar .add false (.t 46) (.k (.sc (.int .i64 1))), none, false⟩,
 ⟨1, .mv (.t 47), none, false⟩])))))))))
 (.reg false [⟨10, .mv (.t 5), none, false⟩,
 ⟨11, .ar .add false (.t 10) (.k (.sc (.int .i64 1))), none, false⟩,
 ⟨5, .mv (.t 11), none, false⟩])))
def b101_1 : IC := w101_1
theorem u101_1 (call : CallF) (st : St) : evC call b101_1 st = evC call w101_1 st := rfl
attribute [simp] u101_1 w101_1
def i101 : Ev.Fn := ⟨2, 49, [.tmp 4],
 (.seq
 (.reg false [⟨4, .mv (.k (.sc (.int .i64 0))), none, false⟩])
 (.seq
 (.seq
 (.reg false [⟨5, .mv (.k (.sc (.int .i64 0))), none, false⟩])
 (.cln [1] [4]
 (.block 0
 (.loop [0, 1, 5] b101_1))))
 (.seq
 (.reg false [⟨48, .mv (.t 1), none, false⟩,
 ⟨4, .mv (.t 48), none, false⟩])
 .ret)))⟩
attribute [simp] i101
set_option maxRecDepth 1000000 in
theorem c101 : cFn Try.prog 101 [[], [0, 1, 5], [1], [4]] = some i101 := by kernel_rfl
theorem e101 : enterOk Try.prog 101 = true := by kernel_rfl
def i102 : Ev.Fn := ⟨1, 29, [.tmp 2],
 (.seq
 (.reg false [⟨2, .mv (.k (.sc (.bool false))), none, false⟩])
 (.seq
 (.reg false [⟨3, .mv (.t 0), none, false⟩,
 ⟨4, .nc (.t 3), none, false⟩,
 ⟨5, .fa 0 (.t 4), none, false⟩,
 ⟨6, .ld 1 false (.t 5), none, false⟩,
 ⟨7, .ca (.k (.cl 88 [])) [(.t 6), (.k (.sc (.int .i64 0))), (.k (.sc (.int .i64 500)))], none, false⟩,
 ⟨8, .mv (.t 7), none, false⟩,
 ⟨9, .mv (.t 0), (some (8, true)), false⟩,
 ⟨10, .nc (.t 9), (some (8, true)), false⟩,
 ⟨11, .fa 1 (.t 10), (some (8, true)), false⟩,
 ⟨12, .ld 1 false (.t 11), (some (8, true)), false⟩,
 ⟨13, .ca (.k (.cl 88 [])) [(.t 12), (.k (.sc (.int .i64 0))), (.k (.sc (.int .i64 500)))], (some (8, true)), false⟩,
 ⟨14, .pk (.t 8) (.t 13) (.k (.sc (.bool false))), none, false⟩,
 ⟨15, .mv (.t 14), none, false⟩,
 ⟨16, .mv (.t 0), (some (15, true)), false⟩,
 ⟨17, .nc (.t 16), (some (15, true)), false⟩,
 ⟨18, .fa 2 (.t 17), (some (15, true)), false⟩,
 ⟨19, .ld 1 false (.t 18), (some (15, true)), false⟩,
 ⟨20, .ca (.k (.cl 88 [])) [(.t 19), (.k (.sc (.int .i64 0))), (.k (.sc (.int .i64 90)))], (some (15, true)), false⟩,
 ⟨21, .pk (.t 15) (.t 20) (.k (.sc (.bool false))), none, false⟩,
 ⟨22, .mv (.t 21), none, false⟩,
 ⟨23, .mv (.t 0), (some (22, true)), false⟩,
 ⟨24, .nc (.t 23), (some (22, true)), false⟩,
 ⟨25, .fa 3 (.t 24), (some (22, true)), false⟩,
 ⟨26, .ld 1 false (.t 25), (some (22, true)), false⟩,
 ⟨27, .ca (.k (.cl 88 [])) [(.t 26), (.k (.sc (.int .i64 0))), (.k (.sc (.int .i64 100)))], (some (22, true)), false⟩,
 ⟨28, .pk (.t 22) (.t 27) (.k (.sc (.bool false))), none, false⟩,
 ⟨2, .mv (.t 28), none, false⟩])
 .ret))⟩
attribute [simp] i102
set_option maxRecDepth 1000000 in
theorem c102 : cFn Try.prog 102 [[]] = some i102 := by kernel_rfl
theorem e102 : enterOk Try.prog 102 = true := by kernel_rfl
def i103 : Ev.Fn := ⟨1, 5, [.tmp 2],
 (.seq
 (.reg false [⟨2, .mv (.k (.sc (.bool false))), none, false⟩])
 (.seq
 (.reg false [⟨3, .mv (.t 0), none, false⟩,
 ⟨4, .ca (.k (.cl 88 [])) [(.t 3), (.k (.sc (.int .i64 0))), (.k (.sc (.int .i64 7)))], none, false⟩,
 ⟨2, .mv (.t 4), none, false⟩])
 .ret))⟩
attribute [simp] i103
set_option maxRecDepth 1000000 in
theorem c103 : cFn Try.prog 103 [[]] = some i103 := by kernel_rfl
theorem e103 : enterOk Try.prog 103 = true := by kernel_rfl
def i104 : Ev.Fn := ⟨4, 62, [.tmp 8],
 (.seq
 (.reg false [⟨8, .mv (.k (.sc (.int .i64 0))), none, false⟩])
 (.seq
 (.seq
 (.reg true [⟨9, .mv (.t 0), none, false⟩,
 ⟨10, .nc (.t 9), none, false⟩,
 ⟨11, .fa 0 (.t 10), none, false⟩,
 ⟨12, .ld 1 false (.t 11), none, false⟩,
 ⟨13, .mv (.t 1), none, false⟩,
 ⟨14, .nc (.t 13), none, false⟩,
 ⟨15, .fa 3 (.t 14), none, false⟩,
 ⟨16, .fa 0 (.t 15), none, false⟩,
 ⟨17, .ld 1 false (.t 16), none, false⟩,
 ⟨18, .ar .neq false (.t 12) (.t 17), none, false⟩])
 (.ite (.t 18)
 (.seq
 (.reg false [⟨8, .mv (.k (.sc (.int .i64 2))), none, false⟩])
 .ret)
 .skip))
 (.seq
 (.seq
 (.reg true [⟨19, .mv (.t 0), none, false⟩,
 ⟨20, .nc (.t 19), none, false⟩,
 ⟨21, .fa 1 (.t 20), none, false⟩,
 ⟨22, .ld 1 false (.t 21), none, false⟩,
 ⟨23, .mv (.t 1), none, false⟩,
 ⟨24, .nc (.t 23), none, false⟩,
 ⟨25, .fa 3 (.t 24), none, false⟩,
 ⟨26, .fa 1 (.t 25), none, false⟩,
 ⟨27, .ld 1 false (.t 26), none, false⟩,
 ⟨28, .ar .sub false (.t 22) (.t 27), none, false⟩,
 ⟨29, .mv (.t 1), none, false⟩,
 ⟨30, .nc (.t 29), none, false⟩,
 ⟨31, .fa 3 (.t 30), none, false⟩,
 ⟨32, .fa 1 (.t 31), none, false⟩,
 ⟨33, .ld 1 false (.t 32), none, false⟩,
 ⟨34, .mv (.t 0), none, false⟩,
 ⟨35, .nc (.t 34), none, false⟩,
 ⟨36, .fa 1 (.t 35), none, false⟩,
 ⟨37, .ld 1 false (.t 36), none, false⟩,
 ⟨38, .ar .sub false (.t 33) (.t 37), none, false⟩,
 ⟨39, .ca (.k (.cl 108 [])) [(.t 28), (.t 38)], none, false⟩,
 ⟨40, .mv (.t 3), none, false⟩,
 ⟨41, .nc (.t 40), none, false⟩,
 ⟨42, .fa 3 (.t 41), none, false⟩,
 ⟨43, .ld 1 false (.t 42), none, false⟩,
 ⟨44, .ar .gtr false (.t 39) (.t 43), none, false⟩])
 (.ite (.t 44)
 (.seq
 (.reg false [⟨8, .mv (.k (.sc (.int .i64 3))), none, false⟩])
 .ret)
 .skip))
 (.seq
 (.seq
 (.reg true [⟨45, .mv (.t 1), none, false⟩,
 ⟨46, .nc (.t 45), none, false⟩,
 ⟨47, .fa 3 (.t 46), none, false⟩,
 ⟨48, .fa 2 (.t 47), none, false⟩,
 ⟨49, .ld 1 false (.t 48), none, false⟩,
 ⟨50, .mv (.t 2), none, false⟩,
 ⟨51, .ca (.k (.cl 139 [])) [(.t 49), (.t 50)], none, false⟩,
 ⟨52, .mv (.t 0), none, false⟩,
 ⟨53, .nc (.t 52), none, false⟩,
 ⟨54, .fa 2 (.t 53), none, false⟩,
 ⟨55, .ld 1 false (.t 54), none, false⟩,
 ⟨56, .ca (.k (.cl 136 [])) [(.t 51), (.t 55)], none, false⟩,
 ⟨57, .mv (.t 3), none, false⟩,
 ⟨58, .nc (.t 57), none, false⟩,
 ⟨59, .fa 2 (.t 58), none, false⟩,
 ⟨60, .ld 1 false (.t 59), none, false⟩,
 ⟨61, .ar .gtr false (.t 56) (.t 60), none, false⟩])
 (.ite (.t 61)
 (.seq
 (.reg false [⟨8, .mv (.k (.sc (.int .i64 4))), none, false⟩])
 .ret)
 .skip))
 (.seq
 (.reg false [⟨8, .mv (.k (.sc (.int .i64 0))), none, false⟩])
 .ret)))))⟩
attribute [simp] i104
set_option maxRecDepth 1000000 in
theorem c104 : cFn Try.prog 104 [[]] = some i104 := by kernel_rfl
theorem e104 : enterOk Try.prog 104 = true := by kernel_rfl
def i105 : Ev.Fn := ⟨1, 21, [.tmp 2],
 (.seq
 (.reg false [⟨1, .bx (.t 0), none, false⟩,
 ⟨2, .mv (.k (.sc (.bool false))), none, false⟩])
 (.seq
 (.reg false [⟨3, .fa 0 (.t 1), none, false⟩,
 ⟨4, .ld 1 false (.t 3), none, false⟩,
 ⟨5, .ca (.k (.cl 84 [])) [(.t 4), (.k (.sc (.int .i64 0))), (.k (.sc (.int .i64 500)))], none, false⟩,
 ⟨6, .mv (.t 5), none, false⟩,
 ⟨7, .fa 1 (.t 1), (some (6, true)), false⟩,
 ⟨8, .ld 1 false (.t 7), (some (6, true)), false⟩,
 ⟨9, .ca (.k (.cl 84 [])) [(.t 8), (.k (.sc (.int .i64 0))), (.k (.sc (.int .i64 500)))], (some (6, true)), false⟩,
 ⟨10, .pk (.t 6) (.t 9) (.k (.sc (.bool false))), none, false⟩,
 ⟨11, .mv (.t 10), none, false⟩,
 ⟨12, .fa 2 (.t 1), (some (11, true)), false⟩,
 ⟨13, .ld 1 false (.t 12), (some (11, true)), false⟩,
 ⟨14, .ca (.k (.cl 84 [])) [(.t 13), (.k (.sc (.int .i64 0))), (.k (.sc (.int .i64 90)))], (some (11, true)), false⟩,
 ⟨15, .pk (.t 11) (.t 14) (.k (.sc (.bool false))), none, false⟩,
 ⟨16, .mv (.t 15), none, false⟩,
 ⟨17, .fa 3 (.t 1), (some (16, true)), false⟩,
 ⟨18, .ld 1 false (.t 17), (some (16, true)), false⟩,
 ⟨19, .ca (.k (.cl 84 [])) [(.t 18), (.k (.sc (.int .i64 0))), (.k (.sc (.int .i64 100)))], (some (16, true)), false⟩,
 ⟨20, .pk (.t 16) (.t 19) (.k (.sc (.bool false))), none, false⟩,
 ⟨2, .mv (.t 20), none, false⟩])
 .ret))⟩
attribute [simp] i105
set_option maxRecDepth 1000000 in
theorem c105 : cFn Try.prog 105 [[]] = some i105 := by kernel_rfl
theorem e105 : enterOk Try.prog 105 = true := by kernel_rfl
def i106 : Ev.Fn := ⟨4, 57, [.tmp 8],
 (.seq
 (.reg false [⟨4, .bx (.t 0), none, false⟩,
 ⟨5, .bx (.t 1), none, false⟩,
 ⟨7, .bx (.t 3), none, false⟩,
 ⟨8, .mv (.k (.sc (.int .i64 0))), none, false⟩])
 (.seq
 (.reg false [⟨14, .fa 3 (.t 5), none, false⟩,
 ⟨15, .fa 2 (.t 14), none, false⟩,
 ⟨16, .ld 1 false (.t 15), none, false⟩,
 ⟨17, .mv (.t 2), none, false⟩,
 ⟨18, .ca (.k (.cl 140 [])) [(.t 16), (.t 17)], none, false⟩,
 ⟨13, .mv (.t 18), none, false⟩,
 ⟨19, .xt (.t 13) 0, none, false⟩,
 ⟨20, .xt (.t 13) 1, none, false⟩,
 ⟨9, .mv (.t 19), none, false⟩,
 ⟨10, .mv (.t 20), none, false⟩])
 (.seq
 (.reg false [⟨22, .mv (.t 9), none, false⟩,
 ⟨23, .fa 2 (.t 4), none, false⟩,
 ⟨24, .ld 1 false (.t 23), none, false⟩,
 ⟨25, .ca (.k (.cl 137 [])) [(.t 22), (.t 24)], none, false⟩,
 ⟨21, .mv (.t 25), none, false⟩,
 ⟨26, .xt (.t 21) 0, none, false⟩,
 ⟨27, .xt (.t 21) 1, none, false⟩,
 ⟨11, .mv (.t 26), none, false⟩,
 ⟨12, .mv (.t 27), none, false⟩])
 (.seq
 (.block 0
 (.seq
 (.reg false [⟨29, .fa 0 (.t 4), none, false⟩,
 ⟨30, .ld 1 false (.t 29), none, false⟩,
 ⟨31, .fa 3 (.t 5), none, false⟩,
 ⟨32, .fa 0 (.t 31), none, false⟩,
 ⟨33, .ld 1 false (.t 32), none, false⟩,
 ⟨34, .ar .neq false (.t 30) (.t 33), none, false⟩,
 ⟨28, .mv (.t 34), none, false⟩])
 (.ite (.t 28)
 (.seq
 (.reg false [⟨8, .mv (.k (.sc (.int .i64 2))), none, false⟩])
 .ret)
 (.seq
 (.reg false [⟨36, .fa 1 (.t 4), none, false⟩,
 ⟨37, .ld 1 false (.t 36), none, false⟩,
 ⟨38, .fa 3 (.t 5), none, false⟩,
 ⟨39, .fa 1 (.t 38), none, false⟩,
 ⟨40, .ld 1 false (.t 39), none, false⟩,
 ⟨41, .ar .sub false (.t 37) (.t 40), none, false⟩,
 ⟨42, .fa 3 (.t 5), none, false⟩,
 ⟨43, .fa 1 (.t 42), none, false⟩,
 ⟨44, .ld 1 false (.t 43), none, false⟩,
 ⟨45, .fa 1 (.t 4), none, false⟩,
 ⟨46, .ld 1 false (.t 45), none, false⟩,
 ⟨47, .ar .sub false (.t 44) (.t 46), none, false⟩,
 ⟨48, .mx (.t 41) (.t 47), none, false⟩,
 ⟨49, .fa 3 (.t 7), none, false⟩,
 ⟨50, .ld 1 false (.t 49), none, false⟩,
 ⟨51, .ar .gtr false (.t 48) (.t 50), none, false⟩,
 ⟨35, .mv (.t 51), none, false⟩])
 (.ite (.t 35)
 (.seq
 (.reg false [⟨8, .mv (.k (.sc (.int .i64 3))), none, false⟩])
 .ret)
 (.seq
 (.reg false [⟨53, .mv (.t 11), none, false⟩,
 ⟨54, .fa 2 (.t 7), none, false⟩,
 ⟨55, .ld 1 false (.t 54), none, false⟩,
 ⟨56, .ar .gtr false (.t 53) (.t 55), none, false⟩,
 ⟨52, .mv (.t 56), none, false⟩])
 (.ite (.t 52)
 (.seq
 (.reg false [⟨8, .mv (.k (.sc (.int .i64 4))), none, false⟩])
 .ret)
 .skip)))))))
 (.seq
 (.reg false [⟨8, .mv (.k (.sc (.int .i64 0))), none, false⟩])
 .ret)))))⟩
attribute [simp] i106
set_option maxRecDepth 1000000 in
theorem c106 : cFn Try.prog 106 [[]] = some i106 := by kernel_rfl
theorem e106 : enterOk Try.prog 106 = true := by kernel_rfl
def i107 : Ev.Fn := ⟨3, 47, [.tmp 6],
 (.seq
 (.reg false [⟨6, .mv (.k (.sc (.bool false))), none, false⟩])
 (.seq
 (.reg true [⟨7, .mv (.t 0), none, false⟩,
 ⟨8, .nc (.t 7), none, false⟩,
 ⟨9, .fa 0 (.t 8), none, false⟩,
 ⟨10, .ld 1 false (.t 9), none, false⟩,
 ⟨11, .mv (.t 1), none, false⟩,
 ⟨12, .ca (.k (.cl 88 [])) [(.t 10), (.k (.sc (.int .i64 0))), (.t 11)], none, false⟩,
 ⟨13, .mv (.t 12), none, false⟩,
 ⟨14, .mv (.t 0), (some (13, true)), false⟩,
 ⟨15, .nc (.t 14), (some (13, true)), false⟩,
 ⟨16, .fa 1 (.t 15), (some (13, true)), false⟩,
 ⟨17, .ld 1 false (.t 16), (some (13, true)), false⟩,
 ⟨18, .mv (.t 2), (some (13, true)), false⟩,
 ⟨19, .ca (.k (.cl 88 [])) [(.t 17), (.k (.sc (.int .i64 0))), (.t 18)], (some (13, true)), false⟩,
 ⟨20, .pk (.t 13) (.t 19) (.k (.sc (.bool false))), none, false⟩,
 ⟨21, .mv (.t 20), none, false⟩,
 ⟨22, .mv (.t 0), (some (21, true)), false⟩,
 ⟨23, .nc (.t 22), (some (21, true)), false⟩,
 ⟨24, .fa 2 (.t 23), (some (21, true)), false⟩,
 ⟨25, .ld 1 false (.t 24), (some (21, true)), false⟩,
 ⟨26, .mv (.t 1), (some (21, true)), false⟩,
 ⟨27, .mv (.t 0), (some (21, true)), false⟩,
 ⟨28, .nc (.t 27), (some (21, true)), false⟩,
 ⟨29, .fa 0 (.t 28), (some (21, true)), false⟩,
 ⟨30, .ld 1 false (.t 29), (some (21, true)), false⟩,
 ⟨31, .ar .sub false (.t 26) (.t 30), (some (21, true)), false⟩,
 ⟨32, .ca (.k (.cl 88 [])) [(.t 25), (.k (.sc (.int .i64 1))), (.t 31)], (some (21, true)), false⟩,
 ⟨33, .pk (.t 21) (.t 32) (.k (.sc (.bool false))), none, false⟩,
 ⟨34, .mv (.t 33), none, false⟩,
 ⟨35, .mv (.t 0), (some (34, true)), false⟩,
 ⟨36, .nc (.t 35), (some (34, true)), false⟩,
 ⟨37, .fa 3 (.t 36), (some (34, true)), false⟩,
 ⟨38, .ld 1 false (.t 37), (some (34, true)), false⟩,
 ⟨39, .mv (.t 2), (some (34, true)), false⟩,
 ⟨40, .mv (.t 0), (some (34, true)), false⟩,
 ⟨41, .nc (.t 40), (some (34, true)), false⟩,
 ⟨42, .fa 1 (.t 41), (some (34, true)), false⟩,
 ⟨43, .ld 1 false (.t 42), (some (34, true)), false⟩,
 ⟨44, .ar .sub false (.t 39) (.t 43), (some (34, true)), false⟩,
 ⟨45, .ca (.k (.cl 88 [])) [(.t 38), (.k (.sc (.int .i64 1))), (.t 44)], (some (34, true)), false⟩,
 ⟨46, .pk (.t 34) (.t 45) (.k (.sc (.bool false))), none, false⟩,
 ⟨6, .mv (.t 46), none, false⟩])
 .ret))⟩
attribute [simp] i107
set_option maxRecDepth 1000000 in
theorem c107 : cFn Try.prog 107 [[]] = some i107 := by kernel_rfl
theorem e107 : enterOk Try.prog 107 = true := by kernel_rfl
def i108 : Ev.Fn := ⟨2, 10, [.tmp 4],
 (.seq
 (.reg false [⟨4, .mv (.k (.sc (.int .i64 0))), none, false⟩])
 (.seq
 (.seq
 (.reg false [⟨5, .mv (.t 0), none, false⟩,
 ⟨6, .mv (.t 1), none, false⟩,
 ⟨7, .ar .gtr false (.t 5) (.t 6), none, false⟩])
 (.ite (.t 7)
 (.seq
 (.reg false [⟨8, .mv (.t 0), none, false⟩,
 ⟨4, .mv (.t 8), none, false⟩])
 .ret)
 .skip))
 (.seq
 (.reg false [⟨9, .mv (.t 1), none, false⟩,
 ⟨4, .mv (.t 9), none, false⟩])
 .ret)))⟩
attribute [simp] i108
set_option maxRecDepth 1000000 in
theorem c108 : cFn Try.prog 108 [[]] = some i108 := by kernel_rfl
theorem e108 : enterOk Try.prog 108 = true := by kernel_rfl
def i109 : Ev.Fn := ⟨2, 10, [.tmp 4],
 (.seq
 (.reg false [⟨4, .mv (.k (.sc (.int .i64 0))), none, false⟩])
 (.seq
 (.seq
 (.reg false [⟨5, .mv (.t 0), none, false⟩,
 ⟨6, .mv (.t 1), none, false⟩,
 ⟨7, .ar .lss false (.t 5) (.t 6), none, false⟩])
 (.ite (.t 7)
 (.seq
 (.reg false [⟨8, .mv (.t 0), none, false⟩,
 ⟨4, .mv (.t 8), none, false⟩])
 .ret)
 .skip))
 (.seq
 (.reg false [⟨9, .mv (.t 1), none, false⟩,
 ⟨4, .mv (.t 9), none, false⟩])
 .ret)))⟩
attribute [simp] i109
set_option maxRecDepth 1000000 in
theorem c109 : cFn Try.prog 109 [[]] = some i109 := by kernel_rfl
theorem e109 : enterOk Try.prog 109 = true := by kernel_rfl
def i110 : Ev.Fn := ⟨2, 57, [.cell 4 4 true, .tmp 5],
 (.seq
 (.reg false [⟨2, .bx (.t 0), none, false⟩,
 ⟨3, .bx (.t 1), none, false⟩,
 ⟨4, .al [(.sc (.int .i64 0)), (.sc (.int .i64 0)), (.sc (.int .i64 0)), (.sc (.int .i64 0))], none, false⟩,
 ⟨5, .mv (.k (.sc (.bool false))), none, false⟩])
 (.seq
 (.reg true [⟨9, .fa 0 (.t 2), none, false⟩,
 ⟨10, .ld 1 false (.t 9), none, false⟩,
 ⟨11, .fa 0 (.t 3), none, false⟩,
 ⟨12, .ld 1 false (.t 11), none, false⟩,
 ⟨13, .mx (.t 10) (.t 12), none, false⟩,
 ⟨14, .fa 1 (.t 2), none, false⟩,
 ⟨15, .ld 1 false (.t 14), none, false⟩,
 ⟨16, .fa 1 (.t 3), none, false⟩,
 ⟨17, .ld 1 false (.t 16), none, false⟩,
 ⟨18, .mx (.t 15) (.t 17), none, false⟩,
 ⟨6, .mv (.t 13), none, false⟩,
 ⟨7, .mv (.t 18), none, false⟩])
 (.seq
 (.reg false [⟨19, .mv (.t 6), none, false⟩,
 ⟨20, .mv (.t 7), none, false⟩,
 ⟨21, .fa 0 (.t 2), none, false⟩,
 ⟨22, .ld 1 false (.t 21), none, false⟩,
 ⟨23, .fa 2 (.t 2), none, false⟩,
 ⟨24, .ld 1 false (.t 23), none, false⟩,
 ⟨25, .ar .add false (.t 22) (.t 24), none, false⟩,
 ⟨26, .fa 0 (.t 3), none, false⟩,
 ⟨27, .ld 1 false (.t 26), none, false⟩,
 ⟨28, .fa 2 (.t 3), none, false⟩,
 ⟨29, .ld 1 false (.t 28), none, false⟩,
 ⟨30, .ar .add false (.t 27) (.t 29), none, false⟩,
 ⟨31, .mn (.t 25) (.t 30), none, false⟩,
 ⟨32, .mv (.t 6), none, false⟩,
 ⟨33, .ar .sub false (.t 31) (.t 32), none, false⟩,
 ⟨34, .fa 1 (.t 2), none, false⟩,
 ⟨35, .ld 1 false (.t 34), none, false⟩,
 ⟨36, .fa 3 (.t 2), none, false⟩,
 ⟨37, .ld 1 false (.t 36), none, false⟩,
 ⟨38, .ar .add false (.t 35) (.t 37), none, false⟩,
 ⟨39, .fa 1 (.t 3), none, false⟩,
 ⟨40, .ld 1 false (.t 39), none, false⟩,
 ⟨41, .fa 3 (.t 3), none, false⟩,
 ⟨42, .ld 1 false (.t 41), none, false⟩,
 ⟨43, .ar .add false (.t 40) (.t 42), none, false⟩,
 ⟨44, .mn (.t 38) (.t 43), none, false⟩,
 ⟨45, .mv (.t 7), none, false⟩,
 ⟨46, .ar .sub false (.t 44) (.t 45), none, false⟩,
 ⟨47, .bd [(.sc (.int .i64 0)), (.sc (.int .i64 0)), (.sc (.int .i64 0)), (.sc (.int .i64 0))] [(0, 1, (.t 19)), (1, 1, (.t 20)), (2, 1, (.t 33)), (3, 1, (.t 46))], none, false⟩,
 ⟨8, .al [(.sc (.int .i64 0)), (.sc (.int .i64 0)), (.sc (.int .i64 0)), (.sc (.int .i64 0))], none, false⟩,
 ⟨1, .so 4 (.t 8) (.t 47), none, true⟩])
 (.seq
 (.rgc [.ne 4 8, .ne 4 53, .ne 4 54, .ne 4 52, .ne 4 55] [⟨48, .ld 4 true (.t 8), none, false⟩,
 ⟨49, .fa 2 (.t 8), none, false⟩,
 ⟨50, .ld 1 false (.t 49), none, false⟩,
 ⟨51, .ar .gtr false (.t 50) (.k (.sc (.int .i64 0))), none, false⟩,
 ⟨52, .mv (.t 51), none, false⟩,
 ⟨53, .fa 3 (.t 8), (some (52, true)), false⟩,
 ⟨54, .ld 1 false (.t 53), (some (52, true)), false⟩,
 ⟨55, .ar .gtr false (.t 54) (.k (.sc (.int .i64 0))), (some (52, true)), false⟩,
 ⟨56, .pk (.t 52) (.t 55) (.k (.sc (.bool false))), none, false⟩,
 ⟨0, .so 4 (.t 4) (.t 48), none, true⟩,
 ⟨5, .mv (.t 56), none, false⟩])
 .ret))))⟩
attribute [simp] i110
set_option maxRecDepth 1000000 in
theorem c110 : cFn Try.prog 110 [[]] = some i110 := by kernel_rfl
theorem e110 : enterOk Try.prog 110 = true := by kernel_rfl
def w111_1 : IC :=
(.seq
 (.seq
 (.reg false [⟨6, .mv (.t 4), none, false⟩,
 ⟨7, .mv (.t 3), none, false⟩,
 ⟨8, .ln false (.t 7), none, false⟩,
 ⟨9, .ar .lss false (.t 6) (.t 8), none, false⟩])
 (.ite (.t 9)
 .skip
 (.exit 0)))
 (.seq
 (.block 1
 (.seq
 (.reg false [⟨12, .mv (.t 3), none, false⟩,
 ⟨13, .mv (.t 4), none, false⟩,
 ⟨14, .ia 1 (.t 12) (.t 13), none, false⟩,
 ⟨15, .ld 1 false (.t 14), none, false⟩,
 ⟨16, .mv (.t 0), none, false⟩,
 ⟨17, .ar .eql false (.t 15) (.t 16), none, false⟩])
 (.ite (.t 17)
 (.seq
 (.reg false [⟨18, .mv (.t 4), none, false⟩,
 ⟨2, .mv (.t 18), none, false⟩])
 .ret)
 .skip)))
 (.reg false [⟨10, .mv (.t 4), none, false⟩,
 ⟨11, .ar .add false (.t 10) (.k (.sc (.int .i64 1))), none, false⟩,
 ⟨4, .mv (.t 11), none, false⟩])))
def b111_1 : IC := w111_1
theorem u111_1 (call : CallF) (st : St) : evC call b111_1 st = evC call w111_1 st := rfl
attribute [simp] u111_1 w111_1
def i111 : Ev.Fn := ⟨1, 19, [.tmp 2],
 (.seq
 (.reg false [⟨2, .mv (.k (.sc (.int .i64 0))), none, false⟩])
 (.seq
 (.reg false [⟨5, .ca (.k (.cl 141 [])) [], none, false⟩,
 ⟨3, .mv (.t 5), none, false⟩])
 (.seq
 (.seq
 (.reg false [⟨4, .mv (.k (.sc (.int .i64 0))), none, false⟩])
 (.cln [] [2]
 (.block 0
 (.loop [0, 3, 4] b111_1))))
 (.seq
 (.reg false [⟨2, .mv (.k (.sc (.int .i64 (-1)))), none, false⟩])
 .ret))))⟩
attribute [simp] i111
set_option maxRecDepth 1000000 in
theorem c111 : cFn Try.prog 111 [[], [0, 3, 4], [], [2]] = some i111 := by kernel_rfl
theorem e111 : enterOk Try.prog 111 = true := by kernel_rfl
def i112 : Ev.Fn := ⟨1, 18, [.tmp 2, .tmp 3],
 (.seq
 (.reg false [⟨2, .mv (.k (.sc (.int .i64 0))), none, false⟩,
 ⟨3, .mv (.k (.sc (.bool false))), none, false⟩])
 (.seq
 (.reg false [⟨9, .mv (.t 0), none, false⟩,
 ⟨10, .ca (.k (.cl 142 [])) [(.t 9)], none, false⟩,
 ⟨8, .mv (.t 10), none, false⟩,
 ⟨11, .xt (.t 8) 0, none, false⟩,
 ⟨12, .xt (.t 8) 1, none, false⟩,
 ⟨13, .xt (.t 8) 2, none, false⟩,
 ⟨14, .xt (.t 8) 3, none, false⟩,
 ⟨4, .mv (.t 11), none, false⟩,
 ⟨5, .mv (.t 12), none, false⟩,
 ⟨6, .mv (.t 13), none, false⟩,
 ⟨7, .mv (.t 14), none, false⟩])
 (.seq
 (.reg false [⟨15, .mv (.t 4), none, false⟩,
 ⟨16, .mv (.t 7), none, false⟩,
 ⟨17, .ar .eql false (.t 16) (.k (.sc (.int .i64 0))), none, false⟩,
 ⟨2, .mv (.t 15), none, false⟩,
 ⟨3, .mv (.t 17), none, false⟩])
 .ret)))⟩
attribute [simp] i112
set_option maxRecDepth 1000000 in
theorem c112 : cFn Try.prog 112 [[]] = some i112 := by kernel_rfl
theorem e112 : enterOk Try.prog 112 = true := by kernel_rfl
def w113_1 : IC :=
(.seq
 (.seq
 (.reg false [⟨6, .mv (.t 0), none, false⟩,
 ⟨7, .ar .gtr false (.t 6) (.k (.sc (.int .i64 0))), none, false⟩])
 (.ite (.t 7)
 .skip
 (.exit 0)))
 (.block 1
 (.seq
 (.reg false [⟨8, .mv (.t 0), none, false⟩,
 ⟨9, .ar .rem false (.t 8) (.k (.sc (.int .i64 10))), none, false⟩,
 ⟨10, .ar .add false (.k (.sc (.int .i64 48))) (.t 9), none, false⟩,
 ⟨11, .cv .u8 (.t 10), none, false⟩,
 ⟨12, .bs 5 1 [(.sc (.int .u8 0))] 1 [(0, (.t 11))], none, false⟩,
 ⟨13, .by (.t 12), none, false⟩,
 ⟨14, .mv (.t 3), none, false⟩,
 ⟨15, .ar .add false (.t 13) (.t 14), none, false⟩,
 ⟨3, .mv (.t 15), none, false⟩])
 (.reg false [⟨16, .mv (.t 0), none, false⟩,
 ⟨17, .ar .quo false (.t 16) (.k (.sc (.int .i64 10))), none, false⟩,
 ⟨0, .mv (.t 17), none, false⟩]))))
def b113_1 : IC := w113_1
theorem u113_1 (call : CallF) (st : St) : evC call b113_1 st = evC call w113_1 st := rfl
attribute [simp] u113_1 w113_1
def i113 : Ev.Fn := ⟨1, 20, [.tmp 2],
 (.seq
 (.reg false [⟨2, .mv (.k (.sc (.string ⟨#[]⟩))), none, false⟩])
 (.seq
 (.seq
 (.reg false [⟨4, .mv (.t 0), none, false⟩,
 ⟨5, .ar .leq false (.t 4) (.k (.sc (.int .i64 0))), none, false⟩])
 (.ite (.t 5)
 (.seq
 (.reg false [⟨2, .mv (.k (.sc (.string ⟨#[109, 48]⟩))), none, false⟩])
 .ret)
 .skip))
 (.seq
 (.reg false [⟨3, .mv (.k (.sc (.string ⟨#[]⟩))), none, false⟩])
 (.seq
 (.cln [3] [2]
 (.block 0
 (.loop [0, 3] b113_1)))
 (.seq
 (.reg false [⟨18, .mv (.t 3), none, false⟩,
 ⟨19, .ar .add false (.k (.sc (.string ⟨#[109]⟩))) (.t 18), none, false⟩,
 ⟨2, .mv (.t 19), none, false⟩])
 .ret)))))⟩
attribute [simp] i113
set_option maxRecDepth 1000000 in
theorem c113 : cFn Try.prog 113 [[], [0, 3], [3], [2]] = some i113 := by kernel_rfl
theorem e113 : enterOk Try.prog 113 = true := by kernel_rfl
def i114 : Ev.Fn := ⟨2, 12, [.tmp 4],
 (.seq
 (.reg false [⟨4, .mv (.k (.sc (.int .i64 0))), none, false⟩])
 (.seq
 (.reg false [⟨5, .mv (.t 1), none, false⟩,
 ⟨6, .mv (.t 0), none, false⟩,
 ⟨7, .ln false (.t 6), none, false⟩,
 ⟨8, .ar .sub false (.t 5) (.t 7), none, false⟩,
 ⟨1, .mv (.t 8), none, false⟩])
 (.seq
 (.seq
 (.reg false [⟨9, .mv (.t 1), none, false⟩,
 ⟨10, .ar .lss false (.t 9) (.k (.sc (.int .i64 0))), none, false⟩])
 (.ite (.t 10)
 (.seq
 (.reg false [⟨4, .mv (.k (.sc (.int .i64 (-1)))), none, false⟩])
 .ret)
 .skip))
 (.seq
 (.reg false [⟨11, .mv (.t 1), none, false⟩,
 ⟨4, .mv (.t 11), none, false⟩])
 .ret))))⟩
attribute [simp] i114
set_option maxRecDepth 1000000 in
theorem c114 : cFn Try.prog 114 [[]] = some i114 := by kernel_rfl
theorem e114 : enterOk Try.prog 114 = true := by kernel_rfl
def w115_1 : IC :=
(.seq
 (.seq
 (.reg false [⟨12, .mv (.t 5), none, false⟩,
 ⟨13, .mv (.t 0), none, false⟩,
 ⟨14, .ln false (.t 13), none, false⟩,
 ⟨15, .ar .lss false (.t 12) (.t 14), none, false⟩])
 (.ite (.t 15)
 .skip
 (.exit 0)))
 (.seq
 (.block 1
 (.seq
 (.reg false [⟨18, .mv (.t 0), none, false⟩,
 ⟨19, .mv (.t 5), none, false⟩,
 ⟨20, .ia 2 (.t 18) (.t 19), none, false⟩,
 ⟨21, .ld 2 true (.t 20), none, false⟩,
 ⟨22, .mv (.t 1), none, false⟩,
 ⟨23, .ca (.k (.cl 143 [])) [(.t 21), (.t 22)], none, false⟩,
 ⟨1, .mv (.t 23), none, false⟩])
 (.seq
 (.reg false [⟨24, .mv (.t 1), none, false⟩,
 ⟨25, .ar .lss false (.t 24) (.k (.sc (.int .i64 0))), none, false⟩])
 (.ite (.t 25)
 (.seq
 (.reg false [⟨4, .mv (.k (.sc (.int .i64 (-1)))), none, false⟩])
 .ret)
 .skip))))
 (.reg false [⟨16, .mv (.t 5), none, false⟩,
 ⟨17, .ar .add false (.t 16) (.k (.sc (.int .i64 1))), none, false⟩,
 ⟨5, .mv (.t 17), none, false⟩])))
def b115_1 : IC := w115_1
theorem u115_1 (call : CallF) (st : St) : evC call b115_1 st = evC call w115_1 st := rfl
attribute [simp] u115_1 w115_1
def i115 : Ev.Fn := ⟨2, 27, [.tmp 4],
 (.seq
 (.reg false [⟨4, .mv (.k (.sc (.int .i64 0))), none, false⟩])
 (.seq
 (.reg false [⟨6, .mv (.t 1), none, false⟩,
 ⟨7, .mv (.t 0), none, false⟩,
 ⟨8, .ln false (.t 7), none, false⟩,
 ⟨9, .ar .sub false (.t 6) (.t 8), none, false⟩,
 ⟨1, .mv (.t 9), none, false⟩])
 (.seq
 (.seq
 (.reg false [⟨10, .mv (.t 1), none, false⟩,
 ⟨11, .ar .lss false (.t 10) (.k (.sc (.int .i64 0))), none, false⟩])
 (.ite (.t 11)
 (.seq
 (.reg false [⟨4, .mv (.k (.sc (.int .i64 (-1)))), none, false⟩])
 .ret)
 .skip))
 (.seq
 (.seq
 (.reg false [⟨5, .mv (.k (.sc (.int .i64 0))), none, false⟩])
 (.cln [1] [4]
 (.block 0
 (.loop [0, 1, 5] b115_1))))
 (.seq
 (.reg false [⟨26, .mv (.t 1), none, false⟩,
 ⟨4, .mv (.t 26), none, false⟩])
 .ret)))))⟩
attribute [simp] i115
set_option maxRecDepth 1000000 in
theorem c115 : cFn Try.prog 115 [[], [0, 1, 5], [1], [4]] = some i115 := by kernel_rfl
theorem e115 : enterOk Try.prog 115 = true := by kernel_rfl
def w116_1 : IC :=
(.seq
 (.seq
 (.reg false [⟨33, .mv (.t 3), none, false⟩,
 ⟨34, .mv (.t 0), none, false⟩,
 ⟨35, .nc (.t 34), none, false⟩,
 ⟨36, .fa 3 (.t 35), none, false⟩,
 ⟨37, .ld 1 false (.t 36), none, false⟩,
 ⟨38, .ln false (.t 37), none, false⟩,
 ⟨39, .ar .lss false (.t 33) (.t 38), none, false⟩])
 (.ite (.t 39)
 .skip
 (.exit 0)))
 (.seq
 (.block 1
 (.seq
 (.seq
 (.reg true [⟨42, .mv (.t 0), none, false⟩,
 ⟨43, .nc (.t 42), none, false⟩,
 ⟨44, .fa 3 (.t 43), none, false⟩,
 ⟨45, .ld 1 false (.t 44), none, false⟩,
 ⟨46, .mv (.t 3), none, false⟩,
 ⟨47, .ia 2 (.t 45) (.t 46), none, false⟩,
 ⟨48, .fa 0 (.t 47), none, false⟩,
 ⟨49, .ld 1 false (.t 48), none, false⟩,
 ⟨50, .ca (.k (.cl 129 [])) [(.t 49)], none, false⟩,
 ⟨51, .nt (.t 50), none, false⟩,
 ⟨52, .mv (.t 51), none, false⟩,
 ⟨53, .mv (.t 3), (some (52, false)), false⟩,
 ⟨54, .ar .gtr false (.t 53) (.k (.sc (.int .i64 0))), (some (52, false)), false⟩,
 ⟨55, .mv (.t 54), (some (52, false)), false⟩,
 ⟨56, .mv (.t 0), (some (55, true)), false⟩,
 ⟨57, .nc (.t 56), (some (55, true)), false⟩,
 ⟨58, .fa 3 (.t 57), (some (55, true)), false⟩,
 ⟨59, .ld 1 false (.t 58), (some (55, true)), false⟩,
 ⟨60, .mv (.t 3), (some (55, true)), false⟩,
 ⟨61, .ar .sub false (.t 60) (.k (.sc (.int .i64 1))), (some (55, true)), false⟩,
 ⟨62, .ia 2 (.t 59) (.t 61), (some (55, true)), false⟩,
 ⟨63, .fa 0 (.t 62), (some (55, true)), false⟩,
 ⟨64, .ld 1 false (.t 63), (some (55, true)), false⟩,
 ⟨65, .mv (.t 0), (some (55, true)), false⟩,
 ⟨66, .nc (.t 65), (some (55, true)), false⟩,
 ⟨67, .fa 3 (.t 66), (some (55, true)), false⟩,
 ⟨68, .ld 1 false (.t 67), (some (55, true)), false⟩,
 ⟨69, .mv (.t 3), (some (55, true)), false⟩,
 ⟨70, .ia 2 (.t 68) (.t 69), (some (55, true)), false⟩,
 ⟨71, .fa 0 (.t 70), (some (55, true)), false⟩,
 ⟨72, .ld 1 false (.t 71), (some (55, true)), false⟩,
 ⟨73, .ar .geq false (.t 64) (.t 72), (some (55, true)), false⟩,
 ⟨74, .pk (.t 55) (.t 73) (.k (.sc (.bool false))), (some (52, false)), false⟩,
 ⟨75, .pk (.t 52) (.k (.sc (.bool true))) (.t 74), none, false⟩])
 (.ite (.t 75)
 (.seq
 (.reg false [⟨2, .mv (.k (.sc (.bool false))), none, false⟩])
 .ret)
 .skip))
 (.seq
 (.reg false [⟨77, .mv (.t 0), none, false⟩,
 ⟨78, .mv (.t 0), none, false⟩,
 ⟨79, .nc (.t 78), none, false⟩,
 ⟨80, .fa 3 (.t 79), none, false⟩,
 ⟨81, .ld 1 false (.t 80), none, false⟩,
 ⟨82, .mv (.t 3), none, false⟩,
 ⟨83, .ia 2 (.t 81) (.t 82), none, false⟩,
 ⟨84, .fa 1 (.t 83), none, false⟩,
 ⟨85, .ld 1 false (.t 84), none, false⟩,
 ⟨86, .ca (.k (.cl 145 [])) [(.t 77), (.t 85)], none, false⟩,
 ⟨76, .mv (.t 86), none, false⟩,
 ⟨87, .xt (.t 76) 0, none, false⟩,
 ⟨88, .xt (.t 76) 1, none, false⟩,
 ⟨4, .mv (.t 87), none, false⟩,
 ⟨5, .mv (.t 88), none, false⟩])
 (.seq
 (.reg false [⟨89, .mv (.t 5), none, false⟩,
 ⟨90, .nt (.t 89), none, false⟩,
 ⟨91, .mv (.t 90), none, false⟩,
 ⟨92, .mv (.t 4), (some (91, false)), false⟩,
 ⟨93, .ca (.k (.cl 146 [])) [(.t 92)], (some (91, false)), false⟩,
 ⟨94, .nt (.t 93), (some (91, false)), false⟩,
 ⟨95, .pk (.t 91) (.k (.sc (.bool true))) (.t 94), none, false⟩])
 (.ite (.t 95)
 (.seq
 (.reg false [⟨2, .mv (.k (.sc (.bool false))), none, false⟩])
 .ret)
 .skip)))))
 (.reg false [⟨40, .mv (.t 3), none, false⟩,
 ⟨41, .ar .add false (.t 40) (.k (.sc (.int .i64 1))), none, false⟩,
 ⟨3, .mv (.t 41), none, false⟩])))
def b116_1 : IC := w116_1
theorem u116_1 (call : CallF) (st : St) : evC call b116_1 st = evC call w116_1 st := rfl
attribute [simp] u116_1 w116_1
def i116 : Ev.Fn := ⟨1, 96, [.tmp 2],
 (.seq
 (.reg false [⟨2, .mv (.k (.sc (.bool false))), none, false⟩])
 (.seq
 (.seq
 (.reg false [⟨6, .mv (.t 0), none, false⟩,
 ⟨7, .nc (.t 6), none, false⟩,
 ⟨8, .fa 0 (.t 7), none, false⟩,
 ⟨9, .ld 1 false (.t 8), none, false⟩,
 ⟨10, .ca (.k (.cl 88 [])) [(.t 9), (.k (.sc (.int .i64 10))), (.k (.sc (.int .i64 20000)))], none, false⟩,
 ⟨11, .nt (.t 10), none, false⟩,
 ⟨12, .mv (.t 11), none, false⟩,
 ⟨13, .mv (.t 0), (some (12, false)), false⟩,
 ⟨14, .nc (.t 13), (some (12, false)), false⟩,
 ⟨15, .fa 1 (.t 14), (some (12, false)), false⟩,
 ⟨16, .ld 1 false (.t 15), (some (12, false)), false⟩,
 ⟨17, .ca (.k (.cl 88 [])) [(.t 16), (.k (.sc (.int .i64 10))), (.k (.sc (.int .i64 20000)))], (some (12, false)), false⟩,
 ⟨18, .nt (.t 17), (some (12, false)), false⟩,
 ⟨19, .pk (.t 12) (.k (.sc (.bool true))) (.t 18), none, false⟩,
 ⟨20, .mv (.t 19), none, false⟩,
 ⟨21, .mv (.t 0), (some (20, false)), false⟩,
 ⟨22, .ca (.k (.cl 144 [])) [(.t 21)], (some (20, false)), false⟩,
 ⟨23, .nt (.t 22), (some (20, false)), false⟩,
 ⟨24, .pk (.t 20) (.k (.sc (.bool true))) (.t 23), none, false⟩,
 ⟨25, .mv (.t 24), none, false⟩,
 ⟨26, .mv (.t 0), (some (25, false)), false⟩,
 ⟨27, .nc (.t 26), (some (25, false)), false⟩,
 ⟨28, .fa 3 (.t 27), (some (25, false)), false⟩,
 ⟨29, .ld 1 false (.t 28), (some (25, false)), false⟩,
 ⟨30, .ln false (.t 29), (some (25, false)), false⟩,
 ⟨31, .ar .gtr false (.t 30) (.k (.sc (.int .i64 24))), (some (25, false)), false⟩,
 ⟨32, .pk (.t 25) (.k (.sc (.bool true))) (.t 31), none, false⟩])
 (.ite (.t 32)
 (.seq
 (.reg false [⟨2, .mv (.k (.sc (.bool false))), none, false⟩])
 .ret)
 .skip))
 (.seq
 (.seq
 (.reg false [⟨3, .mv (.k (.sc (.int .i64 0))), none, false⟩])
 (.cln [] [2]
 (.block 0
 (.loop [0, 3] b116_1))))
 (.seq
 (.reg false [⟨2, .mv (.k (.sc (.bool true))), none, false⟩])
 .ret))))⟩
attribute [simp] i116
set_option maxRecDepth 1000000 in
theorem c116 : cFn Try.prog 116 [[], [0, 3], [], [2]] = some i116 := by kernel_rfl
theorem e116 : enterOk Try.prog 116 = true := by kernel_rfl
def w117_2 : IC :=
(.seq
 (.seq
 (.reg false [⟨29, .mv (.t 9), none, false⟩,
 ⟨30, .mv (.t 8), none, false⟩,
 ⟨31, .ar .lss false (.t 29) (.t 30), none, false⟩])
 (.ite (.t 31)
 .skip
 (.exit 2)))
 (.seq
 (.block 3
 (.seq
 (.seq
 (.reg false [⟨34, .mv (.t 7), none, false⟩,
 ⟨35, .mv (.t 9), none, false⟩,
 ⟨36, .ia 1 (.t 34) (.t 35), none, false⟩,
 ⟨37, .ld 1 false (.t 36), none, false⟩,
 ⟨38, .mv (.t 1), none, false⟩,
 ⟨39, .ar .neq false (.t 37) (.t 38), none, false⟩])
 (.ite (.t 39)
 (.exit 3)
 .skip))
 (.seq
 (.reg false [⟨5, .mv (.k (.sc (.bool true))), none, false⟩])
 (.seq
 (.reg true [⟨40, .mv (.t 8), none, false⟩,
 ⟨41, .ar .leq false (.t 40) (.k (.sc (.int .i64 3))), none, false⟩,
 ⟨42, .mv (.t 41), none, false⟩,
 ⟨43, .mv (.t 0), (some (42, false)), false⟩,
 ⟨44, .nc (.t 43), (some (42, false)), false⟩,
 ⟨45, .fa 2 (.t 44), (some (42, false)), false⟩,
 ⟨46, .ld 1 false (.t 45), (some (42, false)), false⟩,
 ⟨47, .mv (.t 7), (some (42, false)), false⟩,
 ⟨48, .mv (.t 9), (some (42, false)), false⟩,
 ⟨49, .mv (.t 8), (some (42, false)), false⟩,
 ⟨50, .ar .add false (.t 48) (.t 49), (some (42, false)), false⟩,
 ⟨51, .ar .sub false (.t 50) (.k (.sc (.int .i64 1))), (some (42, false)), false⟩,
 ⟨52, .mv (.t 8), (some (42, false)), false⟩,
 ⟨53, .ar .rem false (.t 51) (.t 52), (some (42, false)), false⟩,
 ⟨54, .ia 1 (.t 47) (.t 53), (some (42, false)), false⟩,
 ⟨55, .ld 1 false (.t 54), (some (42, false)), false⟩,
 ⟨56, .ia 2 (.t 46) (.t 55), (some (42, false)), false⟩,
 ⟨57, .ld 2 true (.t 56), (some (42, false)), false⟩,
 ⟨58, .mv (.t 0), (some (42, false)), false⟩,
 ⟨59, .nc (.t 58), (some (42, false)), false⟩,
 ⟨60, .fa 2 (.t 59), (some (42, false)), false⟩,
 ⟨61, .ld 1 false (.t 60), (some (42, false)), false⟩,
 ⟨62, .mv (.t 1), (some (42, false)), false⟩,
 ⟨63, .ia 2 (.t 61) (.t 62), (some (42, false)), false⟩,
 ⟨64, .ld 2 true (.t 63), (some (42, false)), false⟩,
 ⟨65, .mv (.t 0), (some (42, false)), false⟩,
 ⟨66, .nc (.t 65), (some (42, false)), false⟩,
 ⟨67, .fa 2 (.t 66), (some (42, false)), false⟩,
 ⟨68, .ld 1 false (.t 67), (some (42, false)), false⟩,
 ⟨69, .mv (.t 7), (some (42, false)), false⟩,
 ⟨70, .mv (.t 9), (some (42, false)), false⟩,
 ⟨71, .ar .add false (.t 70) (.k (.sc (.int .i64 1))), (some (42, false)), false⟩,
 ⟨72, .mv (.t 8), (some (42, false)), false⟩,
 ⟨73, .ar .rem false (.t 71) (.t 72), (some (42, false)), false⟩,
 ⟨74, .ia 1 (.t 69) (.t 73), (some (42, false)), false⟩,
 ⟨75, .ld 1 false (.t 74), (some (42, false)), false⟩,
 ⟨76, .ia 2 (.t 68) (.t 75), (some (42, false)), false⟩,
 ⟨77, .ld 2 true (.t 76), (some (42, false)), false⟩,
 ⟨78, .ca (.k (.cl 147 [])) [(.t 57), (.t 64), (.t 77)], (some (42, false)), false⟩,
 ⟨79, .ar .neq false (.t 78) (.k (.sc (.int .i64 0))), (some (42, false)), false⟩,
 ⟨80, .pk (.t 42) (.k (.sc (.bool true))) (.t 79), none, false⟩])
 (.ite (.t 80)
 (.seq
 (.reg false [⟨4, .mv (.k (.sc (.bool false))), none, false⟩])
 .ret)
 .skip)))))
 (.reg false [⟨32, .mv (.t 9), none, false⟩,
 ⟨33, .ar .add false (.t 32) (.k (.sc (.int .i64 1))), none, false⟩,
 ⟨9, .mv (.t 33), none, false⟩])))
def b117_2 : IC := w117_2
theorem u117_2 (call : CallF) (st : St) : evC call b117_2 st = evC call w117_2 st := rfl
attribute [simp] u117_2 w117_2
def w117_1 : IC :=
(.seq
 (.seq
 (.reg false [⟨10, .mv (.t 6), none, false⟩,
 ⟨11, .mv (.t 0), none, false⟩,
 ⟨12, .nc (.t 11), none, false⟩,
 ⟨13, .fa 3 (.t 12), none, false⟩,
 ⟨14, .ld 1 false (.t 13), none, false⟩,
 ⟨15, .ln false (.t 14), none, false⟩,
 ⟨16, .ar .lss false (.t 10) (.t 15), none, false⟩])
 (.ite (.t 16)
 .skip
 (.exit 0)))
 (.seq
 (.block 1
 (.seq
 (.reg false [⟨19, .mv (.t 0), none, false⟩,
 ⟨20, .nc (.t 19), none, false⟩,
 ⟨21, .fa 3 (.t 20), none, false⟩,
 ⟨22, .ld 1 false (.t 21), none, false⟩,
 ⟨23, .mv (.t 6), none, false⟩,
 ⟨24, .ia 2 (.t 22) (.t 23), none, false⟩,
 ⟨25, .fa 1 (.t 24), none, false⟩,
 ⟨26, .ld 1 false (.t 25), none, false⟩,
 ⟨7, .mv (.t 26), none, false⟩])
 (.seq
 (.reg false [⟨27, .mv (.t 7), none, false⟩,
 ⟨28, .ln false (.t 27), none, false⟩,
 ⟨8, .mv (.t 28), none, false⟩])
 (.seq
 (.reg false [⟨9, .mv (.k (.sc (.int .i64 0))), none, false⟩])
 (.cln [0, 1, 5, 6] [4]
 (.block 2
 (.loop [0, 1, 5, 6, 7, 8, 9] b117_2)))))))
 (.reg false [⟨17, .mv (.t 6), none, false⟩,
 ⟨18, .ar .add false (.t 17) (.k (.sc (.int .i64 1))), none, false⟩,
 ⟨6, .mv (.t 18), none, false⟩])))
def b117_1 : IC := w117_1
theorem u117_1 (call : CallF) (st : St) : evC call b117_1 st = evC call w117_1 st := rfl
attribute [simp] u117_1 w117_1
def i117 : Ev.Fn := ⟨2, 82, [.tmp 4],
 (.seq
 (.reg false [⟨4, .mv (.k (.sc (.bool false))), none, false⟩])
 (.seq
 (.reg false [⟨5, .mv (.k (.sc (.bool false))), none, false⟩])
 (.seq
 (.seq
 (.reg false [⟨6, .mv (.k (.sc (.int .i64 0))), none, false⟩])
 (.cln [5] [4]
 (.block 0
 (.loop [0, 1, 5, 6] b117_1))))
 (.seq
 (.reg false [⟨81, .mv (.t 5), none, false⟩,
 ⟨4, .mv (.t 81), none, false⟩])
 .ret))))⟩
attribute [simp] i117
set_option maxRecDepth 1000000 in
theorem c117 : cFn Try.prog 117 [[], [0, 1, 5, 6], [0, 1, 5, 6, 7, 8, 9], [0, 1, 5, 6], [4], [5], [4]] = some i117 := by kernel_rfl
theorem e117 : enterOk Try.prog 117 = true := by kernel_rfl
def w118_1 : IC :=
(.seq
 (.seq
 (.reg false [⟨8, .mv (.t 4), none, false⟩,
 ⟨9, .mv (.t 0), none, false⟩,
 ⟨10, .ln false (.t 9), none, false⟩,
 ⟨11, .ar .lss false (.t 8) (.t 10), none, false⟩])
 (.ite (.t 11)
 .skip
 (.exit 0)))
 (.seq
 (.block 1
 (.reg false [⟨14, .mv (.t 3), none, false⟩,
 ⟨15, .mv (.t 4), none, false⟩,
 ⟨16, .mv (.t 0), none, false⟩,
 ⟨17, .mv (.t 4), none, false⟩,
 ⟨18, .ia 2 (.t 16) (.t 17), none, false⟩,
 ⟨19, .ld 2 true (.t 18), none, false⟩,
 ⟨20, .ca (.k (.cl 148 [])) [(.t 19)], none, false⟩,
 ⟨21, .ia 2 (.t 14) (.t 15), none, false⟩,
 ⟨1, .so 2 (.t 21) (.t 20), none, true⟩]))
 (.reg false [⟨12, .mv (.t 4), none, false⟩,
 ⟨13, .ar .add false (.t 12) (.k (.sc (.int .i64 1))), none, false⟩,
 ⟨4, .mv (.t 13), none, false⟩])))
def b118_1 : IC := w118_1
theorem u118_1 (call : CallF) (st : St) : evC call b118_1 st = evC call w118_1 st := rfl
attribute [simp] u118_1 w118_1
def i118 : Ev.Fn := ⟨1, 23, [.tmp 2],
 (.seq
 (.reg false [⟨2, .mv (.k .nl), none, false⟩])
 (.seq
 (.reg false [⟨5, .mv (.t 0), none, false⟩,
 ⟨6, .ln false (.t 5), none, false⟩,
 ⟨7, .ms 166 2 [(.sc (.int .i64 0)), (.sc (.int .i64 0))] (.t 6), none, false⟩,
 ⟨3, .mv (.t 7), none, false⟩])
 (.seq
 (.seq
 (.reg false [⟨4, .mv (.k (.sc (.int .i64 0))), none, false⟩])
 (.cln [3] [2]
 (.block 0
 (.loop [0, 3, 4] b118_1))))
 (.seq
 (.reg false [⟨22, .mv (.t 3), none, false⟩,
 ⟨2, .mv (.t 22), none, false⟩])
 .ret))))⟩
attribute [simp] i118
set_option maxRecDepth 1000000 in
theorem c118 : cFn Try.prog 118 [[], [0, 3, 4], [3], [2]] = some i118 := by kernel_rfl
theorem e118 : enterOk Try.prog 118 = true := by kernel_rfl
def w119_1 : IC :=
(.seq
 (.seq
 (.reg false [⟨8, .mv (.t 4), none, false⟩,
 ⟨9, .mv (.t 0), none, false⟩,
 ⟨10, .ln false (.t 9), none, false⟩,
 ⟨11, .ar .lss false (.t 8) (.t 10), none, false⟩])
 (.ite (.t 11)
 .skip
 (.exit 0)))
 (.seq
 (.block 1
 (.reg false [⟨14, .mv (.t 3), none, false⟩,
 ⟨15, .mv (.t 4), none, false⟩,
 ⟨16, .mv (.t 0), none, false⟩,
 ⟨17, .mv (.t 4), none, false⟩,
 ⟨18, .ia 2 (.t 16) (.t 17), none, false⟩,
 ⟨19, .ld 2 true (.t 18), none, false⟩,
 ⟨20, .ca (.k (.cl 149 [])) [(.t 19)], none, false⟩,
 ⟨21, .ia 2 (.t 14) (.t 15), none, false⟩,
 ⟨1, .so 2 (.t 21) (.t 20), none, true⟩]))
 (.reg false [⟨12, .mv (.t 4), none, false⟩,
 ⟨13, .ar .add false (.t 12) (.k (.sc (.int .i64 1))), none, false⟩,
 ⟨4, .mv (.t 13), none, false⟩])))
def b119_1 : IC := w119_1
theorem u119_1 (call : CallF) (st : St) : evC call b119_1 st = evC call w119_1 st := rfl
attribute [simp] u119_1 w119_1
def i119 : Ev.Fn := ⟨1, 23, [.tmp 2],
 (.seq
 (.reg false [⟨2, .mv (.k .nl), none, false⟩])
 (.seq
 (.reg false [⟨5, .mv (.t 0), none, false⟩,
 ⟨6, .ln false (.t 5), none, false⟩,
 ⟨7, .ms 169 2 [(.sc (.string ⟨#[]⟩)), .nl] (.t 6), none, false⟩,
 ⟨3, .mv (.t 7), none, false⟩])
 (.seq
 (.seq
 (.reg false [⟨4, .mv (.k (.sc (.int .i64 0))), none, false⟩])
 (.cln [3] [2]
 (.block 0
 (.loop [0, 3, 4] b119_1))))
 (.seq
 (.reg false [⟨22, .mv (.t 3), none, false⟩,
 ⟨2, .mv (.t 22), none, false⟩])
 .ret))))⟩
attribute [simp] i119
set_option maxRecDepth 1000000 in
theorem c119 : cFn Try.prog 119 [[], [0, 3, 4], [3], [2]] = some i119 := by kernel_rfl
theorem e119 : enterOk Try.prog 119 = true := by kernel_rfl
def w120_1 : IC :=
(.seq
 (.reg false [⟨35, .ar .lss false (.t 34) (.t 33), none, false⟩])
 (.seq
 (.ite (.t 35)
 .skip
 (.exit 0))
 (.seq
 (.block 1
 (.seq
 (.reg false [⟨36, .mv (.t 34), none, false⟩,
 ⟨37, .ia 2 (.t 32) (.t 34), none, false⟩,
 ⟨38, .ld 2 true (.t 37), none, false⟩,
 ⟨4, .al [(.sc (.int .i64 0)), (.sc (.int .i64 0))], none, false⟩,
 ⟨3, .mv (.t 36), none, false⟩,
 ⟨1, .so 2 (.t 4) (.t 38), none, true⟩])
 (.seq
 (.reg true [⟨39, .fa 0 (.t 4), none, false⟩,
 ⟨40, .ld 1 false (.t 39), none, false⟩,
 ⟨41, .fa 0 (.t 1), none, false⟩,
 ⟨42, .ld 1 false (.t 41), none, false⟩,
 ⟨43, .ca (.k (.cl 84 [])) [(.t 40), (.k (.sc (.int .i64 0))), (.t 42)], none, false⟩,
 ⟨44, .nt (.t 43), none, false⟩,
 ⟨45, .mv (.t 44), none, false⟩,
 ⟨46, .fa 1 (.t 4), (some (45, false)), false⟩,
 ⟨47, .ld 1 false (.t 46), (some (45, false)), false⟩,
 ⟨48, .fa 1 (.t 1), (some (45, false)), false⟩,
 ⟨49, .ld 1 false (.t 48), (some (45, false)), false⟩,
 ⟨50, .ca (.k (.cl 84 [])) [(.t 47), (.k (.sc (.int .i64 0))), (.t 49)], (some (45, false)), false⟩,
 ⟨51, .nt (.t 50), (some (45, false)), false⟩,
 ⟨52, .pk (.t 45) (.k (.sc (.bool true))) (.t 51), none, false⟩,
 ⟨53, .mv (.t 52), none, false⟩,
 ⟨54, .fa 2 (.t 1), (some (53, false)), false⟩,
 ⟨55, .ld 1 false (.t 54), (some (53, false)), false⟩,
 ⟨56, .mv (.t 3), (some (53, false)), false⟩,
 ⟨57, .sl 2 (.t 55) none (some (.t 56)), (some (53, false)), false⟩,
 ⟨58, .ld 2 true (.t 4), (some (53, false)), false⟩,
 ⟨59, .ca (.k (.cl 150 [])) [(.t 57), (.t 58)], (some (53, false)), false⟩,
 ⟨60, .pk (.t 53) (.k (.sc (.bool true))) (.t 59), none, false⟩])
 (.ite (.t 60)
 (.seq
 (.reg false [⟨2, .mv (.k (.sc (.bool false))), none, false⟩])
 .ret)
 .skip))))
 (.reg false [⟨61, .ar .add false (.t 34) (.k (.sc (.int .i64 1))), none, false⟩,
 ⟨34, .mv (.t 61), none, false⟩]))))
def b120_1 : IC := w120_1
theorem u120_1 (call : CallF) (st : St) : evC call b120_1 st = evC call w120_1 st := rfl
attribute [simp] u120_1 w120_1
def w120_2 : IC :=
(.seq
 (.reg false [⟨66, .ar .lss false (.t 65) (.t 64), none, false⟩])
 (.seq
 (.ite (.t 66)
 .skip
 (.exit 2))
 (.seq
 (.block 3
 (.seq
 (.reg false [⟨67, .mv (.t 65), none, false⟩,
 ⟨68, .ia 2 (.t 63) (.t 65), none, false⟩,
 ⟨69, .ld 2 true (.t 68), none, false⟩,
 ⟨6, .al [(.sc (.string ⟨#[]⟩)), .nl], none, false⟩,
 ⟨5, .mv (.t 67), none, false⟩,
 ⟨1, .so 2 (.t 6) (.t 69), none, true⟩])
 (.seq
 (.seq
 (.reg true [⟨70, .fa 0 (.t 6), none, false⟩,
 ⟨71, .ld 1 false (.t 70), none, false⟩,
 ⟨72, .ca (.k (.cl 83 [])) [(.t 71)], none, false⟩,
 ⟨73, .nt (.t 72), none, false⟩,
 ⟨74, .mv (.t 73), none, false⟩,
 ⟨75, .mv (.t 5), (some (74, false)), false⟩,
 ⟨76, .ar .gtr false (.t 75) (.k (.sc (.int .i64 0))), (some (74, false)), false⟩,
 ⟨77, .mv (.t 76), (some (74, false)), false⟩,
 ⟨78, .fa 3 (.t 1), (some (77, true)), false⟩,
 ⟨79, .ld 1 false (.t 78), (some (77, true)), false⟩,
 ⟨80, .mv (.t 5), (some (77, true)), false⟩,
 ⟨81, .ar .sub false (.t 80) (.k (.sc (.int .i64 1))), (some (77, true)), false⟩,
 ⟨82, .ia 2 (.t 79) (.t 81), (some (77, true)), false⟩,
 ⟨83, .fa 0 (.t 82), (some (77, true)), false⟩,
 ⟨84, .ld 1 false (.t 83), (some (77, true)), false⟩,
 ⟨85, .fa 0 (.t 6), (some (77, true)), false⟩,
 ⟨86, .ld 1 false (.t 85), (some (77, true)), false⟩,
 ⟨87, .ar .geq false (.t 84) (.t 86), (some (77, true)), false⟩,
 ⟨88, .pk (.t 77) (.t 87) (.k (.sc (.bool false))), (some (74, false)), false⟩,
 ⟨89, .pk (.t 74) (.k (.sc (.bool true))) (.t 88), none, false⟩])
 (.ite (.t 89)
 (.seq
 (.reg false [⟨2, .mv (.k (.sc (.bool false))), none, false⟩])
 .ret)
 .skip))
 (.seq
 (.reg false [⟨91, .fa 2 (.t 1), none, false⟩,
 ⟨92, .ld 1 false (.t 91), none, false⟩,
 ⟨93, .fa 1 (.t 6), none, false⟩,
 ⟨94, .ld 1 false (.t 93), none, false⟩,
 ⟨95, .ca (.k (.cl 151 [])) [(.t 92), (.t 94)], none, false⟩,
 ⟨90, .mv (.t 95), none, false⟩,
 ⟨96, .xt (.t 90) 0, none, false⟩,
 ⟨97, .xt (.t 90) 1, none, false⟩,
 ⟨7, .mv (.t 96), none, false⟩,
 ⟨8, .mv (.t 97), none, false⟩])
 (.seq
 (.reg false [⟨98, .mv (.t 8), none, false⟩,
 ⟨99, .nt (.t 98), none, false⟩,
 ⟨100, .mv (.t 99), none, false⟩,
 ⟨101, .mv (.t 7), (some (100, false)), false⟩,
 ⟨102, .ca (.k (.cl 152 [])) [(.t 101)], (some (100, false)), false⟩,
 ⟨103, .nt (.t 102), (some (100, false)), false⟩,
 ⟨104, .pk (.t 100) (.k (.sc (.bool true))) (.t 103), none, false⟩])
 (.ite (.t 104)
 (.seq
 (.reg false [⟨2, .mv (.k (.sc (.bool false))), none, false⟩])
 .ret)
 .skip))))))
 (.reg false [⟨105, .ar .add false (.t 65) (.k (.sc (.int .i64 1))), none, false⟩,
 ⟨65, .mv (.t 105), none, false⟩]))))
def b120_2 : IC := w120_2
theorem u120_2 (call : CallF) (st : St) : evC call b120_2 st = evC call w120_2 st := rfl
attribute [simp] u120_2 w120_2
def i120 : Ev.Fn := ⟨1, 106, [.tmp 2],
 (.seq
 (.reg false [⟨1, .bx (.t 0), none, false⟩,
 ⟨2, .mv (.k (.sc (.bool false))), none, false⟩])
 (.seq
 (.seq
 (.reg false [⟨9, .fa 0 (.t 1), none, false⟩,
 ⟨10, .ld 1 false (.t 9), none, false⟩,
 ⟨11, .ca (.k (.cl 84 [])) [(.t 10), (.k (.sc (.int .i64 10))), (.k (.sc (.int .i64 20000)))], none, false⟩,
 ⟨12, .nt (.t 11), none, false⟩,
 ⟨13, .mv (.t 12), none, false⟩,
 ⟨14, .fa 1 (.t 1), (some (13, false)), false⟩,
 ⟨15, .ld 1 false (.t 14), (some (13, false)), false⟩,
 ⟨16, .ca (.k (.cl 84 [])) [(.t 15), (.k (.sc (.int .i64 10))), (.k (.sc (.int .i64 20000)))], (some (13, false)), false⟩,
 ⟨17, .nt (.t 16), (some (13, false)), false⟩,
 ⟨18, .pk (.t 13) (.k (.sc (.bool true))) (.t 17), none, false⟩,
 ⟨19, .mv (.t 18), none, false⟩,
 ⟨20, .fa 2 (.t 1), (some (19, false)), false⟩,
 ⟨21, .ld 1 false (.t 20), (some (19, false)), false⟩,
 ⟨22, .ln false (.t 21), (some (19, false)), false⟩,
 ⟨23, .ar .gtr false (.t 22) (.k (.sc (.int .i64 48))), (some (19, false)), false⟩,
 ⟨24, .pk (.t 19) (.k (.sc (.bool true))) (.t 23), none, false⟩,
 ⟨25, .mv (.t 24), none, false⟩,
 ⟨26, .fa 3 (.t 1), (some (25, false)), false⟩,
 ⟨27, .ld 1 false (.t 26), (some (25, false)), false⟩,
 ⟨28, .ln false (.t 27), (some (25, false)), false⟩,
 ⟨29, .ar .gtr false (.t 28) (.k (.sc (.int .i64 24))), (some (25, false)), false⟩,
 ⟨30, .pk (.t 25) (.k (.sc (.bool true))) (.t 29), none, false⟩])
 (.ite (.t 30)
 (.seq
 (.reg false [⟨2, .mv (.k (.sc (.bool false))), none, false⟩])
 .ret)
 .skip))
 (.seq
 (.seq
 (.reg false [⟨31, .fa 2 (.t 1), none, false⟩,
 ⟨32, .ld 1 false (.t 31), none, false⟩,
 ⟨33, .ln false (.t 32), none, false⟩,
 ⟨34, .mv (.k (.sc (.int .i64 0))), none, false⟩])
 (.cln [1] [2]
 (.block 0
 (.loop [1, 32, 33, 34] b120_1))))
 (.seq
 (.seq
 (.reg false [⟨62, .fa 3 (.t 1), none, false⟩,
 ⟨63, .ld 1 false (.t 62), none, false⟩,
 ⟨64, .ln false (.t 63), none, false⟩,
 ⟨65, .mv (.k (.sc (.int .i64 0))), none, false⟩])
 (.cln [] [2]
 (.block 2
 (.loop [1, 63, 64, 65] b120_2))))
 (.seq
 (.reg false [⟨2, .mv (.k (.sc (.bool true))), none, false⟩])
 .ret)))))⟩
attribute [simp] i120
set_option maxRecDepth 1000000 in
theorem c120 : cFn Try.prog 120 [[], [1, 32, 33, 34], [1], [2], [1, 63, 64, 65], [], [2]] = some i120 := by kernel_rfl
theorem e120 : enterOk Try.prog 120 = true := by kernel_rfl
def w121_2 : IC :=
(.seq
 (.reg false [⟨22, .ar .lss false (.t 21) (.t 20), none, false⟩])
 (.seq
 (.ite (.t 22)
 .skip
 (.exit 2))
 (.seq
 (.block 3
 (.seq
 (.reg false [⟨23, .ia 2 (.t 19) (.t 21), none, false⟩,
 ⟨24, .ld 2 true (.t 23), none, false⟩,
 ⟨8, .al [(.sc (.string ⟨#[]⟩)), .nl], none, false⟩,
 ⟨1, .so 2 (.t 8) (.t 24), none, true⟩])
 (.seq
 (.reg false [⟨25, .fa 1 (.t 8), none, false⟩,
 ⟨26, .ld 1 false (.t 25), none, false⟩,
 ⟨27, .ln false (.t 26), none, false⟩,
 ⟨9, .mv (.t 27), none, false⟩])
 (.seq
 (.reg false [⟨28, .fa 1 (.t 8), none, false⟩,
 ⟨29, .ld 1 false (.t 28), none, false⟩,
 ⟨30, .mv (.t 4), none, false⟩,
 ⟨31, .ca (.k (.cl 153 [])) [(.t 29), (.t 30)], none, false⟩,
 ⟨10, .mv (.t 31), none, false⟩])
 (.seq
 (.seq
 (.reg false [⟨32, .mv (.t 10), none, false⟩,
 ⟨33, .ar .lss false (.t 32) (.k (.sc (.int .i64 0))), none, false⟩])
 (.ite (.t 33)
 (.exit 3)
 .skip))
 (.seq
 (.reg false [⟨5, .mv (.k (.sc (.bool true))), none, false⟩])
 (.reg true [⟨34, .mv (.t 6), none, false⟩,
 ⟨35, .mv (.t 34), none, false⟩,
 ⟨36, .mv (.t 9), (some (35, true)), false⟩,
 ⟨37, .ar .gtr false (.t 36) (.k (.sc (.int .i64 3))), (some (35, true)), false⟩,
 ⟨38, .pk (.t 35) (.t 37) (.k (.sc (.bool false))), none, false⟩,
 ⟨39, .mv (.t 38), none, false⟩,
 ⟨40, .fa 2 (.t 1), (some (39, true)), false⟩,
 ⟨41, .ld 1 false (.t 40), (some (39, true)), false⟩,
 ⟨42, .fa 1 (.t 8), (some (39, true)), false⟩,
 ⟨43, .ld 1 false (.t 42), (some (39, true)), false⟩,
 ⟨44, .mv (.t 10), (some (39, true)), false⟩,
 ⟨45, .mv (.t 9), (some (39, true)), false⟩,
 ⟨46, .ar .add false (.t 44) (.t 45), (some (39, true)), false⟩,
 ⟨47, .ar .sub false (.t 46) (.k (.sc (.int .i64 1))), (some (39, true)), false⟩,
 ⟨48, .mv (.t 9), (some (39, true)), false⟩,
 ⟨49, .ar .rem false (.t 47) (.t 48), (some (39, true)), false⟩,
 ⟨50, .ia 1 (.t 43) (.t 49), (some (39, true)), false⟩,
 ⟨51, .ld 1 false (.t 50), (some (39, true)), false⟩,
 ⟨52, .ia 2 (.t 41) (.t 51), (some (39, true)), false⟩,
 ⟨53, .ld 2 true (.t 52), (some (39, true)), false⟩,
 ⟨54, .fa 2 (.t 1), (some (39, true)), false⟩,
 ⟨55, .ld 1 false (.t 54), (some (39, true)), false⟩,
 ⟨56, .mv (.t 4), (some (39, true)), false⟩,
 ⟨57, .ia 2 (.t 55) (.t 56), (some (39, true)), false⟩,
 ⟨58, .ld 2 true (.t 57), (some (39, true)), false⟩,
 ⟨59, .fa 2 (.t 1), (some (39, true)), false⟩,
 ⟨60, .ld 1 false (.t 59), (some (39, true)), false⟩,
 ⟨61, .fa 1 (.t 8), (some (39, true)), false⟩,
 ⟨62, .ld 1 false (.t 61), (some (39, true)), false⟩,
 ⟨63, .mv (.t 10), (some (39, true)), false⟩,
 ⟨64, .ar .add false (.t 63) (.k (.sc (.int .i64 1))), (some (39, true)), false⟩,
 ⟨65, .mv (.t 9), (some (39, true)), false⟩,
 ⟨66, .ar .rem false (.t 64) (.t 65), (some (39, true)), false⟩,
 ⟨67, .ia 1 (.t 62) (.t 66), (some (39, true)), false⟩,
 ⟨68, .ld 1 false (.t 67), (some (39, true)), false⟩,
 ⟨69, .ia 2 (.t 60) (.t 68), (some (39, true)), false⟩,
 ⟨70, .ld 2 true (.t 69), (some (39, true)), false⟩,
 ⟨71, .ca (.k (.cl 154 [])) [(.t 53), (.t 58), (.t 70)], (some (39, true)), false⟩,
 ⟨72, .ar .eql false (.t 71) (.k (.sc (.int .i64 0))), (some (39, true)), false⟩,
 ⟨73, .pk (.t 39) (.t 72) (.k (.sc (.bool false))), none, false⟩,
 ⟨6, .mv (.t 73), none, false⟩])))))))
 (.reg false [⟨74, .ar .add false (.t 21) (.k (.sc (.int .i64 1))), none, false⟩,
 ⟨21, .mv (.t 74), none, false⟩]))))
def b121_2 : IC := w121_2
theorem u121_2 (call : CallF) (st : St) : evC call b121_2 st = evC call w121_2 st := rfl
attribute [simp] u121_2 w121_2
def w121_1 : IC :=
(.seq
 (.reg false [⟨16, .ar .lss false (.t 15) (.t 14), none, false⟩])
 (.seq
 (.ite (.t 16)
 .skip
 (.exit 0))
 (.seq
 (.block 1
 (.seq
 (.reg false [⟨17, .mv (.t 15), none, false⟩,
 ⟨4, .mv (.t 17), none, false⟩])
 (.seq
 (.reg false [⟨5, .mv (.k (.sc (.bool false))), none, false⟩,
 ⟨6, .mv (.k (.sc (.bool true))), none, false⟩])
 (.seq
 (.seq
 (.reg false [⟨18, .fa 3 (.t 1), none, false⟩,
 ⟨19, .ld 1 false (.t 18), none, false⟩,
 ⟨20, .ln false (.t 19), none, false⟩,
 ⟨21, .mv (.k (.sc (.int .i64 0))), none, false⟩])
 (.cln [1, 3, 4, 5, 6, 14, 15] [2]
 (.block 2
 (.loop [1, 3, 4, 5, 6, 14, 15, 19, 20, 21] b121_2))))
 (.seq
 (.reg false [⟨75, .mv (.t 5), none, false⟩,
 ⟨76, .mv (.t 75), none, false⟩,
 ⟨77, .mv (.t 6), (some (76, true)), false⟩,
 ⟨78, .pk (.t 76) (.t 77) (.k (.sc (.bool false))), none, false⟩])
 (.ite (.t 78)
 (.reg false [⟨79, .mv (.t 3), none, false⟩,
 ⟨80, .mv (.t 4), none, false⟩,
 ⟨81, .bs 2 1 [(.sc (.int .i64 0))] 1 [(0, (.t 80))], none, false⟩,
 ⟨82, .ap 2 1 false (.t 79) (.t 81), none, false⟩,
 ⟨3, .mv (.t 82), none, false⟩])
 .skip))))))
 (.reg false [⟨83, .ar .add false (.t 15) (.k (.sc (.int .i64 1))), none, false⟩,
 ⟨15, .mv (.t 83), none, false⟩]))))
def b121_1 : IC := w121_1
theorem u121_1 (call : CallF) (st : St) : evC call b121_1 st = evC call w121_1 st := rfl
attribute [simp] u121_1 w121_1
def i121 : Ev.Fn := ⟨1, 85, [.tmp 2],
 (.seq
 (.reg false [⟨1, .bx (.t 0), none, false⟩,
 ⟨2, .mv (.k .nl), none, false⟩])
 (.seq
 (.reg false [⟨11, .bs 2 1 [(.sc (.int .i64 0))] 0 [], none, false⟩,
 ⟨3, .mv (.t 11), none, false⟩])
 (.seq
 (.seq
 (.reg false [⟨12, .fa 2 (.t 1), none, false⟩,
 ⟨13, .ld 1 false (.t 12), none, false⟩,
 ⟨14, .ln false (.t 13), none, false⟩,
 ⟨15, .mv (.k (.sc (.int .i64 0))), none, false⟩])
 (.cln [3] [2]
 (.block 0
 (.loop [1, 3, 14, 15] b121_1))))
 (.seq
 (.reg false [⟨84, .mv (.t 3), none, false⟩,
 ⟨2, .mv (.t 84), none, false⟩])
 .ret))))⟩
attribute [simp] i121
set_option maxRecDepth 1000000 in
theorem c121 : cFn Try.prog 121 [[], [1, 3, 14, 15], [1, 3, 4, 5, 6, 14, 15, 19, 20, 21], [1, 3, 4, 5, 6, 14, 15], [2], [3], [2]] = some i121 := by kernel_rfl
theorem e121 : enterOk Try.prog 121 = true := by kernel_rfl
def w122_1 : IC :=
(.seq
 (.seq
 (.reg false [⟨11, .mv (.t 5), none, false⟩,
 ⟨12, .mv (.t 0), none, false⟩,
 ⟨13, .ln false (.t 12), none, false⟩,
 ⟨14, .ar .lss false (.t 11) (.t 13), none, false⟩])
 (.ite (.t 14)
 .skip
 (.exit 0)))
 (.seq
 (.block 1
 (.seq
 (.reg true [⟨17, .mv (.t 0), none, false⟩,
 ⟨18, .mv (.t 5), none, false⟩,
 ⟨19, .ia 2 (.t 17) (.t 18), none, false⟩,
 ⟨20, .ld 2 true (.t 19), none, false⟩,
 ⟨21, .mv (.t 1), none, false⟩,
 ⟨22, .mv (.t 5), none, false⟩,
 ⟨23, .ia 2 (.t 21) (.t 22), none, false⟩,
 ⟨24, .ld 2 true (.t 23), none, false⟩,
 ⟨25, .ca (.k (.cl 155 [])) [(.t 20), (.t 24)], none, false⟩,
 ⟨26, .nt (.t 25), none, false⟩])
 (.ite (.t 26)
 (.seq
 (.reg false [⟨4, .mv (.k (.sc (.bool false))), none, false⟩])
 .ret)
 .skip)))
 (.reg false [⟨15, .mv (.t 5), none, false⟩,
 ⟨16, .ar .add false (.t 15) (.k (.sc (.int .i64 1))), none, false⟩,
 ⟨5, .mv (.t 16), none, false⟩])))
def b122_1 : IC := w122_1
theorem u122_1 (call : CallF) (st : St) : evC call b122_1 st = evC call w122_1 st := rfl
attribute [simp] u122_1 w122_1
def i122 : Ev.Fn := ⟨2, 27, [.tmp 4],
 (.seq
 (.reg false [⟨4, .mv (.k (.sc (.bool false))), none, false⟩])
 (.seq
 (.seq
 (.reg false [⟨6, .mv (.t 0), none, false⟩,
 ⟨7, .ln false (.t 6), none, false⟩,
 ⟨8, .mv (.t 1), none, false⟩,
 ⟨9, .ln false (.t 8), none, false⟩,
 ⟨10, .ar .neq false (.t 7) (.t 9), none, false⟩])
 (.ite (.t 10)
 (.seq
 (.reg false [⟨4, .mv (.k (.sc (.bool false))), none, false⟩])
 .ret)
 .skip))
 (.seq
 (.seq
 (.reg false [⟨5, .mv (.k (.sc (.int .i64 0))), none, false⟩])
 (.cln [] [4]
 (.block 0
 (.loop [0, 1, 5] b122_1))))
 (.seq
 (.reg false [⟨4, .mv (.k (.sc (.bool true))), none, false⟩])
 .ret))))⟩
attribute [simp] i122
set_option maxRecDepth 1000000 in
theorem c122 : cFn Try.prog 122 [[], [0, 1, 5], [], [4]] = some i122 := by kernel_rfl
theorem e122 : enterOk Try.prog 122 = true := by kernel_rfl
def w123_1 : IC :=
(.seq
 (.seq
 (.reg false [⟨11, .mv (.t 5), none, false⟩,
 ⟨12, .mv (.t 0), none, false⟩,
 ⟨13, .ln false (.t 12), none, false⟩,
 ⟨14, .ar .lss false (.t 11) (.t 13), none, false⟩])
 (.ite (.t 14)
 .skip
 (.exit 0)))
 (.seq
 (.block 1
 (.seq
 (.reg true [⟨17, .mv (.t 0), none, false⟩,
 ⟨18, .mv (.t 5), none, false⟩,
 ⟨19, .ia 2 (.t 17) (.t 18), none, false⟩,
 ⟨20, .ld 2 true (.t 19), none, false⟩,
 ⟨21, .mv (.t 1), none, false⟩,
 ⟨22, .mv (.t 5), none, false⟩,
 ⟨23, .ia 2 (.t 21) (.t 22), none, false⟩,
 ⟨24, .ld 2 true (.t 23), none, false⟩,
 ⟨25, .ca (.k (.cl 156 [])) [(.t 20), (.t 24)], none, false⟩,
 ⟨26, .nt (.t 25), none, false⟩])
 (.ite (.t 26)
 (.seq
 (.reg false [⟨4, .mv (.k (.sc (.bool false))), none, false⟩])
 .ret)
 .skip)))
 (.reg false [⟨15, .mv (.t 5), none, false⟩,
 ⟨16, .ar .add false (.t 15) (.k (.sc (.int .i64 1))), none, false⟩,
 ⟨5, .mv (.t 16), none, false⟩])))
def b123_1 : IC := w123_1
theorem u123_1 (call : CallF) (st : St) : evC call b123_1 st = evC call w123_1 st := rfl
attribute [simp] u123_1 w123_1
def i123 : Ev.Fn := ⟨2, 27, [.tmp 4],
 (.seq
 (.reg false [⟨4, .mv (.k (.sc (.bool false))), none, false⟩])
 (.seq
 (.seq
 (.reg false [⟨6, .mv (.t 0), none, false⟩,
 ⟨7, .ln false (.t 6), none, false⟩,
 ⟨8, .mv (.t 1), none, false⟩,
 ⟨9, .ln false (.t 8), none, false⟩,
 ⟨10, .ar .neq false (.t 7) (.t 9), none, false⟩])
 (.ite (.t 10)
 (.seq
 (.reg false [⟨4, .mv (.k (.sc (.bool false))), none, false⟩])
 .ret)
 .skip))
 (.seq
 (.seq
 (.reg false [⟨5, .mv (.k (.sc (.int .i64 0))), none, false⟩])
 (.cln [] [4]
 (.block 0
 (.loop [0, 1, 5] b123_1))))
 (.seq
 (.reg false [⟨4, .mv (.k (.sc (.bool true))), none, false⟩])
 .ret))))⟩
attribute [simp] i123
set_option maxRecDepth 1000000 in
theorem c123 : cFn Try.prog 123 [[], [0, 1, 5], [], [4]] = some i123 := by kernel_rfl
theorem e123 : enterOk Try.prog 123 = true := by kernel_rfl
def w124_1 : IC :=
(.seq
 (.seq
 (.reg false [⟨6, .mv (.t 5), none, false⟩,
 ⟨7, .mv (.t 0), none, false⟩,
 ⟨8, .ln false (.t 7), none, false⟩,
 ⟨9, .ar .lss false (.t 6) (.t 8), none, false⟩])
 (.ite (.t 9)
 .skip
 (.exit 0)))
 (.seq
 (.block 1
 (.seq
 (.reg false [⟨12, .mv (.t 0), none, false⟩,
 ⟨13, .mv (.t 5), none, false⟩,
 ⟨14, .mv (.t 1), none, false⟩,
 ⟨15, .ia 2 (.t 12) (.t 13), none, false⟩,
 ⟨16, .fa 0 (.t 15), none, false⟩,
 ⟨1, .so 1 (.t 16) (.t 14), none, true⟩])
 (.seq
 (.reg false [⟨17, .mv (.t 1), none, false⟩,
 ⟨18, .ar .add false (.t 17) (.k (.sc (.int .i64 1))), none, false⟩,
 ⟨1, .mv (.t 18), none, false⟩])
 (.seq
 (.reg false [⟨19, .mv (.t 0), none, false⟩,
 ⟨20, .mv (.t 5), none, false⟩,
 ⟨21, .mv (.t 1), none, false⟩,
 ⟨22, .ia 2 (.t 19) (.t 20), none, false⟩,
 ⟨23, .fa 1 (.t 22), none, false⟩,
 ⟨1, .so 1 (.t 23) (.t 21), none, true⟩])
 (.reg false [⟨24, .mv (.t 1), none, false⟩,
 ⟨25, .ar .add false (.t 24) (.k (.sc (.int .i64 1))), none, false⟩,
 ⟨1, .mv (.t 25), none, false⟩])))))
 (.reg false [⟨10, .mv (.t 5), none, false⟩,
 ⟨11, .ar .add false (.t 10) (.k (.sc (.int .i64 1))), none, false⟩,
 ⟨5, .mv (.t 11), none, false⟩])))
def b124_1 : IC := w124_1
theorem u124_1 (call : CallF) (st : St) : evC call b124_1 st = evC call w124_1 st := rfl
attribute [simp] u124_1 w124_1
def i124 : Ev.Fn := ⟨2, 27, [.tmp 4],
 (.seq
 (.reg false [⟨4, .mv (.k (.sc (.int .i64 0))), none, false⟩])
 (.seq
 (.seq
 (.reg false [⟨5, .mv (.k (.sc (.int .i64 0))), none, false⟩])
 (.cln [1, 100000] [4, 100000]
 (.block 0
 (.loop [0, 1, 5, 100000] b124_1))))
 (.seq
 (.reg false [⟨26, .mv (.t 1), none, false⟩,
 ⟨4, .mv (.t 26), none, false⟩])
 .ret)))⟩
attribute [simp] i124
set_option maxRecDepth 1000000 in
theorem c124 : cFn Try.prog 124 [[], [0, 1, 5, 100000], [1, 100000], [4, 100000]] = some i124 := by kernel_rfl
theorem e124 : enterOk Try.prog 124 = true := by kernel_rfl
def w125_1 : IC :=
(.seq
 (.seq
 (.reg false [⟨6, .mv (.t 5), none, false⟩,
 ⟨7, .mv (.t 0), none, false⟩,
 ⟨8, .ln false (.t 7), none, false⟩,
 ⟨9, .ar .lss false (.t 6) (.t 8), none, false⟩])
 (.ite (.t 9)
 .skip
 (.exit 0)))
 (.seq
 (.block 1
 (.seq
 (.reg false [⟨12, .mv (.t 0), none, false⟩,
 ⟨13, .mv (.t 5), none, false⟩,
 ⟨14, .mv (.t 1), none, false⟩,
 ⟨15, .ca (.k (.cl 113 [])) [(.t 14)], none, false⟩,
 ⟨16, .ia 2 (.t 12) (.t 13), none, false⟩,
 ⟨17, .fa 0 (.t 16), none, false⟩,
 ⟨1, .so 1 (.t 17) (.t 15), none, true⟩])
 (.seq
 (.reg false [⟨18, .mv (.t 1), none, false⟩,
 ⟨19, .ar .add false (.t 18) (.k (.sc (.int .i64 1))), none, false⟩,
 ⟨1, .mv (.t 19), none, false⟩])
 (.rgw [⟨20, .mv (.t 0), none, false⟩,
 ⟨21, .mv (.t 5), none, false⟩,
 ⟨22, .ia 2 (.t 20) (.t 21), none, false⟩,
 ⟨23, .fa 1 (.t 22), none, false⟩,
 ⟨24, .ld 1 false (.t 23), none, false⟩,
 ⟨25, .mv (.t 1), none, false⟩,
 ⟨26, .cw 62 [] [(.t 24), (.t 25)], none, false⟩,
 ⟨1, .mv (.t 26), none, false⟩]))))
 (.reg false [⟨10, .mv (.t 5), none, false⟩,
 ⟨11, .ar .add false (.t 10) (.k (.sc (.int .i64 1))), none, false⟩,
 ⟨5, .mv (.t 11), none, false⟩])))
def b125_1 : IC := w125_1
theorem u125_1 (call : CallF) (st : St) : evC call b125_1 st = evC call w125_1 st := rfl
attribute [simp] u125_1 w125_1
def i125 : Ev.Fn := ⟨2, 28, [.tmp 4],
 (.seq
 (.reg false [⟨4, .mv (.k (.sc (.int .i64 0))), none, false⟩])
 (.seq
 (.seq
 (.reg false [⟨5, .mv (.k (.sc (.int .i64 0))), none, false⟩])
 (.cln [1, 100000] [4, 100000]
 (.block 0
 (.loop [0, 1, 5, 100000] b125_1))))
 (.seq
 (.reg false [⟨27, .mv (.t 1), none, false⟩,
 ⟨4, .mv (.t 27), none, false⟩])
 .ret)))⟩
attribute [simp] i125
set_option maxRecDepth 1000000 in
theorem c125 : cFn Try.prog 125 [[62], [0, 1, 5, 100000], [1, 100000], [4, 100000]] = some i125 := by kernel_rfl
theorem e125 : enterOk Try.prog 125 = true := by kernel_rfl
def i126 : Ev.Fn := ⟨2, 25, [.tmp 4],
 (.seq
 (.reg false [⟨2, .bx (.t 0), none, false⟩,
 ⟨3, .bx (.t 1), none, false⟩,
 ⟨4, .mv (.k (.sc (.bool false))), none, false⟩])
 (.seq
 (.seq
 (.reg false [⟨5, .fa 0 (.t 2), none, false⟩,
 ⟨6, .ld 1 false (.t 5), none, false⟩,
 ⟨7, .fa 0 (.t 3), none, false⟩,
 ⟨8, .ld 1 false (.t 7), none, false⟩,
 ⟨9, .ar .neq false (.t 6) (.t 8), none, false⟩])
 (.ite (.t 9)
 (.seq
 (.reg false [⟨4, .mv (.k (.sc (.bool false))), none, false⟩])
 .ret)
 .skip))
 (.seq
 (.seq
 (.reg false [⟨10, .fa 1 (.t 2), none, false⟩,
 ⟨11, .ld 1 false (.t 10), none, false⟩,
 ⟨12, .fa 1 (.t 3), none, false⟩,
 ⟨13, .ld 1 false (.t 12), none, false⟩,
 ⟨14, .ar .neq false (.t 11) (.t 13), none, false⟩])
 (.ite (.t 14)
 (.seq
 (.reg false [⟨4, .mv (.k (.sc (.bool false))), none, false⟩])
 .ret)
 .skip))
 (.seq
 (.seq
 (.reg false [⟨15, .fa 2 (.t 2), none, false⟩,
 ⟨16, .ld 1 false (.t 15), none, false⟩,
 ⟨17, .fa 2 (.t 3), none, false⟩,
 ⟨18, .ld 1 false (.t 17), none, false⟩,
 ⟨19, .ar .neq false (.t 16) (.t 18), none, false⟩])
 (.ite (.t 19)
 (.seq
 (.reg false [⟨4, .mv (.k (.sc (.bool false))), none, false⟩])
 .ret)
 .skip))
 (.seq
 (.seq
 (.reg false [⟨20, .fa 3 (.t 2), none, false⟩,
 ⟨21, .ld 1 false (.t 20), none, false⟩,
 ⟨22, .fa 3 (.t 3), none, false⟩,
 ⟨23, .ld 1 false (.t 22), none, false⟩,
 ⟨24, .ar .neq false (.t 21) (.t 23), none, false⟩])
 (.ite (.t 24)
 (.seq
 (.reg false [⟨4, .mv (.k (.sc (.bool false))), none, false⟩])
 .ret)
 .skip))
 (.seq
 (.reg false [⟨4, .mv (.k (.sc (.bool true))), none, false⟩])
 .ret))))))⟩
attribute [simp] i126
set_option maxRecDepth 1000000 in
theorem c126 : cFn Try.prog 126 [[]] = some i126 := by kernel_rfl
theorem e126 : enterOk Try.prog 126 = true := by kernel_rfl
def i127 : Ev.Fn := ⟨0, 12, [.tmp 0],
 (.seq
 (.reg false [⟨0, .mv (.k .nl), none, false⟩])
 (.seq
 (.reg false [⟨1, .bs 2 1 [(.sc (.int .i64 0))] 3 [(0, (.k (.sc (.int .i64 20)))), (1, (.k (.sc (.int .i64 40)))), (2, (.k (.sc (.int .i64 310))))], none, false⟩,
 ⟨2, .bs 2 1 [(.sc (.int .i64 0))] 3 [(0, (.k (.sc (.int .i64 35)))), (1, (.k (.sc (.int .i64 45)))), (2, (.k (.sc (.int .i64 410))))], none, false⟩,
 ⟨3, .bs 2 1 [(.sc (.int .i64 0))] 3 [(0, (.k (.sc (.int .i64 15)))), (1, (.k (.sc (.int .i64 33)))), (2, (.k (.sc (.int .i64 280))))], none, false⟩,
 ⟨4, .bs 2 1 [(.sc (.int .i64 0))] 3 [(0, (.k (.sc (.int .i64 50)))), (1, (.k (.sc (.int .i64 36)))), (2, (.k (.sc (.int .i64 240))))], none, false⟩,
 ⟨5, .bs 2 1 [(.sc (.int .i64 0))] 3 [(0, (.k (.sc (.int .i64 95)))), (1, (.k (.sc (.int .i64 85)))), (2, (.k (.sc (.int .i64 270))))], none, false⟩,
 ⟨6, .bs 2 1 [(.sc (.int .i64 0))] 3 [(0, (.k (.sc (.int .i64 5)))), (1, (.k (.sc (.int .i64 35)))), (2, (.k (.sc (.int .i64 370))))], none, false⟩,
 ⟨7, .bs 2 1 [(.sc (.int .i64 0))] 3 [(0, (.k (.sc (.int .i64 10)))), (1, (.k (.sc (.int .i64 42)))), (2, (.k (.sc (.int .i64 290))))], none, false⟩,
 ⟨8, .bs 2 1 [(.sc (.int .i64 0))] 3 [(0, (.k (.sc (.int .i64 40)))), (1, (.k (.sc (.int .i64 40)))), (2, (.k (.sc (.int .i64 330))))], none, false⟩,
 ⟨9, .bs 2 1 [(.sc (.int .i64 0))] 3 [(0, (.k (.sc (.int .i64 80)))), (1, (.k (.sc (.int .i64 60)))), (2, (.k (.sc (.int .i64 220))))], none, false⟩,
 ⟨10, .bs 2 1 [(.sc (.int .i64 0))] 3 [(0, (.k (.sc (.int .i64 70)))), (1, (.k (.sc (.int .i64 38)))), (2, (.k (.sc (.int .i64 260))))], none, false⟩,
 ⟨11, .bw 83 1 [.nl] 10 [(0, (.t 1)), (1, (.t 2)), (2, (.t 3)), (3, (.t 4)), (4, (.t 5)), (5, (.t 6)), (6, (.t 7)), (7, (.t 8)), (8, (.t 9)), (9, (.t 10))], none, false⟩,
 ⟨0, .mv (.t 11), none, false⟩])
 .ret))⟩
attribute [simp] i127
set_option maxRecDepth 1000000 in
theorem c127 : cFn Try.prog 127 [[]] = some i127 := by kernel_rfl
theorem e127 : enterOk Try.prog 127 = true := by kernel_rfl
def i128 : Ev.Fn := ⟨1, 5, [.tmp 2],
 (.seq
 (.reg false [⟨2, .mv (.k (.sc (.bool false))), none, false⟩])
 (.seq
 (.reg false [⟨3, .mv (.t 0), none, false⟩,
 ⟨4, .ca (.k (.cl 88 [])) [(.t 3), (.k (.sc (.int .i64 0))), (.k (.sc (.int .i64 179)))], none, false⟩,
 ⟨2, .mv (.t 4), none, false⟩])
 .ret))⟩
attribute [simp] i128
set_option maxRecDepth 1000000 in
theorem c128 : cFn Try.prog 128 [[]] = some i128 := by kernel_rfl
theorem e128 : enterOk Try.prog 128 = true := by kernel_rfl
def w129_1 : IC :=
(.seq
 (.seq
 (.reg false [⟨17, .mv (.t 3), none, false⟩,
 ⟨18, .mv (.t 0), none, false⟩,
 ⟨19, .ln true (.t 18), none, false⟩,
 ⟨20, .ar .lss false (.t 17) (.t 19), none, false⟩])
 (.ite (.t 20)
 .skip
 (.exit 0)))
 (.seq
 (.block 1
 (.seq
 (.reg false [⟨23, .mv (.t 0), none, false⟩,
 ⟨24, .mv (.t 3), none, false⟩,
 ⟨25, .ix (.t 23) (.t 24), none, false⟩,
 ⟨26, .ca (.k (.cl 157 [])) [(.t 25)], none, false⟩,
 ⟨27, .nt (.t 26), none, false⟩,
 ⟨28, .mv (.t 27), none, false⟩,
 ⟨29, .mv (.t 0), (some (28, true)), false⟩,
 ⟨30, .mv (.t 3), (some (28, true)), false⟩,
 ⟨31, .ix (.t 29) (.t 30), (some (28, true)), false⟩,
 ⟨32, .ca (.k (.cl 158 [])) [(.t 31)], (some (28, true)), false⟩,
 ⟨33, .nt (.t 32), (some (28, true)), false⟩,
 ⟨34, .pk (.t 28) (.t 33) (.k (.sc (.bool false))), none, false⟩])
 (.ite (.t 34)
 (.seq
 (.reg false [⟨2, .mv (.k (.sc (.bool false))), none, false⟩])
 .ret)
 .skip)))
 (.reg false [⟨21, .mv (.t 3), none, false⟩,
 ⟨22, .ar .add false (.t 21) (.k (.sc (.int .i64 1))), none, false⟩,
 ⟨3, .mv (.t 22), none, false⟩])))
def b129_1 : IC := w129_1
theorem u129_1 (call : CallF) (st : St) : evC call b129_1 st = evC call w129_1 st := rfl
attribute [simp] u129_1 w129_1
def i129 : Ev.Fn := ⟨1, 35, [.tmp 2],
 (.seq
 (.reg false [⟨2, .mv (.k (.sc (.bool false))), none, false⟩])
 (.seq
 (.seq
 (.reg false [⟨4, .mv (.t 0), none, false⟩,
 ⟨5, .ar .eql false (.t 4) (.k (.sc (.string ⟨#[]⟩))), none, false⟩,
 ⟨6, .mv (.t 5), none, false⟩,
 ⟨7, .mv (.t 0), (some (6, false)), false⟩,
 ⟨8, .ln true (.t 7), (some (6, false)), false⟩,
 ⟨9, .ar .gtr false (.t 8) (.k (.sc (.int .i64 10))), (some (6, false)), false⟩,
 ⟨10, .pk (.t 6) (.k (.sc (.bool true))) (.t 9), none, false⟩,
 ⟨11, .mv (.t 10), none, false⟩,
 ⟨12, .mv (.t 0), (some (11, false)), false⟩,
 ⟨13, .ix (.t 12) (.k (.sc (.int .i64 0))), (some (11, false)), false⟩,
 ⟨14, .ca (.k (.cl 157 [])) [(.t 13)], (some (11, false)), false⟩,
 ⟨15, .nt (.t 14), (some (11, false)), false⟩,
 ⟨16, .pk (.t 11) (.k (.sc (.bool true))) (.t 15), none, false⟩])
 (.ite (.t 16)
 (.seq
 (.reg false [⟨2, .mv (.k (.sc (.bool false))), none, false⟩])
 .ret)
 .skip))
 (.seq
 (.seq
 (.reg false [⟨3, .mv (.k (.sc (.int .i64 0))), none, false⟩])
 (.cln [] [2]
 (.block 0
 (.loop [0, 3] b129_1))))
 (.seq
 (.reg false [⟨2, .mv (.k (.sc (.bool true))), none, false⟩])
 .ret))))⟩
attribute [simp] i129
set_option maxRecDepth 1000000 in
theorem c129 : cFn Try.prog 129 [[], [0, 3], [], [2]] = some i129 := by kernel_rfl
theorem e129 : enterOk Try.prog 129 = true := by kernel_rfl
def w130_1 : IC :=
(.seq
 (.reg false [⟨9, .ar .lss false (.t 8) (.t 7), none, false⟩])
 (.seq
 (.ite (.t 9)
 .skip
 (.exit 0))
 (.seq
 (.block 1
 (.seq
 (.reg false [⟨10, .mv (.t 8), none, false⟩,
 ⟨5, .mv (.t 10), none, false⟩])
 (.seq
 (.reg false [⟨11, .mv (.t 1), none, false⟩,
 ⟨12, .mv (.t 0), none, false⟩,
 ⟨13, .mv (.t 5), none, false⟩,
 ⟨14, .ia 4 (.t 12) (.t 13), none, false⟩,
 ⟨15, .ld 4 true (.t 14), none, false⟩,
 ⟨16, .ca (.t 11) [(.t 15)], none, false⟩])
 (.ite (.t 16)
 (.seq
 (.reg false [⟨17, .mv (.t 5), none, false⟩,
 ⟨4, .mv (.t 17), none, false⟩])
 .ret)
 .skip))))
 (.reg false [⟨18, .ar .add false (.t 8) (.k (.sc (.int .i64 1))), none, false⟩,
 ⟨8, .mv (.t 18), none, false⟩]))))
def b130_1 : IC := w130_1
theorem u130_1 (call : CallF) (st : St) : evC call b130_1 st = evC call w130_1 st := rfl
attribute [simp] u130_1 w130_1
def i130 : Ev.Fn := ⟨2, 19, [.tmp 4],
 (.seq
 (.reg false [⟨4, .mv (.k (.sc (.int .i64 0))), none, false⟩])
 (.seq
 (.seq
 (.reg false [⟨6, .mv (.t 0), none, false⟩,
 ⟨7, .ln false (.t 6), none, false⟩,
 ⟨8, .mv (.k (.sc (.int .i64 0))), none, false⟩])
 (.cln [] [4]
 (.block 0
 (.loop [0, 1, 7, 8] b130_1))))
 (.seq
 (.reg false [⟨4, .mv (.k (.sc (.int .i64 (-1)))), none, false⟩])
 .ret)))⟩
attribute [simp] i130
set_option maxRecDepth 1000000 in
theorem c130 : cFn Try.prog 130 [[], [0, 1, 7, 8], [], [4]] = some i130 := by kernel_rfl
theorem e130 : enterOk Try.prog 130 = true := by kernel_rfl
def w131_1 : IC :=
(.seq
 (.seq
 (.reg false [⟨51, .mv (.t 5), none, false⟩,
 ⟨52, .mv (.t 0), none, false⟩,
 ⟨53, .nc (.t 52), none, false⟩,
 ⟨54, .fa 3 (.t 53), none, false⟩,
 ⟨55, .ld 1 false (.t 54), none, false⟩,
 ⟨56, .ln false (.t 55), none, false⟩,
 ⟨57, .ar .lss false (.t 51) (.t 56), none, false⟩])
 (.ite (.t 57)
 .skip
 (.exit 0)))
 (.seq
 (.block 1
 (.seq
 (.reg true [⟨60, .mv (.t 0), none, false⟩,
 ⟨61, .nc (.t 60), none, false⟩,
 ⟨62, .fa 3 (.t 61), none, false⟩,
 ⟨63, .ld 1 false (.t 62), none, false⟩,
 ⟨64, .mv (.t 5), none, false⟩,
 ⟨65, .ia 2 (.t 63) (.t 64), none, false⟩,
 ⟨66, .fa 0 (.t 65), none, false⟩,
 ⟨67, .ld 1 false (.t 66), none, false⟩,
 ⟨68, .mv (.t 1), none, false⟩,
 ⟨69, .nc (.t 68), none, false⟩,
 ⟨70, .fa 3 (.t 69), none, false⟩,
 ⟨71, .ld 1 false (.t 70), none, false⟩,
 ⟨72, .mv (.t 5), none, false⟩,
 ⟨73, .ia 2 (.t 71) (.t 72), none, false⟩,
 ⟨74, .fa 0 (.t 73), none, false⟩,
 ⟨75, .ld 1 false (.t 74), none, false⟩,
 ⟨76, .ar .neq false (.t 67) (.t 75), none, false⟩,
 ⟨77, .mv (.t 76), none, false⟩,
 ⟨78, .mv (.t 0), (some (77, false)), false⟩,
 ⟨79, .nc (.t 78), (some (77, false)), false⟩,
 ⟨80, .fa 3 (.t 79), (some (77, false)), false⟩,
 ⟨81, .ld 1 false (.t 80), (some (77, false)), false⟩,
 ⟨82, .mv (.t 5), (some (77, false)), false⟩,
 ⟨83, .ia 2 (.t 81) (.t 82), (some (77, false)), false⟩,
 ⟨84, .fa 1 (.t 83), (some (77, false)), false⟩,
 ⟨85, .ld 1 false (.t 84), (some (77, false)), false⟩,
 ⟨86, .mv (.t 1), (some (77, false)), false⟩,
 ⟨87, .nc (.t 86), (some (77, false)), false⟩,
 ⟨88, .fa 3 (.t 87), (some (77, false)), false⟩,
 ⟨89, .ld 1 false (.t 88), (some (77, false)), false⟩,
 ⟨90, .mv (.t 5), (some (77, false)), false⟩,
 ⟨91, .ia 2 (.t 89) (.t 90), (some (77, false)), false⟩,
 ⟨92, .fa 1 (.t 91), (some (77, false)), false⟩,
 ⟨93, .ld 1 false (.t 92), (some (77, false)), false⟩,
 ⟨94, .ca (.k (.cl 160 [])) [(.t 85), (.t 93)], (some (77, false)), false⟩,
 ⟨95, .nt (.t 94), (some (77, false)), false⟩,
 ⟨96, .pk (.t 77) (.k (.sc (.bool true))) (.t 95), none, false⟩])
 (.ite (.t 96)
 (.seq
 (.reg false [⟨4, .mv (.k (.sc (.bool false))), none, false⟩])
 .ret)
 .skip)))
 (.reg false [⟨58, .mv (.t 5), none, false⟩,
 ⟨59, .ar .add false (.t 58) (.k (.sc (.int .i64 1))), none, false⟩,
 ⟨5, .mv (.t 59), none, false⟩])))
def b131_1 : IC := w131_1
theorem u131_1 (call : CallF) (st : St) : evC call b131_1 st = evC call w131_1 st := rfl
attribute [simp] u131_1 w131_1
def i131 : Ev.Fn := ⟨2, 97, [.tmp 4],
 (.seq
 (.reg false [⟨4, .mv (.k (.sc (.bool false))), none, false⟩])
 (.seq
 (.seq
 (.reg true [⟨6, .mv (.t 0), none, false⟩,
 ⟨7, .nc (.t 6), none, false⟩,
 ⟨8, .fa 0 (.t 7), none, false⟩,
 ⟨9, .ld 1 false (.t 8), none, false⟩,
 ⟨10, .mv (.t 1), none, false⟩,
 ⟨11, .nc (.t 10), none, false⟩,
 ⟨12, .fa 0 (.t 11), none, false⟩,
 ⟨13, .ld 1 false (.t 12), none, false⟩,
 ⟨14, .ar .neq false (.t 9) (.t 13), none, false⟩,
 ⟨15, .mv (.t 14), none, false⟩,
 ⟨16, .mv (.t 0), (some (15, false)), false⟩,
 ⟨17, .nc (.t 16), (some (15, false)), false⟩,
 ⟨18, .fa 1 (.t 17), (some (15, false)), false⟩,
 ⟨19, .ld 1 false (.t 18), (some (15, false)), false⟩,
 ⟨20, .mv (.t 1), (some (15, false)), false⟩,
 ⟨21, .nc (.t 20), (some (15, false)), false⟩,
 ⟨22, .fa 1 (.t 21), (some (15, false)), false⟩,
 ⟨23, .ld 1 false (.t 22), (some (15, false)), false⟩,
 ⟨24, .ar .neq false (.t 19) (.t 23), (some (15, false)), false⟩,
 ⟨25, .pk (.t 15) (.k (.sc (.bool true))) (.t 24), none, false⟩,
 ⟨26, .mv (.t 25), none, false⟩,
 ⟨27, .mv (.t 0), (some (26, false)), false⟩,
 ⟨28, .nc (.t 27), (some (26, false)), false⟩,
 ⟨29, .fa 2 (.t 28), (some (26, false)), false⟩,
 ⟨30, .ld 1 false (.t 29), (some (26, false)), false⟩,
 ⟨31, .mv (.t 1), (some (26, false)), false⟩,
 ⟨32, .nc (.t 31), (some (26, false)), false⟩,
 ⟨33, .fa 2 (.t 32), (some (26, false)), false⟩,
 ⟨34, .ld 1 false (.t 33), (some (26, false)), false⟩,
 ⟨35, .ca (.k (.cl 159 [])) [(.t 30), (.t 34)], (some (26, false)), false⟩,
 ⟨36, .nt (.t 35), (some (26, false)), false⟩,
 ⟨37, .pk (.t 26) (.k (.sc (.bool true))) (.t 36), none, false⟩,
 ⟨38, .mv (.t 37), none, false⟩,
 ⟨39, .mv (.t 0), (some (38, false)), false⟩,
 ⟨40, .nc (.t 39), (some (38, false)), false⟩,
 ⟨41, .fa 3 (.t 40), (some (38, false)), false⟩,
 ⟨42, .ld 1 false (.t 41), (some (38, false)), false⟩,
 ⟨43, .ln false (.t 42), (some (38, false)), false⟩,
 ⟨44, .mv (.t 1), (some (38, false)), false⟩,
 ⟨45, .nc (.t 44), (some (38, false)), false⟩,
 ⟨46, .fa 3 (.t 45), (some (38, false)), false⟩,
 ⟨47, .ld 1 false (.t 46), (some (38, false)), false⟩,
 ⟨48, .ln false (.t 47), (some (38, false)), false⟩,
 ⟨49, .ar .neq false (.t 43) (.t 48), (some (38, false)), false⟩,
 ⟨50, .pk (.t 38) (.k (.sc (.bool true))) (.t 49), none, false⟩])
 (.ite (.t 50)
 (.seq
 (.reg false [⟨4, .mv (.k (.sc (.bool false))), none, false⟩])
 .ret)
 .skip))
 (.seq
 (.seq
 (.reg false [⟨5, .mv (.k (.sc (.int .i64 0))), none, false⟩])
 (.cln [] [4]
 (.block 0
 (.loop [0, 1, 5] b131_1))))
 (.seq
 (.reg false [⟨4, .mv (.k (.sc (.bool true))), none, false⟩])
 .ret))))⟩
attribute [simp] i131
set_option maxRecDepth 1000000 in
theorem c131 : cFn Try.prog 131 [[], [0, 1, 5], [], [4]] = some i131 := by kernel_rfl
theorem e131 : enterOk Try.prog 131 = true := by kernel_rfl
def w132_1 : IC :=
(.seq
 (.reg false [⟨14, .ar .lss false (.t 13) (.t 12), none, false⟩])
 (.seq
 (.ite (.t 14)
 .skip
 (.exit 0))
 (.seq
 (.block 1
 (.seq
 (.reg false [⟨15, .mv (.t 13), none, false⟩,
 ⟨5, .mv (.t 15), none, false⟩])
 (.seq
 (.reg true [⟨16, .mv (.t 0), none, false⟩,
 ⟨17, .mv (.t 5), none, false⟩,
 ⟨18, .ia 2 (.t 16) (.t 17), none, false⟩,
 ⟨19, .ld 2 true (.t 18), none, false⟩,
 ⟨20, .mv (.t 1), none, false⟩,
 ⟨21, .mv (.t 5), none, false⟩,
 ⟨22, .ia 2 (.t 20) (.t 21), none, false⟩,
 ⟨23, .ld 2 true (.t 22), none, false⟩,
 ⟨24, .eq true [1, 1] (.t 19) (.t 23), none, false⟩])
 (.ite (.t 24)
 (.seq
 (.reg false [⟨4, .mv (.k (.sc (.bool false))), none, false⟩])
 .ret)
 .skip))))
 (.reg false [⟨25, .ar .add false (.t 13) (.k (.sc (.int .i64 1))), none, false⟩,
 ⟨13, .mv (.t 25), none, false⟩]))))
def b132_1 : IC := w132_1
theorem u132_1 (call : CallF) (st : St) : evC call b132_1 st = evC call w132_1 st := rfl
attribute [simp] u132_1 w132_1
def i132 : Ev.Fn := ⟨2, 26, [.tmp 4],
 (.seq
 (.reg false [⟨4, .mv (.k (.sc (.bool false))), none, false⟩])
 (.seq
 (.seq
 (.reg false [⟨6, .mv (.t 0), none, false⟩,
 ⟨7, .ln false (.t 6), none, false⟩,
 ⟨8, .mv (.t 1), none, false⟩,
 ⟨9, .ln false (.t 8), none, false⟩,
 ⟨10, .ar .neq false (.t 7) (.t 9), none, false⟩])
 (.ite (.t 10)
 (.seq
 (.reg false [⟨4, .mv (.k (.sc (.bool false))), none, false⟩])
 .ret)
 .skip))
 (.seq
 (.seq
 (.reg false [⟨11, .mv (.t 0), none, false⟩,
 ⟨12, .ln false (.t 11), none, false⟩,
 ⟨13, .mv (.k (.sc (.int .i64 0))), none, false⟩])
 (.cln [] [4]
 (.block 0
 (.loop [0, 1, 12, 13] b132_1))))
 (.seq
 (.reg false [⟨4, .mv (.k (.sc (.bool true))), none, false⟩])
 .ret))))⟩
attribute [simp] i132
set_option maxRecDepth 1000000 in
theorem c132 : cFn Try.prog 132 [[], [0, 1, 12, 13], [], [4]] = some i132 := by kernel_rfl
theorem e132 : enterOk Try.prog 132 = true := by kernel_rfl
def w133_1 : IC :=
(.seq
 (.reg false [⟨18, .ar .lss false (.t 17) (.t 16), none, false⟩])
 (.seq
 (.ite (.t 18)
 .skip
 (.exit 0))
 (.seq
 (.block 1
 (.seq
 (.reg false [⟨19, .mv (.t 17), none, false⟩,
 ⟨20, .ia 2 (.t 15) (.t 17), none, false⟩,
 ⟨21, .ld 2 true (.t 20), none, false⟩,
 ⟨8, .al [(.sc (.string ⟨#[]⟩)), .nl], none, false⟩,
 ⟨7, .mv (.t 19), none, false⟩,
 ⟨1, .so 2 (.t 8) (.t 21), none, true⟩])
 (.seq
 (.reg false [⟨22, .mv (.t 1), none, false⟩,
 ⟨23, .mv (.t 7), none, false⟩,
 ⟨24, .ia 2 (.t 22) (.t 23), none, false⟩,
 ⟨25, .ld 2 true (.t 24), none, false⟩,
 ⟨9, .al [(.sc (.string ⟨#[]⟩)), .nl], none, false⟩,
 ⟨1, .so 2 (.t 9) (.t 25), none, true⟩])
 (.seq
 (.reg false [⟨26, .mv (.t 2), none, false⟩,
 ⟨27, .ld 2 true (.t 8), none, false⟩,
 ⟨28, .ld 2 true (.t 9), none, false⟩,
 ⟨29, .ca (.t 26) [(.t 27), (.t 28)], none, false⟩,
 ⟨30, .nt (.t 29), none, false⟩])
 (.ite (.t 30)
 (.seq
 (.reg false [⟨6, .mv (.k (.sc (.bool false))), none, false⟩])
 .ret)
 .skip)))))
 (.reg false [⟨31, .ar .add false (.t 17) (.k (.sc (.int .i64 1))), none, false⟩,
 ⟨17, .mv (.t 31), none, false⟩]))))
def b133_1 : IC := w133_1
theorem u133_1 (call : CallF) (st : St) : evC call b133_1 st = evC call w133_1 st := rfl
attribute [simp] u133_1 w133_1
def i133 : Ev.Fn := ⟨3, 32, [.tmp 6],
 (.seq
 (.reg false [⟨6, .mv (.k (.sc (.bool false))), none, false⟩])
 (.seq
 (.seq
 (.reg false [⟨10, .mv (.t 0), none, false⟩,
 ⟨11, .ln false (.t 10), none, false⟩,
 ⟨12, .mv (.t 1), none, false⟩,
 ⟨13, .ln false (.t 12), none, false⟩,
 ⟨14, .ar .neq false (.t 11) (.t 13), none, false⟩])
 (.ite (.t 14)
 (.seq
 (.reg false [⟨6, .mv (.k (.sc (.bool false))), none, false⟩])
 .ret)
 .skip))
 (.seq
 (.seq
 (.reg false [⟨15, .mv (.t 0), none, false⟩,
 ⟨16, .ln false (.t 15), none, false⟩,
 ⟨17, .mv (.k (.sc (.int .i64 0))), none, false⟩])
 (.cln [] [6]
 (.block 0
 (.loop [1, 2, 15, 16, 17] b133_1))))
 (.seq
 (.reg false [⟨6, .mv (.k (.sc (.bool true))), none, false⟩])
 .ret))))⟩
attribute [simp] i133
set_option maxRecDepth 1000000 in
theorem c133 : cFn Try.prog 133 [[], [1, 2, 15, 16, 17], [], [6]] = some i133 := by kernel_rfl
theorem e133 : enterOk Try.prog 133 = true := by kernel_rfl
def i134 : Ev.Fn := ⟨2, 17, [.tmp 4],
 (.seq
 (.reg false [⟨2, .bx (.t 0), none, false⟩,
 ⟨3, .bx (.t 1), none, false⟩,
 ⟨4, .mv (.k (.sc (.bool false))), none, false⟩])
 (.seq
 (.reg false [⟨5, .fa 0 (.t 2), none, false⟩,
 ⟨6, .ld 1 false (.t 5), none, false⟩,
 ⟨7, .fa 0 (.t 3), none, false⟩,
 ⟨8, .ld 1 false (.t 7), none, false⟩,
 ⟨9, .ar .eql false (.t 6) (.t 8), none, false⟩,
 ⟨10, .mv (.t 9), none, false⟩,
 ⟨11, .fa 1 (.t 2), (some (10, true)), false⟩,
 ⟨12, .ld 1 false (.t 11), (some (10, true)), false⟩,
 ⟨13, .fa 1 (.t 3), (some (10, true)), false⟩,
 ⟨14, .ld 1 false (.t 13), (some (10, true)), false⟩,
 ⟨15, .ca (.k (.cl 135 [])) [(.t 12), (.t 14)], (some (10, true)), false⟩,
 ⟨16, .pk (.t 10) (.t 15) (.k (.sc (.bool false))), none, false⟩,
 ⟨4, .mv (.t 16), none, false⟩])
 .ret))⟩
attribute [simp] i134
set_option maxRecDepth 1000000 in
theorem c134 : cFn Try.prog 134 [[]] = some i134 := by kernel_rfl
theorem e134 : enterOk Try.prog 134 = true := by kernel_rfl
def w135_1 : IC :=
(.seq
 (.reg false [⟨14, .ar .lss false (.t 13) (.t 12), none, false⟩])
 (.seq
 (.ite (.t 14)
 .skip
 (.exit 0))
 (.seq
 (.block 1
 (.seq
 (.reg false [⟨15, .mv (.t 13), none, false⟩,
 ⟨5, .mv (.t 15), none, false⟩])
 (.seq
 (.reg true [⟨16, .mv (.t 0), none, false⟩,
 ⟨17, .mv (.t 5), none, false⟩,
 ⟨18, .ia 1 (.t 16) (.t 17), none, false⟩,
 ⟨19, .ld 1 false (.t 18), none, false⟩,
 ⟨20, .mv (.t 1), none, false⟩,
 ⟨21, .mv (.t 5), none, false⟩,
 ⟨22, .ia 1 (.t 20) (.t 21), none, false⟩,
 ⟨23, .ld 1 false (.t 22), none, false⟩,
 ⟨24, .ar .neq false (.t 19) (.t 23), none, false⟩])
 (.ite (.t 24)
 (.seq
 (.reg false [⟨4, .mv (.k (.sc (.bool false))), none, false⟩])
 .ret)
 .skip))))
 (.reg false [⟨25, .ar .add false (.t 13) (.k (.sc (.int .i64 1))), none, false⟩,
 ⟨13, .mv (.t 25), none, false⟩]))))
def b135_1 : IC := w135_1
theorem u135_1 (call : CallF) (st : St) : evC call b135_1 st = evC call w135_1 st := rfl
attribute [simp] u135_1 w135_1
def i135 : Ev.Fn := ⟨2, 26, [.tmp 4],
 (.seq
 (.reg false [⟨4, .mv (.k (.sc (.bool false))), none, false⟩])
 (.seq
 (.seq
 (.reg false [⟨6, .mv (.t 0), none, false⟩,
 ⟨7, .ln false (.t 6), none, false⟩,
 ⟨8, .mv (.t 1), none, false⟩,
 ⟨9, .ln false (.t 8), none, false⟩,
 ⟨10, .ar .neq false (.t 7) (.t 9), none, false⟩])
 (.ite (.t 10)
 (.seq
 (.reg false [⟨4, .mv (.k (.sc (.bool false))), none, false⟩])
 .ret)
 .skip))
 (.seq
 (.seq
 (.reg false [⟨11, .mv (.t 0), none, false⟩,
 ⟨12, .ln false (.t 11), none, false⟩,
 ⟨13, .mv (.k (.sc (.int .i64 0))), none, false⟩])
 (.cln [] [4]
 (.block 0
 (.loop [0, 1, 12, 13] b135_1))))
 (.seq
 (.reg false [⟨4, .mv (.k (.sc (.bool true))), none, false⟩])
 .ret))))⟩
attribute [simp] i135
set_option maxRecDepth 1000000 in
theorem c135 : cFn Try.prog 135 [[], [0, 1, 12, 13], [], [4]] = some i135 := by kernel_rfl
theorem e135 : enterOk Try.prog 135 = true := by kernel_rfl
def i136 : Ev.Fn := ⟨2, 17, [.tmp 4],
 (.seq
 (.reg false [⟨4, .mv (.k (.sc (.int .i64 0))), none, false⟩])
 (.seq
 (.reg false [⟨6, .mv (.t 0), none, false⟩,
 ⟨7, .mv (.t 1), none, false⟩,
 ⟨8, .ar .sub false (.t 6) (.t 7), none, false⟩,
 ⟨9, .mv (.t 1), none, false⟩,
 ⟨10, .mv (.t 0), none, false⟩,
 ⟨11, .ar .sub false (.t 9) (.t 10), none, false⟩,
 ⟨12, .ca (.k (.cl 108 [])) [(.t 8), (.t 11)], none, false⟩,
 ⟨5, .mv (.t 12), none, false⟩])
 (.seq
 (.reg false [⟨13, .mv (.t 5), none, false⟩,
 ⟨14, .mv (.t 5), none, false⟩,
 ⟨15, .ar .sub false (.k (.sc (.int .i64 180))) (.t 14), none, false⟩,
 ⟨16, .ca (.k (.cl 109 [])) [(.t 13), (.t 15)], none, false⟩,
 ⟨4, .mv (.t 16), none, false⟩])
 .ret)))⟩
attribute [simp] i136
set_option maxRecDepth 1000000 in
theorem c136 : cFn Try.prog 136 [[]] = some i136 := by kernel_rfl
theorem e136 : enterOk Try.prog 136 = true := by kernel_rfl
def i137 : Ev.Fn := ⟨2, 26, [.tmp 4, .tmp 5],
 (.seq
 (.reg false [⟨4, .mv (.k (.sc (.int .i64 0))), none, false⟩,
 ⟨5, .mv (.k (.sc (.int .i64 0))), none, false⟩])
 (.seq
 (.seq
 (.reg false [⟨7, .mv (.t 0), none, false⟩,
 ⟨8, .ca (.k (.cl 84 [])) [(.t 7), (.k (.sc (.int .i64 0))), (.k (.sc (.int .i64 179)))], none, false⟩,
 ⟨9, .nt (.t 8), none, false⟩,
 ⟨10, .mv (.t 9), none, false⟩,
 ⟨11, .mv (.t 1), (some (10, false)), false⟩,
 ⟨12, .ca (.k (.cl 84 [])) [(.t 11), (.k (.sc (.int .i64 0))), (.k (.sc (.int .i64 179)))], (some (10, false)), false⟩,
 ⟨13, .nt (.t 12), (some (10, false)), false⟩,
 ⟨14, .pk (.t 10) (.k (.sc (.bool true))) (.t 13), none, false⟩])
 (.ite (.t 14)
 (.seq
 (.reg false [⟨4, .mv (.k (.sc (.int .i64 0))), none, false⟩,
 ⟨5, .mv (.k (.sc (.int .i64 2))), none, false⟩])
 .ret)
 .skip))
 (.seq
 (.reg false [⟨15, .mv (.t 0), none, false⟩,
 ⟨16, .mv (.t 1), none, false⟩,
 ⟨17, .ar .sub false (.t 15) (.t 16), none, false⟩,
 ⟨18, .mv (.t 1), none, false⟩,
 ⟨19, .mv (.t 0), none, false⟩,
 ⟨20, .ar .sub false (.t 18) (.t 19), none, false⟩,
 ⟨21, .mx (.t 17) (.t 20), none, false⟩,
 ⟨6, .mv (.t 21), none, false⟩])
 (.seq
 (.reg false [⟨22, .mv (.t 6), none, false⟩,
 ⟨23, .mv (.t 6), none, false⟩,
 ⟨24, .ar .sub false (.k (.sc (.int .i64 180))) (.t 23), none, false⟩,
 ⟨25, .mn (.t 22) (.t 24), none, false⟩,
 ⟨4, .mv (.t 25), none, false⟩,
 ⟨5, .mv (.k (.sc (.int .i64 0))), none, false⟩])
 .ret))))⟩
attribute [simp] i137
set_option maxRecDepth 1000000 in
theorem c137 : cFn Try.prog 137 [[]] = some i137 := by kernel_rfl
theorem e137 : enterOk Try.prog 137 = true := by kernel_rfl
def i138 : Ev.Fn := ⟨1, 8, [.tmp 2],
 (.seq
 (.reg false [⟨2, .mv (.k .nl), none, false⟩])
 (.seq
 (.seq
 (.reg false [⟨3, .mv (.t 0), none, false⟩,
 ⟨4, .isn false (.t 3), none, false⟩])
 (.ite (.t 4)
 (.seq
 (.reg false [⟨2, .mv (.k .nl), none, false⟩])
 .ret)
 .skip))
 (.seq
 (.reg false [⟨5, .bs 91 4 [(.sc (.int .i64 0)), (.sc (.int .i64 0)), (.sc (.int .i64 0)), (.sc (.int .i64 0))] 0 [], none, false⟩,
 ⟨6, .mv (.t 0), none, false⟩,
 ⟨7, .ap 91 4 false (.t 5) (.t 6), none, false⟩,
 ⟨2, .mv (.t 7), none, false⟩])
 .ret)))⟩
attribute [simp] i138
set_option maxRecDepth 1000000 in
theorem c138 : cFn Try.prog 138 [[]] = some i138 := by kernel_rfl
theorem e138 : enterOk Try.prog 138 = true := by kernel_rfl
def i139 : Ev.Fn := ⟨2, 14, [.tmp 4],
 (.seq
 (.reg false [⟨4, .mv (.k (.sc (.int .i64 0))), none, false⟩])
 (.seq
 (.seq
 (.reg false [⟨5, .mv (.t 1), none, false⟩,
 ⟨6, .ar .geq false (.t 5) (.k (.sc (.int .i64 4))), none, false⟩])
 (.ite (.t 6)
 (.reg false [⟨7, .mv (.t 0), none, false⟩,
 ⟨8, .ar .sub false (.k (.sc (.int .i64 180))) (.t 7), none, false⟩,
 ⟨0, .mv (.t 8), none, false⟩])
 .skip))
 (.seq
 (.reg false [⟨9, .mv (.t 0), none, false⟩,
 ⟨10, .mv (.t 1), none, false⟩,
 ⟨11, .ar .mul false (.k (.sc (.int .i64 90))) (.t 10), none, false⟩,
 ⟨12, .ar .add false (.t 9) (.t 11), none, false⟩,
 ⟨13, .ar .rem false (.t 12) (.k (.sc (.int .i64 180))), none, false⟩,
 ⟨4, .mv (.t 13), none, false⟩])
 .ret)))⟩
attribute [simp] i139
set_option maxRecDepth 1000000 in
theorem c139 : cFn Try.prog 139 [[]] = some i139 := by kernel_rfl
theorem e139 : enterOk Try.prog 139 = true := by kernel_rfl
def i140 : Ev.Fn := ⟨2, 23, [.tmp 4, .tmp 5],
 (.seq
 (.reg false [⟨4, .mv (.k (.sc (.int .i64 0))), none, false⟩,
 ⟨5, .mv (.k (.sc (.int .i64 0))), none, false⟩])
 (.seq
 (.seq
 (.reg false [⟨6, .mv (.t 0), none, false⟩,
 ⟨7, .ca (.k (.cl 84 [])) [(.t 6), (.k (.sc (.int .i64 0))), (.k (.sc (.int .i64 179)))], none, false⟩,
 ⟨8, .nt (.t 7), none, false⟩,
 ⟨9, .mv (.t 8), none, false⟩,
 ⟨10, .mv (.t 1), (some (9, false)), false⟩,
 ⟨11, .ca (.k (.cl 84 [])) [(.t 10), (.k (.sc (.int .i64 0))), (.k (.sc (.int .i64 7)))], (some (9, false)), false⟩,
 ⟨12, .nt (.t 11), (some (9, false)), false⟩,
 ⟨13, .pk (.t 9) (.k (.sc (.bool true))) (.t 12), none, false⟩])
 (.ite (.t 13)
 (.seq
 (.reg false [⟨4, .mv (.k (.sc (.int .i64 0))), none, false⟩,
 ⟨5, .mv (.k (.sc (.int .i64 2))), none, false⟩])
 .ret)
 .skip))
 (.seq
 (.seq
 (.reg false [⟨14, .mv (.t 1), none, false⟩,
 ⟨15, .ar .gtr false (.t 14) (.k (.sc (.int .i64 3))), none, false⟩])
 (.ite (.t 15)
 (.reg false [⟨16, .mv (.t 0), none, false⟩,
 ⟨17, .ar .sub false (.k (.sc (.int .i64 180))) (.t 16), none, false⟩,
 ⟨0, .mv (.t 17), none, false⟩])
 .skip))
 (.seq
 (.reg false [⟨18, .mv (.t 0), none, false⟩,
 ⟨19, .mv (.t 1), none, false⟩,
 ⟨20, .ar .mul false (.k (.sc (.int .i64 90))) (.t 19), none, false⟩,
 ⟨21, .ar .add false (.t 18) (.t 20), none, false⟩,
 ⟨22, .ar .rem false (.t 21) (.k (.sc (.int .i64 180))), none, false⟩,
 ⟨4, .mv (.t 22), none, false⟩,
 ⟨5, .mv (.k (.sc (.int .i64 0))), none, false⟩])
 .ret))))⟩
attribute [simp] i140
set_option maxRecDepth 1000000 in
theorem c140 : cFn Try.prog 140 [[]] = some i140 := by kernel_rfl
theorem e140 : enterOk Try.prog 140 = true := by kernel_rfl
def i141 : Ev.Fn := ⟨0, 2, [.tmp 0],
 (.seq
 (.reg false [⟨0, .mv (.k .nl), none, false⟩])
 (.seq
 (.reg false [⟨1, .bs 9 1 [(.sc (.string ⟨#[]⟩))] 10 [(0, (.k (.sc (.string ⟨#[97, 115, 104]⟩)))), (1, (.k (.sc (.string ⟨#[98, 101, 101, 99, 104]⟩)))), (2, (.k (.sc (.string ⟨#[98, 105, 114, 99, 104]⟩)))), (3, (.k (.sc (.string ⟨#[99, 104, 101, 114, 114, 121]⟩)))), (4, (.k (.sc (.string ⟨#[101, 98, 111, 110, 121]⟩)))), (5, (.k (.sc (.string ⟨#[104, 111, 108, 108, 121]⟩)))), (6, (.k (.sc (.string ⟨#[109, 97, 112, 108, 101]⟩)))), (7, (.k (.sc (.string ⟨#[111, 97, 107]⟩)))), (8, (.k (.sc (.string ⟨#[114, 111, 115, 101, 119, 111, 111, 100]⟩)))), (9, (.k (.sc (.string ⟨#[119, 97, 108, 110, 117, 116]⟩))))], none, false⟩,
 ⟨0, .mv (.t 1), none, false⟩])
 .ret))⟩
attribute [simp] i141
set_option maxRecDepth 1000000 in
theorem c141 : cFn Try.prog 141 [[]] = some i141 := by kernel_rfl
theorem e141 : enterOk Try.prog 141 = true := by kernel_rfl
def i142 : Ev.Fn := ⟨1, 27, [.tmp 2, .tmp 3, .tmp 4, .tmp 5],
 (.seq
 (.reg false [⟨2, .mv (.k (.sc (.int .i64 0))), none, false⟩,
 ⟨3, .mv (.k (.sc (.int .i64 0))), none, false⟩,
 ⟨4, .mv (.k (.sc (.int .i64 0))), none, false⟩,
 ⟨5, .mv (.k (.sc (.int .i64 0))), none, false⟩])
 (.seq
 (.seq
 (.reg false [⟨6, .mv (.t 0), none, false⟩])
 (.block 0
 (.seq
 (.reg false [⟨8, .ar .eql false (.t 6) (.k (.sc (.string ⟨#[97, 115, 104]⟩))), none, false⟩,
 ⟨7, .mv (.t 8), none, false⟩])
 (.ite (.t 7)
 (.seq
 (.reg false [⟨2, .mv (.k (.sc (.int .i64 20))), none, false⟩,
 ⟨3, .mv (.k (.sc (.int .i64 40))), none, false⟩,
 ⟨4, .mv (.k (.sc (.int .i64 310))), none, false⟩,
 ⟨5, .mv (.k (.sc (.int .i64 0))), none, false⟩])
 .ret)
 (.seq
 (.reg false [⟨10, .ar .eql false (.t 6) (.k (.sc (.string ⟨#[98, 101, 101, 99, 104]⟩))), none, false⟩,
 ⟨9, .mv (.t 10), none, false⟩])
 (.ite (.t 9)
 (.seq
 (.reg false [⟨2, .mv (.k (.sc (.int .i64 35))), none, false⟩,
 ⟨3, .mv (.k (.sc (.int .i64 45))), none, false⟩,
 ⟨4, .mv (.k (.sc (.int .i64 410))), none, false⟩,
 ⟨5, .mv (.k (.sc (.int .i64 0))), none, false⟩])
 .ret)
 (.seq
 (.reg false [⟨12, .ar .eql false (.t 6) (.k (.sc (.string ⟨#[98, 105, 114, 99, 104]⟩))), none, false⟩,
 ⟨11, .mv (.t 12), none, false⟩])
 (.ite (.t 11)
 (.seq
 (.reg false [⟨2, .mv (.k (.sc (.int .i64 15))), none, false⟩,
 ⟨3, .mv (.k (.sc (.int .i64 33))), none, false⟩,
 ⟨4, .mv (.k (.sc (.int .i64 280))), none, false⟩,
 ⟨5, .mv (.k (.sc (.int .i64 0))), none, false⟩])
 .ret)
 (.seq
 (.reg false [⟨14, .ar .eql false (.t 6) (.k (.sc (.string ⟨#[99, 104, 101, 114, 114, 121]⟩))), none, false⟩,
 ⟨13, .mv (.t 14), none, false⟩])
 (.ite (.t 13)
 (.seq
 (.reg false [⟨2, .mv (.k (.sc (.int .i64 50))), none, false⟩,
 ⟨3, .mv (.k (.sc (.int .i64 36))), none, false⟩,
 ⟨4, .mv (.k (.sc (.int .i64 240))), none, false⟩,
 ⟨5, .mv (.k (.sc (.int .i64 0))), none, false⟩])
 .ret)
 (.seq
 (.reg false [⟨16, .ar .eql false (.t 6) (.k (.sc (.string ⟨#[101, 98, 111, 110, 121]⟩))), none, false⟩,
 ⟨15, .mv (.t 16), none, false⟩])
 (.ite (.t 15)
 (.seq
 (.reg false [⟨2, .mv (.k (.sc (.int .i64 95))), none, false⟩,
 ⟨3, .mv (.k (.sc (.int .i64 85))), none, false⟩,
 ⟨4, .mv (.k (.sc (.int .i64 270))), none, false⟩,
 ⟨5, .mv (.k (.sc (.int .i64 0))), none, false⟩])
 .ret)
 (.seq
 (.reg false [⟨18, .ar .eql false (.t 6) (.k (.sc (.string ⟨#[104, 111, 108, 108, 121]⟩))), none, false⟩,
 ⟨17, .mv (.t 18), none, false⟩])
 (.ite (.t 17)
 (.seq
 (.reg false [⟨2, .mv (.k (.sc (.int .i64 5))), none, false⟩,
 ⟨3, .mv (.k (.sc (.int .i64 35))), none, false⟩,
 ⟨4, .mv (.k (.sc (.int .i64 370))), none, false⟩,
 ⟨5, .mv (.k (.sc (.int .i64 0))), none, false⟩])
 .ret)
 (.seq
 (.reg false [⟨20, .ar .eql false (.t 6) (.k (.sc (.string ⟨#[109, 97, 112, 108, 101]⟩))), none, false⟩,
 ⟨19, .mv (.t 20), none, false⟩])
 (.ite (.t 19)
 (.seq
 (.reg false [⟨2, .mv (.k (.sc (.int .i64 10))), none, false⟩,
 ⟨3, .mv (.k (.sc (.int .i64 42))), none, false⟩,
 ⟨4, .mv (.k (.sc (.int .i64 290))), none, false⟩,
 ⟨5, .mv (.k (.sc (.int .i64 0))), none, false⟩])
 .ret)
 (.seq
 (.reg false [⟨22, .ar .eql false (.t 6) (.k (.sc (.string ⟨#[111, 97, 107]⟩))), none, false⟩,
 ⟨21, .mv (.t 22), none, false⟩])
 (.ite (.t 21)
 (.seq
 (.reg false [⟨2, .mv (.k (.sc (.int .i64 40))), none, false⟩,
 ⟨3, .mv (.k (.sc (.int .i64 40))), none, false⟩,
 ⟨4, .mv (.k (.sc (.int .i64 330))), none, false⟩,
 ⟨5, .mv (.k (.sc (.int .i64 0))), none, false⟩])
 .ret)
 (.seq
 (.reg false [⟨24, .ar .eql false (.t 6) (.k (.sc (.string ⟨#[114, 111, 115, 101, 119, 111, 111, 100]⟩))), none, false⟩,
 ⟨23, .mv (.t 24), none, false⟩])
 (.ite (.t 23)
 (.seq
 (.reg false [⟨2, .mv (.k (.sc (.int .i64 80))), none, false⟩,
 ⟨3, .mv (.k (.sc (.int .i64 60))), none, false⟩,
 ⟨4, .mv (.k (.sc (.int .i64 220))), none, false⟩,
 ⟨5, .mv (.k (.sc (.int .i64 0))), none, false⟩])
 .ret)
 (.seq
 (.reg false [⟨26, .ar .eql false (.t 6) (.k (.sc (.string ⟨#[119, 97, 108, 110, 117, 116]⟩))), none, false⟩,
 ⟨25, .mv (.t 26), none, false⟩])
 (.ite (.t 25)
 (.seq
 (.reg false [⟨2, .mv (.k (.sc (.int .i64 70))), none, false⟩,
 ⟨3, .mv (.k (.sc (.int .i64 38))), none, false⟩,
 ⟨4, .mv (.k (.sc (.int .i64 260))), none, false⟩,
 ⟨5, .mv (.k (.sc (.int .i64 0))), none, false⟩])
 .ret)
 .skip))))))))))))))))))))))
 (.seq
 (.reg false [⟨2, .mv (.k (.sc (.int .i64 0))), none, false⟩,
 ⟨3, .mv (.k (.sc (.int .i64 0))), none, false⟩,
 ⟨4, .mv (.k (.sc (.int .i64 0))), none, false⟩,
 ⟨5, .mv (.k (.sc (.int .i64 3))), none, false⟩])
 .ret)))⟩
attribute [simp] i142
set_option maxRecDepth 1000000 in
theorem c142 : cFn Try.prog 142 [[]] = some i142 := by kernel_rfl
theorem e142 : enterOk Try.prog 142 = true := by kernel_rfl
def i143 : Ev.Fn := ⟨2, 19, [.tmp 4],
 (.seq
 (.reg false [⟨2, .bx (.t 0), none, false⟩,
 ⟨4, .mv (.k (.sc (.int .i64 0))), none, false⟩])
 (.seq
 (.reg false [⟨5, .mv (.t 1), none, false⟩,
 ⟨6, .fa 0 (.t 2), none, false⟩,
 ⟨7, .ld 1 false (.t 6), none, false⟩,
 ⟨8, .ln true (.t 7), none, false⟩,
 ⟨9, .ar .sub false (.t 5) (.t 8), none, false⟩,
 ⟨1, .mv (.t 9), none, false⟩])
 (.seq
 (.seq
 (.reg false [⟨10, .mv (.t 1), none, false⟩,
 ⟨11, .ar .lss false (.t 10) (.k (.sc (.int .i64 0))), none, false⟩])
 (.ite (.t 11)
 (.seq
 (.reg false [⟨4, .mv (.k (.sc (.int .i64 (-1)))), none, false⟩])
 .ret)
 .skip))
 (.seq
 (.reg false [⟨12, .fa 1 (.t 2), none, false⟩,
 ⟨13, .ld 1 false (.t 12), none, false⟩,
 ⟨14, .mv (.t 1), none, false⟩,
 ⟨15, .ca (.k (.cl 161 [])) [(.t 13), (.t 14)], none, false⟩,
 ⟨1, .mv (.t 15), none, false⟩])
 (.seq
 (.seq
 (.reg false [⟨16, .mv (.t 1), none, false⟩,
 ⟨17, .ar .lss false (.t 16) (.k (.sc (.int .i64 0))), none, false⟩])
 (.ite (.t 17)
 (.seq
 (.reg false [⟨4, .mv (.k (.sc (.int .i64 (-1)))), none, false⟩])
 .ret)
 .skip))
 (.seq
 (.reg false [⟨18, .mv (.t 1), none, false⟩,
 ⟨4, .mv (.t 18), none, false⟩])
 .ret))))))⟩
attribute [simp] i143
set_option maxRecDepth 1000000 in
theorem c143 : cFn Try.prog 143 [[]] = some i143 := by kernel_rfl
theorem e143 : enterOk Try.prog 143 = true := by kernel_rfl
end Go.Proofs.Ytmfcdjkeofohpaa.walkS
