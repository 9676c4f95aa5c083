/- The functions that some rows reach, turned; no conditions. -/
import Derived.Test.YtojjkjbffihppaaIrS1
import Derived.KernelRfl
import Derived.Test.YtojjkjbffihppaaProg
namespace Go.Proofs.Ytojjkjbffihppaa.walkS
open Go Go.Proofs.Ytojjkjbffihppaa.Ev
def w234_1 : IC :=
(.seq
 (.seq
 (.reg false [⟨31, .mv (.t 10), none, false⟩,
 ⟨32, .mv (.t 11), none, false⟩,
 ⟨33, .ar .lss false (.t 31) (.t 32), none, false⟩])
 (.ite (.t 33)
 .skip
 (.exit 0)))
 (.block 1
 (.seq
 (.reg false [⟨34, .mv (.t 10), none, false⟩,
 ⟨35, .mv (.t 11), none, false⟩,
 ⟨36, .ar .add false (.t 34) (.t 35), none, false⟩,
 ⟨37, .cv .u64 (.t 36), none, false⟩,
 ⟨38, .ar .shr false (.t 37) (.k (.sc (.int .u64 1))), none, false⟩,
 ⟨39, .cv .i64 (.t 38), none, false⟩,
 ⟨12, .mv (.t 39), none, false⟩])
 (.seq
 (.reg true [⟨40, .mv (.t 4), none, false⟩,
 ⟨41, .mv (.t 0), none, false⟩,
 ⟨42, .mv (.t 12), none, false⟩,
 ⟨43, .ia 1 (.t 41) (.t 42), none, false⟩,
 ⟨44, .ld 1 false (.t 43), none, false⟩,
 ⟨45, .mv (.t 0), none, false⟩,
 ⟨46, .mv (.t 1), none, false⟩,
 ⟨47, .ia 1 (.t 45) (.t 46), none, false⟩,
 ⟨48, .ld 1 false (.t 47), none, false⟩,
 ⟨49, .ca (.t 40) [(.t 44), (.t 48)], none, false⟩,
 ⟨50, .ar .lss false (.t 49) (.k (.sc (.int .i64 0))), none, false⟩])
 (.ite (.t 50)
 (.reg false [⟨51, .mv (.t 12), none, false⟩,
 ⟨52, .ar .add false (.t 51) (.k (.sc (.int .i64 1))), none, false⟩,
 ⟨10, .mv (.t 52), none, false⟩])
 (.reg false [⟨53, .mv (.t 12), none, false⟩,
 ⟨11, .mv (.t 53), none, false⟩]))))))
def b234_1 : IC := w234_1
theorem u234_1 (call : CallF) (st : St) : evC call b234_1 st = evC call w234_1 st := rfl
attribute [simp] u234_1 w234_1
def w234_2 : IC :=
(.seq
 (.seq
 (.reg false [⟨55, .mv (.t 13), none, false⟩,
 ⟨56, .mv (.t 10), none, false⟩,
 ⟨57, .ar .sub false (.t 56) (.k (.sc (.int .i64 1))), none, false⟩,
 ⟨58, .ar .lss false (.t 55) (.t 57), none, false⟩])
 (.ite (.t 58)
 .skip
 (.exit 2)))
 (.seq
 (.block 3
 (.rgc [] [⟨61, .mv (.t 0), none, false⟩,
 ⟨62, .mv (.t 13), none, false⟩,
 ⟨63, .mv (.t 0), none, false⟩,
 ⟨64, .mv (.t 13), none, false⟩,
 ⟨65, .ar .add false (.t 64) (.k (.sc (.int .i64 1))), none, false⟩,
 ⟨66, .mv (.t 0), none, false⟩,
 ⟨67, .mv (.t 13), none, false⟩,
 ⟨68, .ar .add false (.t 67) (.k (.sc (.int .i64 1))), none, false⟩,
 ⟨69, .ia 1 (.t 66) (.t 68), none, false⟩,
 ⟨70, .ld 1 false (.t 69), none, false⟩,
 ⟨71, .mv (.t 0), none, false⟩,
 ⟨72, .mv (.t 13), none, false⟩,
 ⟨73, .ia 1 (.t 71) (.t 72), none, false⟩,
 ⟨74, .ld 1 false (.t 73), none, false⟩,
 ⟨75, .ia 1 (.t 61) (.t 62), none, false⟩,
 ⟨0, .so 1 (.t 75) (.t 70), none, true⟩,
 ⟨76, .ia 1 (.t 63) (.t 65), none, false⟩,
 ⟨0, .so 1 (.t 76) (.t 74), none, true⟩]))
 (.reg false [⟨59, .mv (.t 13), none, false⟩,
 ⟨60, .ar .add false (.t 59) (.k (.sc (.int .i64 1))), none, false⟩,
 ⟨13, .mv (.t 60), none, false⟩])))
def b234_2 : IC := w234_2
theorem u234_2 (call : CallF) (st : St) : evC call b234_2 st = evC call w234_2 st := rfl
attribute [simp] u234_2 w234_2
def w234_3 : IC :=
(.seq
 (.seq
 (.reg false [⟨83, .mv (.t 14), none, false⟩,
 ⟨84, .mv (.t 15), none, false⟩,
 ⟨85, .ar .lss false (.t 83) (.t 84), none, false⟩])
 (.ite (.t 85)
 .skip
 (.exit 4)))
 (.block 5
 (.seq
 (.reg false [⟨86, .mv (.t 14), none, false⟩,
 ⟨87, .mv (.t 15), none, false⟩,
 ⟨88, .ar .add false (.t 86) (.t 87), none, false⟩,
 ⟨89, .cv .u64 (.t 88), none, false⟩,
 ⟨90, .ar .shr false (.t 89) (.k (.sc (.int .u64 1))), none, false⟩,
 ⟨91, .cv .i64 (.t 90), none, false⟩,
 ⟨16, .mv (.t 91), none, false⟩])
 (.seq
 (.reg true [⟨92, .mv (.t 4), none, false⟩,
 ⟨93, .mv (.t 0), none, false⟩,
 ⟨94, .mv (.t 2), none, false⟩,
 ⟨95, .ia 1 (.t 93) (.t 94), none, false⟩,
 ⟨96, .ld 1 false (.t 95), none, false⟩,
 ⟨97, .mv (.t 0), none, false⟩,
 ⟨98, .mv (.t 16), none, false⟩,
 ⟨99, .ia 1 (.t 97) (.t 98), none, false⟩,
 ⟨100, .ld 1 false (.t 99), none, false⟩,
 ⟨101, .ca (.t 92) [(.t 96), (.t 100)], none, false⟩,
 ⟨102, .ar .lss false (.t 101) (.k (.sc (.int .i64 0))), none, false⟩,
 ⟨103, .nt (.t 102), none, false⟩])
 (.ite (.t 103)
 (.reg false [⟨104, .mv (.t 16), none, false⟩,
 ⟨105, .ar .add false (.t 104) (.k (.sc (.int .i64 1))), none, false⟩,
 ⟨14, .mv (.t 105), none, false⟩])
 (.reg false [⟨106, .mv (.t 16), none, false⟩,
 ⟨15, .mv (.t 106), none, false⟩]))))))
def b234_3 : IC := w234_3
theorem u234_3 (call : CallF) (st : St) : evC call b234_3 st = evC call w234_3 st := rfl
attribute [simp] u234_3 w234_3
def w234_4 : IC :=
(.seq
 (.seq
 (.reg false [⟨108, .mv (.t 17), none, false⟩,
 ⟨109, .mv (.t 14), none, false⟩,
 ⟨110, .ar .gtr false (.t 108) (.t 109), none, false⟩])
 (.ite (.t 110)
 .skip
 (.exit 6)))
 (.seq
 (.block 7
 (.rgc [] [⟨113, .mv (.t 0), none, false⟩,
 ⟨114, .mv (.t 17), none, false⟩,
 ⟨115, .mv (.t 0), none, false⟩,
 ⟨116, .mv (.t 17), none, false⟩,
 ⟨117, .ar .sub false (.t 116) (.k (.sc (.int .i64 1))), none, false⟩,
 ⟨118, .mv (.t 0), none, false⟩,
 ⟨119, .mv (.t 17), none, false⟩,
 ⟨120, .ar .sub false (.t 119) (.k (.sc (.int .i64 1))), none, false⟩,
 ⟨121, .ia 1 (.t 118) (.t 120), none, false⟩,
 ⟨122, .ld 1 false (.t 121), none, false⟩,
 ⟨123, .mv (.t 0), none, false⟩,
 ⟨124, .mv (.t 17), none, false⟩,
 ⟨125, .ia 1 (.t 123) (.t 124), none, false⟩,
 ⟨126, .ld 1 false (.t 125), none, false⟩,
 ⟨127, .ia 1 (.t 113) (.t 114), none, false⟩,
 ⟨0, .so 1 (.t 127) (.t 122), none, true⟩,
 ⟨128, .ia 1 (.t 115) (.t 117), none, false⟩,
 ⟨0, .so 1 (.t 128) (.t 126), none, true⟩]))
 (.reg false [⟨111, .mv (.t 17), none, false⟩,
 ⟨112, .ar .sub false (.t 111) (.k (.sc (.int .i64 1))), none, false⟩,
 ⟨17, .mv (.t 112), none, false⟩])))
def b234_4 : IC := w234_4
theorem u234_4 (call : CallF) (st : St) : evC call b234_4 st = evC call w234_4 st := rfl
attribute [simp] u234_4 w234_4
def w234_5 : IC :=
(.seq
 (.seq
 (.reg false [⟨149, .mv (.t 20), none, false⟩,
 ⟨150, .mv (.t 21), none, false⟩,
 ⟨151, .ar .lss false (.t 149) (.t 150), none, false⟩])
 (.ite (.t 151)
 .skip
 (.exit 8)))
 (.block 9
 (.seq
 (.reg false [⟨152, .mv (.t 20), none, false⟩,
 ⟨153, .mv (.t 21), none, false⟩,
 ⟨154, .ar .add false (.t 152) (.t 153), none, false⟩,
 ⟨155, .cv .u64 (.t 154), none, false⟩,
 ⟨156, .ar .shr false (.t 155) (.k (.sc (.int .u64 1))), none, false⟩,
 ⟨157, .cv .i64 (.t 156), none, false⟩,
 ⟨23, .mv (.t 157), none, false⟩])
 (.seq
 (.reg true [⟨158, .mv (.t 4), none, false⟩,
 ⟨159, .mv (.t 0), none, false⟩,
 ⟨160, .mv (.t 22), none, false⟩,
 ⟨161, .mv (.t 23), none, false⟩,
 ⟨162, .ar .sub false (.t 160) (.t 161), none, false⟩,
 ⟨163, .ia 1 (.t 159) (.t 162), none, false⟩,
 ⟨164, .ld 1 false (.t 163), none, false⟩,
 ⟨165, .mv (.t 0), none, false⟩,
 ⟨166, .mv (.t 23), none, false⟩,
 ⟨167, .ia 1 (.t 165) (.t 166), none, false⟩,
 ⟨168, .ld 1 false (.t 167), none, false⟩,
 ⟨169, .ca (.t 158) [(.t 164), (.t 168)], none, false⟩,
 ⟨170, .ar .lss false (.t 169) (.k (.sc (.int .i64 0))), none, false⟩,
 ⟨171, .nt (.t 170), none, false⟩])
 (.ite (.t 171)
 (.reg false [⟨172, .mv (.t 23), none, false⟩,
 ⟨173, .ar .add false (.t 172) (.k (.sc (.int .i64 1))), none, false⟩,
 ⟨20, .mv (.t 173), none, false⟩])
 (.reg false [⟨174, .mv (.t 23), none, false⟩,
 ⟨21, .mv (.t 174), none, false⟩]))))))
def b234_5 : IC := w234_5
theorem u234_5 (call : CallF) (st : St) : evC call b234_5 st = evC call w234_5 st := rfl
attribute [simp] u234_5 w234_5
def i234 : Ev.Fn := ⟨5, 220, [],
 (.seq
 (.seq
 (.reg false [⟨25, .mv (.t 2), none, false⟩,
 ⟨26, .mv (.t 1), none, false⟩,
 ⟨27, .ar .sub false (.t 25) (.t 26), none, false⟩,
 ⟨28, .ar .eql false (.t 27) (.k (.sc (.int .i64 1))), none, false⟩])
 (.ite (.t 28)
 (.seq
 (.reg false [⟨29, .mv (.t 2), none, false⟩,
 ⟨10, .mv (.t 29), none, false⟩])
 (.seq
 (.reg false [⟨30, .mv (.t 3), none, false⟩,
 ⟨11, .mv (.t 30), none, false⟩])
 (.seq
 (.cln [0, 1, 10] []
 (.block 0
 (.loop [0, 1, 4, 10, 11] b234_1)))
 (.seq
 (.seq
 (.reg false [⟨54, .mv (.t 1), none, false⟩,
 ⟨13, .mv (.t 54), none, false⟩])
 (.cln [] []
 (.block 2
 (.loop [0, 10, 13] b234_2))))
 .ret))))
 .skip))
 (.seq
 (.seq
 (.reg false [⟨77, .mv (.t 3), none, false⟩,
 ⟨78, .mv (.t 2), none, false⟩,
 ⟨79, .ar .sub false (.t 77) (.t 78), none, false⟩,
 ⟨80, .ar .eql false (.t 79) (.k (.sc (.int .i64 1))), none, false⟩])
 (.ite (.t 80)
 (.seq
 (.reg false [⟨81, .mv (.t 1), none, false⟩,
 ⟨14, .mv (.t 81), none, false⟩])
 (.seq
 (.reg false [⟨82, .mv (.t 2), none, false⟩,
 ⟨15, .mv (.t 82), none, false⟩])
 (.seq
 (.cln [0, 2, 14] []
 (.block 4
 (.loop [0, 2, 4, 14, 15] b234_3)))
 (.seq
 (.seq
 (.reg false [⟨107, .mv (.t 2), none, false⟩,
 ⟨17, .mv (.t 107), none, false⟩])
 (.cln [] []
 (.block 6
 (.loop [0, 14, 17] b234_4))))
 .ret))))
 .skip))
 (.seq
 (.reg false [⟨129, .mv (.t 1), none, false⟩,
 ⟨130, .mv (.t 3), none, false⟩,
 ⟨131, .ar .add false (.t 129) (.t 130), none, false⟩,
 ⟨132, .cv .u64 (.t 131), none, false⟩,
 ⟨133, .ar .shr false (.t 132) (.k (.sc (.int .u64 1))), none, false⟩,
 ⟨134, .cv .i64 (.t 133), none, false⟩,
 ⟨18, .mv (.t 134), none, false⟩])
 (.seq
 (.reg false [⟨135, .mv (.t 18), none, false⟩,
 ⟨136, .mv (.t 2), none, false⟩,
 ⟨137, .ar .add false (.t 135) (.t 136), none, false⟩,
 ⟨19, .mv (.t 137), none, false⟩])
 (.seq
 (.reg false [⟨20, .mv (.k (.sc (.int .i64 0))), none, false⟩,
 ⟨21, .mv (.k (.sc (.int .i64 0))), none, false⟩])
 (.seq
 (.seq
 (.reg false [⟨138, .mv (.t 2), none, false⟩,
 ⟨139, .mv (.t 18), none, false⟩,
 ⟨140, .ar .gtr false (.t 138) (.t 139), none, false⟩])
 (.ite (.t 140)
 (.seq
 (.reg false [⟨141, .mv (.t 19), none, false⟩,
 ⟨142, .mv (.t 3), none, false⟩,
 ⟨143, .ar .sub false (.t 141) (.t 142), none, false⟩,
 ⟨20, .mv (.t 143), none, false⟩])
 (.reg false [⟨144, .mv (.t 18), none, false⟩,
 ⟨21, .mv (.t 144), none, false⟩]))
 (.seq
 (.reg false [⟨145, .mv (.t 1), none, false⟩,
 ⟨20, .mv (.t 145), none, false⟩])
 (.reg false [⟨146, .mv (.t 2), none, false⟩,
 ⟨21, .mv (.t 146), none, false⟩]))))
 (.seq
 (.reg false [⟨147, .mv (.t 19), none, false⟩,
 ⟨148, .ar .sub false (.t 147) (.k (.sc (.int .i64 1))), none, false⟩,
 ⟨22, .mv (.t 148), none, false⟩])
 (.seq
 (.cln [0, 1, 2, 3, 4, 18, 19, 20] []
 (.block 8
 (.loop [0, 1, 2, 3, 4, 18, 19, 20, 21, 22] b234_5)))
 (.seq
 (.reg false [⟨175, .mv (.t 19), none, false⟩,
 ⟨176, .mv (.t 20), none, false⟩,
 ⟨177, .ar .sub false (.t 175) (.t 176), none, false⟩,
 ⟨24, .mv (.t 177), none, false⟩])
 (.seq
 (.seq
 (.reg false [⟨178, .mv (.t 20), none, false⟩,
 ⟨179, .mv (.t 2), none, false⟩,
 ⟨180, .ar .lss false (.t 178) (.t 179), none, false⟩,
 ⟨181, .mv (.t 180), none, false⟩,
 ⟨182, .mv (.t 2), (some (181, true)), false⟩,
 ⟨183, .mv (.t 24), (some (181, true)), false⟩,
 ⟨184, .ar .lss false (.t 182) (.t 183), (some (181, true)), false⟩,
 ⟨185, .pk (.t 181) (.t 184) (.k (.sc (.bool false))), none, false⟩])
 (.ite (.t 185)
 (.reg false [⟨186, .mv (.t 0), none, false⟩,
 ⟨187, .mv (.t 20), none, false⟩,
 ⟨188, .mv (.t 2), none, false⟩,
 ⟨189, .mv (.t 24), none, false⟩,
 ⟨190, .mv (.t 4), none, false⟩,
 ⟨191, .ca (.k (.cl 250 [])) [(.t 186), (.t 187), (.t 188), (.t 189), (.t 190)], none, false⟩])
 .skip))
 (.seq
 (.seq
 (.reg false [⟨192, .mv (.t 1), none, false⟩,
 ⟨193, .mv (.t 20), none, false⟩,
 ⟨194, .ar .lss false (.t 192) (.t 193), none, false⟩,
 ⟨195, .mv (.t 194), none, false⟩,
 ⟨196, .mv (.t 20), (some (195, true)), false⟩,
 ⟨197, .mv (.t 18), (some (195, true)), false⟩,
 ⟨198, .ar .lss false (.t 196) (.t 197), (some (195, true)), false⟩,
 ⟨199, .pk (.t 195) (.t 198) (.k (.sc (.bool false))), none, false⟩])
 (.ite (.t 199)
 (.reg false [⟨200, .mv (.t 0), none, false⟩,
 ⟨201, .mv (.t 1), none, false⟩,
 ⟨202, .mv (.t 20), none, false⟩,
 ⟨203, .mv (.t 18), none, false⟩,
 ⟨204, .mv (.t 4), none, false⟩,
 ⟨205, .ca (.k (.cl 234 [])) [(.t 200), (.t 201), (.t 202), (.t 203), (.t 204)], none, false⟩])
 .skip))
 (.seq
 (.reg false [⟨206, .mv (.t 18), none, false⟩,
 ⟨207, .mv (.t 24), none, false⟩,
 ⟨208, .ar .lss false (.t 206) (.t 207), none, false⟩,
 ⟨209, .mv (.t 208), none, false⟩,
 ⟨210, .mv (.t 24), (some (209, true)), false⟩,
 ⟨211, .mv (.t 3), (some (209, true)), false⟩,
 ⟨212, .ar .lss false (.t 210) (.t 211), (some (209, true)), false⟩,
 ⟨213, .pk (.t 209) (.t 212) (.k (.sc (.bool false))), none, false⟩])
 (.ite (.t 213)
 (.reg false [⟨214, .mv (.t 0), none, false⟩,
 ⟨215, .mv (.t 18), none, false⟩,
 ⟨216, .mv (.t 24), none, false⟩,
 ⟨217, .mv (.t 3), none, false⟩,
 ⟨218, .mv (.t 4), none, false⟩,
 ⟨219, .ca (.k (.cl 234 [])) [(.t 214), (.t 215), (.t 216), (.t 217), (.t 218)], none, false⟩])
 .skip)))))))))))))⟩
attribute [simp] i234
set_option maxRecDepth 1000000 in
theorem c234 : cFn Try.prog 234 [[], [0, 1, 4, 10, 11], [0, 1, 10], [], [0, 10, 13], [], [], [0, 2, 4, 14, 15], [0, 2, 14], [], [0, 14, 17], [], [], [0, 1, 2, 3, 4, 18, 19, 20, 21, 22], [0, 1, 2, 3, 4, 18, 19, 20], []] = some i234 := by kernel_rfl
theorem e234 : enterOk Try.prog 234 = true := by kernel_rfl
def i236 : Ev.Fn := ⟨1, 18, [.tmp 2, .tmp 3],
 (.seq
 (.reg false [⟨2, .mv (.k (.sc (.int .i64 0))), none, false⟩,
 ⟨3, .mv (.k (.sc (.bool false))), none, false⟩])
 (.seq
 (.reg false [⟨9, .mv (.t 0), none, false⟩,
 ⟨10, .ca (.k (.cl 251 [])) [(.t 9)], none, false⟩,
 ⟨8, .mv (.t 10), none, false⟩,
 ⟨11, .xt (.t 8) 0, none, false⟩,
 ⟨12, .xt (.t 8) 1, none, false⟩,
 ⟨13, .xt (.t 8) 2, none, false⟩,
 ⟨14, .xt (.t 8) 3, none, false⟩,
 ⟨4, .mv (.t 11), none, false⟩,
 ⟨5, .mv (.t 12), none, false⟩,
 ⟨6, .mv (.t 13), none, false⟩,
 ⟨7, .mv (.t 14), none, false⟩])
 (.seq
 (.reg false [⟨15, .mv (.t 4), none, false⟩,
 ⟨16, .mv (.t 7), none, false⟩,
 ⟨17, .ar .eql false (.t 16) (.k (.sc (.int .i64 0))), none, false⟩,
 ⟨2, .mv (.t 15), none, false⟩,
 ⟨3, .mv (.t 17), none, false⟩])
 .ret)))⟩
attribute [simp] i236
set_option maxRecDepth 1000000 in
theorem c236 : cFn Try.prog 236 [[]] = some i236 := by kernel_rfl
theorem e236 : enterOk Try.prog 236 = true := by kernel_rfl
def w237_1 : IC :=
(.seq
 (.seq
 (.reg false [⟨6, .mv (.t 4), none, false⟩,
 ⟨7, .mv (.t 3), none, false⟩,
 ⟨8, .ln false (.t 7), none, false⟩,
 ⟨9, .ar .lss false (.t 6) (.t 8), none, false⟩])
 (.ite (.t 9)
 .skip
 (.exit 0)))
 (.seq
 (.block 1
 (.seq
 (.reg false [⟨12, .mv (.t 3), none, false⟩,
 ⟨13, .mv (.t 4), none, false⟩,
 ⟨14, .ia 1 (.t 12) (.t 13), none, false⟩,
 ⟨15, .ld 1 false (.t 14), none, false⟩,
 ⟨16, .mv (.t 0), none, false⟩,
 ⟨17, .ar .eql false (.t 15) (.t 16), none, false⟩])
 (.ite (.t 17)
 (.seq
 (.reg false [⟨18, .mv (.t 4), none, false⟩,
 ⟨2, .mv (.t 18), none, false⟩])
 .ret)
 .skip)))
 (.reg false [⟨10, .mv (.t 4), none, false⟩,
 ⟨11, .ar .add false (.t 10) (.k (.sc (.int .i64 1))), none, false⟩,
 ⟨4, .mv (.t 11), none, false⟩])))
def b237_1 : IC := w237_1
theorem u237_1 (call : CallF) (st : St) : evC call b237_1 st = evC call w237_1 st := rfl
attribute [simp] u237_1 w237_1
def i237 : Ev.Fn := ⟨1, 19, [.tmp 2],
 (.seq
 (.reg false [⟨2, .mv (.k (.sc (.int .i64 0))), none, false⟩])
 (.seq
 (.reg false [⟨5, .ca (.k (.cl 252 [])) [], none, false⟩,
 ⟨3, .mv (.t 5), none, false⟩])
 (.seq
 (.seq
 (.reg false [⟨4, .mv (.k (.sc (.int .i64 0))), none, false⟩])
 (.cln [] [2]
 (.block 0
 (.loop [0, 3, 4] b237_1))))
 (.seq
 (.reg false [⟨2, .mv (.k (.sc (.int .i64 (-1)))), none, false⟩])
 .ret))))⟩
attribute [simp] i237
set_option maxRecDepth 1000000 in
theorem c237 : cFn Try.prog 237 [[], [0, 3, 4], [], [2]] = some i237 := by kernel_rfl
theorem e237 : enterOk Try.prog 237 = true := by kernel_rfl
def i238 : Ev.Fn := ⟨0, 12, [.tmp 0],
 (.seq
 (.reg false [⟨0, .mv (.k .nl), none, false⟩])
 (.seq
 (.reg false [⟨1, .bs 2 1 [(.sc (.int .i64 0))] 3 [(0, (.k (.sc (.int .i64 20)))), (1, (.k (.sc (.int .i64 40)))), (2, (.k (.sc (.int .i64 310))))], none, false⟩,
 ⟨2, .bs 2 1 [(.sc (.int .i64 0))] 3 [(0, (.k (.sc (.int .i64 35)))), (1, (.k (.sc (.int .i64 45)))), (2, (.k (.sc (.int .i64 410))))], none, false⟩,
 ⟨3, .bs 2 1 [(.sc (.int .i64 0))] 3 [(0, (.k (.sc (.int .i64 15)))), (1, (.k (.sc (.int .i64 33)))), (2, (.k (.sc (.int .i64 280))))], none, false⟩,
 ⟨4, .bs 2 1 [(.sc (.int .i64 0))] 3 [(0, (.k (.sc (.int .i64 50)))), (1, (.k (.sc (.int .i64 36)))), (2, (.k (.sc (.int .i64 240))))], none, false⟩,
 ⟨5, .bs 2 1 [(.sc (.int .i64 0))] 3 [(0, (.k (.sc (.int .i64 95)))), (1, (.k (.sc (.int .i64 85)))), (2, (.k (.sc (.int .i64 270))))], none, false⟩,
 ⟨6, .bs 2 1 [(.sc (.int .i64 0))] 3 [(0, (.k (.sc (.int .i64 5)))), (1, (.k (.sc (.int .i64 35)))), (2, (.k (.sc (.int .i64 370))))], none, false⟩,
 ⟨7, .bs 2 1 [(.sc (.int .i64 0))] 3 [(0, (.k (.sc (.int .i64 10)))), (1, (.k (.sc (.int .i64 42)))), (2, (.k (.sc (.int .i64 290))))], none, false⟩,
 ⟨8, .bs 2 1 [(.sc (.int .i64 0))] 3 [(0, (.k (.sc (.int .i64 40)))), (1, (.k (.sc (.int .i64 40)))), (2, (.k (.sc (.int .i64 330))))], none, false⟩,
 ⟨9, .bs 2 1 [(.sc (.int .i64 0))] 3 [(0, (.k (.sc (.int .i64 80)))), (1, (.k (.sc (.int .i64 60)))), (2, (.k (.sc (.int .i64 220))))], none, false⟩,
 ⟨10, .bs 2 1 [(.sc (.int .i64 0))] 3 [(0, (.k (.sc (.int .i64 70)))), (1, (.k (.sc (.int .i64 38)))), (2, (.k (.sc (.int .i64 260))))], none, false⟩,
 ⟨11, .bw 33 1 [.nl] 10 [(0, (.t 1)), (1, (.t 2)), (2, (.t 3)), (3, (.t 4)), (4, (.t 5)), (5, (.t 6)), (6, (.t 7)), (7, (.t 8)), (8, (.t 9)), (9, (.t 10))], none, false⟩,
 ⟨0, .mv (.t 11), none, false⟩])
 .ret))⟩
attribute [simp] i238
set_option maxRecDepth 1000000 in
theorem c238 : cFn Try.prog 238 [[]] = some i238 := by kernel_rfl
theorem e238 : enterOk Try.prog 238 = true := by kernel_rfl
def i239 : Ev.Fn := ⟨1, 5, [.tmp 2],
 (.seq
 (.reg false [⟨2, .mv (.k (.sc (.bool false))), none, false⟩])
 (.seq
 (.reg false [⟨3, .mv (.t 0), none, false⟩,
 ⟨4, .ca (.k (.cl 97 [])) [(.t 3), (.k (.sc (.int .i64 0))), (.k (.sc (.int .i64 179)))], none, false⟩,
 ⟨2, .mv (.t 4), none, false⟩])
 .ret))⟩
attribute [simp] i239
set_option maxRecDepth 1000000 in
theorem c239 : cFn Try.prog 239 [[]] = some i239 := by kernel_rfl
theorem e239 : enterOk Try.prog 239 = true := by kernel_rfl
def w240_1 : IC :=
(.seq
 (.reg false [⟨9, .ar .lss false (.t 8) (.t 7), none, false⟩])
 (.seq
 (.ite (.t 9)
 .skip
 (.exit 0))
 (.seq
 (.block 1
 (.seq
 (.reg false [⟨10, .mv (.t 8), none, false⟩,
 ⟨5, .mv (.t 10), none, false⟩])
 (.seq
 (.reg false [⟨11, .mv (.t 1), none, false⟩,
 ⟨12, .mv (.t 0), none, false⟩,
 ⟨13, .mv (.t 5), none, false⟩,
 ⟨14, .ia 4 (.t 12) (.t 13), none, false⟩,
 ⟨15, .ld 4 true (.t 14), none, false⟩,
 ⟨16, .ca (.t 11) [(.t 15)], none, false⟩])
 (.ite (.t 16)
 (.seq
 (.reg false [⟨17, .mv (.t 5), none, false⟩,
 ⟨4, .mv (.t 17), none, false⟩])
 .ret)
 .skip))))
 (.reg false [⟨18, .ar .add false (.t 8) (.k (.sc (.int .i64 1))), none, false⟩,
 ⟨8, .mv (.t 18), none, false⟩]))))
def b240_1 : IC := w240_1
theorem u240_1 (call : CallF) (st : St) : evC call b240_1 st = evC call w240_1 st := rfl
attribute [simp] u240_1 w240_1
def i240 : Ev.Fn := ⟨2, 19, [.tmp 4],
 (.seq
 (.reg false [⟨4, .mv (.k (.sc (.int .i64 0))), none, false⟩])
 (.seq
 (.seq
 (.reg false [⟨6, .mv (.t 0), none, false⟩,
 ⟨7, .ln false (.t 6), none, false⟩,
 ⟨8, .mv (.k (.sc (.int .i64 0))), none, false⟩])
 (.cln [] [4]
 (.block 0
 (.loop [0, 1, 7, 8] b240_1))))
 (.seq
 (.reg false [⟨4, .mv (.k (.sc (.int .i64 (-1)))), none, false⟩])
 .ret)))⟩
attribute [simp] i240
set_option maxRecDepth 1000000 in
theorem c240 : cFn Try.prog 240 [[], [0, 1, 7, 8], [], [4]] = some i240 := by kernel_rfl
theorem e240 : enterOk Try.prog 240 = true := by kernel_rfl
def w250_1 : IC :=
(.seq
 (.seq
 (.reg false [⟨18, .mv (.t 10), none, false⟩,
 ⟨19, .mv (.t 11), none, false⟩,
 ⟨20, .ar .neq false (.t 18) (.t 19), none, false⟩])
 (.ite (.t 20)
 .skip
 (.exit 0)))
 (.block 1
 (.seq
 (.reg false [⟨21, .mv (.t 10), none, false⟩,
 ⟨22, .mv (.t 11), none, false⟩,
 ⟨23, .ar .gtr false (.t 21) (.t 22), none, false⟩])
 (.ite (.t 23)
 (.seq
 (.reg false [⟨24, .mv (.t 0), none, false⟩,
 ⟨25, .mv (.t 2), none, false⟩,
 ⟨26, .mv (.t 10), none, false⟩,
 ⟨27, .ar .sub false (.t 25) (.t 26), none, false⟩,
 ⟨28, .mv (.t 2), none, false⟩,
 ⟨29, .mv (.t 11), none, false⟩,
 ⟨30, .mv (.t 4), none, false⟩,
 ⟨31, .ca (.k (.cl 254 [])) [(.t 24), (.t 27), (.t 28), (.t 29), (.t 30)], none, false⟩])
 (.reg false [⟨32, .mv (.t 10), none, false⟩,
 ⟨33, .mv (.t 11), none, false⟩,
 ⟨34, .ar .sub false (.t 32) (.t 33), none, false⟩,
 ⟨10, .mv (.t 34), none, false⟩]))
 (.seq
 (.reg false [⟨35, .mv (.t 0), none, false⟩,
 ⟨36, .mv (.t 2), none, false⟩,
 ⟨37, .mv (.t 10), none, false⟩,
 ⟨38, .ar .sub false (.t 36) (.t 37), none, false⟩,
 ⟨39, .mv (.t 2), none, false⟩,
 ⟨40, .mv (.t 11), none, false⟩,
 ⟨41, .ar .add false (.t 39) (.t 40), none, false⟩,
 ⟨42, .mv (.t 10), none, false⟩,
 ⟨43, .ar .sub false (.t 41) (.t 42), none, false⟩,
 ⟨44, .mv (.t 10), none, false⟩,
 ⟨45, .mv (.t 4), none, false⟩,
 ⟨46, .ca (.k (.cl 254 [])) [(.t 35), (.t 38), (.t 43), (.t 44), (.t 45)], none, false⟩])
 (.reg false [⟨47, .mv (.t 11), none, false⟩,
 ⟨48, .mv (.t 10), none, false⟩,
 ⟨49, .ar .sub false (.t 47) (.t 48), none, false⟩,
 ⟨11, .mv (.t 49), none, false⟩]))))))
def b250_1 : IC := w250_1
theorem u250_1 (call : CallF) (st : St) : evC call b250_1 st = evC call w250_1 st := rfl
attribute [simp] u250_1 w250_1
def i250 : Ev.Fn := ⟨5, 58, [],
 (.seq
 (.reg false [⟨12, .mv (.t 2), none, false⟩,
 ⟨13, .mv (.t 1), none, false⟩,
 ⟨14, .ar .sub false (.t 12) (.t 13), none, false⟩,
 ⟨10, .mv (.t 14), none, false⟩])
 (.seq
 (.reg false [⟨15, .mv (.t 3), none, false⟩,
 ⟨16, .mv (.t 2), none, false⟩,
 ⟨17, .ar .sub false (.t 15) (.t 16), none, false⟩,
 ⟨11, .mv (.t 17), none, false⟩])
 (.seq
 (.cln [0, 2, 4, 10] []
 (.block 0
 (.loop [0, 2, 4, 10, 11] b250_1)))
 (.reg false [⟨50, .mv (.t 0), none, false⟩,
 ⟨51, .mv (.t 2), none, false⟩,
 ⟨52, .mv (.t 10), none, false⟩,
 ⟨53, .ar .sub false (.t 51) (.t 52), none, false⟩,
 ⟨54, .mv (.t 2), none, false⟩,
 ⟨55, .mv (.t 10), none, false⟩,
 ⟨56, .mv (.t 4), none, false⟩,
 ⟨57, .ca (.k (.cl 254 [])) [(.t 50), (.t 53), (.t 54), (.t 55), (.t 56)], none, false⟩]))))⟩
attribute [simp] i250
set_option maxRecDepth 1000000 in
theorem c250 : cFn Try.prog 250 [[], [0, 2, 4, 10, 11], [0, 2, 4, 10], []] = some i250 := by kernel_rfl
theorem e250 : enterOk Try.prog 250 = true := by kernel_rfl
def i251 : Ev.Fn := ⟨1, 27, [.tmp 2, .tmp 3, .tmp 4, .tmp 5],
 (.seq
 (.reg false [⟨2, .mv (.k (.sc (.int .i64 0))), none, false⟩,
 ⟨3, .mv (.k (.sc (.int .i64 0))), none, false⟩,
 ⟨4, .mv (.k (.sc (.int .i64 0))), none, false⟩,
 ⟨5, .mv (.k (.sc (.int .i64 0))), none, false⟩])
 (.seq
 (.seq
 (.reg false [⟨6, .mv (.t 0), none, false⟩])
 (.block 0
 (.seq
 (.reg false [⟨8, .ar .eql false (.t 6) (.k (.sc (.string ⟨#[97, 115, 104]⟩))), none, false⟩,
 ⟨7, .mv (.t 8), none, false⟩])
 (.ite (.t 7)
 (.seq
 (.reg false [⟨2, .mv (.k (.sc (.int .i64 20))), none, false⟩,
 ⟨3, .mv (.k (.sc (.int .i64 40))), none, false⟩,
 ⟨4, .mv (.k (.sc (.int .i64 310))), none, false⟩,
 ⟨5, .mv (.k (.sc (.int .i64 0))), none, false⟩])
 .ret)
 (.seq
 (.reg false [⟨10, .ar .eql false (.t 6) (.k (.sc (.string ⟨#[98, 101, 101, 99, 104]⟩))), none, false⟩,
 ⟨9, .mv (.t 10), none, false⟩])
 (.ite (.t 9)
 (.seq
 (.reg false [⟨2, .mv (.k (.sc (.int .i64 35))), none, false⟩,
 ⟨3, .mv (.k (.sc (.int .i64 45))), none, false⟩,
 ⟨4, .mv (.k (.sc (.int .i64 410))), none, false⟩,
 ⟨5, .mv (.k (.sc (.int .i64 0))), none, false⟩])
 .ret)
 (.seq
 (.reg false [⟨12, .ar .eql false (.t 6) (.k (.sc (.string ⟨#[98, 105, 114, 99, 104]⟩))), none, false⟩,
 ⟨11, .mv (.t 12), none, false⟩])
 (.ite (.t 11)
 (.seq
 (.reg false [⟨2, .mv (.k (.sc (.int .i64 15))), none, false⟩,
 ⟨3, .mv (.k (.sc (.int .i64 33))), none, false⟩,
 ⟨4, .mv (.k (.sc (.int .i64 280))), none, false⟩,
 ⟨5, .mv (.k (.sc (.int .i64 0))), none, false⟩])
 .ret)
 (.seq
 (.reg false [⟨14, .ar .eql false (.t 6) (.k (.sc (.string ⟨#[99, 104, 101, 114, 114, 121]⟩))), none, false⟩,
 ⟨13, .mv (.t 14), none, false⟩])
 (.ite (.t 13)
 (.seq
 (.reg false [⟨2, .mv (.k (.sc (.int .i64 50))), none, false⟩,
 ⟨3, .mv (.k (.sc (.int .i64 36))), none, false⟩,
 ⟨4, .mv (.k (.sc (.int .i64 240))), none, false⟩,
 ⟨5, .mv (.k (.sc (.int .i64 0))), none, false⟩])
 .ret)
 (.seq
 (.reg false [⟨16, .ar .eql false (.t 6) (.k (.sc (.string ⟨#[101, 98, 111, 110, 121]⟩))), none, false⟩,
 ⟨15, .mv (.t 16), none, false⟩])
 (.ite (.t 15)
 (.seq
 (.reg false [⟨2, .mv (.k (.sc (.int .i64 95))), none, false⟩,
 ⟨3, .mv (.k (.sc (.int .i64 85))), none, false⟩,
 ⟨4, .mv (.k (.sc (.int .i64 270))), none, false⟩,
 ⟨5, .mv (.k (.sc (.int .i64 0))), none, false⟩])
 .ret)
 (.seq
 (.reg false [⟨18, .ar .eql false (.t 6) (.k (.sc (.string ⟨#[104, 111, 108, 108, 121]⟩))), none, false⟩,
 ⟨17, .mv (.t 18), none, false⟩])
 (.ite (.t 17)
 (.seq
 (.reg false [⟨2, .mv (.k (.sc (.int .i64 5))), none, false⟩,
 ⟨3, .mv (.k (.sc (.int .i64 35))), none, false⟩,
 ⟨4, .mv (.k (.sc (.int .i64 370))), none, false⟩,
 ⟨5, .mv (.k (.sc (.int .i64 0))), none, false⟩])
 .ret)
 (.seq
 (.reg false [⟨20, .ar .eql false (.t 6) (.k (.sc (.string ⟨#[109, 97, 112, 108, 101]⟩))), none, false⟩,
 ⟨19, .mv (.t 20), none, false⟩])
 (.ite (.t 19)
 (.seq
 (.reg false [⟨2, .mv (.k (.sc (.int .i64 10))), none, false⟩,
 ⟨3, .mv (.k (.sc (.int .i64 42))), none, false⟩,
 ⟨4, .mv (.k (.sc (.int .i64 290))), none, false⟩,
 ⟨5, .mv (.k (.sc (.int .i64 0))), none, false⟩])
 .ret)
 (.seq
 (.reg false [⟨22, .ar .eql false (.t 6) (.k (.sc (.string ⟨#[111, 97, 107]⟩))), none, false⟩,
 ⟨21, .mv (.t 22), none, false⟩])
 (.ite (.t 21)
 (.seq
 (.reg false [⟨2, .mv (.k (.sc (.int .i64 40))), none, false⟩,
 ⟨3, .mv (.k (.sc (.int .i64 40))), none, false⟩,
 ⟨4, .mv (.k (.sc (.int .i64 330))), none, false⟩,
 ⟨5, .mv (.k (.sc (.int .i64 0))), none, false⟩])
 .ret)
 (.seq
 (.reg false [⟨24, .ar .eql false (.t 6) (.k (.sc (.string ⟨#[114, 111, 115, 101, 119, 111, 111, 100]⟩))), none, false⟩,
 ⟨23, .mv (.t 24), none, false⟩])
 (.ite (.t 23)
 (.seq
 (.reg false [⟨2, .mv (.k (.sc (.int .i64 80))), none, false⟩,
 ⟨3, .mv (.k (.sc (.int .i64 60))), none, false⟩,
 ⟨4, .mv (.k (.sc (.int .i64 220))), none, false⟩,
 ⟨5, .mv (.k (.sc (.int .i64 0))), none, false⟩])
 .ret)
 (.seq
 (.reg false [⟨26, .ar .eql false (.t 6) (.k (.sc (.string ⟨#[119, 97, 108, 110, 117, 116]⟩))), none, false⟩,
 ⟨25, .mv (.t 26), none, false⟩])
 (.ite (.t 25)
 (.seq
 (.reg false [⟨2, .mv (.k (.sc (.int .i64 70))), none, false⟩,
 ⟨3, .mv (.k (.sc (.int .i64 38))), none, false⟩,
 ⟨4, .mv (.k (.sc (.int .i64 260))), none, false⟩,
 ⟨5, .mv (.k (.sc (.int .i64 0))), none, false⟩])
 .ret)
 .skip))))))))))))))))))))))
 (.seq
 (.reg false [⟨2, .mv (.k (.sc (.int .i64 0))), none, false⟩,
 ⟨3, .mv (.k (.sc (.int .i64 0))), none, false⟩,
 ⟨4, .mv (.k (.sc (.int .i64 0))), none, false⟩,
 ⟨5, .mv (.k (.sc (.int .i64 3))), none, false⟩])
 .ret)))⟩
attribute [simp] i251
set_option maxRecDepth 1000000 in
theorem c251 : cFn Try.prog 251 [[]] = some i251 := by kernel_rfl
theorem e251 : enterOk Try.prog 251 = true := by kernel_rfl
def i252 : Ev.Fn := ⟨0, 2, [.tmp 0],
 (.seq
 (.reg false [⟨0, .mv (.k .nl), none, false⟩])
 (.seq
 (.reg false [⟨1, .bs 9 1 [(.sc (.string ⟨#[]⟩))] 10 [(0, (.k (.sc (.string ⟨#[97, 115, 104]⟩)))), (1, (.k (.sc (.string ⟨#[98, 101, 101, 99, 104]⟩)))), (2, (.k (.sc (.string ⟨#[98, 105, 114, 99, 104]⟩)))), (3, (.k (.sc (.string ⟨#[99, 104, 101, 114, 114, 121]⟩)))), (4, (.k (.sc (.string ⟨#[101, 98, 111, 110, 121]⟩)))), (5, (.k (.sc (.string ⟨#[104, 111, 108, 108, 121]⟩)))), (6, (.k (.sc (.string ⟨#[109, 97, 112, 108, 101]⟩)))), (7, (.k (.sc (.string ⟨#[111, 97, 107]⟩)))), (8, (.k (.sc (.string ⟨#[114, 111, 115, 101, 119, 111, 111, 100]⟩)))), (9, (.k (.sc (.string ⟨#[119, 97, 108, 110, 117, 116]⟩))))], none, false⟩,
 ⟨0, .mv (.t 1), none, false⟩])
 .ret))⟩
attribute [simp] i252
set_option maxRecDepth 1000000 in
theorem c252 : cFn Try.prog 252 [[]] = some i252 := by kernel_rfl
theorem e252 : enterOk Try.prog 252 = true := by kernel_rfl
def w254_1 : IC :=
(.seq
 (.seq
 (.reg false [⟨11, .mv (.t 10), none, false⟩,
 ⟨12, .mv (.t 3), none, false⟩,
 ⟨13, .ar .lss false (.t 11) (.t 12), none, false⟩])
 (.ite (.t 13)
 .skip
 (.exit 0)))
 (.seq
 (.block 1
 (.rgc [] [⟨16, .mv (.t 0), none, false⟩,
 ⟨17, .mv (.t 1), none, false⟩,
 ⟨18, .mv (.t 10), none, false⟩,
 ⟨19, .ar .add false (.t 17) (.t 18), none, false⟩,
 ⟨20, .mv (.t 0), none, false⟩,
 ⟨21, .mv (.t 2), none, false⟩,
 ⟨22, .mv (.t 10), none, false⟩,
 ⟨23, .ar .add false (.t 21) (.t 22), none, false⟩,
 ⟨24, .mv (.t 0), none, false⟩,
 ⟨25, .mv (.t 2), none, false⟩,
 ⟨26, .mv (.t 10), none, false⟩,
 ⟨27, .ar .add false (.t 25) (.t 26), none, false⟩,
 ⟨28, .ia 1 (.t 24) (.t 27), none, false⟩,
 ⟨29, .ld 1 false (.t 28), none, false⟩,
 ⟨30, .mv (.t 0), none, false⟩,
 ⟨31, .mv (.t 1), none, false⟩,
 ⟨32, .mv (.t 10), none, false⟩,
 ⟨33, .ar .add false (.t 31) (.t 32), none, false⟩,
 ⟨34, .ia 1 (.t 30) (.t 33), none, false⟩,
 ⟨35, .ld 1 false (.t 34), none, false⟩,
 ⟨36, .ia 1 (.t 16) (.t 19), none, false⟩,
 ⟨0, .so 1 (.t 36) (.t 29), none, true⟩,
 ⟨37, .ia 1 (.t 20) (.t 23), none, false⟩,
 ⟨0, .so 1 (.t 37) (.t 35), none, true⟩]))
 (.reg false [⟨14, .mv (.t 10), none, false⟩,
 ⟨15, .ar .add false (.t 14) (.k (.sc (.int .i64 1))), none, false⟩,
 ⟨10, .mv (.t 15), none, false⟩])))
def b254_1 : IC := w254_1
theorem u254_1 (call : CallF) (st : St) : evC call b254_1 st = evC call w254_1 st := rfl
attribute [simp] u254_1 w254_1
def i254 : Ev.Fn := ⟨5, 38, [],
 (.seq
 (.reg false [⟨10, .mv (.k (.sc (.int .i64 0))), none, false⟩])
 (.cln [] []
 (.block 0
 (.loop [0, 1, 2, 3, 10] b254_1))))⟩
attribute [simp] i254
set_option maxRecDepth 1000000 in
theorem c254 : cFn Try.prog 254 [[], [0, 1, 2, 3, 10], [], []] = some i254 := by kernel_rfl
theorem e254 : enterOk Try.prog 254 = true := by kernel_rfl
theorem mixed : Try.prog.follows .mixedOrders = true := by kernel_rfl
def Ft : List (Nat × Ev.Fn) := [(13, i13), (16, i16), (18, i18), (20, i20), (21, i21), (27, i27), (30, i30), (31, i31), (45, i45), (46, i46), (61, i61), (62, i62), (67, i67), (68, i68), (71, i71), (72, i72), (76, i76), (77, i77), (78, i78), (88, i88), (97, i97), (105, i105), (119, i119), (120, i120), (121, i121), (141, i141), (142, i142), (143, i143), (145, i145), (146, i146), (147, i147), (152, i152), (153, i153), (166, i166), (174, i174), (188, i188), (189, i189), (193, i193), (197, i197), (198, i198), (199, i199), (200, i200), (201, i201), (202, i202), (205, i205), (219, i219), (220, i220), (233, i233), (234, i234), (236, i236), (237, i237), (238, i238), (239, i239), (240, i240), (250, i250), (251, i251), (252, i252), (254, i254)]
def F : Nat → Option Ev.Fn := getF Ft
noncomputable def ev (d : Nat) : CallF := evF F (fun _ _ => none) d
theorem ev_fn {f : Nat} {fn : Ev.Fn} (h : F f = some fn) (d : Nat) (args : List LV) (hl : args.length = fn.nargs) : ev (d + 1) f args = Ev.finish fn.res (evC (ev d) fn.body (Ev.start args)) := evF_fn h d args hl
set_option maxRecDepth 1000000 in
theorem tab : ∀ f fn, F f = some fn → enterOk Try.prog f = true ∧ ∃ ks, cFn Try.prog f ks = some fn :=
  tabF (L := Ft) ⟨⟨e13, _, c13⟩, ⟨e16, _, c16⟩, ⟨e18, _, c18⟩, ⟨e20, _, c20⟩, ⟨e21, _, c21⟩, ⟨e27, _, c27⟩, ⟨e30, _, c30⟩, ⟨e31, _, c31⟩, ⟨e45, _, c45⟩, ⟨e46, _, c46⟩, ⟨e61, _, c61⟩, ⟨e62, _, c62⟩, ⟨e67, _, c67⟩, ⟨e68, _, c68⟩, ⟨e71, _, c71⟩, ⟨e72, _, c72⟩, ⟨e76, _, c76⟩, ⟨e77, _, c77⟩, ⟨e78, _, c78⟩, ⟨e88, _, c88⟩, ⟨e97, _, c97⟩, ⟨e105, _, c105⟩, ⟨e119, _, c119⟩, ⟨e120, _, c120⟩, ⟨e121, _, c121⟩, ⟨e141, _, c141⟩, ⟨e142, _, c142⟩, ⟨e143, _, c143⟩, ⟨e145, _, c145⟩, ⟨e146, _, c146⟩, ⟨e147, _, c147⟩, ⟨e152, _, c152⟩, ⟨e153, _, c153⟩, ⟨e166, _, c166⟩, ⟨e174, _, c174⟩, ⟨e188, _, c188⟩, ⟨e189, _, c189⟩, ⟨e193, _, c193⟩, ⟨e197, _, c197⟩, ⟨e198, _, c198⟩, ⟨e199, _, c199⟩, ⟨e200, _, c200⟩, ⟨e201, _, c201⟩, ⟨e202, _, c202⟩, ⟨e205, _, c205⟩, ⟨e219, _, c219⟩, ⟨e220, _, c220⟩, ⟨e233, _, c233⟩, ⟨e234, _, c234⟩, ⟨e236, _, c236⟩, ⟨e237, _, c237⟩, ⟨e238, _, c238⟩, ⟨e239, _, c239⟩, ⟨e240, _, c240⟩, ⟨e250, _, c250⟩, ⟨e251, _, c251⟩, ⟨e252, _, c252⟩, ⟨e254, _, c254⟩, trivial⟩
theorem tabn : ∀ f fn, F f = some fn → f < wrN := tabN (L := Ft) (by kernel_rfl)
theorem callOk (d : Nat) : CallOk Try.prog (ev d) := (evF_ok2 mixed tab tabn (noPrim_ok _) (noPrim_okW _) d).1
abbrev I (n : Int) : LV := .sc (.int .i64 n)
abbrev B (b : Bool) : LV := .sc (.bool b)
abbrev T (s : ByteArray) : LV := .sc (.string s)
theorem s13 (d : Nat) (args : List LV) (hl : args.length = i13.nargs) : ev (d + 1) 13 args = Ev.finish i13.res (evC (ev d) i13.body (Ev.start args)) := ev_fn (by kernel_rfl) d args hl
theorem s16 (d : Nat) (args : List LV) (hl : args.length = i16.nargs) : ev (d + 1) 16 args = Ev.finish i16.res (evC (ev d) i16.body (Ev.start args)) := ev_fn (by kernel_rfl) d args hl
theorem s18 (d : Nat) (args : List LV) (hl : args.length = i18.nargs) : ev (d + 1) 18 args = Ev.finish i18.res (evC (ev d) i18.body (Ev.start args)) := ev_fn (by kernel_rfl) d args hl
theorem s20 (d : Nat) (args : List LV) (hl : args.length = i20.nargs) : ev (d + 1) 20 args = Ev.finish i20.res (evC (ev d) i20.body (Ev.start args)) := ev_fn (by kernel_rfl) d args hl
theorem s21 (d : Nat) (args : List LV) (hl : args.length = i21.nargs) : ev (d + 1) 21 args = Ev.finish i21.res (evC (ev d) i21.body (Ev.start args)) := ev_fn (by kernel_rfl) d args hl
theorem s27 (d : Nat) (args : List LV) (hl : args.length = i27.nargs) : ev (d + 1) 27 args = Ev.finish i27.res (evC (ev d) i27.body (Ev.start args)) := ev_fn (by kernel_rfl) d args hl
theorem s30 (d : Nat) (args : List LV) (hl : args.length = i30.nargs) : ev (d + 1) 30 args = Ev.finish i30.res (evC (ev d) i30.body (Ev.start args)) := ev_fn (by kernel_rfl) d args hl
theorem s31 (d : Nat) (args : List LV) (hl : args.length = i31.nargs) : ev (d + 1) 31 args = Ev.finish i31.res (evC (ev d) i31.body (Ev.start args)) := ev_fn (by kernel_rfl) d args hl
theorem s45 (d : Nat) (args : List LV) (hl : args.length = i45.nargs) : ev (d + 1) 45 args = Ev.finish i45.res (evC (ev d) i45.body (Ev.start args)) := ev_fn (by kernel_rfl) d args hl
theorem s46 (d : Nat) (args : List LV) (hl : args.length = i46.nargs) : ev (d + 1) 46 args = Ev.finish i46.res (evC (ev d) i46.body (Ev.start args)) := ev_fn (by kernel_rfl) d args hl
theorem s61 (d : Nat) (args : List LV) (hl : args.length = i61.nargs) : ev (d + 1) 61 args = Ev.finish i61.res (evC (ev d) i61.body (Ev.start args)) := ev_fn (by kernel_rfl) d args hl
theorem s62 (d : Nat) (args : List LV) (hl : args.length = i62.nargs) : ev (d + 1) 62 args = Ev.finish i62.res (evC (ev d) i62.body (Ev.start args)) := ev_fn (by kernel_rfl) d args hl
theorem s67 (d : Nat) (args : List LV) (hl : args.length = i67.nargs) : ev (d + 1) 67 args = Ev.finish i67.res (evC (ev d) i67.body (Ev.start args)) := ev_fn (by kernel_rfl) d args hl
theorem s68 (d : Nat) (args : List LV) (hl : args.length = i68.nargs) : ev (d + 1) 68 args = Ev.finish i68.res (evC (ev d) i68.body (Ev.start args)) := ev_fn (by kernel_rfl) d args hl
theorem s71 (d : Nat) (args : List LV) (hl : args.length = i71.nargs) : ev (d + 1) 71 args = Ev.finish i71.res (evC (ev d) i71.body (Ev.start args)) := ev_fn (by kernel_rfl) d args hl
theorem s72 (d : Nat) (args : List LV) (hl : args.length = i72.nargs) : ev (d + 1) 72 args = Ev.finish i72.res (evC (ev d) i72.body (Ev.start args)) := ev_fn (by kernel_rfl) d args hl
theorem s76 (d : Nat) (args : List LV) (hl : args.length = i76.nargs) : ev (d + 1) 76 args = Ev.finish i76.res (evC (ev d) i76.body (Ev.start args)) := ev_fn (by kernel_rfl) d args hl
theorem s77 (d : Nat) (args : List LV) (hl : args.length = i77.nargs) : ev (d + 1) 77 args = Ev.finish i77.res (evC (ev d) i77.body (Ev.start args)) := ev_fn (by kernel_rfl) d args hl
theorem s78 (d : Nat) (args : List LV) (hl : args.length = i78.nargs) : ev (d + 1) 78 args = Ev.finish i78.res (evC (ev d) i78.body (Ev.start args)) := ev_fn (by kernel_rfl) d args hl
theorem s88 (d : Nat) (args : List LV) (hl : args.length = i88.nargs) : ev (d + 1) 88 args = Ev.finish i88.res (evC (ev d) i88.body (Ev.start args)) := ev_fn (by kernel_rfl) d args hl
theorem s97 (d : Nat) (args : List LV) (hl : args.length = i97.nargs) : ev (d + 1) 97 args = Ev.finish i97.res (evC (ev d) i97.body (Ev.start args)) := ev_fn (by kernel_rfl) d args hl
theorem s105 (d : Nat) (args : List LV) (hl : args.length = i105.nargs) : ev (d + 1) 105 args = Ev.finish i105.res (evC (ev d) i105.body (Ev.start args)) := ev_fn (by kernel_rfl) d args hl
theorem s119 (d : Nat) (args : List LV) (hl : args.length = i119.nargs) : ev (d + 1) 119 args = Ev.finish i119.res (evC (ev d) i119.body (Ev.start args)) := ev_fn (by kernel_rfl) d args hl
theorem s120 (d : Nat) (args : List LV) (hl : args.length = i120.nargs) : ev (d + 1) 120 args = Ev.finish i120.res (evC (ev d) i120.body (Ev.start args)) := ev_fn (by kernel_rfl) d args hl
theorem s121 (d : Nat) (args : List LV) (hl : args.length = i121.nargs) : ev (d + 1) 121 args = Ev.finish i121.res (evC (ev d) i121.body (Ev.start args)) := ev_fn (by kernel_rfl) d args hl
theorem s141 (d : Nat) (args : List LV) (hl : args.length = i141.nargs) : ev (d + 1) 141 args = Ev.finish i141.res (evC (ev d) i141.body (Ev.start args)) := ev_fn (by kernel_rfl) d args hl
theorem s142 (d : Nat) (args : List LV) (hl : args.length = i142.nargs) : ev (d + 1) 142 args = Ev.finish i142.res (evC (ev d) i142.body (Ev.start args)) := ev_fn (by kernel_rfl) d args hl
theorem s143 (d : Nat) (args : List LV) (hl : args.length = i143.nargs) : ev (d + 1) 143 args = Ev.finish i143.res (evC (ev d) i143.body (Ev.start args)) := ev_fn (by kernel_rfl) d args hl
theorem s145 (d : Nat) (args : List LV) (hl : args.length = i145.nargs) : ev (d + 1) 145 args = Ev.finish i145.res (evC (ev d) i145.body (Ev.start args)) := ev_fn (by kernel_rfl) d args hl
theorem s146 (d : Nat) (args : List LV) (hl : args.length = i146.nargs) : ev (d + 1) 146 args = Ev.finish i146.res (evC (ev d) i146.body (Ev.start args)) := ev_fn (by kernel_rfl) d args hl
theorem s147 (d : Nat) (args : List LV) (hl : args.length = i147.nargs) : ev (d + 1) 147 args = Ev.finish i147.res (evC (ev d) i147.body (Ev.start args)) := ev_fn (by kernel_rfl) d args hl
theorem s152 (d : Nat) (args : List LV) (hl : args.length = i152.nargs) : ev (d + 1) 152 args = Ev.finish i152.res (evC (ev d) i152.body (Ev.start args)) := ev_fn (by kernel_rfl) d args hl
theorem s153 (d : Nat) (args : List LV) (hl : args.length = i153.nargs) : ev (d + 1) 153 args = Ev.finish i153.res (evC (ev d) i153.body (Ev.start args)) := ev_fn (by kernel_rfl) d args hl
theorem s166 (d : Nat) (args : List LV) (hl : args.length = i166.nargs) : ev (d + 1) 166 args = Ev.finish i166.res (evC (ev d) i166.body (Ev.start args)) := ev_fn (by kernel_rfl) d args hl
theorem s174 (d : Nat) (args : List LV) (hl : args.length = i174.nargs) : ev (d + 1) 174 args = Ev.finish i174.res (evC (ev d) i174.body (Ev.start args)) := ev_fn (by kernel_rfl) d args hl
theorem s188 (d : Nat) (args : List LV) (hl : args.length = i188.nargs) : ev (d + 1) 188 args = Ev.finish i188.res (evC (ev d) i188.body (Ev.start args)) := ev_fn (by kernel_rfl) d args hl
theorem s189 (d : Nat) (args : List LV) (hl : args.length = i189.nargs) : ev (d + 1) 189 args = Ev.finish i189.res (evC (ev d) i189.body (Ev.start args)) := ev_fn (by kernel_rfl) d args hl
theorem s193 (d : Nat) (args : List LV) (hl : args.length = i193.nargs) : ev (d + 1) 193 args = Ev.finish i193.res (evC (ev d) i193.body (Ev.start args)) := ev_fn (by kernel_rfl) d args hl
theorem s197 (d : Nat) (args : List LV) (hl : args.length = i197.nargs) : ev (d + 1) 197 args = Ev.finish i197.res (evC (ev d) i197.body (Ev.start args)) := ev_fn (by kernel_rfl) d args hl
theorem s198 (d : Nat) (args : List LV) (hl : args.length = i198.nargs) : ev (d + 1) 198 args = Ev.finish i198.res (evC (ev d) i198.body (Ev.start args)) := ev_fn (by kernel_rfl) d args hl
theorem s199 (d : Nat) (args : List LV) (hl : args.length = i199.nargs) : ev (d + 1) 199 args = Ev.finish i199.res (evC (ev d) i199.body (Ev.start args)) := ev_fn (by kernel_rfl) d args hl
theorem s200 (d : Nat) (args : List LV) (hl : args.length = i200.nargs) : ev (d + 1) 200 args = Ev.finish i200.res (evC (ev d) i200.body (Ev.start args)) := ev_fn (by kernel_rfl) d args hl
theorem s201 (d : Nat) (args : List LV) (hl : args.length = i201.nargs) : ev (d + 1) 201 args = Ev.finish i201.res (evC (ev d) i201.body (Ev.start args)) := ev_fn (by kernel_rfl) d args hl
theorem s202 (d : Nat) (args : List LV) (hl : args.length = i202.nargs) : ev (d + 1) 202 args = Ev.finish i202.res (evC (ev d) i202.body (Ev.start args)) := ev_fn (by kernel_rfl) d args hl
theorem s205 (d : Nat) (args : List LV) (hl : args.length = i205.nargs) : ev (d + 1) 205 args = Ev.finish i205.res (evC (ev d) i205.body (Ev.start args)) := ev_fn (by kernel_rfl) d args hl
theorem s219 (d : Nat) (args : List LV) (hl : args.length = i219.nargs) : ev (d + 1) 219 args = Ev.finish i219.res (evC (ev d) i219.body (Ev.start args)) := ev_fn (by kernel_rfl) d args hl
theorem s220 (d : Nat) (args : List LV) (hl : args.length = i220.nargs) : ev (d + 1) 220 args = Ev.finish i220.res (evC (ev d) i220.body (Ev.start args)) := ev_fn (by kernel_rfl) d args hl
theorem s233 (d : Nat) (args : List LV) (hl : args.length = i233.nargs) : ev (d + 1) 233 args = Ev.finish i233.res (evC (ev d) i233.body (Ev.start args)) := ev_fn (by kernel_rfl) d args hl
theorem s234 (d : Nat) (args : List LV) (hl : args.length = i234.nargs) : ev (d + 1) 234 args = Ev.finish i234.res (evC (ev d) i234.body (Ev.start args)) := ev_fn (by kernel_rfl) d args hl
theorem s236 (d : Nat) (args : List LV) (hl : args.length = i236.nargs) : ev (d + 1) 236 args = Ev.finish i236.res (evC (ev d) i236.body (Ev.start args)) := ev_fn (by kernel_rfl) d args hl
theorem s237 (d : Nat) (args : List LV) (hl : args.length = i237.nargs) : ev (d + 1) 237 args = Ev.finish i237.res (evC (ev d) i237.body (Ev.start args)) := ev_fn (by kernel_rfl) d args hl
theorem s238 (d : Nat) (args : List LV) (hl : args.length = i238.nargs) : ev (d + 1) 238 args = Ev.finish i238.res (evC (ev d) i238.body (Ev.start args)) := ev_fn (by kernel_rfl) d args hl
theorem s239 (d : Nat) (args : List LV) (hl : args.length = i239.nargs) : ev (d + 1) 239 args = Ev.finish i239.res (evC (ev d) i239.body (Ev.start args)) := ev_fn (by kernel_rfl) d args hl
theorem s240 (d : Nat) (args : List LV) (hl : args.length = i240.nargs) : ev (d + 1) 240 args = Ev.finish i240.res (evC (ev d) i240.body (Ev.start args)) := ev_fn (by kernel_rfl) d args hl
theorem s250 (d : Nat) (args : List LV) (hl : args.length = i250.nargs) : ev (d + 1) 250 args = Ev.finish i250.res (evC (ev d) i250.body (Ev.start args)) := ev_fn (by kernel_rfl) d args hl
theorem s251 (d : Nat) (args : List LV) (hl : args.length = i251.nargs) : ev (d + 1) 251 args = Ev.finish i251.res (evC (ev d) i251.body (Ev.start args)) := ev_fn (by kernel_rfl) d args hl
theorem s252 (d : Nat) (args : List LV) (hl : args.length = i252.nargs) : ev (d + 1) 252 args = Ev.finish i252.res (evC (ev d) i252.body (Ev.start args)) := ev_fn (by kernel_rfl) d args hl
theorem s254 (d : Nat) (args : List LV) (hl : args.length = i254.nargs) : ev (d + 1) 254 args = Ev.finish i254.res (evC (ev d) i254.body (Ev.start args)) := ev_fn (by kernel_rfl) d args hl
theorem v21 (d : Nat) {args bs : List LV} {st : St} (hs : startW args = some (bs, st)) (hl : bs.length = i21.nargs) : ev (d + 1) (wrN + 21) args = finishW bs i21.res (evC (ev d) i21.body st) := evF_fnW (by kernel_rfl) tabn d hs hl
theorem v30 (d : Nat) {args bs : List LV} {st : St} (hs : startW args = some (bs, st)) (hl : bs.length = i30.nargs) : ev (d + 1) (wrN + 30) args = finishW bs i30.res (evC (ev d) i30.body st) := evF_fnW (by kernel_rfl) tabn d hs hl
theorem v78 (d : Nat) {args bs : List LV} {st : St} (hs : startW args = some (bs, st)) (hl : bs.length = i78.nargs) : ev (d + 1) (wrN + 78) args = finishW bs i78.res (evC (ev d) i78.body st) := evF_fnW (by kernel_rfl) tabn d hs hl
theorem v120 (d : Nat) {args bs : List LV} {st : St} (hs : startW args = some (bs, st)) (hl : bs.length = i120.nargs) : ev (d + 1) (wrN + 120) args = finishW bs i120.res (evC (ev d) i120.body st) := evF_fnW (by kernel_rfl) tabn d hs hl
theorem v189 (d : Nat) {args bs : List LV} {st : St} (hs : startW args = some (bs, st)) (hl : bs.length = i189.nargs) : ev (d + 1) (wrN + 189) args = finishW bs i189.res (evC (ev d) i189.body st) := evF_fnW (by kernel_rfl) tabn d hs hl
theorem v233 (d : Nat) {args bs : List LV} {st : St} (hs : startW args = some (bs, st)) (hl : bs.length = i233.nargs) : ev (d + 1) (wrN + 233) args = finishW bs i233.res (evC (ev d) i233.body st) := evF_fnW (by kernel_rfl) tabn d hs hl
end Go.Proofs.Ytojjkjbffihppaa.walkS
