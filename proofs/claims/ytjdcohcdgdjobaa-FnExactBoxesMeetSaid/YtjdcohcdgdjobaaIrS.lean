/- The functions that some rows reach, turned; no conditions. -/
import Derived.Test.YtjdcohcdgdjobaaIrS1
import Derived.KernelRfl
import Derived.Test.YtjdcohcdgdjobaaProg
namespace Go.Proofs.Ytjdcohcdgdjobaa.walkS
open Go Go.Proofs.Ytjdcohcdgdjobaa.Ev
def i71 : Ev.Fn := ⟨2, 30, [.tmp 4],
 (.seq
 (.reg false [⟨2, .bx (.t 0), none, false⟩,
 ⟨3, .bx (.t 1), none, false⟩,
 ⟨4, .mv (.k (.sc (.bool false))), none, false⟩])
 (.seq
 (.seq
 (.reg false [⟨5, .fa 0 (.t 2), none, false⟩,
 ⟨6, .ld 1 false (.t 5), none, false⟩,
 ⟨7, .fa 0 (.t 3), none, false⟩,
 ⟨8, .ld 1 false (.t 7), none, false⟩,
 ⟨9, .ar .neq false (.t 6) (.t 8), none, false⟩])
 (.ite (.t 9)
 (.seq
 (.reg false [⟨4, .mv (.k (.sc (.bool false))), none, false⟩])
 .ret)
 .skip))
 (.seq
 (.seq
 (.reg false [⟨10, .fa 1 (.t 2), none, false⟩,
 ⟨11, .ld 1 false (.t 10), none, false⟩,
 ⟨12, .fa 1 (.t 3), none, false⟩,
 ⟨13, .ld 1 false (.t 12), none, false⟩,
 ⟨14, .ar .neq false (.t 11) (.t 13), none, false⟩])
 (.ite (.t 14)
 (.seq
 (.reg false [⟨4, .mv (.k (.sc (.bool false))), none, false⟩])
 .ret)
 .skip))
 (.seq
 (.seq
 (.reg false [⟨15, .fa 2 (.t 2), none, false⟩,
 ⟨16, .ld 1 false (.t 15), none, false⟩,
 ⟨17, .fa 2 (.t 3), none, false⟩,
 ⟨18, .ld 1 false (.t 17), none, false⟩,
 ⟨19, .ar .neq false (.t 16) (.t 18), none, false⟩])
 (.ite (.t 19)
 (.seq
 (.reg false [⟨4, .mv (.k (.sc (.bool false))), none, false⟩])
 .ret)
 .skip))
 (.seq
 (.seq
 (.reg false [⟨20, .fa 3 (.t 2), none, false⟩,
 ⟨21, .ld 1 false (.t 20), none, false⟩,
 ⟨22, .fa 3 (.t 3), none, false⟩,
 ⟨23, .ld 1 false (.t 22), none, false⟩,
 ⟨24, .ar .neq false (.t 21) (.t 23), none, false⟩])
 (.ite (.t 24)
 (.seq
 (.reg false [⟨4, .mv (.k (.sc (.bool false))), none, false⟩])
 .ret)
 .skip))
 (.seq
 (.seq
 (.reg false [⟨25, .fa 4 (.t 2), none, false⟩,
 ⟨26, .ld 1 false (.t 25), none, false⟩,
 ⟨27, .fa 4 (.t 3), none, false⟩,
 ⟨28, .ld 1 false (.t 27), none, false⟩,
 ⟨29, .ar .neq false (.t 26) (.t 28), none, false⟩])
 (.ite (.t 29)
 (.seq
 (.reg false [⟨4, .mv (.k (.sc (.bool false))), none, false⟩])
 .ret)
 .skip))
 (.seq
 (.reg false [⟨4, .mv (.k (.sc (.bool true))), none, false⟩])
 .ret)))))))⟩
attribute [simp] i71
set_option maxRecDepth 1000000 in
theorem c71 : cFn Try.prog 71 [] = some i71 := by kernel_rfl
theorem e71 : enterOk Try.prog 71 = true := by kernel_rfl
def i72 : Ev.Fn := ⟨2, 35, [.tmp 4],
 (.seq
 (.reg false [⟨4, .mv (.k (.sc (.int .i64 0))), none, false⟩])
 (.seq
 (.reg true [⟨5, .mv (.t 0), none, false⟩,
 ⟨6, .nc (.t 5), none, false⟩,
 ⟨7, .fa 1 (.t 6), none, false⟩,
 ⟨8, .ld 1 false (.t 7), none, false⟩,
 ⟨9, .mv (.t 1), none, false⟩,
 ⟨10, .nc (.t 9), none, false⟩,
 ⟨11, .fa 1 (.t 10), none, false⟩,
 ⟨12, .ld 1 false (.t 11), none, false⟩,
 ⟨13, .ar .sub false (.t 8) (.t 12), none, false⟩,
 ⟨14, .mv (.t 1), none, false⟩,
 ⟨15, .nc (.t 14), none, false⟩,
 ⟨16, .fa 1 (.t 15), none, false⟩,
 ⟨17, .ld 1 false (.t 16), none, false⟩,
 ⟨18, .mv (.t 0), none, false⟩,
 ⟨19, .nc (.t 18), none, false⟩,
 ⟨20, .fa 1 (.t 19), none, false⟩,
 ⟨21, .ld 1 false (.t 20), none, false⟩,
 ⟨22, .ar .sub false (.t 17) (.t 21), none, false⟩,
 ⟨23, .ca (.k (.cl 65 [])) [(.t 13), (.t 22)], none, false⟩,
 ⟨24, .mv (.t 0), none, false⟩,
 ⟨25, .nc (.t 24), none, false⟩,
 ⟨26, .fa 2 (.t 25), none, false⟩,
 ⟨27, .ld 1 false (.t 26), none, false⟩,
 ⟨28, .mv (.t 1), none, false⟩,
 ⟨29, .nc (.t 28), none, false⟩,
 ⟨30, .fa 2 (.t 29), none, false⟩,
 ⟨31, .ld 1 false (.t 30), none, false⟩,
 ⟨32, .ca (.k (.cl 55 [])) [(.t 27), (.t 31)], none, false⟩,
 ⟨33, .ar .quo false (.t 32) (.k (.sc (.int .i64 6))), none, false⟩,
 ⟨34, .ar .add false (.t 23) (.t 33), none, false⟩,
 ⟨4, .mv (.t 34), none, false⟩])
 .ret))⟩
attribute [simp] i72
set_option maxRecDepth 1000000 in
theorem c72 : cFn Try.prog 72 [] = some i72 := by kernel_rfl
theorem e72 : enterOk Try.prog 72 = true := by kernel_rfl
def i73 : Ev.Fn := ⟨2, 29, [.tmp 4],
 (.seq
 (.reg false [⟨2, .bx (.t 0), none, false⟩,
 ⟨3, .bx (.t 1), none, false⟩,
 ⟨4, .mv (.k (.sc (.int .i64 0))), none, false⟩])
 (.seq
 (.reg false [⟨8, .fa 2 (.t 2), none, false⟩,
 ⟨9, .ld 1 false (.t 8), none, false⟩,
 ⟨10, .fa 2 (.t 3), none, false⟩,
 ⟨11, .ld 1 false (.t 10), none, false⟩,
 ⟨12, .ca (.k (.cl 21 [])) [(.t 9), (.t 11)], none, false⟩,
 ⟨7, .mv (.t 12), none, false⟩,
 ⟨13, .xt (.t 7) 0, none, false⟩,
 ⟨14, .xt (.t 7) 1, none, false⟩,
 ⟨5, .mv (.t 13), none, false⟩,
 ⟨6, .mv (.t 14), none, false⟩])
 (.seq
 (.reg false [⟨15, .fa 1 (.t 2), none, false⟩,
 ⟨16, .ld 1 false (.t 15), none, false⟩,
 ⟨17, .fa 1 (.t 3), none, false⟩,
 ⟨18, .ld 1 false (.t 17), none, false⟩,
 ⟨19, .ar .sub false (.t 16) (.t 18), none, false⟩,
 ⟨20, .fa 1 (.t 3), none, false⟩,
 ⟨21, .ld 1 false (.t 20), none, false⟩,
 ⟨22, .fa 1 (.t 2), none, false⟩,
 ⟨23, .ld 1 false (.t 22), none, false⟩,
 ⟨24, .ar .sub false (.t 21) (.t 23), none, false⟩,
 ⟨25, .mx (.t 19) (.t 24), none, false⟩,
 ⟨26, .mv (.t 5), none, false⟩,
 ⟨27, .ar .quo false (.t 26) (.k (.sc (.int .i64 6))), none, false⟩,
 ⟨28, .ar .add false (.t 25) (.t 27), none, false⟩,
 ⟨4, .mv (.t 28), none, false⟩])
 .ret)))⟩
attribute [simp] i73
set_option maxRecDepth 1000000 in
theorem c73 : cFn Try.prog 73 [] = some i73 := by kernel_rfl
theorem e73 : enterOk Try.prog 73 = true := by kernel_rfl
def i74 : Ev.Fn := ⟨2, 10, [.tmp 4],
 (.seq
 (.reg false [⟨4, .mv (.k (.sc (.int .i64 0))), none, false⟩])
 (.seq
 (.seq
 (.reg false [⟨5, .mv (.t 0), none, false⟩,
 ⟨6, .mv (.t 1), none, false⟩,
 ⟨7, .ar .lss false (.t 5) (.t 6), none, false⟩])
 (.ite (.t 7)
 (.seq
 (.reg false [⟨8, .mv (.t 0), none, false⟩,
 ⟨4, .mv (.t 8), none, false⟩])
 .ret)
 .skip))
 (.seq
 (.reg false [⟨9, .mv (.t 1), none, false⟩,
 ⟨4, .mv (.t 9), none, false⟩])
 .ret)))⟩
attribute [simp] i74
set_option maxRecDepth 1000000 in
theorem c74 : cFn Try.prog 74 [] = some i74 := by kernel_rfl
theorem e74 : enterOk Try.prog 74 = true := by kernel_rfl
def i75 : Ev.Fn := ⟨2, 57, [.cell 4 4 true, .tmp 5],
 (.seq
 (.reg false [⟨2, .bx (.t 0), none, false⟩,
 ⟨3, .bx (.t 1), none, false⟩,
 ⟨4, .al [(.sc (.int .i64 0)), (.sc (.int .i64 0)), (.sc (.int .i64 0)), (.sc (.int .i64 0))], none, false⟩,
 ⟨5, .mv (.k (.sc (.bool false))), none, false⟩])
 (.seq
 (.reg true [⟨9, .fa 0 (.t 2), none, false⟩,
 ⟨10, .ld 1 false (.t 9), none, false⟩,
 ⟨11, .fa 0 (.t 3), none, false⟩,
 ⟨12, .ld 1 false (.t 11), none, false⟩,
 ⟨13, .mx (.t 10) (.t 12), none, false⟩,
 ⟨14, .fa 1 (.t 2), none, false⟩,
 ⟨15, .ld 1 false (.t 14), none, false⟩,
 ⟨16, .fa 1 (.t 3), none, false⟩,
 ⟨17, .ld 1 false (.t 16), none, false⟩,
 ⟨18, .mx (.t 15) (.t 17), none, false⟩,
 ⟨6, .mv (.t 13), none, false⟩,
 ⟨7, .mv (.t 18), none, false⟩])
 (.seq
 (.reg false [⟨19, .mv (.t 6), none, false⟩,
 ⟨20, .mv (.t 7), none, false⟩,
 ⟨21, .fa 0 (.t 2), none, false⟩,
 ⟨22, .ld 1 false (.t 21), none, false⟩,
 ⟨23, .fa 2 (.t 2), none, false⟩,
 ⟨24, .ld 1 false (.t 23), none, false⟩,
 ⟨25, .ar .add false (.t 22) (.t 24), none, false⟩,
 ⟨26, .fa 0 (.t 3), none, false⟩,
 ⟨27, .ld 1 false (.t 26), none, false⟩,
 ⟨28, .fa 2 (.t 3), none, false⟩,
 ⟨29, .ld 1 false (.t 28), none, false⟩,
 ⟨30, .ar .add false (.t 27) (.t 29), none, false⟩,
 ⟨31, .mn (.t 25) (.t 30), none, false⟩,
 ⟨32, .mv (.t 6), none, false⟩,
 ⟨33, .ar .sub false (.t 31) (.t 32), none, false⟩,
 ⟨34, .fa 1 (.t 2), none, false⟩,
 ⟨35, .ld 1 false (.t 34), none, false⟩,
 ⟨36, .fa 3 (.t 2), none, false⟩,
 ⟨37, .ld 1 false (.t 36), none, false⟩,
 ⟨38, .ar .add false (.t 35) (.t 37), none, false⟩,
 ⟨39, .fa 1 (.t 3), none, false⟩,
 ⟨40, .ld 1 false (.t 39), none, false⟩,
 ⟨41, .fa 3 (.t 3), none, false⟩,
 ⟨42, .ld 1 false (.t 41), none, false⟩,
 ⟨43, .ar .add false (.t 40) (.t 42), none, false⟩,
 ⟨44, .mn (.t 38) (.t 43), none, false⟩,
 ⟨45, .mv (.t 7), none, false⟩,
 ⟨46, .ar .sub false (.t 44) (.t 45), none, false⟩,
 ⟨47, .bd [(.sc (.int .i64 0)), (.sc (.int .i64 0)), (.sc (.int .i64 0)), (.sc (.int .i64 0))] [(0, 1, (.t 19)), (1, 1, (.t 20)), (2, 1, (.t 33)), (3, 1, (.t 46))], none, false⟩,
 ⟨8, .al [(.sc (.int .i64 0)), (.sc (.int .i64 0)), (.sc (.int .i64 0)), (.sc (.int .i64 0))], none, false⟩,
 ⟨1, .so 4 (.t 8) (.t 47), none, true⟩])
 (.seq
 (.rgc [.ne 4 8, .ne 4 53, .ne 4 54, .ne 4 52, .ne 4 55] [⟨48, .ld 4 true (.t 8), none, false⟩,
 ⟨49, .fa 2 (.t 8), none, false⟩,
 ⟨50, .ld 1 false (.t 49), none, false⟩,
 ⟨51, .ar .gtr false (.t 50) (.k (.sc (.int .i64 0))), none, false⟩,
 ⟨52, .mv (.t 51), none, false⟩,
 ⟨53, .fa 3 (.t 8), (some (52, true)), false⟩,
 ⟨54, .ld 1 false (.t 53), (some (52, true)), false⟩,
 ⟨55, .ar .gtr false (.t 54) (.k (.sc (.int .i64 0))), (some (52, true)), false⟩,
 ⟨56, .pk (.t 52) (.t 55) (.k (.sc (.bool false))), none, false⟩,
 ⟨0, .so 4 (.t 4) (.t 48), none, true⟩,
 ⟨5, .mv (.t 56), none, false⟩])
 .ret))))⟩
attribute [simp] i75
set_option maxRecDepth 1000000 in
theorem c75 : cFn Try.prog 75 [] = some i75 := by kernel_rfl
theorem e75 : enterOk Try.prog 75 = true := by kernel_rfl
def i76 : Ev.Fn := ⟨1, 36, [.tmp 2],
 (.seq
 (.reg false [⟨2, .mv (.k (.sc (.bool false))), none, false⟩])
 (.seq
 (.reg false [⟨3, .mv (.t 0), none, false⟩,
 ⟨4, .nc (.t 3), none, false⟩,
 ⟨5, .fa 0 (.t 4), none, false⟩,
 ⟨6, .ld 1 false (.t 5), none, false⟩,
 ⟨7, .ca (.k (.cl 64 [])) [(.t 6), (.k (.sc (.int .i64 0))), (.k (.sc (.int .i64 23)))], none, false⟩,
 ⟨8, .mv (.t 7), none, false⟩,
 ⟨9, .mv (.t 0), (some (8, true)), false⟩,
 ⟨10, .nc (.t 9), (some (8, true)), false⟩,
 ⟨11, .fa 1 (.t 10), (some (8, true)), false⟩,
 ⟨12, .ld 1 false (.t 11), (some (8, true)), false⟩,
 ⟨13, .ca (.k (.cl 64 [])) [(.t 12), (.k (.sc (.int .i64 0))), (.k (.sc (.int .i64 15)))], (some (8, true)), false⟩,
 ⟨14, .pk (.t 8) (.t 13) (.k (.sc (.bool false))), none, false⟩,
 ⟨15, .mv (.t 14), none, false⟩,
 ⟨16, .mv (.t 0), (some (15, true)), false⟩,
 ⟨17, .nc (.t 16), (some (15, true)), false⟩,
 ⟨18, .fa 2 (.t 17), (some (15, true)), false⟩,
 ⟨19, .ld 1 false (.t 18), (some (15, true)), false⟩,
 ⟨20, .ca (.k (.cl 64 [])) [(.t 19), (.k (.sc (.int .i64 0))), (.k (.sc (.int .i64 20000)))], (some (15, true)), false⟩,
 ⟨21, .pk (.t 15) (.t 20) (.k (.sc (.bool false))), none, false⟩,
 ⟨22, .mv (.t 21), none, false⟩,
 ⟨23, .mv (.t 0), (some (22, true)), false⟩,
 ⟨24, .nc (.t 23), (some (22, true)), false⟩,
 ⟨25, .fa 3 (.t 24), (some (22, true)), false⟩,
 ⟨26, .ld 1 false (.t 25), (some (22, true)), false⟩,
 ⟨27, .ca (.k (.cl 64 [])) [(.t 26), (.k (.sc (.int .i64 0))), (.k (.sc (.int .i64 20000)))], (some (22, true)), false⟩,
 ⟨28, .pk (.t 22) (.t 27) (.k (.sc (.bool false))), none, false⟩,
 ⟨29, .mv (.t 28), none, false⟩,
 ⟨30, .mv (.t 0), (some (29, true)), false⟩,
 ⟨31, .nc (.t 30), (some (29, true)), false⟩,
 ⟨32, .fa 4 (.t 31), (some (29, true)), false⟩,
 ⟨33, .ld 1 false (.t 32), (some (29, true)), false⟩,
 ⟨34, .ca (.k (.cl 53 [])) [(.t 33)], (some (29, true)), false⟩,
 ⟨35, .pk (.t 29) (.t 34) (.k (.sc (.bool false))), none, false⟩,
 ⟨2, .mv (.t 35), none, false⟩])
 .ret))⟩
attribute [simp] i76
set_option maxRecDepth 1000000 in
theorem c76 : cFn Try.prog 76 [] = some i76 := by kernel_rfl
theorem e76 : enterOk Try.prog 76 = true := by kernel_rfl
theorem mixed : Try.prog.follows .mixedOrders = true := by kernel_rfl
def Ft : List (Nat × Ev.Fn) := [(3, i3), (4, i4), (5, i5), (6, i6), (7, i7), (8, i8), (9, i9), (10, i10), (11, i11), (12, i12), (13, i13), (14, i14), (15, i15), (16, i16), (17, i17), (18, i18), (19, i19), (20, i20), (21, i21), (22, i22), (23, i23), (24, i24), (25, i25), (26, i26), (27, i27), (28, i28), (29, i29), (30, i30), (31, i31), (32, i32), (33, i33), (34, i34), (35, i35), (36, i36), (37, i37), (38, i38), (39, i39), (40, i40), (41, i41), (42, i42), (43, i43), (44, i44), (45, i45), (46, i46), (47, i47), (48, i48), (49, i49), (50, i50), (51, i51), (52, i52), (53, i53), (54, i54), (55, i55), (56, i56), (57, i57), (58, i58), (59, i59), (60, i60), (61, i61), (62, i62), (63, i63), (64, i64), (65, i65), (66, i66), (67, i67), (68, i68), (69, i69), (70, i70), (71, i71), (72, i72), (73, i73), (74, i74), (75, i75), (76, i76)]
def F : Nat → Option Ev.Fn := getF Ft
noncomputable def ev (d : Nat) : CallF := evF F (fun _ _ => none) d
theorem ev_fn {f : Nat} {fn : Ev.Fn} (h : F f = some fn) (d : Nat) (args : List LV) (hl : args.length = fn.nargs) : ev (d + 1) f args = Ev.finish fn.res (evC (ev d) fn.body (Ev.start args)) := evF_fn h d args hl
set_option maxRecDepth 1000000 in
theorem tab : ∀ f fn, F f = some fn → enterOk Try.prog f = true ∧ ∃ ks, cFn Try.prog f ks = some fn :=
  tabF (L := Ft) ⟨⟨e3, _, c3⟩, ⟨e4, _, c4⟩, ⟨e5, _, c5⟩, ⟨e6, _, c6⟩, ⟨e7, _, c7⟩, ⟨e8, _, c8⟩, ⟨e9, _, c9⟩, ⟨e10, _, c10⟩, ⟨e11, _, c11⟩, ⟨e12, _, c12⟩, ⟨e13, _, c13⟩, ⟨e14, _, c14⟩, ⟨e15, _, c15⟩, ⟨e16, _, c16⟩, ⟨e17, _, c17⟩, ⟨e18, _, c18⟩, ⟨e19, _, c19⟩, ⟨e20, _, c20⟩, ⟨e21, _, c21⟩, ⟨e22, _, c22⟩, ⟨e23, _, c23⟩, ⟨e24, _, c24⟩, ⟨e25, _, c25⟩, ⟨e26, _, c26⟩, ⟨e27, _, c27⟩, ⟨e28, _, c28⟩, ⟨e29, _, c29⟩, ⟨e30, _, c30⟩, ⟨e31, _, c31⟩, ⟨e32, _, c32⟩, ⟨e33, _, c33⟩, ⟨e34, _, c34⟩, ⟨e35, _, c35⟩, ⟨e36, _, c36⟩, ⟨e37, _, c37⟩, ⟨e38, _, c38⟩, ⟨e39, _, c39⟩, ⟨e40, _, c40⟩, ⟨e41, _, c41⟩, ⟨e42, _, c42⟩, ⟨e43, _, c43⟩, ⟨e44, _, c44⟩, ⟨e45, _, c45⟩, ⟨e46, _, c46⟩, ⟨e47, _, c47⟩, ⟨e48, _, c48⟩, ⟨e49, _, c49⟩, ⟨e50, _, c50⟩, ⟨e51, _, c51⟩, ⟨e52, _, c52⟩, ⟨e53, _, c53⟩, ⟨e54, _, c54⟩, ⟨e55, _, c55⟩, ⟨e56, _, c56⟩, ⟨e57, _, c57⟩, ⟨e58, _, c58⟩, ⟨e59, _, c59⟩, ⟨e60, _, c60⟩, ⟨e61, _, c61⟩, ⟨e62, _, c62⟩, ⟨e63, _, c63⟩, ⟨e64, _, c64⟩, ⟨e65, _, c65⟩, ⟨e66, _, c66⟩, ⟨e67, _, c67⟩, ⟨e68, _, c68⟩, ⟨e69, _, c69⟩, ⟨e70, _, c70⟩, ⟨e71, _, c71⟩, ⟨e72, _, c72⟩, ⟨e73, _, c73⟩, ⟨e74, _, c74⟩, ⟨e75, _, c75⟩, ⟨e76, _, c76⟩, trivial⟩
theorem callOk (d : Nat) : CallOk Try.prog (ev d) := evF_ok mixed tab (noPrim_ok _) d
abbrev I (n : Int) : LV := .sc (.int .i64 n)
abbrev B (b : Bool) : LV := .sc (.bool b)
abbrev T (s : ByteArray) : LV := .sc (.string s)
theorem s3 (d : Nat) (args : List LV) (hl : args.length = i3.nargs) : ev (d + 1) 3 args = Ev.finish i3.res (evC (ev d) i3.body (Ev.start args)) := ev_fn (by kernel_rfl) d args hl
theorem s4 (d : Nat) (args : List LV) (hl : args.length = i4.nargs) : ev (d + 1) 4 args = Ev.finish i4.res (evC (ev d) i4.body (Ev.start args)) := ev_fn (by kernel_rfl) d args hl
theorem s5 (d : Nat) (args : List LV) (hl : args.length = i5.nargs) : ev (d + 1) 5 args = Ev.finish i5.res (evC (ev d) i5.body (Ev.start args)) := ev_fn (by kernel_rfl) d args hl
theorem s6 (d : Nat) (args : List LV) (hl : args.length = i6.nargs) : ev (d + 1) 6 args = Ev.finish i6.res (evC (ev d) i6.body (Ev.start args)) := ev_fn (by kernel_rfl) d args hl
theorem s7 (d : Nat) (args : List LV) (hl : args.length = i7.nargs) : ev (d + 1) 7 args = Ev.finish i7.res (evC (ev d) i7.body (Ev.start args)) := ev_fn (by kernel_rfl) d args hl
theorem s8 (d : Nat) (args : List LV) (hl : args.length = i8.nargs) : ev (d + 1) 8 args = Ev.finish i8.res (evC (ev d) i8.body (Ev.start args)) := ev_fn (by kernel_rfl) d args hl
theorem s9 (d : Nat) (args : List LV) (hl : args.length = i9.nargs) : ev (d + 1) 9 args = Ev.finish i9.res (evC (ev d) i9.body (Ev.start args)) := ev_fn (by kernel_rfl) d args hl
theorem s10 (d : Nat) (args : List LV) (hl : args.length = i10.nargs) : ev (d + 1) 10 args = Ev.finish i10.res (evC (ev d) i10.body (Ev.start args)) := ev_fn (by kernel_rfl) d args hl
theorem s11 (d : Nat) (args : List LV) (hl : args.length = i11.nargs) : ev (d + 1) 11 args = Ev.finish i11.res (evC (ev d) i11.body (Ev.start args)) := ev_fn (by kernel_rfl) d args hl
theorem s12 (d : Nat) (args : List LV) (hl : args.length = i12.nargs) : ev (d + 1) 12 args = Ev.finish i12.res (evC (ev d) i12.body (Ev.start args)) := ev_fn (by kernel_rfl) d args hl
theorem s13 (d : Nat) (args : List LV) (hl : args.length = i13.nargs) : ev (d + 1) 13 args = Ev.finish i13.res (evC (ev d) i13.body (Ev.start args)) := ev_fn (by kernel_rfl) d args hl
theorem s14 (d : Nat) (args : List LV) (hl : args.length = i14.nargs) : ev (d + 1) 14 args = Ev.finish i14.res (evC (ev d) i14.body (Ev.start args)) := ev_fn (by kernel_rfl) d args hl
theorem s15 (d : Nat) (args : List LV) (hl : args.length = i15.nargs) : ev (d + 1) 15 args = Ev.finish i15.res (evC (ev d) i15.body (Ev.start args)) := ev_fn (by kernel_rfl) d args hl
theorem s16 (d : Nat) (args : List LV) (hl : args.length = i16.nargs) : ev (d + 1) 16 args = Ev.finish i16.res (evC (ev d) i16.body (Ev.start args)) := ev_fn (by kernel_rfl) d args hl
theorem s17 (d : Nat) (args : List LV) (hl : args.length = i17.nargs) : ev (d + 1) 17 args = Ev.finish i17.res (evC (ev d) i17.body (Ev.start args)) := ev_fn (by kernel_rfl) d args hl
theorem s18 (d : Nat) (args : List LV) (hl : args.length = i18.nargs) : ev (d + 1) 18 args = Ev.finish i18.res (evC (ev d) i18.body (Ev.start args)) := ev_fn (by kernel_rfl) d args hl
theorem s19 (d : Nat) (args : List LV) (hl : args.length = i19.nargs) : ev (d + 1) 19 args = Ev.finish i19.res (evC (ev d) i19.body (Ev.start args)) := ev_fn (by kernel_rfl) d args hl
theorem s20 (d : Nat) (args : List LV) (hl : args.length = i20.nargs) : ev (d + 1) 20 args = Ev.finish i20.res (evC (ev d) i20.body (Ev.start args)) := ev_fn (by kernel_rfl) d args hl
theorem s21 (d : Nat) (args : List LV) (hl : args.length = i21.nargs) : ev (d + 1) 21 args = Ev.finish i21.res (evC (ev d) i21.body (Ev.start args)) := ev_fn (by kernel_rfl) d args hl
theorem s22 (d : Nat) (args : List LV) (hl : args.length = i22.nargs) : ev (d + 1) 22 args = Ev.finish i22.res (evC (ev d) i22.body (Ev.start args)) := ev_fn (by kernel_rfl) d args hl
theorem s23 (d : Nat) (args : List LV) (hl : args.length = i23.nargs) : ev (d + 1) 23 args = Ev.finish i23.res (evC (ev d) i23.body (Ev.start args)) := ev_fn (by kernel_rfl) d args hl
theorem s24 (d : Nat) (args : List LV) (hl : args.length = i24.nargs) : ev (d + 1) 24 args = Ev.finish i24.res (evC (ev d) i24.body (Ev.start args)) := ev_fn (by kernel_rfl) d args hl
theorem s25 (d : Nat) (args : List LV) (hl : args.length = i25.nargs) : ev (d + 1) 25 args = Ev.finish i25.res (evC (ev d) i25.body (Ev.start args)) := ev_fn (by kernel_rfl) d args hl
theorem s26 (d : Nat) (args : List LV) (hl : args.length = i26.nargs) : ev (d + 1) 26 args = Ev.finish i26.res (evC (ev d) i26.body (Ev.start args)) := ev_fn (by kernel_rfl) d args hl
theorem s27 (d : Nat) (args : List LV) (hl : args.length = i27.nargs) : ev (d + 1) 27 args = Ev.finish i27.res (evC (ev d) i27.body (Ev.start args)) := ev_fn (by kernel_rfl) d args hl
theorem s28 (d : Nat) (args : List LV) (hl : args.length = i28.nargs) : ev (d + 1) 28 args = Ev.finish i28.res (evC (ev d) i28.body (Ev.start args)) := ev_fn (by kernel_rfl) d args hl
theorem s29 (d : Nat) (args : List LV) (hl : args.length = i29.nargs) : ev (d + 1) 29 args = Ev.finish i29.res (evC (ev d) i29.body (Ev.start args)) := ev_fn (by kernel_rfl) d args hl
theorem s30 (d : Nat) (args : List LV) (hl : args.length = i30.nargs) : ev (d + 1) 30 args = Ev.finish i30.res (evC (ev d) i30.body (Ev.start args)) := ev_fn (by kernel_rfl) d args hl
theorem s31 (d : Nat) (args : List LV) (hl : args.length = i31.nargs) : ev (d + 1) 31 args = Ev.finish i31.res (evC (ev d) i31.body (Ev.start args)) := ev_fn (by kernel_rfl) d args hl
theorem s32 (d : Nat) (args : List LV) (hl : args.length = i32.nargs) : ev (d + 1) 32 args = Ev.finish i32.res (evC (ev d) i32.body (Ev.start args)) := ev_fn (by kernel_rfl) d args hl
theorem s33 (d : Nat) (args : List LV) (hl : args.length = i33.nargs) : ev (d + 1) 33 args = Ev.finish i33.res (evC (ev d) i33.body (Ev.start args)) := ev_fn (by kernel_rfl) d args hl
theorem s34 (d : Nat) (args : List LV) (hl : args.length = i34.nargs) : ev (d + 1) 34 args = Ev.finish i34.res (evC (ev d) i34.body (Ev.start args)) := ev_fn (by kernel_rfl) d args hl
theorem s35 (d : Nat) (args : List LV) (hl : args.length = i35.nargs) : ev (d + 1) 35 args = Ev.finish i35.res (evC (ev d) i35.body (Ev.start args)) := ev_fn (by kernel_rfl) d args hl
theorem s36 (d : Nat) (args : List LV) (hl : args.length = i36.nargs) : ev (d + 1) 36 args = Ev.finish i36.res (evC (ev d) i36.body (Ev.start args)) := ev_fn (by kernel_rfl) d args hl
theorem s37 (d : Nat) (args : List LV) (hl : args.length = i37.nargs) : ev (d + 1) 37 args = Ev.finish i37.res (evC (ev d) i37.body (Ev.start args)) := ev_fn (by kernel_rfl) d args hl
theorem s38 (d : Nat) (args : List LV) (hl : args.length = i38.nargs) : ev (d + 1) 38 args = Ev.finish i38.res (evC (ev d) i38.body (Ev.start args)) := ev_fn (by kernel_rfl) d args hl
theorem s39 (d : Nat) (args : List LV) (hl : args.length = i39.nargs) : ev (d + 1) 39 args = Ev.finish i39.res (evC (ev d) i39.body (Ev.start args)) := ev_fn (by kernel_rfl) d args hl
theorem s40 (d : Nat) (args : List LV) (hl : args.length = i40.nargs) : ev (d + 1) 40 args = Ev.finish i40.res (evC (ev d) i40.body (Ev.start args)) := ev_fn (by kernel_rfl) d args hl
theorem s41 (d : Nat) (args : List LV) (hl : args.length = i41.nargs) : ev (d + 1) 41 args = Ev.finish i41.res (evC (ev d) i41.body (Ev.start args)) := ev_fn (by kernel_rfl) d args hl
theorem s42 (d : Nat) (args : List LV) (hl : args.length = i42.nargs) : ev (d + 1) 42 args = Ev.finish i42.res (evC (ev d) i42.body (Ev.start args)) := ev_fn (by kernel_rfl) d args hl
theorem s43 (d : Nat) (args : List LV) (hl : args.length = i43.nargs) : ev (d + 1) 43 args = Ev.finish i43.res (evC (ev d) i43.body (Ev.start args)) := ev_fn (by kernel_rfl) d args hl
theorem s44 (d : Nat) (args : List LV) (hl : args.length = i44.nargs) : ev (d + 1) 44 args = Ev.finish i44.res (evC (ev d) i44.body (Ev.start args)) := ev_fn (by kernel_rfl) d args hl
theorem s45 (d : Nat) (args : List LV) (hl : args.length = i45.nargs) : ev (d + 1) 45 args = Ev.finish i45.res (evC (ev d) i45.body (Ev.start args)) := ev_fn (by kernel_rfl) d args hl
theorem s46 (d : Nat) (args : List LV) (hl : args.length = i46.nargs) : ev (d + 1) 46 args = Ev.finish i46.res (evC (ev d) i46.body (Ev.start args)) := ev_fn (by kernel_rfl) d args hl
theorem s47 (d : Nat) (args : List LV) (hl : args.length = i47.nargs) : ev (d + 1) 47 args = Ev.finish i47.res (evC (ev d) i47.body (Ev.start args)) := ev_fn (by kernel_rfl) d args hl
theorem s48 (d : Nat) (args : List LV) (hl : args.length = i48.nargs) : ev (d + 1) 48 args = Ev.finish i48.res (evC (ev d) i48.body (Ev.start args)) := ev_fn (by kernel_rfl) d args hl
theorem s49 (d : Nat) (args : List LV) (hl : args.length = i49.nargs) : ev (d + 1) 49 args = Ev.finish i49.res (evC (ev d) i49.body (Ev.start args)) := ev_fn (by kernel_rfl) d args hl
theorem s50 (d : Nat) (args : List LV) (hl : args.length = i50.nargs) : ev (d + 1) 50 args = Ev.finish i50.res (evC (ev d) i50.body (Ev.start args)) := ev_fn (by kernel_rfl) d args hl
theorem s51 (d : Nat) (args : List LV) (hl : args.length = i51.nargs) : ev (d + 1) 51 args = Ev.finish i51.res (evC (ev d) i51.body (Ev.start args)) := ev_fn (by kernel_rfl) d args hl
theorem s52 (d : Nat) (args : List LV) (hl : args.length = i52.nargs) : ev (d + 1) 52 args = Ev.finish i52.res (evC (ev d) i52.body (Ev.start args)) := ev_fn (by kernel_rfl) d args hl
theorem s53 (d : Nat) (args : List LV) (hl : args.length = i53.nargs) : ev (d + 1) 53 args = Ev.finish i53.res (evC (ev d) i53.body (Ev.start args)) := ev_fn (by kernel_rfl) d args hl
theorem s54 (d : Nat) (args : List LV) (hl : args.length = i54.nargs) : ev (d + 1) 54 args = Ev.finish i54.res (evC (ev d) i54.body (Ev.start args)) := ev_fn (by kernel_rfl) d args hl
theorem s55 (d : Nat) (args : List LV) (hl : args.length = i55.nargs) : ev (d + 1) 55 args = Ev.finish i55.res (evC (ev d) i55.body (Ev.start args)) := ev_fn (by kernel_rfl) d args hl
theorem s56 (d : Nat) (args : List LV) (hl : args.length = i56.nargs) : ev (d + 1) 56 args = Ev.finish i56.res (evC (ev d) i56.body (Ev.start args)) := ev_fn (by kernel_rfl) d args hl
theorem s57 (d : Nat) (args : List LV) (hl : args.length = i57.nargs) : ev (d + 1) 57 args = Ev.finish i57.res (evC (ev d) i57.body (Ev.start args)) := ev_fn (by kernel_rfl) d args hl
theorem s58 (d : Nat) (args : List LV) (hl : args.length = i58.nargs) : ev (d + 1) 58 args = Ev.finish i58.res (evC (ev d) i58.body (Ev.start args)) := ev_fn (by kernel_rfl) d args hl
theorem s59 (d : Nat) (args : List LV) (hl : args.length = i59.nargs) : ev (d + 1) 59 args = Ev.finish i59.res (evC (ev d) i59.body (Ev.start args)) := ev_fn (by kernel_rfl) d args hl
theorem s60 (d : Nat) (args : List LV) (hl : args.length = i60.nargs) : ev (d + 1) 60 args = Ev.finish i60.res (evC (ev d) i60.body (Ev.start args)) := ev_fn (by kernel_rfl) d args hl
theorem s61 (d : Nat) (args : List LV) (hl : args.length = i61.nargs) : ev (d + 1) 61 args = Ev.finish i61.res (evC (ev d) i61.body (Ev.start args)) := ev_fn (by kernel_rfl) d args hl
theorem s62 (d : Nat) (args : List LV) (hl : args.length = i62.nargs) : ev (d + 1) 62 args = Ev.finish i62.res (evC (ev d) i62.body (Ev.start args)) := ev_fn (by kernel_rfl) d args hl
theorem s63 (d : Nat) (args : List LV) (hl : args.length = i63.nargs) : ev (d + 1) 63 args = Ev.finish i63.res (evC (ev d) i63.body (Ev.start args)) := ev_fn (by kernel_rfl) d args hl
theorem s64 (d : Nat) (args : List LV) (hl : args.length = i64.nargs) : ev (d + 1) 64 args = Ev.finish i64.res (evC (ev d) i64.body (Ev.start args)) := ev_fn (by kernel_rfl) d args hl
theorem s65 (d : Nat) (args : List LV) (hl : args.length = i65.nargs) : ev (d + 1) 65 args = Ev.finish i65.res (evC (ev d) i65.body (Ev.start args)) := ev_fn (by kernel_rfl) d args hl
theorem s66 (d : Nat) (args : List LV) (hl : args.length = i66.nargs) : ev (d + 1) 66 args = Ev.finish i66.res (evC (ev d) i66.body (Ev.start args)) := ev_fn (by kernel_rfl) d args hl
theorem s67 (d : Nat) (args : List LV) (hl : args.length = i67.nargs) : ev (d + 1) 67 args = Ev.finish i67.res (evC (ev d) i67.body (Ev.start args)) := ev_fn (by kernel_rfl) d args hl
theorem s68 (d : Nat) (args : List LV) (hl : args.length = i68.nargs) : ev (d + 1) 68 args = Ev.finish i68.res (evC (ev d) i68.body (Ev.start args)) := ev_fn (by kernel_rfl) d args hl
theorem s69 (d : Nat) (args : List LV) (hl : args.length = i69.nargs) : ev (d + 1) 69 args = Ev.finish i69.res (evC (ev d) i69.body (Ev.start args)) := ev_fn (by kernel_rfl) d args hl
theorem s70 (d : Nat) (args : List LV) (hl : args.length = i70.nargs) : ev (d + 1) 70 args = Ev.finish i70.res (evC (ev d) i70.body (Ev.start args)) := ev_fn (by kernel_rfl) d args hl
theorem s71 (d : Nat) (args : List LV) (hl : args.length = i71.nargs) : ev (d + 1) 71 args = Ev.finish i71.res (evC (ev d) i71.body (Ev.start args)) := ev_fn (by kernel_rfl) d args hl
theorem s72 (d : Nat) (args : List LV) (hl : args.length = i72.nargs) : ev (d + 1) 72 args = Ev.finish i72.res (evC (ev d) i72.body (Ev.start args)) := ev_fn (by kernel_rfl) d args hl
theorem s73 (d : Nat) (args : List LV) (hl : args.length = i73.nargs) : ev (d + 1) 73 args = Ev.finish i73.res (evC (ev d) i73.body (Ev.start args)) := ev_fn (by kernel_rfl) d args hl
theorem s74 (d : Nat) (args : List LV) (hl : args.length = i74.nargs) : ev (d + 1) 74 args = Ev.finish i74.res (evC (ev d) i74.body (Ev.start args)) := ev_fn (by kernel_rfl) d args hl
theorem s75 (d : Nat) (args : List LV) (hl : args.length = i75.nargs) : ev (d + 1) 75 args = Ev.finish i75.res (evC (ev d) i75.body (Ev.start args)) := ev_fn (by kernel_rfl) d args hl
theorem s76 (d : Nat) (args : List LV) (hl : args.length = i76.nargs) : ev (d + 1) 76 args = Ev.finish i76.res (evC (ev d) i76.body (Ev.start args)) := ev_fn (by kernel_rfl) d args hl
end Go.Proofs.Ytjdcohcdgdjobaa.walkS
