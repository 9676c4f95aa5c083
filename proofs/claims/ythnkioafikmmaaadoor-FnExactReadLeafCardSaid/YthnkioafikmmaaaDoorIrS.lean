/- The functions that some rows reach, turned; no conditions. -/
import Derived.Test.YthnkioafikmmaaaDoorIrS1
import Derived.KernelRfl
import Derived.Test.YthnkioafikmmaaaDoorProg
namespace Go.Proofs.YthnkioafikmmaaaDoor.walkS
open Go Go.Proofs.YthnkioafikmmaaaDoor.Ev
def w89_1 : IC :=
(.seq
 (.reg false [⟨9, .ar .lss false (.t 8) (.t 7), none, false⟩])
 (.seq
 (.ite (.t 9)
 .skip
 (.exit 0))
 (.seq
 (.block 1
 (.seq
 (.reg false [⟨10, .mv (.t 8), none, false⟩,
 ⟨5, .mv (.t 10), none, false⟩])
 (.seq
 (.reg false [⟨11, .mv (.t 1), none, false⟩,
 ⟨12, .mv (.t 0), none, false⟩,
 ⟨13, .mv (.t 5), none, false⟩,
 ⟨14, .ia 4 (.t 12) (.t 13), none, false⟩,
 ⟨15, .ld 4 true (.t 14), none, false⟩,
 ⟨16, .ca (.t 11) [(.t 15)], none, false⟩])
 (.ite (.t 16)
 (.seq
 (.reg false [⟨17, .mv (.t 5), none, false⟩,
 ⟨4, .mv (.t 17), none, false⟩])
 .ret)
 .skip))))
 (.reg false [⟨18, .ar .add false (.t 8) (.k (.sc (.int .i64 1))), none, false⟩,
 ⟨8, .mv (.t 18), none, false⟩]))))
def b89_1 : IC := w89_1
theorem u89_1 (call : CallF) (st : St) : evC call b89_1 st = evC call w89_1 st := rfl
attribute [simp] u89_1 w89_1
def i89 : Ev.Fn := ⟨2, 19, [.tmp 4],
 (.seq
 (.reg false [⟨4, .mv (.k (.sc (.int .i64 0))), none, false⟩])
 (.seq
 (.seq
 (.reg false [⟨6, .mv (.t 0), none, false⟩,
 ⟨7, .ln false (.t 6), none, false⟩,
 ⟨8, .mv (.k (.sc (.int .i64 0))), none, false⟩])
 (.cln [] [4]
 (.block 0
 (.loop [0, 1, 7, 8] b89_1))))
 (.seq
 (.reg false [⟨4, .mv (.k (.sc (.int .i64 (-1)))), none, false⟩])
 .ret)))⟩
attribute [simp] i89
set_option maxRecDepth 1000000 in
theorem c89 : cFn Tryd.prog 89 [[], [0, 1, 7, 8], [], [4]] = some i89 := by kernel_rfl
theorem e89 : enterOk Tryd.prog 89 = true := by kernel_rfl
def i95 : Ev.Fn := ⟨2, 18, [.tmp 4],
 (.seq
 (.reg false [⟨4, .mv (.k (.sc (.bool false))), none, false⟩])
 (.seq
 (.reg false [⟨5, .mv (.t 0), none, false⟩,
 ⟨6, .ln true (.t 5), none, false⟩,
 ⟨7, .mv (.t 1), none, false⟩,
 ⟨8, .ln true (.t 7), none, false⟩,
 ⟨9, .ar .geq false (.t 6) (.t 8), none, false⟩,
 ⟨10, .mv (.t 9), none, false⟩,
 ⟨11, .mv (.t 0), (some (10, true)), false⟩,
 ⟨12, .mv (.t 1), (some (10, true)), false⟩,
 ⟨13, .ln true (.t 12), (some (10, true)), false⟩,
 ⟨14, .sl 0 (.t 11) none (some (.t 13)), (some (10, true)), false⟩,
 ⟨15, .mv (.t 1), (some (10, true)), false⟩,
 ⟨16, .ar .eql false (.t 14) (.t 15), (some (10, true)), false⟩,
 ⟨17, .pk (.t 10) (.t 16) (.k (.sc (.bool false))), none, false⟩,
 ⟨4, .mv (.t 17), none, false⟩])
 .ret))⟩
attribute [simp] i95
set_option maxRecDepth 1000000 in
theorem c95 : cFn Tryd.prog 95 [[]] = some i95 := by kernel_rfl
theorem e95 : enterOk Tryd.prog 95 = true := by kernel_rfl
def i96 : Ev.Fn := ⟨2, 23, [.tmp 4, .tmp 5, .tmp 6],
 (.seq
 (.reg false [⟨4, .mv (.k (.sc (.string ⟨#[]⟩))), none, false⟩,
 ⟨5, .mv (.k (.sc (.string ⟨#[]⟩))), none, false⟩,
 ⟨6, .mv (.k (.sc (.bool false))), none, false⟩])
 (.seq
 (.seq
 (.reg false [⟨8, .mv (.t 0), none, false⟩,
 ⟨9, .mv (.t 1), none, false⟩,
 ⟨10, .ca (.k (.cl 106 [])) [(.t 8), (.t 9)], none, false⟩,
 ⟨7, .mv (.t 10), none, false⟩])
 (.seq
 (.reg false [⟨11, .mv (.t 7), none, false⟩,
 ⟨12, .ar .geq false (.t 11) (.k (.sc (.int .i64 0))), none, false⟩])
 (.ite (.t 12)
 (.seq
 (.reg true [⟨13, .mv (.t 0), none, false⟩,
 ⟨14, .mv (.t 7), none, false⟩,
 ⟨15, .sl 0 (.t 13) none (some (.t 14)), none, false⟩,
 ⟨16, .mv (.t 0), none, false⟩,
 ⟨17, .mv (.t 7), none, false⟩,
 ⟨18, .mv (.t 1), none, false⟩,
 ⟨19, .ln true (.t 18), none, false⟩,
 ⟨20, .ar .add false (.t 17) (.t 19), none, false⟩,
 ⟨21, .sl 0 (.t 16) (some (.t 20)) none, none, false⟩,
 ⟨4, .mv (.t 15), none, false⟩,
 ⟨5, .mv (.t 21), none, false⟩,
 ⟨6, .mv (.k (.sc (.bool true))), none, false⟩])
 .ret)
 .skip)))
 (.seq
 (.reg false [⟨22, .mv (.t 0), none, false⟩,
 ⟨4, .mv (.t 22), none, false⟩,
 ⟨5, .mv (.k (.sc (.string ⟨#[]⟩))), none, false⟩,
 ⟨6, .mv (.k (.sc (.bool false))), none, false⟩])
 .ret)))⟩
attribute [simp] i96
set_option maxRecDepth 1000000 in
theorem c96 : cFn Tryd.prog 96 [[]] = some i96 := by kernel_rfl
theorem e96 : enterOk Tryd.prog 96 = true := by kernel_rfl
theorem mixed : Tryd.prog.follows .mixedOrders = true := by kernel_rfl
def Ft : List (Nat × Ev.Fn) := [(8, i8), (12, i12), (19, i19), (20, i20), (22, i22), (23, i23), (27, i27), (28, i28), (29, i29), (30, i30), (31, i31), (33, i33), (34, i34), (38, i38), (40, i40), (43, i43), (44, i44), (46, i46), (47, i47), (49, i49), (50, i50), (51, i51), (52, i52), (53, i53), (54, i54), (55, i55), (56, i56), (57, i57), (58, i58), (59, i59), (60, i60), (62, i62), (63, i63), (67, i67), (68, i68), (70, i70), (71, i71), (72, i72), (73, i73), (77, i77), (78, i78), (79, i79), (81, i81), (82, i82), (83, i83), (84, i84), (85, i85), (87, i87), (88, i88), (89, i89), (95, i95), (96, i96)]
def F : Nat → Option Ev.Fn := getF Ft
noncomputable def ev (d : Nat) : CallF := evF F prim d
theorem ev_fn {f : Nat} {fn : Ev.Fn} (h : F f = some fn) (d : Nat) (args : List LV) (hl : args.length = fn.nargs) : ev (d + 1) f args = Ev.finish fn.res (evC (ev d) fn.body (Ev.start args)) := evF_fn h d args hl
set_option maxRecDepth 1000000 in
theorem tab : ∀ f fn, F f = some fn → enterOk Tryd.prog f = true ∧ ∃ ks, cFn Tryd.prog f ks = some fn :=
  tabF (L := Ft) ⟨⟨e8, _, c8⟩, ⟨e12, _, c12⟩, ⟨e19, _, c19⟩, ⟨e20, _, c20⟩, ⟨e22, _, c22⟩, ⟨e23, _, c23⟩, ⟨e27, _, c27⟩, ⟨e28, _, c28⟩, ⟨e29, _, c29⟩, ⟨e30, _, c30⟩, ⟨e31, _, c31⟩, ⟨e33, _, c33⟩, ⟨e34, _, c34⟩, ⟨e38, _, c38⟩, ⟨e40, _, c40⟩, ⟨e43, _, c43⟩, ⟨e44, _, c44⟩, ⟨e46, _, c46⟩, ⟨e47, _, c47⟩, ⟨e49, _, c49⟩, ⟨e50, _, c50⟩, ⟨e51, _, c51⟩, ⟨e52, _, c52⟩, ⟨e53, _, c53⟩, ⟨e54, _, c54⟩, ⟨e55, _, c55⟩, ⟨e56, _, c56⟩, ⟨e57, _, c57⟩, ⟨e58, _, c58⟩, ⟨e59, _, c59⟩, ⟨e60, _, c60⟩, ⟨e62, _, c62⟩, ⟨e63, _, c63⟩, ⟨e67, _, c67⟩, ⟨e68, _, c68⟩, ⟨e70, _, c70⟩, ⟨e71, _, c71⟩, ⟨e72, _, c72⟩, ⟨e73, _, c73⟩, ⟨e77, _, c77⟩, ⟨e78, _, c78⟩, ⟨e79, _, c79⟩, ⟨e81, _, c81⟩, ⟨e82, _, c82⟩, ⟨e83, _, c83⟩, ⟨e84, _, c84⟩, ⟨e85, _, c85⟩, ⟨e87, _, c87⟩, ⟨e88, _, c88⟩, ⟨e89, _, c89⟩, ⟨e95, _, c95⟩, ⟨e96, _, c96⟩, trivial⟩
theorem tabn : ∀ f fn, F f = some fn → f < wrN := tabN (L := Ft) (by kernel_rfl)
theorem callOk (m : Int) (d : Nat) : CallOk (TT m) Tryd.prog (ev d) := (evF_ok2 mixed tab tabn (prim_ok m) (prim_okW m) d).1
abbrev I (n : Int) : LV := .sc (.int .i64 n)
abbrev B (b : Bool) : LV := .sc (.bool b)
abbrev T (s : ByteArray) : LV := .sc (.string s)
theorem s8 (d : Nat) (args : List LV) (hl : args.length = i8.nargs) : ev (d + 1) 8 args = Ev.finish i8.res (evC (ev d) i8.body (Ev.start args)) := ev_fn (by kernel_rfl) d args hl
theorem s12 (d : Nat) (args : List LV) (hl : args.length = i12.nargs) : ev (d + 1) 12 args = Ev.finish i12.res (evC (ev d) i12.body (Ev.start args)) := ev_fn (by kernel_rfl) d args hl
theorem s19 (d : Nat) (args : List LV) (hl : args.length = i19.nargs) : ev (d + 1) 19 args = Ev.finish i19.res (evC (ev d) i19.body (Ev.start args)) := ev_fn (by kernel_rfl) d args hl
theorem s20 (d : Nat) (args : List LV) (hl : args.length = i20.nargs) : ev (d + 1) 20 args = Ev.finish i20.res (evC (ev d) i20.body (Ev.start args)) := ev_fn (by kernel_rfl) d args hl
theorem s22 (d : Nat) (args : List LV) (hl : args.length = i22.nargs) : ev (d + 1) 22 args = Ev.finish i22.res (evC (ev d) i22.body (Ev.start args)) := ev_fn (by kernel_rfl) d args hl
theorem s23 (d : Nat) (args : List LV) (hl : args.length = i23.nargs) : ev (d + 1) 23 args = Ev.finish i23.res (evC (ev d) i23.body (Ev.start args)) := ev_fn (by kernel_rfl) d args hl
theorem s27 (d : Nat) (args : List LV) (hl : args.length = i27.nargs) : ev (d + 1) 27 args = Ev.finish i27.res (evC (ev d) i27.body (Ev.start args)) := ev_fn (by kernel_rfl) d args hl
theorem s28 (d : Nat) (args : List LV) (hl : args.length = i28.nargs) : ev (d + 1) 28 args = Ev.finish i28.res (evC (ev d) i28.body (Ev.start args)) := ev_fn (by kernel_rfl) d args hl
theorem s29 (d : Nat) (args : List LV) (hl : args.length = i29.nargs) : ev (d + 1) 29 args = Ev.finish i29.res (evC (ev d) i29.body (Ev.start args)) := ev_fn (by kernel_rfl) d args hl
theorem s30 (d : Nat) (args : List LV) (hl : args.length = i30.nargs) : ev (d + 1) 30 args = Ev.finish i30.res (evC (ev d) i30.body (Ev.start args)) := ev_fn (by kernel_rfl) d args hl
theorem s31 (d : Nat) (args : List LV) (hl : args.length = i31.nargs) : ev (d + 1) 31 args = Ev.finish i31.res (evC (ev d) i31.body (Ev.start args)) := ev_fn (by kernel_rfl) d args hl
theorem s33 (d : Nat) (args : List LV) (hl : args.length = i33.nargs) : ev (d + 1) 33 args = Ev.finish i33.res (evC (ev d) i33.body (Ev.start args)) := ev_fn (by kernel_rfl) d args hl
theorem s34 (d : Nat) (args : List LV) (hl : args.length = i34.nargs) : ev (d + 1) 34 args = Ev.finish i34.res (evC (ev d) i34.body (Ev.start args)) := ev_fn (by kernel_rfl) d args hl
theorem s38 (d : Nat) (args : List LV) (hl : args.length = i38.nargs) : ev (d + 1) 38 args = Ev.finish i38.res (evC (ev d) i38.body (Ev.start args)) := ev_fn (by kernel_rfl) d args hl
theorem s40 (d : Nat) (args : List LV) (hl : args.length = i40.nargs) : ev (d + 1) 40 args = Ev.finish i40.res (evC (ev d) i40.body (Ev.start args)) := ev_fn (by kernel_rfl) d args hl
theorem s43 (d : Nat) (args : List LV) (hl : args.length = i43.nargs) : ev (d + 1) 43 args = Ev.finish i43.res (evC (ev d) i43.body (Ev.start args)) := ev_fn (by kernel_rfl) d args hl
theorem s44 (d : Nat) (args : List LV) (hl : args.length = i44.nargs) : ev (d + 1) 44 args = Ev.finish i44.res (evC (ev d) i44.body (Ev.start args)) := ev_fn (by kernel_rfl) d args hl
theorem s46 (d : Nat) (args : List LV) (hl : args.length = i46.nargs) : ev (d + 1) 46 args = Ev.finish i46.res (evC (ev d) i46.body (Ev.start args)) := ev_fn (by kernel_rfl) d args hl
theorem s47 (d : Nat) (args : List LV) (hl : args.length = i47.nargs) : ev (d + 1) 47 args = Ev.finish i47.res (evC (ev d) i47.body (Ev.start args)) := ev_fn (by kernel_rfl) d args hl
theorem s49 (d : Nat) (args : List LV) (hl : args.length = i49.nargs) : ev (d + 1) 49 args = Ev.finish i49.res (evC (ev d) i49.body (Ev.start args)) := ev_fn (by kernel_rfl) d args hl
theorem s50 (d : Nat) (args : List LV) (hl : args.length = i50.nargs) : ev (d + 1) 50 args = Ev.finish i50.res (evC (ev d) i50.body (Ev.start args)) := ev_fn (by kernel_rfl) d args hl
theorem s51 (d : Nat) (args : List LV) (hl : args.length = i51.nargs) : ev (d + 1) 51 args = Ev.finish i51.res (evC (ev d) i51.body (Ev.start args)) := ev_fn (by kernel_rfl) d args hl
theorem s52 (d : Nat) (args : List LV) (hl : args.length = i52.nargs) : ev (d + 1) 52 args = Ev.finish i52.res (evC (ev d) i52.body (Ev.start args)) := ev_fn (by kernel_rfl) d args hl
theorem s53 (d : Nat) (args : List LV) (hl : args.length = i53.nargs) : ev (d + 1) 53 args = Ev.finish i53.res (evC (ev d) i53.body (Ev.start args)) := ev_fn (by kernel_rfl) d args hl
theorem s54 (d : Nat) (args : List LV) (hl : args.length = i54.nargs) : ev (d + 1) 54 args = Ev.finish i54.res (evC (ev d) i54.body (Ev.start args)) := ev_fn (by kernel_rfl) d args hl
theorem s55 (d : Nat) (args : List LV) (hl : args.length = i55.nargs) : ev (d + 1) 55 args = Ev.finish i55.res (evC (ev d) i55.body (Ev.start args)) := ev_fn (by kernel_rfl) d args hl
theorem s56 (d : Nat) (args : List LV) (hl : args.length = i56.nargs) : ev (d + 1) 56 args = Ev.finish i56.res (evC (ev d) i56.body (Ev.start args)) := ev_fn (by kernel_rfl) d args hl
theorem s57 (d : Nat) (args : List LV) (hl : args.length = i57.nargs) : ev (d + 1) 57 args = Ev.finish i57.res (evC (ev d) i57.body (Ev.start args)) := ev_fn (by kernel_rfl) d args hl
theorem s58 (d : Nat) (args : List LV) (hl : args.length = i58.nargs) : ev (d + 1) 58 args = Ev.finish i58.res (evC (ev d) i58.body (Ev.start args)) := ev_fn (by kernel_rfl) d args hl
theorem s59 (d : Nat) (args : List LV) (hl : args.length = i59.nargs) : ev (d + 1) 59 args = Ev.finish i59.res (evC (ev d) i59.body (Ev.start args)) := ev_fn (by kernel_rfl) d args hl
theorem s60 (d : Nat) (args : List LV) (hl : args.length = i60.nargs) : ev (d + 1) 60 args = Ev.finish i60.res (evC (ev d) i60.body (Ev.start args)) := ev_fn (by kernel_rfl) d args hl
theorem s62 (d : Nat) (args : List LV) (hl : args.length = i62.nargs) : ev (d + 1) 62 args = Ev.finish i62.res (evC (ev d) i62.body (Ev.start args)) := ev_fn (by kernel_rfl) d args hl
theorem s63 (d : Nat) (args : List LV) (hl : args.length = i63.nargs) : ev (d + 1) 63 args = Ev.finish i63.res (evC (ev d) i63.body (Ev.start args)) := ev_fn (by kernel_rfl) d args hl
theorem s67 (d : Nat) (args : List LV) (hl : args.length = i67.nargs) : ev (d + 1) 67 args = Ev.finish i67.res (evC (ev d) i67.body (Ev.start args)) := ev_fn (by kernel_rfl) d args hl
theorem s68 (d : Nat) (args : List LV) (hl : args.length = i68.nargs) : ev (d + 1) 68 args = Ev.finish i68.res (evC (ev d) i68.body (Ev.start args)) := ev_fn (by kernel_rfl) d args hl
theorem s70 (d : Nat) (args : List LV) (hl : args.length = i70.nargs) : ev (d + 1) 70 args = Ev.finish i70.res (evC (ev d) i70.body (Ev.start args)) := ev_fn (by kernel_rfl) d args hl
theorem s71 (d : Nat) (args : List LV) (hl : args.length = i71.nargs) : ev (d + 1) 71 args = Ev.finish i71.res (evC (ev d) i71.body (Ev.start args)) := ev_fn (by kernel_rfl) d args hl
theorem s72 (d : Nat) (args : List LV) (hl : args.length = i72.nargs) : ev (d + 1) 72 args = Ev.finish i72.res (evC (ev d) i72.body (Ev.start args)) := ev_fn (by kernel_rfl) d args hl
theorem s73 (d : Nat) (args : List LV) (hl : args.length = i73.nargs) : ev (d + 1) 73 args = Ev.finish i73.res (evC (ev d) i73.body (Ev.start args)) := ev_fn (by kernel_rfl) d args hl
theorem s77 (d : Nat) (args : List LV) (hl : args.length = i77.nargs) : ev (d + 1) 77 args = Ev.finish i77.res (evC (ev d) i77.body (Ev.start args)) := ev_fn (by kernel_rfl) d args hl
theorem s78 (d : Nat) (args : List LV) (hl : args.length = i78.nargs) : ev (d + 1) 78 args = Ev.finish i78.res (evC (ev d) i78.body (Ev.start args)) := ev_fn (by kernel_rfl) d args hl
theorem s79 (d : Nat) (args : List LV) (hl : args.length = i79.nargs) : ev (d + 1) 79 args = Ev.finish i79.res (evC (ev d) i79.body (Ev.start args)) := ev_fn (by kernel_rfl) d args hl
theorem s81 (d : Nat) (args : List LV) (hl : args.length = i81.nargs) : ev (d + 1) 81 args = Ev.finish i81.res (evC (ev d) i81.body (Ev.start args)) := ev_fn (by kernel_rfl) d args hl
theorem s82 (d : Nat) (args : List LV) (hl : args.length = i82.nargs) : ev (d + 1) 82 args = Ev.finish i82.res (evC (ev d) i82.body (Ev.start args)) := ev_fn (by kernel_rfl) d args hl
theorem s83 (d : Nat) (args : List LV) (hl : args.length = i83.nargs) : ev (d + 1) 83 args = Ev.finish i83.res (evC (ev d) i83.body (Ev.start args)) := ev_fn (by kernel_rfl) d args hl
theorem s84 (d : Nat) (args : List LV) (hl : args.length = i84.nargs) : ev (d + 1) 84 args = Ev.finish i84.res (evC (ev d) i84.body (Ev.start args)) := ev_fn (by kernel_rfl) d args hl
theorem s85 (d : Nat) (args : List LV) (hl : args.length = i85.nargs) : ev (d + 1) 85 args = Ev.finish i85.res (evC (ev d) i85.body (Ev.start args)) := ev_fn (by kernel_rfl) d args hl
theorem s87 (d : Nat) (args : List LV) (hl : args.length = i87.nargs) : ev (d + 1) 87 args = Ev.finish i87.res (evC (ev d) i87.body (Ev.start args)) := ev_fn (by kernel_rfl) d args hl
theorem s88 (d : Nat) (args : List LV) (hl : args.length = i88.nargs) : ev (d + 1) 88 args = Ev.finish i88.res (evC (ev d) i88.body (Ev.start args)) := ev_fn (by kernel_rfl) d args hl
theorem s89 (d : Nat) (args : List LV) (hl : args.length = i89.nargs) : ev (d + 1) 89 args = Ev.finish i89.res (evC (ev d) i89.body (Ev.start args)) := ev_fn (by kernel_rfl) d args hl
theorem s95 (d : Nat) (args : List LV) (hl : args.length = i95.nargs) : ev (d + 1) 95 args = Ev.finish i95.res (evC (ev d) i95.body (Ev.start args)) := ev_fn (by kernel_rfl) d args hl
theorem s96 (d : Nat) (args : List LV) (hl : args.length = i96.nargs) : ev (d + 1) 96 args = Ev.finish i96.res (evC (ev d) i96.body (Ev.start args)) := ev_fn (by kernel_rfl) d args hl
theorem v29 (d : Nat) {args bs : List LV} {st : St} (hs : startW args = some (bs, st)) (hl : bs.length = i29.nargs) : ev (d + 1) (wrN + 29) args = finishW bs i29.res (evC (ev d) i29.body st) := evF_fnW (by kernel_rfl) tabn d hs hl
theorem v55 (d : Nat) {args bs : List LV} {st : St} (hs : startW args = some (bs, st)) (hl : bs.length = i55.nargs) : ev (d + 1) (wrN + 55) args = finishW bs i55.res (evC (ev d) i55.body st) := evF_fnW (by kernel_rfl) tabn d hs hl
theorem q64R (d : Nat) (args : List LV) : ev d 64 args = prim 64 args := evF_prim (by kernel_rfl) (by decide) d args
theorem q64W (d : Nat) (args : List LV) : ev d (wrN + 64) args = prim (wrN + 64) args := evF_primW (by kernel_rfl) tabn (by decide) d args
theorem q64M (d : Nat) (args : List LV) : ev d (mvN + 64) args = prim (mvN + 64) args := evF_primM (by kernel_rfl) tabn (by decide) d args
theorem q45R (d : Nat) (args : List LV) : ev d 45 args = prim 45 args := evF_prim (by kernel_rfl) (by decide) d args
theorem q45W (d : Nat) (args : List LV) : ev d (wrN + 45) args = prim (wrN + 45) args := evF_primW (by kernel_rfl) tabn (by decide) d args
theorem q45M (d : Nat) (args : List LV) : ev d (mvN + 45) args = prim (mvN + 45) args := evF_primM (by kernel_rfl) tabn (by decide) d args
theorem q48R (d : Nat) (args : List LV) : ev d 48 args = prim 48 args := evF_prim (by kernel_rfl) (by decide) d args
theorem q48W (d : Nat) (args : List LV) : ev d (wrN + 48) args = prim (wrN + 48) args := evF_primW (by kernel_rfl) tabn (by decide) d args
theorem q48M (d : Nat) (args : List LV) : ev d (mvN + 48) args = prim (mvN + 48) args := evF_primM (by kernel_rfl) tabn (by decide) d args
theorem q106R (d : Nat) (args : List LV) : ev d 106 args = prim 106 args := evF_prim (by kernel_rfl) (by decide) d args
theorem q106W (d : Nat) (args : List LV) : ev d (wrN + 106) args = prim (wrN + 106) args := evF_primW (by kernel_rfl) tabn (by decide) d args
theorem q106M (d : Nat) (args : List LV) : ev d (mvN + 106) args = prim (mvN + 106) args := evF_primM (by kernel_rfl) tabn (by decide) d args
end Go.Proofs.YthnkioafikmmaaaDoor.walkS
