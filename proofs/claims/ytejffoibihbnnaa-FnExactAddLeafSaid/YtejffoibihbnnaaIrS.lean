/- The functions that some rows reach, turned; no conditions. -/
import Derived.Test.YtejffoibihbnnaaIrS1
import Derived.KernelRfl
import Derived.Test.YtejffoibihbnnaaProg
namespace Go.Proofs.Ytejffoibihbnnaa.walkS
open Go Go.Proofs.Ytejffoibihbnnaa.Ev
def i293 : Ev.Fn := ⟨1, 27, [.tmp 2, .tmp 3, .tmp 4, .tmp 5],
 (.seq
 (.reg false [⟨2, .mv (.k (.sc (.int .i64 0))), none, false⟩,
 ⟨3, .mv (.k (.sc (.int .i64 0))), none, false⟩,
 ⟨4, .mv (.k (.sc (.int .i64 0))), none, false⟩,
 ⟨5, .mv (.k (.sc (.int .i64 0))), none, false⟩])
 (.seq
 (.seq
 (.reg false [⟨6, .mv (.t 0), none, false⟩])
 (.block 0
 (.seq
 (.reg false [⟨8, .ar .eql false (.t 6) (.k (.sc (.string ⟨#[97, 115, 104]⟩))), none, false⟩,
 ⟨7, .mv (.t 8), none, false⟩])
 (.ite (.t 7)
 (.seq
 (.reg false [⟨2, .mv (.k (.sc (.int .i64 20))), none, false⟩,
 ⟨3, .mv (.k (.sc (.int .i64 40))), none, false⟩,
 ⟨4, .mv (.k (.sc (.int .i64 310))), none, false⟩,
 ⟨5, .mv (.k (.sc (.int .i64 0))), none, false⟩])
 .ret)
 (.seq
 (.reg false [⟨10, .ar .eql false (.t 6) (.k (.sc (.string ⟨#[98, 101, 101, 99, 104]⟩))), none, false⟩,
 ⟨9, .mv (.t 10), none, false⟩])
 (.ite (.t 9)
 (.seq
 (.reg false [⟨2, .mv (.k (.sc (.int .i64 35))), none, false⟩,
 ⟨3, .mv (.k (.sc (.int .i64 45))), none, false⟩,
 ⟨4, .mv (.k (.sc (.int .i64 410))), none, false⟩,
 ⟨5, .mv (.k (.sc (.int .i64 0))), none, false⟩])
 .ret)
 (.seq
 (.reg false [⟨12, .ar .eql false (.t 6) (.k (.sc (.string ⟨#[98, 105, 114, 99, 104]⟩))), none, false⟩,
 ⟨11, .mv (.t 12), none, false⟩])
 (.ite (.t 11)
 (.seq
 (.reg false [⟨2, .mv (.k (.sc (.int .i64 15))), none, false⟩,
 ⟨3, .mv (.k (.sc (.int .i64 33))), none, false⟩,
 ⟨4, .mv (.k (.sc (.int .i64 280))), none, false⟩,
 ⟨5, .mv (.k (.sc (.int .i64 0))), none, false⟩])
 .ret)
 (.seq
 (.reg false [⟨14, .ar .eql false (.t 6) (.k (.sc (.string ⟨#[99, 104, 101, 114, 114, 121]⟩))), none, false⟩,
 ⟨13, .mv (.t 14), none, false⟩])
 (.ite (.t 13)
 (.seq
 (.reg false [⟨2, .mv (.k (.sc (.int .i64 50))), none, false⟩,
 ⟨3, .mv (.k (.sc (.int .i64 36))), none, false⟩,
 ⟨4, .mv (.k (.sc (.int .i64 240))), none, false⟩,
 ⟨5, .mv (.k (.sc (.int .i64 0))), none, false⟩])
 .ret)
 (.seq
 (.reg false [⟨16, .ar .eql false (.t 6) (.k (.sc (.string ⟨#[101, 98, 111, 110, 121]⟩))), none, false⟩,
 ⟨15, .mv (.t 16), none, false⟩])
 (.ite (.t 15)
 (.seq
 (.reg false [⟨2, .mv (.k (.sc (.int .i64 95))), none, false⟩,
 ⟨3, .mv (.k (.sc (.int .i64 85))), none, false⟩,
 ⟨4, .mv (.k (.sc (.int .i64 270))), none, false⟩,
 ⟨5, .mv (.k (.sc (.int .i64 0))), none, false⟩])
 .ret)
 (.seq
 (.reg false [⟨18, .ar .eql false (.t 6) (.k (.sc (.string ⟨#[104, 111, 108, 108, 121]⟩))), none, false⟩,
 ⟨17, .mv (.t 18), none, false⟩])
 (.ite (.t 17)
 (.seq
 (.reg false [⟨2, .mv (.k (.sc (.int .i64 5))), none, false⟩,
 ⟨3, .mv (.k (.sc (.int .i64 35))), none, false⟩,
 ⟨4, .mv (.k (.sc (.int .i64 370))), none, false⟩,
 ⟨5, .mv (.k (.sc (.int .i64 0))), none, false⟩])
 .ret)
 (.seq
 (.reg false [⟨20, .ar .eql false (.t 6) (.k (.sc (.string ⟨#[109, 97, 112, 108, 101]⟩))), none, false⟩,
 ⟨19, .mv (.t 20), none, false⟩])
 (.ite (.t 19)
 (.seq
 (.reg false [⟨2, .mv (.k (.sc (.int .i64 10))), none, false⟩,
 ⟨3, .mv (.k (.sc (.int .i64 42))), none, false⟩,
 ⟨4, .mv (.k (.sc (.int .i64 290))), none, false⟩,
 ⟨5, .mv (.k (.sc (.int .i64 0))), none, false⟩])
 .ret)
 (.seq
 (.reg false [⟨22, .ar .eql false (.t 6) (.k (.sc (.string ⟨#[111, 97, 107]⟩))), none, false⟩,
 ⟨21, .mv (.t 22), none, false⟩])
 (.ite (.t 21)
 (.seq
 (.reg false [⟨2, .mv (.k (.sc (.int .i64 40))), none, false⟩,
 ⟨3, .mv (.k (.sc (.int .i64 40))), none, false⟩,
 ⟨4, .mv (.k (.sc (.int .i64 330))), none, false⟩,
 ⟨5, .mv (.k (.sc (.int .i64 0))), none, false⟩])
 .ret)
 (.seq
 (.reg false [⟨24, .ar .eql false (.t 6) (.k (.sc (.string ⟨#[114, 111, 115, 101, 119, 111, 111, 100]⟩))), none, false⟩,
 ⟨23, .mv (.t 24), none, false⟩])
 (.ite (.t 23)
 (.seq
 (.reg false [⟨2, .mv (.k (.sc (.int .i64 80))), none, false⟩,
 ⟨3, .mv (.k (.sc (.int .i64 60))), none, false⟩,
 ⟨4, .mv (.k (.sc (.int .i64 220))), none, false⟩,
 ⟨5, .mv (.k (.sc (.int .i64 0))), none, false⟩])
 .ret)
 (.seq
 (.reg false [⟨26, .ar .eql false (.t 6) (.k (.sc (.string ⟨#[119, 97, 108, 110, 117, 116]⟩))), none, false⟩,
 ⟨25, .mv (.t 26), none, false⟩])
 (.ite (.t 25)
 (.seq
 (.reg false [⟨2, .mv (.k (.sc (.int .i64 70))), none, false⟩,
 ⟨3, .mv (.k (.sc (.int .i64 38))), none, false⟩,
 ⟨4, .mv (.k (.sc (.int .i64 260))), none, false⟩,
 ⟨5, .mv (.k (.sc (.int .i64 0))), none, false⟩])
 .ret)
 .skip))))))))))))))))))))))
 (.seq
 (.reg false [⟨2, .mv (.k (.sc (.int .i64 0))), none, false⟩,
 ⟨3, .mv (.k (.sc (.int .i64 0))), none, false⟩,
 ⟨4, .mv (.k (.sc (.int .i64 0))), none, false⟩,
 ⟨5, .mv (.k (.sc (.int .i64 3))), none, false⟩])
 .ret)))⟩
attribute [simp] i293
set_option maxRecDepth 1000000 in
theorem c293 : cFn Try.prog 293 [[]] = some i293 := by kernel_rfl
theorem e293 : enterOk Try.prog 293 = true := by kernel_rfl
theorem mixed : Try.prog.follows .mixedOrders = true := by kernel_rfl
def Ft : List (Nat × Ev.Fn) := [(6, i6), (15, i15), (17, i17), (19, i19), (20, i20), (28, i28), (30, i30), (32, i32), (33, i33), (34, i34), (35, i35), (36, i36), (37, i37), (72, i72), (73, i73), (74, i74), (76, i76), (77, i77), (78, i78), (79, i79), (83, i83), (84, i84), (101, i101), (102, i102), (103, i103), (104, i104), (105, i105), (107, i107), (108, i108), (109, i109), (110, i110), (111, i111), (113, i113), (162, i162), (165, i165), (168, i168), (169, i169), (170, i170), (174, i174), (175, i175), (176, i176), (177, i177), (178, i178), (179, i179), (192, i192), (193, i193), (197, i197), (246, i246), (247, i247), (248, i248), (249, i249), (250, i250), (252, i252), (292, i292), (293, i293)]
def F : Nat → Option Ev.Fn := getF Ft
noncomputable def ev (d : Nat) : CallF := evF F prim d
theorem ev_fn {f : Nat} {fn : Ev.Fn} (h : F f = some fn) (d : Nat) (args : List LV) (hl : args.length = fn.nargs) : ev (d + 1) f args = Ev.finish fn.res (evC (ev d) fn.body (Ev.start args)) := evF_fn h d args hl
set_option maxRecDepth 1000000 in
theorem tab : ∀ f fn, F f = some fn → enterOk Try.prog f = true ∧ ∃ ks, cFn Try.prog f ks = some fn :=
  tabF (L := Ft) ⟨⟨e6, _, c6⟩, ⟨e15, _, c15⟩, ⟨e17, _, c17⟩, ⟨e19, _, c19⟩, ⟨e20, _, c20⟩, ⟨e28, _, c28⟩, ⟨e30, _, c30⟩, ⟨e32, _, c32⟩, ⟨e33, _, c33⟩, ⟨e34, _, c34⟩, ⟨e35, _, c35⟩, ⟨e36, _, c36⟩, ⟨e37, _, c37⟩, ⟨e72, _, c72⟩, ⟨e73, _, c73⟩, ⟨e74, _, c74⟩, ⟨e76, _, c76⟩, ⟨e77, _, c77⟩, ⟨e78, _, c78⟩, ⟨e79, _, c79⟩, ⟨e83, _, c83⟩, ⟨e84, _, c84⟩, ⟨e101, _, c101⟩, ⟨e102, _, c102⟩, ⟨e103, _, c103⟩, ⟨e104, _, c104⟩, ⟨e105, _, c105⟩, ⟨e107, _, c107⟩, ⟨e108, _, c108⟩, ⟨e109, _, c109⟩, ⟨e110, _, c110⟩, ⟨e111, _, c111⟩, ⟨e113, _, c113⟩, ⟨e162, _, c162⟩, ⟨e165, _, c165⟩, ⟨e168, _, c168⟩, ⟨e169, _, c169⟩, ⟨e170, _, c170⟩, ⟨e174, _, c174⟩, ⟨e175, _, c175⟩, ⟨e176, _, c176⟩, ⟨e177, _, c177⟩, ⟨e178, _, c178⟩, ⟨e179, _, c179⟩, ⟨e192, _, c192⟩, ⟨e193, _, c193⟩, ⟨e197, _, c197⟩, ⟨e246, _, c246⟩, ⟨e247, _, c247⟩, ⟨e248, _, c248⟩, ⟨e249, _, c249⟩, ⟨e250, _, c250⟩, ⟨e252, _, c252⟩, ⟨e292, _, c292⟩, ⟨e293, _, c293⟩, trivial⟩
theorem tabn : ∀ f fn, F f = some fn → f < wrN := tabN (L := Ft) (by kernel_rfl)
theorem callOk (d : Nat) : CallOk [] Try.prog (ev d) := (evF_ok2 mixed tab tabn prim_ok prim_okW d).1
abbrev I (n : Int) : LV := .sc (.int .i64 n)
abbrev B (b : Bool) : LV := .sc (.bool b)
abbrev T (s : ByteArray) : LV := .sc (.string s)
theorem s6 (d : Nat) (args : List LV) (hl : args.length = i6.nargs) : ev (d + 1) 6 args = Ev.finish i6.res (evC (ev d) i6.body (Ev.start args)) := ev_fn (by kernel_rfl) d args hl
theorem s15 (d : Nat) (args : List LV) (hl : args.length = i15.nargs) : ev (d + 1) 15 args = Ev.finish i15.res (evC (ev d) i15.body (Ev.start args)) := ev_fn (by kernel_rfl) d args hl
theorem s17 (d : Nat) (args : List LV) (hl : args.length = i17.nargs) : ev (d + 1) 17 args = Ev.finish i17.res (evC (ev d) i17.body (Ev.start args)) := ev_fn (by kernel_rfl) d args hl
theorem s19 (d : Nat) (args : List LV) (hl : args.length = i19.nargs) : ev (d + 1) 19 args = Ev.finish i19.res (evC (ev d) i19.body (Ev.start args)) := ev_fn (by kernel_rfl) d args hl
theorem s20 (d : Nat) (args : List LV) (hl : args.length = i20.nargs) : ev (d + 1) 20 args = Ev.finish i20.res (evC (ev d) i20.body (Ev.start args)) := ev_fn (by kernel_rfl) d args hl
theorem s28 (d : Nat) (args : List LV) (hl : args.length = i28.nargs) : ev (d + 1) 28 args = Ev.finish i28.res (evC (ev d) i28.body (Ev.start args)) := ev_fn (by kernel_rfl) d args hl
theorem s30 (d : Nat) (args : List LV) (hl : args.length = i30.nargs) : ev (d + 1) 30 args = Ev.finish i30.res (evC (ev d) i30.body (Ev.start args)) := ev_fn (by kernel_rfl) d args hl
theorem s32 (d : Nat) (args : List LV) (hl : args.length = i32.nargs) : ev (d + 1) 32 args = Ev.finish i32.res (evC (ev d) i32.body (Ev.start args)) := ev_fn (by kernel_rfl) d args hl
theorem s33 (d : Nat) (args : List LV) (hl : args.length = i33.nargs) : ev (d + 1) 33 args = Ev.finish i33.res (evC (ev d) i33.body (Ev.start args)) := ev_fn (by kernel_rfl) d args hl
theorem s34 (d : Nat) (args : List LV) (hl : args.length = i34.nargs) : ev (d + 1) 34 args = Ev.finish i34.res (evC (ev d) i34.body (Ev.start args)) := ev_fn (by kernel_rfl) d args hl
theorem s35 (d : Nat) (args : List LV) (hl : args.length = i35.nargs) : ev (d + 1) 35 args = Ev.finish i35.res (evC (ev d) i35.body (Ev.start args)) := ev_fn (by kernel_rfl) d args hl
theorem s36 (d : Nat) (args : List LV) (hl : args.length = i36.nargs) : ev (d + 1) 36 args = Ev.finish i36.res (evC (ev d) i36.body (Ev.start args)) := ev_fn (by kernel_rfl) d args hl
theorem s37 (d : Nat) (args : List LV) (hl : args.length = i37.nargs) : ev (d + 1) 37 args = Ev.finish i37.res (evC (ev d) i37.body (Ev.start args)) := ev_fn (by kernel_rfl) d args hl
theorem s72 (d : Nat) (args : List LV) (hl : args.length = i72.nargs) : ev (d + 1) 72 args = Ev.finish i72.res (evC (ev d) i72.body (Ev.start args)) := ev_fn (by kernel_rfl) d args hl
theorem s73 (d : Nat) (args : List LV) (hl : args.length = i73.nargs) : ev (d + 1) 73 args = Ev.finish i73.res (evC (ev d) i73.body (Ev.start args)) := ev_fn (by kernel_rfl) d args hl
theorem s74 (d : Nat) (args : List LV) (hl : args.length = i74.nargs) : ev (d + 1) 74 args = Ev.finish i74.res (evC (ev d) i74.body (Ev.start args)) := ev_fn (by kernel_rfl) d args hl
theorem s76 (d : Nat) (args : List LV) (hl : args.length = i76.nargs) : ev (d + 1) 76 args = Ev.finish i76.res (evC (ev d) i76.body (Ev.start args)) := ev_fn (by kernel_rfl) d args hl
theorem s77 (d : Nat) (args : List LV) (hl : args.length = i77.nargs) : ev (d + 1) 77 args = Ev.finish i77.res (evC (ev d) i77.body (Ev.start args)) := ev_fn (by kernel_rfl) d args hl
theorem s78 (d : Nat) (args : List LV) (hl : args.length = i78.nargs) : ev (d + 1) 78 args = Ev.finish i78.res (evC (ev d) i78.body (Ev.start args)) := ev_fn (by kernel_rfl) d args hl
theorem s79 (d : Nat) (args : List LV) (hl : args.length = i79.nargs) : ev (d + 1) 79 args = Ev.finish i79.res (evC (ev d) i79.body (Ev.start args)) := ev_fn (by kernel_rfl) d args hl
theorem s83 (d : Nat) (args : List LV) (hl : args.length = i83.nargs) : ev (d + 1) 83 args = Ev.finish i83.res (evC (ev d) i83.body (Ev.start args)) := ev_fn (by kernel_rfl) d args hl
theorem s84 (d : Nat) (args : List LV) (hl : args.length = i84.nargs) : ev (d + 1) 84 args = Ev.finish i84.res (evC (ev d) i84.body (Ev.start args)) := ev_fn (by kernel_rfl) d args hl
theorem s101 (d : Nat) (args : List LV) (hl : args.length = i101.nargs) : ev (d + 1) 101 args = Ev.finish i101.res (evC (ev d) i101.body (Ev.start args)) := ev_fn (by kernel_rfl) d args hl
theorem s102 (d : Nat) (args : List LV) (hl : args.length = i102.nargs) : ev (d + 1) 102 args = Ev.finish i102.res (evC (ev d) i102.body (Ev.start args)) := ev_fn (by kernel_rfl) d args hl
theorem s103 (d : Nat) (args : List LV) (hl : args.length = i103.nargs) : ev (d + 1) 103 args = Ev.finish i103.res (evC (ev d) i103.body (Ev.start args)) := ev_fn (by kernel_rfl) d args hl
theorem s104 (d : Nat) (args : List LV) (hl : args.length = i104.nargs) : ev (d + 1) 104 args = Ev.finish i104.res (evC (ev d) i104.body (Ev.start args)) := ev_fn (by kernel_rfl) d args hl
theorem s105 (d : Nat) (args : List LV) (hl : args.length = i105.nargs) : ev (d + 1) 105 args = Ev.finish i105.res (evC (ev d) i105.body (Ev.start args)) := ev_fn (by kernel_rfl) d args hl
theorem s107 (d : Nat) (args : List LV) (hl : args.length = i107.nargs) : ev (d + 1) 107 args = Ev.finish i107.res (evC (ev d) i107.body (Ev.start args)) := ev_fn (by kernel_rfl) d args hl
theorem s108 (d : Nat) (args : List LV) (hl : args.length = i108.nargs) : ev (d + 1) 108 args = Ev.finish i108.res (evC (ev d) i108.body (Ev.start args)) := ev_fn (by kernel_rfl) d args hl
theorem s109 (d : Nat) (args : List LV) (hl : args.length = i109.nargs) : ev (d + 1) 109 args = Ev.finish i109.res (evC (ev d) i109.body (Ev.start args)) := ev_fn (by kernel_rfl) d args hl
theorem s110 (d : Nat) (args : List LV) (hl : args.length = i110.nargs) : ev (d + 1) 110 args = Ev.finish i110.res (evC (ev d) i110.body (Ev.start args)) := ev_fn (by kernel_rfl) d args hl
theorem s111 (d : Nat) (args : List LV) (hl : args.length = i111.nargs) : ev (d + 1) 111 args = Ev.finish i111.res (evC (ev d) i111.body (Ev.start args)) := ev_fn (by kernel_rfl) d args hl
theorem s113 (d : Nat) (args : List LV) (hl : args.length = i113.nargs) : ev (d + 1) 113 args = Ev.finish i113.res (evC (ev d) i113.body (Ev.start args)) := ev_fn (by kernel_rfl) d args hl
theorem s162 (d : Nat) (args : List LV) (hl : args.length = i162.nargs) : ev (d + 1) 162 args = Ev.finish i162.res (evC (ev d) i162.body (Ev.start args)) := ev_fn (by kernel_rfl) d args hl
theorem s165 (d : Nat) (args : List LV) (hl : args.length = i165.nargs) : ev (d + 1) 165 args = Ev.finish i165.res (evC (ev d) i165.body (Ev.start args)) := ev_fn (by kernel_rfl) d args hl
theorem s168 (d : Nat) (args : List LV) (hl : args.length = i168.nargs) : ev (d + 1) 168 args = Ev.finish i168.res (evC (ev d) i168.body (Ev.start args)) := ev_fn (by kernel_rfl) d args hl
theorem s169 (d : Nat) (args : List LV) (hl : args.length = i169.nargs) : ev (d + 1) 169 args = Ev.finish i169.res (evC (ev d) i169.body (Ev.start args)) := ev_fn (by kernel_rfl) d args hl
theorem s170 (d : Nat) (args : List LV) (hl : args.length = i170.nargs) : ev (d + 1) 170 args = Ev.finish i170.res (evC (ev d) i170.body (Ev.start args)) := ev_fn (by kernel_rfl) d args hl
theorem s174 (d : Nat) (args : List LV) (hl : args.length = i174.nargs) : ev (d + 1) 174 args = Ev.finish i174.res (evC (ev d) i174.body (Ev.start args)) := ev_fn (by kernel_rfl) d args hl
theorem s175 (d : Nat) (args : List LV) (hl : args.length = i175.nargs) : ev (d + 1) 175 args = Ev.finish i175.res (evC (ev d) i175.body (Ev.start args)) := ev_fn (by kernel_rfl) d args hl
theorem s176 (d : Nat) (args : List LV) (hl : args.length = i176.nargs) : ev (d + 1) 176 args = Ev.finish i176.res (evC (ev d) i176.body (Ev.start args)) := ev_fn (by kernel_rfl) d args hl
theorem s177 (d : Nat) (args : List LV) (hl : args.length = i177.nargs) : ev (d + 1) 177 args = Ev.finish i177.res (evC (ev d) i177.body (Ev.start args)) := ev_fn (by kernel_rfl) d args hl
theorem s178 (d : Nat) (args : List LV) (hl : args.length = i178.nargs) : ev (d + 1) 178 args = Ev.finish i178.res (evC (ev d) i178.body (Ev.start args)) := ev_fn (by kernel_rfl) d args hl
theorem s179 (d : Nat) (args : List LV) (hl : args.length = i179.nargs) : ev (d + 1) 179 args = Ev.finish i179.res (evC (ev d) i179.body (Ev.start args)) := ev_fn (by kernel_rfl) d args hl
theorem s192 (d : Nat) (args : List LV) (hl : args.length = i192.nargs) : ev (d + 1) 192 args = Ev.finish i192.res (evC (ev d) i192.body (Ev.start args)) := ev_fn (by kernel_rfl) d args hl
theorem s193 (d : Nat) (args : List LV) (hl : args.length = i193.nargs) : ev (d + 1) 193 args = Ev.finish i193.res (evC (ev d) i193.body (Ev.start args)) := ev_fn (by kernel_rfl) d args hl
theorem s197 (d : Nat) (args : List LV) (hl : args.length = i197.nargs) : ev (d + 1) 197 args = Ev.finish i197.res (evC (ev d) i197.body (Ev.start args)) := ev_fn (by kernel_rfl) d args hl
theorem s246 (d : Nat) (args : List LV) (hl : args.length = i246.nargs) : ev (d + 1) 246 args = Ev.finish i246.res (evC (ev d) i246.body (Ev.start args)) := ev_fn (by kernel_rfl) d args hl
theorem s247 (d : Nat) (args : List LV) (hl : args.length = i247.nargs) : ev (d + 1) 247 args = Ev.finish i247.res (evC (ev d) i247.body (Ev.start args)) := ev_fn (by kernel_rfl) d args hl
theorem s248 (d : Nat) (args : List LV) (hl : args.length = i248.nargs) : ev (d + 1) 248 args = Ev.finish i248.res (evC (ev d) i248.body (Ev.start args)) := ev_fn (by kernel_rfl) d args hl
theorem s249 (d : Nat) (args : List LV) (hl : args.length = i249.nargs) : ev (d + 1) 249 args = Ev.finish i249.res (evC (ev d) i249.body (Ev.start args)) := ev_fn (by kernel_rfl) d args hl
theorem s250 (d : Nat) (args : List LV) (hl : args.length = i250.nargs) : ev (d + 1) 250 args = Ev.finish i250.res (evC (ev d) i250.body (Ev.start args)) := ev_fn (by kernel_rfl) d args hl
theorem s252 (d : Nat) (args : List LV) (hl : args.length = i252.nargs) : ev (d + 1) 252 args = Ev.finish i252.res (evC (ev d) i252.body (Ev.start args)) := ev_fn (by kernel_rfl) d args hl
theorem s292 (d : Nat) (args : List LV) (hl : args.length = i292.nargs) : ev (d + 1) 292 args = Ev.finish i292.res (evC (ev d) i292.body (Ev.start args)) := ev_fn (by kernel_rfl) d args hl
theorem s293 (d : Nat) (args : List LV) (hl : args.length = i293.nargs) : ev (d + 1) 293 args = Ev.finish i293.res (evC (ev d) i293.body (Ev.start args)) := ev_fn (by kernel_rfl) d args hl
theorem v33 (d : Nat) {args bs : List LV} {st : St} (hs : startW args = some (bs, st)) (hl : bs.length = i33.nargs) : ev (d + 1) (wrN + 33) args = finishW bs i33.res (evC (ev d) i33.body st) := evF_fnW (by kernel_rfl) tabn d hs hl
theorem v37 (d : Nat) {args bs : List LV} {st : St} (hs : startW args = some (bs, st)) (hl : bs.length = i37.nargs) : ev (d + 1) (wrN + 37) args = finishW bs i37.res (evC (ev d) i37.body st) := evF_fnW (by kernel_rfl) tabn d hs hl
theorem v109 (d : Nat) {args bs : List LV} {st : St} (hs : startW args = some (bs, st)) (hl : bs.length = i109.nargs) : ev (d + 1) (wrN + 109) args = finishW bs i109.res (evC (ev d) i109.body st) := evF_fnW (by kernel_rfl) tabn d hs hl
theorem q112R (d : Nat) (args : List LV) : ev d 112 args = prim 112 args := evF_prim (by kernel_rfl) (by decide) d args
theorem q112W (d : Nat) (args : List LV) : ev d (wrN + 112) args = prim (wrN + 112) args := evF_primW (by kernel_rfl) tabn (by decide) d args
theorem q112M (d : Nat) (args : List LV) : ev d (mvN + 112) args = prim (mvN + 112) args := evF_primM (by kernel_rfl) tabn (by decide) d args
theorem q194R (d : Nat) (args : List LV) : ev d 194 args = prim 194 args := evF_prim (by kernel_rfl) (by decide) d args
theorem q194W (d : Nat) (args : List LV) : ev d (wrN + 194) args = prim (wrN + 194) args := evF_primW (by kernel_rfl) tabn (by decide) d args
theorem q194M (d : Nat) (args : List LV) : ev d (mvN + 194) args = prim (mvN + 194) args := evF_primM (by kernel_rfl) tabn (by decide) d args
end Go.Proofs.Ytejffoibihbnnaa.walkS
