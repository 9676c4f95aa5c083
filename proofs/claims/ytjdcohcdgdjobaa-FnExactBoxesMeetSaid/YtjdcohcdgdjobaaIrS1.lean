/- The functions that some rows reach, turned; no conditions. -/
import Derived.Test.YtjdcohcdgdjobaaEv2
import Derived.KernelRfl
import Derived.Test.YtjdcohcdgdjobaaProg
namespace Go.Proofs.Ytjdcohcdgdjobaa.walkS
open Go Go.Proofs.Ytjdcohcdgdjobaa.Ev
def i3 : Ev.Fn := ⟨1, 14, [.tmp 2],
 (.seq
 (.reg false [⟨1, .bx (.t 0), none, false⟩,
 ⟨2, .mv (.k (.sc (.bool false))), none, false⟩])
 (.seq
 (.reg false [⟨5, .ld 4 true (.t 1), none, false⟩,
 ⟨6, .ca (.k (.cl 16 [])) [(.t 5)], none, false⟩,
 ⟨7, .ca (.k (.cl 15 [])) [(.t 6)], none, false⟩,
 ⟨3, .mv (.t 7), none, false⟩])
 (.seq
 (.reg false [⟨8, .ld 4 true (.t 1), none, false⟩,
 ⟨9, .ca (.k (.cl 16 [])) [(.t 8)], none, false⟩,
 ⟨10, .ca (.k (.cl 17 [])) [(.t 9)], none, false⟩,
 ⟨4, .mv (.t 10), none, false⟩])
 (.seq
 (.seq
 (.reg false [⟨11, .mv (.t 4), none, false⟩,
 ⟨12, .mv (.t 3), none, false⟩,
 ⟨13, .ar .neq true (.t 11) (.t 12), none, false⟩])
 (.ite (.t 13)
 (.seq
 (.reg false [⟨2, .mv (.k (.sc (.bool false))), none, false⟩])
 .ret)
 .skip))
 (.seq
 (.reg false [⟨2, .mv (.k (.sc (.bool true))), none, false⟩])
 .ret)))))⟩
attribute [simp] i3
set_option maxRecDepth 1000000 in
theorem c3 : cFn Try.prog 3 [] = some i3 := by kernel_rfl
theorem e3 : enterOk Try.prog 3 = true := by kernel_rfl
def i4 : Ev.Fn := ⟨2, 29, [.tmp 4],
 (.seq
 (.reg false [⟨4, .mv (.k (.sc (.bool false))), none, false⟩])
 (.seq
 (.reg false [⟨10, .mv (.t 0), none, false⟩,
 ⟨11, .mv (.t 1), none, false⟩,
 ⟨12, .ca (.k (.cl 18 [])) [(.t 10), (.t 11)], none, false⟩,
 ⟨9, .mv (.t 12), none, false⟩,
 ⟨13, .xt (.t 9) 0, none, false⟩,
 ⟨14, .xt (.t 9) 1, none, false⟩,
 ⟨5, .mv (.t 13), none, false⟩,
 ⟨6, .mv (.t 14), none, false⟩])
 (.seq
 (.reg false [⟨16, .mv (.t 0), none, false⟩,
 ⟨17, .mv (.t 1), none, false⟩,
 ⟨18, .ca (.k (.cl 19 [])) [(.t 16), (.t 17)], none, false⟩,
 ⟨15, .mv (.t 18), none, false⟩,
 ⟨19, .xt (.t 15) 0, none, false⟩,
 ⟨20, .xt (.t 15) 1, none, false⟩,
 ⟨7, .mv (.t 19), none, false⟩,
 ⟨8, .mv (.t 20), none, false⟩])
 (.seq
 (.seq
 (.reg false [⟨21, .mv (.t 7), none, false⟩,
 ⟨22, .mv (.t 5), none, false⟩,
 ⟨23, .ar .neq false (.t 21) (.t 22), none, false⟩,
 ⟨24, .mv (.t 23), none, false⟩,
 ⟨25, .mv (.t 8), (some (24, false)), false⟩,
 ⟨26, .mv (.t 6), (some (24, false)), false⟩,
 ⟨27, .ar .neq false (.t 25) (.t 26), (some (24, false)), false⟩,
 ⟨28, .pk (.t 24) (.k (.sc (.bool true))) (.t 27), none, false⟩])
 (.ite (.t 28)
 (.seq
 (.reg false [⟨4, .mv (.k (.sc (.bool false))), none, false⟩])
 .ret)
 .skip))
 (.seq
 (.reg false [⟨4, .mv (.k (.sc (.bool true))), none, false⟩])
 .ret)))))⟩
attribute [simp] i4
set_option maxRecDepth 1000000 in
theorem c4 : cFn Try.prog 4 [] = some i4 := by kernel_rfl
theorem e4 : enterOk Try.prog 4 = true := by kernel_rfl
def i5 : Ev.Fn := ⟨2, 29, [.tmp 4],
 (.seq
 (.reg false [⟨4, .mv (.k (.sc (.bool false))), none, false⟩])
 (.seq
 (.reg false [⟨10, .mv (.t 0), none, false⟩,
 ⟨11, .mv (.t 1), none, false⟩,
 ⟨12, .ca (.k (.cl 20 [])) [(.t 10), (.t 11)], none, false⟩,
 ⟨9, .mv (.t 12), none, false⟩,
 ⟨13, .xt (.t 9) 0, none, false⟩,
 ⟨14, .xt (.t 9) 1, none, false⟩,
 ⟨5, .mv (.t 13), none, false⟩,
 ⟨6, .mv (.t 14), none, false⟩])
 (.seq
 (.reg false [⟨16, .mv (.t 0), none, false⟩,
 ⟨17, .mv (.t 1), none, false⟩,
 ⟨18, .ca (.k (.cl 21 [])) [(.t 16), (.t 17)], none, false⟩,
 ⟨15, .mv (.t 18), none, false⟩,
 ⟨19, .xt (.t 15) 0, none, false⟩,
 ⟨20, .xt (.t 15) 1, none, false⟩,
 ⟨7, .mv (.t 19), none, false⟩,
 ⟨8, .mv (.t 20), none, false⟩])
 (.seq
 (.seq
 (.reg false [⟨21, .mv (.t 7), none, false⟩,
 ⟨22, .mv (.t 5), none, false⟩,
 ⟨23, .ar .neq false (.t 21) (.t 22), none, false⟩,
 ⟨24, .mv (.t 23), none, false⟩,
 ⟨25, .mv (.t 8), (some (24, false)), false⟩,
 ⟨26, .mv (.t 6), (some (24, false)), false⟩,
 ⟨27, .ar .neq false (.t 25) (.t 26), (some (24, false)), false⟩,
 ⟨28, .pk (.t 24) (.k (.sc (.bool true))) (.t 27), none, false⟩])
 (.ite (.t 28)
 (.seq
 (.reg false [⟨4, .mv (.k (.sc (.bool false))), none, false⟩])
 .ret)
 .skip))
 (.seq
 (.reg false [⟨4, .mv (.k (.sc (.bool true))), none, false⟩])
 .ret)))))⟩
attribute [simp] i5
set_option maxRecDepth 1000000 in
theorem c5 : cFn Try.prog 5 [] = some i5 := by kernel_rfl
theorem e5 : enterOk Try.prog 5 = true := by kernel_rfl
def i6 : Ev.Fn := ⟨2, 20, [.tmp 4],
 (.seq
 (.reg false [⟨2, .bx (.t 0), none, false⟩,
 ⟨3, .bx (.t 1), none, false⟩,
 ⟨4, .mv (.k (.sc (.bool false))), none, false⟩])
 (.seq
 (.reg true [⟨7, .ld 4 true (.t 2), none, false⟩,
 ⟨8, .ca (.k (.cl 23 [])) [(.t 7)], none, false⟩,
 ⟨9, .ld 4 true (.t 3), none, false⟩,
 ⟨10, .ca (.k (.cl 23 [])) [(.t 9)], none, false⟩,
 ⟨11, .ca (.k (.cl 22 [])) [(.t 8), (.t 10)], none, false⟩,
 ⟨5, .mv (.t 11), none, false⟩])
 (.seq
 (.reg true [⟨12, .ld 4 true (.t 2), none, false⟩,
 ⟨13, .ca (.k (.cl 23 [])) [(.t 12)], none, false⟩,
 ⟨14, .ld 4 true (.t 3), none, false⟩,
 ⟨15, .ca (.k (.cl 23 [])) [(.t 14)], none, false⟩,
 ⟨16, .ca (.k (.cl 24 [])) [(.t 13), (.t 15)], none, false⟩,
 ⟨6, .mv (.t 16), none, false⟩])
 (.seq
 (.seq
 (.reg false [⟨17, .mv (.t 6), none, false⟩,
 ⟨18, .mv (.t 5), none, false⟩,
 ⟨19, .ar .neq true (.t 17) (.t 18), none, false⟩])
 (.ite (.t 19)
 (.seq
 (.reg false [⟨4, .mv (.k (.sc (.bool false))), none, false⟩])
 .ret)
 .skip))
 (.seq
 (.reg false [⟨4, .mv (.k (.sc (.bool true))), none, false⟩])
 .ret)))))⟩
attribute [simp] i6
set_option maxRecDepth 1000000 in
theorem c6 : cFn Try.prog 6 [] = some i6 := by kernel_rfl
theorem e6 : enterOk Try.prog 6 = true := by kernel_rfl
def i7 : Ev.Fn := ⟨0, 36, [.tmp 0],
 (.seq
 (.reg false [⟨0, .mv (.k (.sc (.bool false))), none, false⟩])
 (.seq
 (.reg false [⟨6, .ca (.k (.cl 25 [])) [], none, false⟩,
 ⟨1, .mv (.t 6), none, false⟩])
 (.seq
 (.reg false [⟨7, .ca (.k (.cl 26 [])) [], none, false⟩,
 ⟨2, .mv (.t 7), none, false⟩])
 (.seq
 (.seq
 (.reg false [⟨8, .mv (.t 2), none, false⟩,
 ⟨9, .mv (.t 1), none, false⟩,
 ⟨10, .ca (.k (.cl 27 [])) [(.t 8), (.t 9)], none, false⟩,
 ⟨11, .nt (.t 10), none, false⟩])
 (.ite (.t 11)
 (.seq
 (.reg false [⟨0, .mv (.k (.sc (.bool false))), none, false⟩])
 .ret)
 .skip))
 (.seq
 (.reg false [⟨3, .mv (.k (.sc (.int .i64 1))), none, false⟩])
 (.seq
 (.reg false [⟨12, .mv (.t 2), none, false⟩,
 ⟨13, .mv (.t 3), none, false⟩,
 ⟨14, .ca (.k (.cl 28 [])) [(.t 12), (.t 13)], none, false⟩,
 ⟨3, .mv (.t 14), none, false⟩])
 (.seq
 (.reg false [⟨4, .mv (.k (.sc (.int .i64 1))), none, false⟩])
 (.seq
 (.reg false [⟨15, .mv (.t 2), none, false⟩,
 ⟨16, .mv (.t 4), none, false⟩,
 ⟨17, .ca (.k (.cl 29 [])) [(.t 15), (.t 16)], none, false⟩,
 ⟨4, .mv (.t 17), none, false⟩])
 (.seq
 (.seq
 (.reg false [⟨18, .mv (.t 4), none, false⟩,
 ⟨19, .ar .lss false (.t 18) (.k (.sc (.int .i64 0))), none, false⟩])
 (.ite (.t 19)
 (.seq
 (.reg false [⟨0, .mv (.k (.sc (.bool false))), none, false⟩])
 .ret)
 .skip))
 (.seq
 (.seq
 (.reg false [⟨20, .mv (.t 4), none, false⟩,
 ⟨21, .mv (.t 3), none, false⟩,
 ⟨22, .ar .neq false (.t 20) (.t 21), none, false⟩])
 (.ite (.t 22)
 (.seq
 (.reg false [⟨0, .mv (.k (.sc (.bool false))), none, false⟩])
 .ret)
 .skip))
 (.seq
 (.reg false [⟨23, .ca (.k (.cl 26 [])) [], none, false⟩,
 ⟨5, .mv (.t 23), none, false⟩])
 (.seq
 (.seq
 (.reg false [⟨24, .mv (.t 5), none, false⟩,
 ⟨25, .mv (.t 1), none, false⟩,
 ⟨26, .ca (.k (.cl 27 [])) [(.t 24), (.t 25)], none, false⟩,
 ⟨27, .nt (.t 26), none, false⟩])
 (.ite (.t 27)
 (.seq
 (.reg false [⟨0, .mv (.k (.sc (.bool false))), none, false⟩])
 .ret)
 .skip))
 (.seq
 (.reg false [⟨4, .mv (.k (.sc (.int .i64 1))), none, false⟩])
 (.seq
 (.reg false [⟨28, .mv (.t 2), none, false⟩,
 ⟨29, .mv (.t 4), none, false⟩,
 ⟨30, .ca (.k (.cl 29 [])) [(.t 28), (.t 29)], none, false⟩,
 ⟨4, .mv (.t 30), none, false⟩])
 (.seq
 (.seq
 (.reg false [⟨31, .mv (.t 4), none, false⟩,
 ⟨32, .ar .lss false (.t 31) (.k (.sc (.int .i64 0))), none, false⟩])
 (.ite (.t 32)
 (.seq
 (.reg false [⟨0, .mv (.k (.sc (.bool false))), none, false⟩])
 .ret)
 .skip))
 (.seq
 (.seq
 (.reg false [⟨33, .mv (.t 4), none, false⟩,
 ⟨34, .mv (.t 3), none, false⟩,
 ⟨35, .ar .neq false (.t 33) (.t 34), none, false⟩])
 (.ite (.t 35)
 (.seq
 (.reg false [⟨0, .mv (.k (.sc (.bool false))), none, false⟩])
 .ret)
 .skip))
 (.seq
 (.reg false [⟨0, .mv (.k (.sc (.bool true))), none, false⟩])
 .ret)))))))))))))))))⟩
attribute [simp] i7
set_option maxRecDepth 1000000 in
theorem c7 : cFn Try.prog 7 [] = some i7 := by kernel_rfl
theorem e7 : enterOk Try.prog 7 = true := by kernel_rfl
def i8 : Ev.Fn := ⟨1, 46, [.tmp 2],
 (.seq
 (.reg false [⟨2, .mv (.k (.sc (.bool false))), none, false⟩])
 (.seq
 (.seq
 (.reg false [⟨11, .mv (.t 0), none, false⟩,
 ⟨12, .ln true (.t 11), none, false⟩,
 ⟨13, .ar .gtr false (.t 12) (.k (.sc (.int .i64 1048576))), none, false⟩])
 (.ite (.t 13)
 (.seq
 (.reg false [⟨2, .mv (.k (.sc (.bool true))), none, false⟩])
 .ret)
 .skip))
 (.seq
 (.reg false [⟨15, .mv (.t 0), none, false⟩,
 ⟨16, .ca (.k (.cl 30 [])) [(.t 15)], none, false⟩,
 ⟨14, .mv (.t 16), none, false⟩,
 ⟨17, .xt (.t 14) 0, none, false⟩,
 ⟨18, .xt (.t 14) 1, none, false⟩,
 ⟨19, .xt (.t 14) 2, none, false⟩,
 ⟨20, .xt (.t 14) 3, none, false⟩,
 ⟨3, .mv (.t 17), none, false⟩,
 ⟨4, .mv (.t 18), none, false⟩,
 ⟨5, .mv (.t 19), none, false⟩,
 ⟨6, .mv (.t 20), none, false⟩])
 (.seq
 (.reg false [⟨22, .mv (.t 0), none, false⟩,
 ⟨23, .ca (.k (.cl 31 [])) [(.t 22)], none, false⟩,
 ⟨21, .mv (.t 23), none, false⟩,
 ⟨24, .xt (.t 21) 0, none, false⟩,
 ⟨25, .xt (.t 21) 1, none, false⟩,
 ⟨26, .xt (.t 21) 2, none, false⟩,
 ⟨27, .xt (.t 21) 3, none, false⟩,
 ⟨7, .mv (.t 24), none, false⟩,
 ⟨8, .mv (.t 25), none, false⟩,
 ⟨9, .mv (.t 26), none, false⟩,
 ⟨10, .mv (.t 27), none, false⟩])
 (.seq
 (.seq
 (.reg false [⟨28, .mv (.t 7), none, false⟩,
 ⟨29, .mv (.t 3), none, false⟩,
 ⟨30, .ar .neq false (.t 28) (.t 29), none, false⟩,
 ⟨31, .mv (.t 30), none, false⟩,
 ⟨32, .mv (.t 8), (some (31, false)), false⟩,
 ⟨33, .mv (.t 4), (some (31, false)), false⟩,
 ⟨34, .ar .neq false (.t 32) (.t 33), (some (31, false)), false⟩,
 ⟨35, .pk (.t 31) (.k (.sc (.bool true))) (.t 34), none, false⟩,
 ⟨36, .mv (.t 35), none, false⟩,
 ⟨37, .mv (.t 9), (some (36, false)), false⟩,
 ⟨38, .mv (.t 5), (some (36, false)), false⟩,
 ⟨39, .ar .neq false (.t 37) (.t 38), (some (36, false)), false⟩,
 ⟨40, .pk (.t 36) (.k (.sc (.bool true))) (.t 39), none, false⟩,
 ⟨41, .mv (.t 40), none, false⟩,
 ⟨42, .mv (.t 10), (some (41, false)), false⟩,
 ⟨43, .mv (.t 6), (some (41, false)), false⟩,
 ⟨44, .ar .neq false (.t 42) (.t 43), (some (41, false)), false⟩,
 ⟨45, .pk (.t 41) (.k (.sc (.bool true))) (.t 44), none, false⟩])
 (.ite (.t 45)
 (.seq
 (.reg false [⟨2, .mv (.k (.sc (.bool false))), none, false⟩])
 .ret)
 .skip))
 (.seq
 (.reg false [⟨2, .mv (.k (.sc (.bool true))), none, false⟩])
 .ret))))))⟩
attribute [simp] i8
set_option maxRecDepth 1000000 in
theorem c8 : cFn Try.prog 8 [] = some i8 := by kernel_rfl
theorem e8 : enterOk Try.prog 8 = true := by kernel_rfl
def i9 : Ev.Fn := ⟨1, 25, [.tmp 2],
 (.seq
 (.reg false [⟨2, .mv (.k (.sc (.bool false))), none, false⟩])
 (.seq
 (.reg false [⟨8, .mv (.t 0), none, false⟩,
 ⟨9, .ca (.k (.cl 32 [])) [(.t 8)], none, false⟩,
 ⟨7, .mv (.t 9), none, false⟩,
 ⟨10, .xt (.t 7) 0, none, false⟩,
 ⟨11, .xt (.t 7) 1, none, false⟩,
 ⟨3, .mv (.t 10), none, false⟩,
 ⟨4, .mv (.t 11), none, false⟩])
 (.seq
 (.reg false [⟨13, .mv (.t 0), none, false⟩,
 ⟨14, .ca (.k (.cl 33 [])) [(.t 13)], none, false⟩,
 ⟨12, .mv (.t 14), none, false⟩,
 ⟨15, .xt (.t 12) 0, none, false⟩,
 ⟨16, .xt (.t 12) 1, none, false⟩,
 ⟨5, .mv (.t 15), none, false⟩,
 ⟨6, .mv (.t 16), none, false⟩])
 (.seq
 (.seq
 (.reg false [⟨17, .mv (.t 5), none, false⟩,
 ⟨18, .mv (.t 3), none, false⟩,
 ⟨19, .ar .neq false (.t 17) (.t 18), none, false⟩,
 ⟨20, .mv (.t 19), none, false⟩,
 ⟨21, .mv (.t 6), (some (20, false)), false⟩,
 ⟨22, .mv (.t 4), (some (20, false)), false⟩,
 ⟨23, .ar .neq false (.t 21) (.t 22), (some (20, false)), false⟩,
 ⟨24, .pk (.t 20) (.k (.sc (.bool true))) (.t 23), none, false⟩])
 (.ite (.t 24)
 (.seq
 (.reg false [⟨2, .mv (.k (.sc (.bool false))), none, false⟩])
 .ret)
 .skip))
 (.seq
 (.reg false [⟨2, .mv (.k (.sc (.bool true))), none, false⟩])
 .ret)))))⟩
attribute [simp] i9
set_option maxRecDepth 1000000 in
theorem c9 : cFn Try.prog 9 [] = some i9 := by kernel_rfl
theorem e9 : enterOk Try.prog 9 = true := by kernel_rfl
def i10 : Ev.Fn := ⟨1, 20, [.tmp 2],
 (.seq
 (.reg false [⟨1, .bx (.t 0), none, false⟩,
 ⟨2, .mv (.k (.sc (.bool false))), none, false⟩])
 (.seq
 (.reg false [⟨3, .mv (.k (.sc (.int .i64 1048576))), none, false⟩])
 (.seq
 (.reg false [⟨6, .ld 3 true (.t 1), none, false⟩,
 ⟨7, .mv (.t 3), none, false⟩,
 ⟨8, .ca (.k (.cl 34 [])) [(.t 6), (.t 7)], none, false⟩,
 ⟨3, .mv (.t 8), none, false⟩])
 (.seq
 (.seq
 (.reg false [⟨9, .mv (.t 3), none, false⟩,
 ⟨10, .ar .lss false (.t 9) (.k (.sc (.int .i64 0))), none, false⟩])
 (.ite (.t 10)
 (.seq
 (.reg false [⟨2, .mv (.k (.sc (.bool true))), none, false⟩])
 .ret)
 .skip))
 (.seq
 (.reg false [⟨11, .ld 3 true (.t 1), none, false⟩,
 ⟨12, .ca (.k (.cl 36 [])) [(.t 11)], none, false⟩,
 ⟨13, .ca (.k (.cl 35 [])) [(.t 12)], none, false⟩,
 ⟨4, .mv (.t 13), none, false⟩])
 (.seq
 (.reg false [⟨14, .ld 3 true (.t 1), none, false⟩,
 ⟨15, .ca (.k (.cl 36 [])) [(.t 14)], none, false⟩,
 ⟨16, .ca (.k (.cl 37 [])) [(.t 15)], none, false⟩,
 ⟨5, .mv (.t 16), none, false⟩])
 (.seq
 (.seq
 (.reg false [⟨17, .mv (.t 5), none, false⟩,
 ⟨18, .mv (.t 4), none, false⟩,
 ⟨19, .ar .neq true (.t 17) (.t 18), none, false⟩])
 (.ite (.t 19)
 (.seq
 (.reg false [⟨2, .mv (.k (.sc (.bool false))), none, false⟩])
 .ret)
 .skip))
 (.seq
 (.reg false [⟨2, .mv (.k (.sc (.bool true))), none, false⟩])
 .ret))))))))⟩
attribute [simp] i10
set_option maxRecDepth 1000000 in
theorem c10 : cFn Try.prog 10 [] = some i10 := by kernel_rfl
theorem e10 : enterOk Try.prog 10 = true := by kernel_rfl
def i11 : Ev.Fn := ⟨1, 27, [.tmp 2],
 (.seq
 (.reg false [⟨2, .mv (.k (.sc (.bool false))), none, false⟩])
 (.seq
 (.reg false [⟨3, .mv (.k (.sc (.int .i64 1048576))), none, false⟩])
 (.seq
 (.reg false [⟨7, .mv (.t 0), none, false⟩,
 ⟨8, .mv (.t 3), none, false⟩,
 ⟨9, .ca (.k (.cl 38 [])) [(.t 7), (.t 8)], none, false⟩,
 ⟨3, .mv (.t 9), none, false⟩])
 (.seq
 (.seq
 (.reg false [⟨10, .mv (.t 3), none, false⟩,
 ⟨11, .ar .lss false (.t 10) (.k (.sc (.int .i64 0))), none, false⟩])
 (.ite (.t 11)
 (.seq
 (.reg false [⟨2, .mv (.k (.sc (.bool true))), none, false⟩])
 .ret)
 .skip))
 (.seq
 (.reg false [⟨12, .mv (.t 0), none, false⟩,
 ⟨13, .ca (.k (.cl 40 [])) [(.t 12)], none, false⟩,
 ⟨14, .ca (.k (.cl 39 [])) [(.t 13)], none, false⟩,
 ⟨4, .mv (.t 14), none, false⟩])
 (.seq
 (.reg false [⟨15, .mv (.t 0), none, false⟩,
 ⟨16, .ca (.k (.cl 40 [])) [(.t 15)], none, false⟩,
 ⟨5, .mv (.t 16), none, false⟩])
 (.seq
 (.reg false [⟨17, .mv (.t 5), none, false⟩,
 ⟨18, .ca (.k (.cl 41 [])) [(.t 17)], none, false⟩,
 ⟨6, .mv (.t 18), none, false⟩])
 (.seq
 (.seq
 (.reg false [⟨19, .mv (.t 6), none, false⟩,
 ⟨20, .mv (.t 4), none, false⟩,
 ⟨21, .ar .neq true (.t 19) (.t 20), none, false⟩])
 (.ite (.t 21)
 (.seq
 (.reg false [⟨2, .mv (.k (.sc (.bool false))), none, false⟩])
 .ret)
 .skip))
 (.seq
 (.seq
 (.reg false [⟨22, .mv (.t 5), none, false⟩,
 ⟨23, .mv (.t 0), none, false⟩,
 ⟨24, .ca (.k (.cl 40 [])) [(.t 23)], none, false⟩,
 ⟨25, .ca (.k (.cl 42 [])) [(.t 22), (.t 24)], none, false⟩,
 ⟨26, .nt (.t 25), none, false⟩])
 (.ite (.t 26)
 (.seq
 (.reg false [⟨2, .mv (.k (.sc (.bool false))), none, false⟩])
 .ret)
 .skip))
 (.seq
 (.reg false [⟨2, .mv (.k (.sc (.bool true))), none, false⟩])
 .ret))))))))))⟩
attribute [simp] i11
set_option maxRecDepth 1000000 in
theorem c11 : cFn Try.prog 11 [] = some i11 := by kernel_rfl
theorem e11 : enterOk Try.prog 11 = true := by kernel_rfl
def i12 : Ev.Fn := ⟨2, 68, [.tmp 4],
 (.seq
 (.reg false [⟨4, .mv (.k (.sc (.bool false))), none, false⟩])
 (.seq
 (.reg false [⟨14, .mv (.t 0), none, false⟩,
 ⟨15, .mv (.t 1), none, false⟩,
 ⟨16, .ca (.k (.cl 43 [])) [(.t 14), (.t 15)], none, false⟩,
 ⟨13, .mv (.t 16), none, false⟩,
 ⟨17, .xt (.t 13) 0, none, false⟩,
 ⟨18, .xt (.t 13) 1, none, false⟩,
 ⟨5, .mv (.t 17), none, false⟩,
 ⟨6, .mv (.t 18), none, false⟩])
 (.seq
 (.reg false [⟨20, .mv (.t 0), none, false⟩,
 ⟨21, .mv (.t 1), none, false⟩,
 ⟨22, .ca (.k (.cl 44 [])) [(.t 20), (.t 21)], none, false⟩,
 ⟨19, .mv (.t 22), none, false⟩,
 ⟨23, .xt (.t 19) 0, none, false⟩,
 ⟨24, .xt (.t 19) 1, none, false⟩,
 ⟨7, .mv (.t 23), none, false⟩,
 ⟨8, .mv (.t 24), none, false⟩])
 (.seq
 (.seq
 (.reg false [⟨25, .mv (.t 7), none, false⟩,
 ⟨26, .mv (.t 5), none, false⟩,
 ⟨27, .ca (.k (.cl 27 [])) [(.t 25), (.t 26)], none, false⟩,
 ⟨28, .nt (.t 27), none, false⟩,
 ⟨29, .mv (.t 28), none, false⟩,
 ⟨30, .mv (.t 8), (some (29, false)), false⟩,
 ⟨31, .mv (.t 6), (some (29, false)), false⟩,
 ⟨32, .ar .neq false (.t 30) (.t 31), (some (29, false)), false⟩,
 ⟨33, .pk (.t 29) (.k (.sc (.bool true))) (.t 32), none, false⟩])
 (.ite (.t 33)
 (.seq
 (.reg false [⟨4, .mv (.k (.sc (.bool false))), none, false⟩])
 .ret)
 .skip))
 (.seq
 (.reg false [⟨9, .mv (.k (.sc (.int .i64 1))), none, false⟩])
 (.seq
 (.reg false [⟨34, .mv (.t 7), none, false⟩,
 ⟨35, .mv (.t 9), none, false⟩,
 ⟨36, .ca (.k (.cl 28 [])) [(.t 34), (.t 35)], none, false⟩,
 ⟨9, .mv (.t 36), none, false⟩])
 (.seq
 (.reg false [⟨10, .mv (.k (.sc (.int .i64 1))), none, false⟩])
 (.seq
 (.reg false [⟨37, .mv (.t 7), none, false⟩,
 ⟨38, .mv (.t 10), none, false⟩,
 ⟨39, .ca (.k (.cl 29 [])) [(.t 37), (.t 38)], none, false⟩,
 ⟨10, .mv (.t 39), none, false⟩])
 (.seq
 (.seq
 (.reg false [⟨40, .mv (.t 10), none, false⟩,
 ⟨41, .ar .lss false (.t 40) (.k (.sc (.int .i64 0))), none, false⟩])
 (.ite (.t 41)
 (.seq
 (.reg false [⟨4, .mv (.k (.sc (.bool false))), none, false⟩])
 .ret)
 .skip))
 (.seq
 (.seq
 (.reg false [⟨42, .mv (.t 10), none, false⟩,
 ⟨43, .mv (.t 9), none, false⟩,
 ⟨44, .ar .neq false (.t 42) (.t 43), none, false⟩])
 (.ite (.t 44)
 (.seq
 (.reg false [⟨4, .mv (.k (.sc (.bool false))), none, false⟩])
 .ret)
 .skip))
 (.seq
 (.reg false [⟨46, .mv (.t 0), none, false⟩,
 ⟨47, .mv (.t 1), none, false⟩,
 ⟨48, .ca (.k (.cl 44 [])) [(.t 46), (.t 47)], none, false⟩,
 ⟨45, .mv (.t 48), none, false⟩,
 ⟨49, .xt (.t 45) 0, none, false⟩,
 ⟨50, .xt (.t 45) 1, none, false⟩,
 ⟨11, .mv (.t 49), none, false⟩,
 ⟨12, .mv (.t 50), none, false⟩])
 (.seq
 (.seq
 (.reg false [⟨51, .mv (.t 11), none, false⟩,
 ⟨52, .mv (.t 5), none, false⟩,
 ⟨53, .ca (.k (.cl 27 [])) [(.t 51), (.t 52)], none, false⟩,
 ⟨54, .nt (.t 53), none, false⟩,
 ⟨55, .mv (.t 54), none, false⟩,
 ⟨56, .mv (.t 12), (some (55, false)), false⟩,
 ⟨57, .mv (.t 6), (some (55, false)), false⟩,
 ⟨58, .ar .neq false (.t 56) (.t 57), (some (55, false)), false⟩,
 ⟨59, .pk (.t 55) (.k (.sc (.bool true))) (.t 58), none, false⟩])
 (.ite (.t 59)
 (.seq
 (.reg false [⟨4, .mv (.k (.sc (.bool false))), none, false⟩])
 .ret)
 .skip))
 (.seq
 (.reg false [⟨10, .mv (.k (.sc (.int .i64 1))), none, false⟩])
 (.seq
 (.reg false [⟨60, .mv (.t 7), none, false⟩,
 ⟨61, .mv (.t 10), none, false⟩,
 ⟨62, .ca (.k (.cl 29 [])) [(.t 60), (.t 61)], none, false⟩,
 ⟨10, .mv (.t 62), none, false⟩])
 (.seq
 (.seq
 (.reg false [⟨63, .mv (.t 10), none, false⟩,
 ⟨64, .ar .lss false (.t 63) (.k (.sc (.int .i64 0))), none, false⟩])
 (.ite (.t 64)
 (.seq
 (.reg false [⟨4, .mv (.k (.sc (.bool false))), none, false⟩])
 .ret)
 .skip))
 (.seq
 (.seq
 (.reg false [⟨65, .mv (.t 10), none, false⟩,
 ⟨66, .mv (.t 9), none, false⟩,
 ⟨67, .ar .neq false (.t 65) (.t 66), none, false⟩])
 (.ite (.t 67)
 (.seq
 (.reg false [⟨4, .mv (.k (.sc (.bool false))), none, false⟩])
 .ret)
 .skip))
 (.seq
 (.reg false [⟨4, .mv (.k (.sc (.bool true))), none, false⟩])
 .ret)))))))))))))))))⟩
attribute [simp] i12
set_option maxRecDepth 1000000 in
theorem c12 : cFn Try.prog 12 [] = some i12 := by kernel_rfl
theorem e12 : enterOk Try.prog 12 = true := by kernel_rfl
def i13 : Ev.Fn := ⟨2, 38, [.tmp 4],
 (.seq
 (.reg false [⟨2, .bx (.t 0), none, false⟩,
 ⟨4, .mv (.k (.sc (.bool false))), none, false⟩])
 (.seq
 (.reg false [⟨5, .mv (.k (.sc (.int .i64 1048576))), none, false⟩])
 (.seq
 (.reg false [⟨10, .ld 3 true (.t 2), none, false⟩,
 ⟨11, .mv (.t 5), none, false⟩,
 ⟨12, .ca (.k (.cl 34 [])) [(.t 10), (.t 11)], none, false⟩,
 ⟨5, .mv (.t 12), none, false⟩])
 (.seq
 (.seq
 (.reg false [⟨13, .mv (.t 5), none, false⟩,
 ⟨14, .ar .lss false (.t 13) (.k (.sc (.int .i64 0))), none, false⟩])
 (.ite (.t 14)
 (.seq
 (.reg false [⟨4, .mv (.k (.sc (.bool true))), none, false⟩])
 .ret)
 .skip))
 (.seq
 (.reg false [⟨16, .ld 3 true (.t 2), none, false⟩,
 ⟨17, .ca (.k (.cl 36 [])) [(.t 16)], none, false⟩,
 ⟨18, .mv (.t 1), none, false⟩,
 ⟨19, .ca (.k (.cl 45 [])) [(.t 17), (.t 18)], none, false⟩,
 ⟨15, .mv (.t 19), none, false⟩,
 ⟨20, .xt (.t 15) 0, none, false⟩,
 ⟨21, .xt (.t 15) 1, none, false⟩,
 ⟨6, .al [(.sc (.string ⟨#[]⟩)), (.sc (.int .i64 0)), (.sc (.int .i64 0))], none, false⟩,
 ⟨1, .so 3 (.t 6) (.t 20), none, true⟩,
 ⟨7, .mv (.t 21), none, false⟩])
 (.seq
 (.reg false [⟨23, .ld 3 true (.t 2), none, false⟩,
 ⟨24, .ca (.k (.cl 36 [])) [(.t 23)], none, false⟩,
 ⟨25, .mv (.t 1), none, false⟩,
 ⟨26, .ca (.k (.cl 46 [])) [(.t 24), (.t 25)], none, false⟩,
 ⟨22, .mv (.t 26), none, false⟩,
 ⟨27, .xt (.t 22) 0, none, false⟩,
 ⟨28, .xt (.t 22) 1, none, false⟩,
 ⟨8, .al [(.sc (.string ⟨#[]⟩)), (.sc (.int .i64 0)), (.sc (.int .i64 0))], none, false⟩,
 ⟨1, .so 3 (.t 8) (.t 27), none, true⟩,
 ⟨9, .mv (.t 28), none, false⟩])
 (.seq
 (.seq
 (.reg false [⟨29, .ld 3 true (.t 8), none, false⟩,
 ⟨30, .ld 3 true (.t 6), none, false⟩,
 ⟨31, .ca (.k (.cl 47 [])) [(.t 29), (.t 30)], none, false⟩,
 ⟨32, .nt (.t 31), none, false⟩,
 ⟨33, .mv (.t 32), none, false⟩,
 ⟨34, .mv (.t 9), (some (33, false)), false⟩,
 ⟨35, .mv (.t 7), (some (33, false)), false⟩,
 ⟨36, .ar .neq false (.t 34) (.t 35), (some (33, false)), false⟩,
 ⟨37, .pk (.t 33) (.k (.sc (.bool true))) (.t 36), none, false⟩])
 (.ite (.t 37)
 (.seq
 (.reg false [⟨4, .mv (.k (.sc (.bool false))), none, false⟩])
 .ret)
 .skip))
 (.seq
 (.reg false [⟨4, .mv (.k (.sc (.bool true))), none, false⟩])
 .ret))))))))⟩
attribute [simp] i13
set_option maxRecDepth 1000000 in
theorem c13 : cFn Try.prog 13 [] = some i13 := by kernel_rfl
theorem e13 : enterOk Try.prog 13 = true := by kernel_rfl
def i14 : Ev.Fn := ⟨2, 44, [.tmp 4],
 (.seq
 (.reg false [⟨2, .bx (.t 0), none, false⟩,
 ⟨3, .bx (.t 1), none, false⟩,
 ⟨4, .mv (.k (.sc (.bool false))), none, false⟩])
 (.seq
 (.reg false [⟨5, .mv (.k (.sc (.int .i64 1048576))), none, false⟩])
 (.seq
 (.reg false [⟨10, .ld 3 true (.t 2), none, false⟩,
 ⟨11, .mv (.t 5), none, false⟩,
 ⟨12, .ca (.k (.cl 34 [])) [(.t 10), (.t 11)], none, false⟩,
 ⟨5, .mv (.t 12), none, false⟩])
 (.seq
 (.seq
 (.reg false [⟨13, .mv (.t 5), none, false⟩,
 ⟨14, .ar .lss false (.t 13) (.k (.sc (.int .i64 0))), none, false⟩])
 (.ite (.t 14)
 (.seq
 (.reg false [⟨4, .mv (.k (.sc (.bool true))), none, false⟩])
 .ret)
 .skip))
 (.seq
 (.reg false [⟨15, .ld 3 true (.t 3), none, false⟩,
 ⟨16, .mv (.t 5), none, false⟩,
 ⟨17, .ca (.k (.cl 34 [])) [(.t 15), (.t 16)], none, false⟩,
 ⟨5, .mv (.t 17), none, false⟩])
 (.seq
 (.seq
 (.reg false [⟨18, .mv (.t 5), none, false⟩,
 ⟨19, .ar .lss false (.t 18) (.k (.sc (.int .i64 0))), none, false⟩])
 (.ite (.t 19)
 (.seq
 (.reg false [⟨4, .mv (.k (.sc (.bool true))), none, false⟩])
 .ret)
 .skip))
 (.seq
 (.reg true [⟨21, .ld 3 true (.t 2), none, false⟩,
 ⟨22, .ca (.k (.cl 36 [])) [(.t 21)], none, false⟩,
 ⟨23, .ld 3 true (.t 3), none, false⟩,
 ⟨24, .ca (.k (.cl 36 [])) [(.t 23)], none, false⟩,
 ⟨25, .ca (.k (.cl 48 [])) [(.t 22), (.t 24)], none, false⟩,
 ⟨20, .mv (.t 25), none, false⟩,
 ⟨26, .xt (.t 20) 0, none, false⟩,
 ⟨27, .xt (.t 20) 1, none, false⟩,
 ⟨6, .mv (.t 26), none, false⟩,
 ⟨7, .mv (.t 27), none, false⟩])
 (.seq
 (.reg true [⟨29, .ld 3 true (.t 2), none, false⟩,
 ⟨30, .ca (.k (.cl 36 [])) [(.t 29)], none, false⟩,
 ⟨31, .ld 3 true (.t 3), none, false⟩,
 ⟨32, .ca (.k (.cl 36 [])) [(.t 31)], none, false⟩,
 ⟨33, .ca (.k (.cl 49 [])) [(.t 30), (.t 32)], none, false⟩,
 ⟨28, .mv (.t 33), none, false⟩,
 ⟨34, .xt (.t 28) 0, none, false⟩,
 ⟨35, .xt (.t 28) 1, none, false⟩,
 ⟨8, .mv (.t 34), none, false⟩,
 ⟨9, .mv (.t 35), none, false⟩])
 (.seq
 (.seq
 (.reg false [⟨36, .mv (.t 8), none, false⟩,
 ⟨37, .mv (.t 6), none, false⟩,
 ⟨38, .ar .neq false (.t 36) (.t 37), none, false⟩,
 ⟨39, .mv (.t 38), none, false⟩,
 ⟨40, .mv (.t 9), (some (39, false)), false⟩,
 ⟨41, .mv (.t 7), (some (39, false)), false⟩,
 ⟨42, .ar .neq false (.t 40) (.t 41), (some (39, false)), false⟩,
 ⟨43, .pk (.t 39) (.k (.sc (.bool true))) (.t 42), none, false⟩])
 (.ite (.t 43)
 (.seq
 (.reg false [⟨4, .mv (.k (.sc (.bool false))), none, false⟩])
 .ret)
 .skip))
 (.seq
 (.reg false [⟨4, .mv (.k (.sc (.bool true))), none, false⟩])
 .ret))))))))))⟩
attribute [simp] i14
set_option maxRecDepth 1000000 in
theorem c14 : cFn Try.prog 14 [] = some i14 := by kernel_rfl
theorem e14 : enterOk Try.prog 14 = true := by kernel_rfl
def i15 : Ev.Fn := ⟨1, 4, [.tmp 2],
 (.seq
 (.reg false [⟨1, .bx (.t 0), none, false⟩,
 ⟨2, .mv (.k (.sc (.bool false))), none, false⟩])
 (.seq
 (.reg false [⟨3, .ca (.k (.cl 50 [])) [(.t 1)], none, false⟩,
 ⟨2, .mv (.t 3), none, false⟩])
 .ret))⟩
attribute [simp] i15
set_option maxRecDepth 1000000 in
theorem c15 : cFn Try.prog 15 [] = some i15 := by kernel_rfl
theorem e15 : enterOk Try.prog 15 = true := by kernel_rfl
def i16 : Ev.Fn := ⟨1, 17, [.cell 2 4 true],
 (.seq
 (.reg false [⟨1, .bx (.t 0), none, false⟩,
 ⟨2, .al [(.sc (.int .i64 0)), (.sc (.int .i64 0)), (.sc (.int .i64 0)), (.sc (.int .i64 0))], none, false⟩])
 (.seq
 (.reg false [⟨3, .al [(.sc (.int .i64 0)), (.sc (.int .i64 0)), (.sc (.int .i64 0)), (.sc (.int .i64 0))], none, false⟩])
 (.seq
 (.reg false [⟨4, .fa 0 (.t 1), none, false⟩,
 ⟨5, .ld 1 false (.t 4), none, false⟩,
 ⟨6, .fa 0 (.t 3), none, false⟩,
 ⟨1, .so 1 (.t 6) (.t 5), none, true⟩])
 (.seq
 (.reg false [⟨7, .fa 1 (.t 1), none, false⟩,
 ⟨8, .ld 1 false (.t 7), none, false⟩,
 ⟨9, .fa 1 (.t 3), none, false⟩,
 ⟨1, .so 1 (.t 9) (.t 8), none, true⟩])
 (.seq
 (.reg false [⟨10, .fa 2 (.t 1), none, false⟩,
 ⟨11, .ld 1 false (.t 10), none, false⟩,
 ⟨12, .fa 2 (.t 3), none, false⟩,
 ⟨1, .so 1 (.t 12) (.t 11), none, true⟩])
 (.seq
 (.reg false [⟨13, .fa 3 (.t 1), none, false⟩,
 ⟨14, .ld 1 false (.t 13), none, false⟩,
 ⟨15, .fa 3 (.t 3), none, false⟩,
 ⟨1, .so 1 (.t 15) (.t 14), none, true⟩])
 (.seq
 (.reg false [⟨16, .ld 4 true (.t 3), none, false⟩,
 ⟨1, .so 4 (.t 2) (.t 16), none, true⟩])
 .ret)))))))⟩
attribute [simp] i16
set_option maxRecDepth 1000000 in
theorem c16 : cFn Try.prog 16 [] = some i16 := by kernel_rfl
theorem e16 : enterOk Try.prog 16 = true := by kernel_rfl
def i17 : Ev.Fn := ⟨1, 21, [.tmp 2],
 (.seq
 (.reg false [⟨1, .bx (.t 0), none, false⟩,
 ⟨2, .mv (.k (.sc (.bool false))), none, false⟩])
 (.seq
 (.reg false [⟨3, .fa 0 (.t 1), none, false⟩,
 ⟨4, .ld 1 false (.t 3), none, false⟩,
 ⟨5, .ca (.k (.cl 51 [])) [(.t 4), (.k (.sc (.int .i64 0))), (.k (.sc (.int .i64 500)))], none, false⟩,
 ⟨6, .mv (.t 5), none, false⟩,
 ⟨7, .fa 1 (.t 1), (some (6, true)), false⟩,
 ⟨8, .ld 1 false (.t 7), (some (6, true)), false⟩,
 ⟨9, .ca (.k (.cl 51 [])) [(.t 8), (.k (.sc (.int .i64 0))), (.k (.sc (.int .i64 500)))], (some (6, true)), false⟩,
 ⟨10, .pk (.t 6) (.t 9) (.k (.sc (.bool false))), none, false⟩,
 ⟨11, .mv (.t 10), none, false⟩,
 ⟨12, .fa 2 (.t 1), (some (11, true)), false⟩,
 ⟨13, .ld 1 false (.t 12), (some (11, true)), false⟩,
 ⟨14, .ca (.k (.cl 51 [])) [(.t 13), (.k (.sc (.int .i64 0))), (.k (.sc (.int .i64 90)))], (some (11, true)), false⟩,
 ⟨15, .pk (.t 11) (.t 14) (.k (.sc (.bool false))), none, false⟩,
 ⟨16, .mv (.t 15), none, false⟩,
 ⟨17, .fa 3 (.t 1), (some (16, true)), false⟩,
 ⟨18, .ld 1 false (.t 17), (some (16, true)), false⟩,
 ⟨19, .ca (.k (.cl 51 [])) [(.t 18), (.k (.sc (.int .i64 0))), (.k (.sc (.int .i64 100)))], (some (16, true)), false⟩,
 ⟨20, .pk (.t 16) (.t 19) (.k (.sc (.bool false))), none, false⟩,
 ⟨2, .mv (.t 20), none, false⟩])
 .ret))⟩
attribute [simp] i17
set_option maxRecDepth 1000000 in
theorem c17 : cFn Try.prog 17 [] = some i17 := by kernel_rfl
theorem e17 : enterOk Try.prog 17 = true := by kernel_rfl
def i18 : Ev.Fn := ⟨2, 17, [.tmp 4, .tmp 5],
 (.seq
 (.reg false [⟨4, .mv (.k (.sc (.int .i64 0))), none, false⟩,
 ⟨5, .mv (.k (.sc (.int .i64 0))), none, false⟩])
 (.seq
 (.seq
 (.reg false [⟨6, .mv (.t 0), none, false⟩,
 ⟨7, .ca (.k (.cl 52 [])) [(.t 6)], none, false⟩,
 ⟨8, .nt (.t 7), none, false⟩,
 ⟨9, .mv (.t 8), none, false⟩,
 ⟨10, .mv (.t 1), (some (9, false)), false⟩,
 ⟨11, .ca (.k (.cl 53 [])) [(.t 10)], (some (9, false)), false⟩,
 ⟨12, .nt (.t 11), (some (9, false)), false⟩,
 ⟨13, .pk (.t 9) (.k (.sc (.bool true))) (.t 12), none, false⟩])
 (.ite (.t 13)
 (.seq
 (.reg false [⟨4, .mv (.k (.sc (.int .i64 0))), none, false⟩,
 ⟨5, .mv (.k (.sc (.int .i64 2))), none, false⟩])
 .ret)
 .skip))
 (.seq
 (.reg false [⟨14, .mv (.t 0), none, false⟩,
 ⟨15, .mv (.t 1), none, false⟩,
 ⟨16, .ca (.k (.cl 54 [])) [(.t 14), (.t 15)], none, false⟩,
 ⟨4, .mv (.t 16), none, false⟩,
 ⟨5, .mv (.k (.sc (.int .i64 0))), none, false⟩])
 .ret)))⟩
attribute [simp] i18
set_option maxRecDepth 1000000 in
theorem c18 : cFn Try.prog 18 [] = some i18 := by kernel_rfl
theorem e18 : enterOk Try.prog 18 = true := by kernel_rfl
def i19 : Ev.Fn := ⟨2, 23, [.tmp 4, .tmp 5],
 (.seq
 (.reg false [⟨4, .mv (.k (.sc (.int .i64 0))), none, false⟩,
 ⟨5, .mv (.k (.sc (.int .i64 0))), none, false⟩])
 (.seq
 (.seq
 (.reg false [⟨6, .mv (.t 0), none, false⟩,
 ⟨7, .ca (.k (.cl 51 [])) [(.t 6), (.k (.sc (.int .i64 0))), (.k (.sc (.int .i64 179)))], none, false⟩,
 ⟨8, .nt (.t 7), none, false⟩,
 ⟨9, .mv (.t 8), none, false⟩,
 ⟨10, .mv (.t 1), (some (9, false)), false⟩,
 ⟨11, .ca (.k (.cl 51 [])) [(.t 10), (.k (.sc (.int .i64 0))), (.k (.sc (.int .i64 7)))], (some (9, false)), false⟩,
 ⟨12, .nt (.t 11), (some (9, false)), false⟩,
 ⟨13, .pk (.t 9) (.k (.sc (.bool true))) (.t 12), none, false⟩])
 (.ite (.t 13)
 (.seq
 (.reg false [⟨4, .mv (.k (.sc (.int .i64 0))), none, false⟩,
 ⟨5, .mv (.k (.sc (.int .i64 2))), none, false⟩])
 .ret)
 .skip))
 (.seq
 (.seq
 (.reg false [⟨14, .mv (.t 1), none, false⟩,
 ⟨15, .ar .gtr false (.t 14) (.k (.sc (.int .i64 3))), none, false⟩])
 (.ite (.t 15)
 (.reg false [⟨16, .mv (.t 0), none, false⟩,
 ⟨17, .ar .sub false (.k (.sc (.int .i64 180))) (.t 16), none, false⟩,
 ⟨0, .mv (.t 17), none, false⟩])
 .skip))
 (.seq
 (.reg false [⟨18, .mv (.t 0), none, false⟩,
 ⟨19, .mv (.t 1), none, false⟩,
 ⟨20, .ar .mul false (.k (.sc (.int .i64 90))) (.t 19), none, false⟩,
 ⟨21, .ar .add false (.t 18) (.t 20), none, false⟩,
 ⟨22, .ar .rem false (.t 21) (.k (.sc (.int .i64 180))), none, false⟩,
 ⟨4, .mv (.t 22), none, false⟩,
 ⟨5, .mv (.k (.sc (.int .i64 0))), none, false⟩])
 .ret))))⟩
attribute [simp] i19
set_option maxRecDepth 1000000 in
theorem c19 : cFn Try.prog 19 [] = some i19 := by kernel_rfl
theorem e19 : enterOk Try.prog 19 = true := by kernel_rfl
def i20 : Ev.Fn := ⟨2, 17, [.tmp 4, .tmp 5],
 (.seq
 (.reg false [⟨4, .mv (.k (.sc (.int .i64 0))), none, false⟩,
 ⟨5, .mv (.k (.sc (.int .i64 0))), none, false⟩])
 (.seq
 (.seq
 (.reg false [⟨6, .mv (.t 0), none, false⟩,
 ⟨7, .ca (.k (.cl 52 [])) [(.t 6)], none, false⟩,
 ⟨8, .nt (.t 7), none, false⟩,
 ⟨9, .mv (.t 8), none, false⟩,
 ⟨10, .mv (.t 1), (some (9, false)), false⟩,
 ⟨11, .ca (.k (.cl 52 [])) [(.t 10)], (some (9, false)), false⟩,
 ⟨12, .nt (.t 11), (some (9, false)), false⟩,
 ⟨13, .pk (.t 9) (.k (.sc (.bool true))) (.t 12), none, false⟩])
 (.ite (.t 13)
 (.seq
 (.reg false [⟨4, .mv (.k (.sc (.int .i64 0))), none, false⟩,
 ⟨5, .mv (.k (.sc (.int .i64 2))), none, false⟩])
 .ret)
 .skip))
 (.seq
 (.reg false [⟨14, .mv (.t 0), none, false⟩,
 ⟨15, .mv (.t 1), none, false⟩,
 ⟨16, .ca (.k (.cl 55 [])) [(.t 14), (.t 15)], none, false⟩,
 ⟨4, .mv (.t 16), none, false⟩,
 ⟨5, .mv (.k (.sc (.int .i64 0))), none, false⟩])
 .ret)))⟩
attribute [simp] i20
set_option maxRecDepth 1000000 in
theorem c20 : cFn Try.prog 20 [] = some i20 := by kernel_rfl
theorem e20 : enterOk Try.prog 20 = true := by kernel_rfl
def i21 : Ev.Fn := ⟨2, 26, [.tmp 4, .tmp 5],
 (.seq
 (.reg false [⟨4, .mv (.k (.sc (.int .i64 0))), none, false⟩,
 ⟨5, .mv (.k (.sc (.int .i64 0))), none, false⟩])
 (.seq
 (.seq
 (.reg false [⟨7, .mv (.t 0), none, false⟩,
 ⟨8, .ca (.k (.cl 51 [])) [(.t 7), (.k (.sc (.int .i64 0))), (.k (.sc (.int .i64 179)))], none, false⟩,
 ⟨9, .nt (.t 8), none, false⟩,
 ⟨10, .mv (.t 9), none, false⟩,
 ⟨11, .mv (.t 1), (some (10, false)), false⟩,
 ⟨12, .ca (.k (.cl 51 [])) [(.t 11), (.k (.sc (.int .i64 0))), (.k (.sc (.int .i64 179)))], (some (10, false)), false⟩,
 ⟨13, .nt (.t 12), (some (10, false)), false⟩,
 ⟨14, .pk (.t 10) (.k (.sc (.bool true))) (.t 13), none, false⟩])
 (.ite (.t 14)
 (.seq
 (.reg false [⟨4, .mv (.k (.sc (.int .i64 0))), none, false⟩,
 ⟨5, .mv (.k (.sc (.int .i64 2))), none, false⟩])
 .ret)
 .skip))
 (.seq
 (.reg false [⟨15, .mv (.t 0), none, false⟩,
 ⟨16, .mv (.t 1), none, false⟩,
 ⟨17, .ar .sub false (.t 15) (.t 16), none, false⟩,
 ⟨18, .mv (.t 1), none, false⟩,
 ⟨19, .mv (.t 0), none, false⟩,
 ⟨20, .ar .sub false (.t 18) (.t 19), none, false⟩,
 ⟨21, .mx (.t 17) (.t 20), none, false⟩,
 ⟨6, .mv (.t 21), none, false⟩])
 (.seq
 (.reg false [⟨22, .mv (.t 6), none, false⟩,
 ⟨23, .mv (.t 6), none, false⟩,
 ⟨24, .ar .sub false (.k (.sc (.int .i64 180))) (.t 23), none, false⟩,
 ⟨25, .mn (.t 22) (.t 24), none, false⟩,
 ⟨4, .mv (.t 25), none, false⟩,
 ⟨5, .mv (.k (.sc (.int .i64 0))), none, false⟩])
 .ret))))⟩
attribute [simp] i21
set_option maxRecDepth 1000000 in
theorem c21 : cFn Try.prog 21 [] = some i21 := by kernel_rfl
theorem e21 : enterOk Try.prog 21 = true := by kernel_rfl
def i22 : Ev.Fn := ⟨2, 12, [.tmp 4],
 (.seq
 (.reg false [⟨2, .bx (.t 0), none, false⟩,
 ⟨3, .bx (.t 1), none, false⟩,
 ⟨4, .mv (.k (.sc (.bool false))), none, false⟩])
 (.seq
 (.reg false [⟨5, .ca (.k (.cl 56 [])) [(.t 2), (.k (.sc (.int .i64 20000))), (.k (.sc (.int .i64 20000)))], none, false⟩,
 ⟨6, .mv (.t 5), none, false⟩,
 ⟨7, .ca (.k (.cl 56 [])) [(.t 3), (.k (.sc (.int .i64 20000))), (.k (.sc (.int .i64 20000)))], (some (6, true)), false⟩,
 ⟨8, .pk (.t 6) (.t 7) (.k (.sc (.bool false))), none, false⟩,
 ⟨9, .mv (.t 8), none, false⟩,
 ⟨10, .ca (.k (.cl 57 [])) [(.t 2), (.t 3)], (some (9, true)), false⟩,
 ⟨11, .pk (.t 9) (.t 10) (.k (.sc (.bool false))), none, false⟩,
 ⟨4, .mv (.t 11), none, false⟩])
 .ret))⟩
attribute [simp] i22
set_option maxRecDepth 1000000 in
theorem c22 : cFn Try.prog 22 [] = some i22 := by kernel_rfl
theorem e22 : enterOk Try.prog 22 = true := by kernel_rfl
def i23 : Ev.Fn := ⟨1, 17, [.cell 2 4 true],
 (.seq
 (.reg false [⟨1, .bx (.t 0), none, false⟩,
 ⟨2, .al [(.sc (.int .i64 0)), (.sc (.int .i64 0)), (.sc (.int .i64 0)), (.sc (.int .i64 0))], none, false⟩])
 (.seq
 (.reg false [⟨3, .al [(.sc (.int .i64 0)), (.sc (.int .i64 0)), (.sc (.int .i64 0)), (.sc (.int .i64 0))], none, false⟩])
 (.seq
 (.reg false [⟨4, .fa 0 (.t 1), none, false⟩,
 ⟨5, .ld 1 false (.t 4), none, false⟩,
 ⟨6, .fa 0 (.t 3), none, false⟩,
 ⟨1, .so 1 (.t 6) (.t 5), none, true⟩])
 (.seq
 (.reg false [⟨7, .fa 1 (.t 1), none, false⟩,
 ⟨8, .ld 1 false (.t 7), none, false⟩,
 ⟨9, .fa 1 (.t 3), none, false⟩,
 ⟨1, .so 1 (.t 9) (.t 8), none, true⟩])
 (.seq
 (.reg false [⟨10, .fa 2 (.t 1), none, false⟩,
 ⟨11, .ld 1 false (.t 10), none, false⟩,
 ⟨12, .fa 2 (.t 3), none, false⟩,
 ⟨1, .so 1 (.t 12) (.t 11), none, true⟩])
 (.seq
 (.reg false [⟨13, .fa 3 (.t 1), none, false⟩,
 ⟨14, .ld 1 false (.t 13), none, false⟩,
 ⟨15, .fa 3 (.t 3), none, false⟩,
 ⟨1, .so 1 (.t 15) (.t 14), none, true⟩])
 (.seq
 (.reg false [⟨16, .ld 4 true (.t 3), none, false⟩,
 ⟨1, .so 4 (.t 2) (.t 16), none, true⟩])
 .ret)))))))⟩
attribute [simp] i23
set_option maxRecDepth 1000000 in
theorem c23 : cFn Try.prog 23 [] = some i23 := by kernel_rfl
theorem e23 : enterOk Try.prog 23 = true := by kernel_rfl
def i24 : Ev.Fn := ⟨2, 16, [.tmp 4],
 (.seq
 (.reg false [⟨2, .bx (.t 0), none, false⟩,
 ⟨3, .bx (.t 1), none, false⟩,
 ⟨4, .mv (.k (.sc (.bool false))), none, false⟩])
 (.seq
 (.reg false [⟨5, .ld 4 true (.t 2), none, false⟩,
 ⟨6, .ca (.k (.cl 58 [])) [(.t 5), (.k (.sc (.int .i64 20000))), (.k (.sc (.int .i64 20000)))], none, false⟩,
 ⟨7, .mv (.t 6), none, false⟩,
 ⟨8, .ld 4 true (.t 3), (some (7, true)), false⟩,
 ⟨9, .ca (.k (.cl 58 [])) [(.t 8), (.k (.sc (.int .i64 20000))), (.k (.sc (.int .i64 20000)))], (some (7, true)), false⟩,
 ⟨10, .pk (.t 7) (.t 9) (.k (.sc (.bool false))), none, false⟩,
 ⟨11, .mv (.t 10), none, false⟩,
 ⟨12, .ld 4 true (.t 2), (some (11, true)), false⟩,
 ⟨13, .ld 4 true (.t 3), (some (11, true)), false⟩,
 ⟨14, .ca (.k (.cl 59 [])) [(.t 12), (.t 13)], (some (11, true)), false⟩,
 ⟨15, .pk (.t 11) (.t 14) (.k (.sc (.bool false))), none, false⟩,
 ⟨4, .mv (.t 15), none, false⟩])
 .ret))⟩
attribute [simp] i24
set_option maxRecDepth 1000000 in
theorem c24 : cFn Try.prog 24 [] = some i24 := by kernel_rfl
theorem e24 : enterOk Try.prog 24 = true := by kernel_rfl
def i25 : Ev.Fn := ⟨0, 2, [.tmp 0],
 (.seq
 (.reg false [⟨0, .mv (.k .nl), none, false⟩])
 (.seq
 (.reg false [⟨1, .ca (.k (.cl 60 [])) [], none, false⟩,
 ⟨0, .mv (.t 1), none, false⟩])
 .ret))⟩
attribute [simp] i25
set_option maxRecDepth 1000000 in
theorem c25 : cFn Try.prog 25 [] = some i25 := by kernel_rfl
theorem e25 : enterOk Try.prog 25 = true := by kernel_rfl
def i26 : Ev.Fn := ⟨0, 2, [.tmp 0],
 (.seq
 (.reg false [⟨0, .mv (.k .nl), none, false⟩])
 (.seq
 (.reg false [⟨1, .bs 9 1 [(.sc (.string ⟨#[]⟩))] 10 [(0, (.k (.sc (.string ⟨#[97, 115, 104]⟩)))), (1, (.k (.sc (.string ⟨#[98, 101, 101, 99, 104]⟩)))), (2, (.k (.sc (.string ⟨#[98, 105, 114, 99, 104]⟩)))), (3, (.k (.sc (.string ⟨#[99, 104, 101, 114, 114, 121]⟩)))), (4, (.k (.sc (.string ⟨#[101, 98, 111, 110, 121]⟩)))), (5, (.k (.sc (.string ⟨#[104, 111, 108, 108, 121]⟩)))), (6, (.k (.sc (.string ⟨#[109, 97, 112, 108, 101]⟩)))), (7, (.k (.sc (.string ⟨#[111, 97, 107]⟩)))), (8, (.k (.sc (.string ⟨#[114, 111, 115, 101, 119, 111, 111, 100]⟩)))), (9, (.k (.sc (.string ⟨#[119, 97, 108, 110, 117, 116]⟩))))], none, false⟩,
 ⟨0, .mv (.t 1), none, false⟩])
 .ret))⟩
attribute [simp] i26
set_option maxRecDepth 1000000 in
theorem c26 : cFn Try.prog 26 [] = some i26 := by kernel_rfl
theorem e26 : enterOk Try.prog 26 = true := by kernel_rfl
def w27_1 : IC :=
(.seq
 (.seq
 (.reg false [⟨11, .mv (.t 5), none, false⟩,
 ⟨12, .mv (.t 0), none, false⟩,
 ⟨13, .ln false (.t 12), none, false⟩,
 ⟨14, .ar .lss false (.t 11) (.t 13), none, false⟩])
 (.ite (.t 14)
 .skip
 (.exit 0)))
 (.seq
 (.block 1
 (.seq
 (.reg true [⟨17, .mv (.t 0), none, false⟩,
 ⟨18, .mv (.t 5), none, false⟩,
 ⟨19, .ia 1 (.t 17) (.t 18), none, false⟩,
 ⟨20, .ld 1 false (.t 19), none, false⟩,
 ⟨21, .mv (.t 1), none, false⟩,
 ⟨22, .mv (.t 5), none, false⟩,
 ⟨23, .ia 1 (.t 21) (.t 22), none, false⟩,
 ⟨24, .ld 1 false (.t 23), none, false⟩,
 ⟨25, .ar .neq false (.t 20) (.t 24), none, false⟩])
 (.ite (.t 25)
 (.seq
 (.reg false [⟨4, .mv (.k (.sc (.bool false))), none, false⟩])
 .ret)
 .skip)))
 (.reg false [⟨15, .mv (.t 5), none, false⟩,
 ⟨16, .ar .add false (.t 15) (.k (.sc (.int .i64 1))), none, false⟩,
 ⟨5, .mv (.t 16), none, false⟩])))
def b27_1 : IC := w27_1
theorem u27_1 (call : CallF) (st : St) : evC call b27_1 st = evC call w27_1 st := rfl
attribute [simp] u27_1 w27_1
def i27 : Ev.Fn := ⟨2, 26, [.tmp 4],
 (.seq
 (.reg false [⟨4, .mv (.k (.sc (.bool false))), none, false⟩])
 (.seq
 (.seq
 (.reg false [⟨6, .mv (.t 0), none, false⟩,
 ⟨7, .ln false (.t 6), none, false⟩,
 ⟨8, .mv (.t 1), none, false⟩,
 ⟨9, .ln false (.t 8), none, false⟩,
 ⟨10, .ar .neq false (.t 7) (.t 9), none, false⟩])
 (.ite (.t 10)
 (.seq
 (.reg false [⟨4, .mv (.k (.sc (.bool false))), none, false⟩])
 .ret)
 .skip))
 (.seq
 (.seq
 (.reg false [⟨5, .mv (.k (.sc (.int .i64 0))), none, false⟩])
 (.cln [] [4]
 (.block 0
 (.loop [0, 1, 5] b27_1))))
 (.seq
 (.reg false [⟨4, .mv (.k (.sc (.bool true))), none, false⟩])
 .ret))))⟩
attribute [simp] i27
set_option maxRecDepth 1000000 in
theorem c27 : cFn Try.prog 27 [[0, 1, 5], [], [4]] = some i27 := by kernel_rfl
theorem e27 : enterOk Try.prog 27 = true := by kernel_rfl
def w28_1 : IC :=
(.seq
 (.seq
 (.reg false [⟨6, .mv (.t 5), none, false⟩,
 ⟨7, .mv (.t 0), none, false⟩,
 ⟨8, .ln false (.t 7), none, false⟩,
 ⟨9, .ar .lss false (.t 6) (.t 8), none, false⟩])
 (.ite (.t 9)
 .skip
 (.exit 0)))
 (.seq
 (.block 1
 (.seq
 (.reg false [⟨12, .mv (.t 0), none, false⟩,
 ⟨13, .mv (.t 5), none, false⟩,
 ⟨14, .mv (.t 1), none, false⟩,
 ⟨15, .ca (.k (.cl 61 [])) [(.t 14)], none, false⟩,
 ⟨16, .ia 1 (.t 12) (.t 13), none, false⟩,
 ⟨1, .so 1 (.t 16) (.t 15), none, true⟩])
 (.reg false [⟨17, .mv (.t 1), none, false⟩,
 ⟨18, .ar .add false (.t 17) (.k (.sc (.int .i64 1))), none, false⟩,
 ⟨1, .mv (.t 18), none, false⟩])))
 (.reg false [⟨10, .mv (.t 5), none, false⟩,
 ⟨11, .ar .add false (.t 10) (.k (.sc (.int .i64 1))), none, false⟩,
 ⟨5, .mv (.t 11), none, false⟩])))
def b28_1 : IC := w28_1
theorem u28_1 (call : CallF) (st : St) : evC call b28_1 st = evC call w28_1 st := rfl
attribute [simp] u28_1 w28_1
def i28 : Ev.Fn := ⟨2, 20, [.tmp 4],
 (.seq
 (.reg false [⟨4, .mv (.k (.sc (.int .i64 0))), none, false⟩])
 (.seq
 (.seq
 (.reg false [⟨5, .mv (.k (.sc (.int .i64 0))), none, false⟩])
 (.cln [1] [4]
 (.block 0
 (.loop [0, 1, 5] b28_1))))
 (.seq
 (.reg false [⟨19, .mv (.t 1), none, false⟩,
 ⟨4, .mv (.t 19), none, false⟩])
 .ret)))⟩
attribute [simp] i28
set_option maxRecDepth 1000000 in
theorem c28 : cFn Try.prog 28 [[0, 1, 5], [1], [4]] = some i28 := by kernel_rfl
theorem e28 : enterOk Try.prog 28 = true := by kernel_rfl
def w29_1 : IC :=
(.seq
 (.seq
 (.reg false [⟨6, .mv (.t 5), none, false⟩,
 ⟨7, .mv (.t 0), none, false⟩,
 ⟨8, .ln false (.t 7), none, false⟩,
 ⟨9, .ar .lss false (.t 6) (.t 8), none, false⟩])
 (.ite (.t 9)
 .skip
 (.exit 0)))
 (.seq
 (.block 1
 (.seq
 (.seq
 (.reg true [⟨12, .mv (.t 0), none, false⟩,
 ⟨13, .mv (.t 5), none, false⟩,
 ⟨14, .ia 1 (.t 12) (.t 13), none, false⟩,
 ⟨15, .ld 1 false (.t 14), none, false⟩,
 ⟨16, .mv (.t 1), none, false⟩,
 ⟨17, .ca (.k (.cl 61 [])) [(.t 16)], none, false⟩,
 ⟨18, .ar .neq false (.t 15) (.t 17), none, false⟩])
 (.ite (.t 18)
 (.seq
 (.reg false [⟨4, .mv (.k (.sc (.int .i64 (-1)))), none, false⟩])
 .ret)
 .skip))
 (.reg false [⟨19, .mv (.t 1), none, false⟩,
 ⟨20, .ar .add false (.t 19) (.k (.sc (.int .i64 1))), none, false⟩,
 ⟨1, .mv (.t 20), none, false⟩])))
 (.reg false [⟨10, .mv (.t 5), none, false⟩,
 ⟨11, .ar .add false (.t 10) (.k (.sc (.int .i64 1))), none, false⟩,
 ⟨5, .mv (.t 11), none, false⟩])))
def b29_1 : IC := w29_1
theorem u29_1 (call : CallF) (st : St) : evC call b29_1 st = evC call w29_1 st := rfl
attribute [simp] u29_1 w29_1
def i29 : Ev.Fn := ⟨2, 22, [.tmp 4],
 (.seq
 (.reg false [⟨4, .mv (.k (.sc (.int .i64 0))), none, false⟩])
 (.seq
 (.seq
 (.reg false [⟨5, .mv (.k (.sc (.int .i64 0))), none, false⟩])
 (.cln [1] [4]
 (.block 0
 (.loop [0, 1, 5] b29_1))))
 (.seq
 (.reg false [⟨21, .mv (.t 1), none, false⟩,
 ⟨4, .mv (.t 21), none, false⟩])
 .ret)))⟩
attribute [simp] i29
set_option maxRecDepth 1000000 in
theorem c29 : cFn Try.prog 29 [[0, 1, 5], [1], [4]] = some i29 := by kernel_rfl
theorem e29 : enterOk Try.prog 29 = true := by kernel_rfl
def i30 : Ev.Fn := ⟨1, 25, [.tmp 2, .tmp 3, .tmp 4, .tmp 5],
 (.seq
 (.reg false [⟨2, .mv (.k (.sc (.int .i64 0))), none, false⟩,
 ⟨3, .mv (.k (.sc (.int .i64 0))), none, false⟩,
 ⟨4, .mv (.k (.sc (.int .i64 0))), none, false⟩,
 ⟨5, .mv (.k (.sc (.int .i64 0))), none, false⟩])
 (.seq
 (.reg false [⟨8, .mv (.t 0), none, false⟩,
 ⟨9, .ca (.k (.cl 62 [])) [(.t 8)], none, false⟩,
 ⟨6, .mv (.t 9), none, false⟩])
 (.seq
 (.seq
 (.reg false [⟨10, .mv (.t 6), none, false⟩,
 ⟨11, .ar .lss false (.t 10) (.k (.sc (.int .i64 0))), none, false⟩])
 (.ite (.t 11)
 (.seq
 (.reg false [⟨2, .mv (.k (.sc (.int .i64 0))), none, false⟩,
 ⟨3, .mv (.k (.sc (.int .i64 0))), none, false⟩,
 ⟨4, .mv (.k (.sc (.int .i64 0))), none, false⟩,
 ⟨5, .mv (.k (.sc (.int .i64 3))), none, false⟩])
 .ret)
 .skip))
 (.seq
 (.reg false [⟨12, .ca (.k (.cl 63 [])) [], none, false⟩,
 ⟨13, .mv (.t 6), none, false⟩,
 ⟨14, .ia 1 (.t 12) (.t 13), none, false⟩,
 ⟨15, .ld 1 false (.t 14), none, false⟩,
 ⟨7, .mv (.t 15), none, false⟩])
 (.seq
 (.reg true [⟨16, .mv (.t 7), none, false⟩,
 ⟨17, .ia 1 (.t 16) (.k (.sc (.int .i64 0))), none, false⟩,
 ⟨18, .ld 1 false (.t 17), none, false⟩,
 ⟨19, .mv (.t 7), none, false⟩,
 ⟨20, .ia 1 (.t 19) (.k (.sc (.int .i64 1))), none, false⟩,
 ⟨21, .ld 1 false (.t 20), none, false⟩,
 ⟨22, .mv (.t 7), none, false⟩,
 ⟨23, .ia 1 (.t 22) (.k (.sc (.int .i64 2))), none, false⟩,
 ⟨24, .ld 1 false (.t 23), none, false⟩,
 ⟨2, .mv (.t 18), none, false⟩,
 ⟨3, .mv (.t 21), none, false⟩,
 ⟨4, .mv (.t 24), none, false⟩,
 ⟨5, .mv (.k (.sc (.int .i64 0))), none, false⟩])
 .ret)))))⟩
attribute [simp] i30
set_option maxRecDepth 1000000 in
theorem c30 : cFn Try.prog 30 [] = some i30 := by kernel_rfl
theorem e30 : enterOk Try.prog 30 = true := by kernel_rfl
def i31 : Ev.Fn := ⟨1, 27, [.tmp 2, .tmp 3, .tmp 4, .tmp 5],
 (.seq
 (.reg false [⟨2, .mv (.k (.sc (.int .i64 0))), none, false⟩,
 ⟨3, .mv (.k (.sc (.int .i64 0))), none, false⟩,
 ⟨4, .mv (.k (.sc (.int .i64 0))), none, false⟩,
 ⟨5, .mv (.k (.sc (.int .i64 0))), none, false⟩])
 (.seq
 (.seq
 (.reg false [⟨6, .mv (.t 0), none, false⟩])
 (.block 0
 (.seq
 (.reg false [⟨8, .ar .eql false (.t 6) (.k (.sc (.string ⟨#[97, 115, 104]⟩))), none, false⟩,
 ⟨7, .mv (.t 8), none, false⟩])
 (.ite (.t 7)
 (.seq
 (.reg false [⟨2, .mv (.k (.sc (.int .i64 20))), none, false⟩,
 ⟨3, .mv (.k (.sc (.int .i64 40))), none, false⟩,
 ⟨4, .mv (.k (.sc (.int .i64 310))), none, false⟩,
 ⟨5, .mv (.k (.sc (.int .i64 0))), none, false⟩])
 .ret)
 (.seq
 (.reg false [⟨10, .ar .eql false (.t 6) (.k (.sc (.string ⟨#[98, 101, 101, 99, 104]⟩))), none, false⟩,
 ⟨9, .mv (.t 10), none, false⟩])
 (.ite (.t 9)
 (.seq
 (.reg false [⟨2, .mv (.k (.sc (.int .i64 35))), none, false⟩,
 ⟨3, .mv (.k (.sc (.int .i64 45))), none, false⟩,
 ⟨4, .mv (.k (.sc (.int .i64 410))), none, false⟩,
 ⟨5, .mv (.k (.sc (.int .i64 0))), none, false⟩])
 .ret)
 (.seq
 (.reg false [⟨12, .ar .eql false (.t 6) (.k (.sc (.string ⟨#[98, 105, 114, 99, 104]⟩))), none, false⟩,
 ⟨11, .mv (.t 12), none, false⟩])
 (.ite (.t 11)
 (.seq
 (.reg false [⟨2, .mv (.k (.sc (.int .i64 15))), none, false⟩,
 ⟨3, .mv (.k (.sc (.int .i64 33))), none, false⟩,
 ⟨4, .mv (.k (.sc (.int .i64 280))), none, false⟩,
 ⟨5, .mv (.k (.sc (.int .i64 0))), none, false⟩])
 .ret)
 (.seq
 (.reg false [⟨14, .ar .eql false (.t 6) (.k (.sc (.string ⟨#[99, 104, 101, 114, 114, 121]⟩))), none, false⟩,
 ⟨13, .mv (.t 14), none, false⟩])
 (.ite (.t 13)
 (.seq
 (.reg false [⟨2, .mv (.k (.sc (.int .i64 50))), none, false⟩,
 ⟨3, .mv (.k (.sc (.int .i64 36))), none, false⟩,
 ⟨4, .mv (.k (.sc (.int .i64 240))), none, false⟩,
 ⟨5, .mv (.k (.sc (.int .i64 0))), none, false⟩])
 .ret)
 (.seq
 (.reg false [⟨16, .ar .eql false (.t 6) (.k (.sc (.string ⟨#[101, 98, 111, 110, 121]⟩))), none, false⟩,
 ⟨15, .mv (.t 16), none, false⟩])
 (.ite (.t 15)
 (.seq
 (.reg false [⟨2, .mv (.k (.sc (.int .i64 95))), none, false⟩,
 ⟨3, .mv (.k (.sc (.int .i64 85))), none, false⟩,
 ⟨4, .mv (.k (.sc (.int .i64 270))), none, false⟩,
 ⟨5, .mv (.k (.sc (.int .i64 0))), none, false⟩])
 .ret)
 (.seq
 (.reg false [⟨18, .ar .eql false (.t 6) (.k (.sc (.string ⟨#[104, 111, 108, 108, 121]⟩))), none, false⟩,
 ⟨17, .mv (.t 18), none, false⟩])
 (.ite (.t 17)
 (.seq
 (.reg false [⟨2, .mv (.k (.sc (.int .i64 5))), none, false⟩,
 ⟨3, .mv (.k (.sc (.int .i64 35))), none, false⟩,
 ⟨4, .mv (.k (.sc (.int .i64 370))), none, false⟩,
 ⟨5, .mv (.k (.sc (.int .i64 0))), none, false⟩])
 .ret)
 (.seq
 (.reg false [⟨20, .ar .eql false (.t 6) (.k (.sc (.string ⟨#[109, 97, 112, 108, 101]⟩))), none, false⟩,
 ⟨19, .mv (.t 20), none, false⟩])
 (.ite (.t 19)
 (.seq
 (.reg false [⟨2, .mv (.k (.sc (.int .i64 10))), none, false⟩,
 ⟨3, .mv (.k (.sc (.int .i64 42))), none, false⟩,
 ⟨4, .mv (.k (.sc (.int .i64 290))), none, false⟩,
 ⟨5, .mv (.k (.sc (.int .i64 0))), none, false⟩])
 .ret)
 (.seq
 (.reg false [⟨22, .ar .eql false (.t 6) (.k (.sc (.string ⟨#[111, 97, 107]⟩))), none, false⟩,
 ⟨21, .mv (.t 22), none, false⟩])
 (.ite (.t 21)
 (.seq
 (.reg false [⟨2, .mv (.k (.sc (.int .i64 40))), none, false⟩,
 ⟨3, .mv (.k (.sc (.int .i64 40))), none, false⟩,
 ⟨4, .mv (.k (.sc (.int .i64 330))), none, false⟩,
 ⟨5, .mv (.k (.sc (.int .i64 0))), none, false⟩])
 .ret)
 (.seq
 (.reg false [⟨24, .ar .eql false (.t 6) (.k (.sc (.string ⟨#[114, 111, 115, 101, 119, 111, 111, 100]⟩))), none, false⟩,
 ⟨23, .mv (.t 24), none, false⟩])
 (.ite (.t 23)
 (.seq
 (.reg false [⟨2, .mv (.k (.sc (.int .i64 80))), none, false⟩,
 ⟨3, .mv (.k (.sc (.int .i64 60))), none, false⟩,
 ⟨4, .mv (.k (.sc (.int .i64 220))), none, false⟩,
 ⟨5, .mv (.k (.sc (.int .i64 0))), none, false⟩])
 .ret)
 (.seq
 (.reg false [⟨26, .ar .eql false (.t 6) (.k (.sc (.string ⟨#[119, 97, 108, 110, 117, 116]⟩))), none, false⟩,
 ⟨25, .mv (.t 26), none, false⟩])
 (.ite (.t 25)
 (.seq
 (.reg false [⟨2, .mv (.k (.sc (.int .i64 70))), none, false⟩,
 ⟨3, .mv (.k (.sc (.int .i64 38))), none, false⟩,
 ⟨4, .mv (.k (.sc (.int .i64 260))), none, false⟩,
 ⟨5, .mv (.k (.sc (.int .i64 0))), none, false⟩])
 .ret)
 .skip))))))))))))))))))))))
 (.seq
 (.reg false [⟨2, .mv (.k (.sc (.int .i64 0))), none, false⟩,
 ⟨3, .mv (.k (.sc (.int .i64 0))), none, false⟩,
 ⟨4, .mv (.k (.sc (.int .i64 0))), none, false⟩,
 ⟨5, .mv (.k (.sc (.int .i64 3))), none, false⟩])
 .ret)))⟩
attribute [simp] i31
set_option maxRecDepth 1000000 in
theorem c31 : cFn Try.prog 31 [] = some i31 := by kernel_rfl
theorem e31 : enterOk Try.prog 31 = true := by kernel_rfl
def w32_1 : IC :=
(.seq
 (.seq
 (.reg false [⟨12, .mv (.t 6), none, false⟩,
 ⟨13, .mv (.t 4), none, false⟩,
 ⟨14, .ln false (.t 13), none, false⟩,
 ⟨15, .ar .lss false (.t 12) (.t 14), none, false⟩])
 (.ite (.t 15)
 .skip
 (.exit 0)))
 (.seq
 (.block 1
 (.seq
 (.reg true [⟨18, .mv (.t 4), none, false⟩,
 ⟨19, .mv (.t 6), none, false⟩,
 ⟨20, .ia 1 (.t 18) (.t 19), none, false⟩,
 ⟨21, .ld 1 false (.t 20), none, false⟩,
 ⟨22, .ia 1 (.t 21) (.k (.sc (.int .i64 0))), none, false⟩,
 ⟨23, .ld 1 false (.t 22), none, false⟩,
 ⟨24, .mv (.t 0), none, false⟩,
 ⟨25, .ar .sub false (.t 23) (.t 24), none, false⟩,
 ⟨26, .mv (.t 0), none, false⟩,
 ⟨27, .mv (.t 4), none, false⟩,
 ⟨28, .mv (.t 6), none, false⟩,
 ⟨29, .ia 1 (.t 27) (.t 28), none, false⟩,
 ⟨30, .ld 1 false (.t 29), none, false⟩,
 ⟨31, .ia 1 (.t 30) (.k (.sc (.int .i64 0))), none, false⟩,
 ⟨32, .ld 1 false (.t 31), none, false⟩,
 ⟨33, .ar .sub false (.t 26) (.t 32), none, false⟩,
 ⟨34, .ca (.k (.cl 65 [])) [(.t 25), (.t 33)], none, false⟩,
 ⟨7, .mv (.t 34), none, false⟩])
 (.seq
 (.reg true [⟨35, .mv (.t 7), none, false⟩,
 ⟨36, .mv (.t 4), none, false⟩,
 ⟨37, .mv (.t 5), none, false⟩,
 ⟨38, .ia 1 (.t 36) (.t 37), none, false⟩,
 ⟨39, .ld 1 false (.t 38), none, false⟩,
 ⟨40, .ia 1 (.t 39) (.k (.sc (.int .i64 0))), none, false⟩,
 ⟨41, .ld 1 false (.t 40), none, false⟩,
 ⟨42, .mv (.t 0), none, false⟩,
 ⟨43, .ar .sub false (.t 41) (.t 42), none, false⟩,
 ⟨44, .mv (.t 0), none, false⟩,
 ⟨45, .mv (.t 4), none, false⟩,
 ⟨46, .mv (.t 5), none, false⟩,
 ⟨47, .ia 1 (.t 45) (.t 46), none, false⟩,
 ⟨48, .ld 1 false (.t 47), none, false⟩,
 ⟨49, .ia 1 (.t 48) (.k (.sc (.int .i64 0))), none, false⟩,
 ⟨50, .ld 1 false (.t 49), none, false⟩,
 ⟨51, .ar .sub false (.t 44) (.t 50), none, false⟩,
 ⟨52, .ca (.k (.cl 65 [])) [(.t 43), (.t 51)], none, false⟩,
 ⟨53, .ar .lss false (.t 35) (.t 52), none, false⟩])
 (.ite (.t 53)
 (.reg false [⟨54, .mv (.t 6), none, false⟩,
 ⟨5, .mv (.t 54), none, false⟩])
 .skip))))
 (.reg false [⟨16, .mv (.t 6), none, false⟩,
 ⟨17, .ar .add false (.t 16) (.k (.sc (.int .i64 1))), none, false⟩,
 ⟨6, .mv (.t 17), none, false⟩])))
def b32_1 : IC := w32_1
theorem u32_1 (call : CallF) (st : St) : evC call b32_1 st = evC call w32_1 st := rfl
attribute [simp] u32_1 w32_1
def i32 : Ev.Fn := ⟨1, 59, [.tmp 2, .tmp 3],
 (.seq
 (.reg false [⟨2, .mv (.k (.sc (.string ⟨#[]⟩))), none, false⟩,
 ⟨3, .mv (.k (.sc (.int .i64 0))), none, false⟩])
 (.seq
 (.seq
 (.reg false [⟨8, .mv (.t 0), none, false⟩,
 ⟨9, .ca (.k (.cl 64 [])) [(.t 8), (.k (.sc (.int .i64 0))), (.k (.sc (.int .i64 100)))], none, false⟩,
 ⟨10, .nt (.t 9), none, false⟩])
 (.ite (.t 10)
 (.seq
 (.reg false [⟨2, .mv (.k (.sc (.string ⟨#[]⟩))), none, false⟩,
 ⟨3, .mv (.k (.sc (.int .i64 2))), none, false⟩])
 .ret)
 .skip))
 (.seq
 (.reg false [⟨11, .ca (.k (.cl 63 [])) [], none, false⟩,
 ⟨4, .mv (.t 11), none, false⟩])
 (.seq
 (.reg false [⟨5, .mv (.k (.sc (.int .i64 0))), none, false⟩])
 (.seq
 (.seq
 (.reg false [⟨6, .mv (.k (.sc (.int .i64 1))), none, false⟩])
 (.cln [5] [2, 3]
 (.block 0
 (.loop [0, 4, 5, 6] b32_1))))
 (.seq
 (.reg false [⟨55, .ca (.k (.cl 60 [])) [], none, false⟩,
 ⟨56, .mv (.t 5), none, false⟩,
 ⟨57, .ia 1 (.t 55) (.t 56), none, false⟩,
 ⟨58, .ld 1 false (.t 57), none, false⟩,
 ⟨2, .mv (.t 58), none, false⟩,
 ⟨3, .mv (.k (.sc (.int .i64 0))), none, false⟩])
 .ret))))))⟩
attribute [simp] i32
set_option maxRecDepth 1000000 in
theorem c32 : cFn Try.prog 32 [[0, 4, 5, 6], [5], [2, 3]] = some i32 := by kernel_rfl
theorem e32 : enterOk Try.prog 32 = true := by kernel_rfl
def w33_1 : IC :=
(.seq
 (.reg false [⟨17, .ar .lss false (.t 16) (.t 15), none, false⟩])
 (.seq
 (.ite (.t 17)
 .skip
 (.exit 0))
 (.seq
 (.block 1
 (.seq
 (.reg false [⟨18, .ia 1 (.t 14) (.t 16), none, false⟩,
 ⟨19, .ld 1 false (.t 18), none, false⟩,
 ⟨7, .mv (.t 19), none, false⟩])
 (.seq
 (.reg false [⟨21, .mv (.t 7), none, false⟩,
 ⟨22, .ca (.k (.cl 66 [])) [(.t 21)], none, false⟩,
 ⟨20, .mv (.t 22), none, false⟩,
 ⟨23, .xt (.t 20) 0, none, false⟩,
 ⟨24, .xt (.t 20) 1, none, false⟩,
 ⟨8, .mv (.t 23), none, false⟩,
 ⟨9, .mv (.t 24), none, false⟩])
 (.seq
 (.reg false [⟨25, .mv (.t 8), none, false⟩,
 ⟨26, .mv (.t 0), none, false⟩,
 ⟨27, .ar .sub false (.t 25) (.t 26), none, false⟩,
 ⟨28, .mv (.t 0), none, false⟩,
 ⟨29, .mv (.t 8), none, false⟩,
 ⟨30, .ar .sub false (.t 28) (.t 29), none, false⟩,
 ⟨31, .mx (.t 27) (.t 30), none, false⟩,
 ⟨10, .mv (.t 31), none, false⟩])
 (.seq
 (.reg false [⟨32, .mv (.t 4), none, false⟩,
 ⟨33, .ar .eql false (.t 32) (.k (.sc (.string ⟨#[]⟩))), none, false⟩,
 ⟨34, .mv (.t 33), none, false⟩,
 ⟨35, .mv (.t 10), (some (34, false)), false⟩,
 ⟨36, .mv (.t 5), (some (34, false)), false⟩,
 ⟨37, .ar .lss false (.t 35) (.t 36), (some (34, false)), false⟩,
 ⟨38, .pk (.t 34) (.k (.sc (.bool true))) (.t 37), none, false⟩])
 (.ite (.t 38)
 (.reg false [⟨39, .mv (.t 7), none, false⟩,
 ⟨40, .mv (.t 10), none, false⟩,
 ⟨4, .mv (.t 39), none, false⟩,
 ⟨5, .mv (.t 40), none, false⟩])
 .skip))))))
 (.reg false [⟨41, .ar .add false (.t 16) (.k (.sc (.int .i64 1))), none, false⟩,
 ⟨16, .mv (.t 41), none, false⟩]))))
def b33_1 : IC := w33_1
theorem u33_1 (call : CallF) (st : St) : evC call b33_1 st = evC call w33_1 st := rfl
attribute [simp] u33_1 w33_1
def i33 : Ev.Fn := ⟨1, 43, [.tmp 2, .tmp 3],
 (.seq
 (.reg false [⟨2, .mv (.k (.sc (.string ⟨#[]⟩))), none, false⟩,
 ⟨3, .mv (.k (.sc (.int .i64 0))), none, false⟩])
 (.seq
 (.seq
 (.reg false [⟨11, .mv (.t 0), none, false⟩,
 ⟨12, .ca (.k (.cl 51 [])) [(.t 11), (.k (.sc (.int .i64 0))), (.k (.sc (.int .i64 100)))], none, false⟩,
 ⟨13, .nt (.t 12), none, false⟩])
 (.ite (.t 13)
 (.seq
 (.reg false [⟨2, .mv (.k (.sc (.string ⟨#[]⟩))), none, false⟩,
 ⟨3, .mv (.k (.sc (.int .i64 2))), none, false⟩])
 .ret)
 .skip))
 (.seq
 (.reg false [⟨4, .mv (.k (.sc (.string ⟨#[]⟩))), none, false⟩,
 ⟨5, .mv (.k (.sc (.int .i64 0))), none, false⟩])
 (.seq
 (.seq
 (.reg false [⟨14, .ca (.k (.cl 26 [])) [], none, false⟩,
 ⟨15, .ln false (.t 14), none, false⟩,
 ⟨16, .mv (.k (.sc (.int .i64 0))), none, false⟩])
 (.cln [4] [2, 3]
 (.block 0
 (.loop [0, 4, 5, 14, 15, 16] b33_1))))
 (.seq
 (.reg false [⟨42, .mv (.t 4), none, false⟩,
 ⟨2, .mv (.t 42), none, false⟩,
 ⟨3, .mv (.k (.sc (.int .i64 0))), none, false⟩])
 .ret)))))⟩
attribute [simp] i33
set_option maxRecDepth 1000000 in
theorem c33 : cFn Try.prog 33 [[0, 4, 5, 14, 15, 16], [4], [2, 3]] = some i33 := by kernel_rfl
theorem e33 : enterOk Try.prog 33 = true := by kernel_rfl
def i34 : Ev.Fn := ⟨2, 13, [.tmp 4],
 (.seq
 (.reg false [⟨2, .bx (.t 0), none, false⟩,
 ⟨4, .mv (.k (.sc (.int .i64 0))), none, false⟩])
 (.seq
 (.reg false [⟨5, .mv (.t 1), none, false⟩,
 ⟨6, .fa 0 (.t 2), none, false⟩,
 ⟨7, .ld 1 false (.t 6), none, false⟩,
 ⟨8, .ln true (.t 7), none, false⟩,
 ⟨9, .ar .sub false (.t 5) (.t 8), none, false⟩,
 ⟨1, .mv (.t 9), none, false⟩])
 (.seq
 (.seq
 (.reg false [⟨10, .mv (.t 1), none, false⟩,
 ⟨11, .ar .lss false (.t 10) (.k (.sc (.int .i64 0))), none, false⟩])
 (.ite (.t 11)
 (.seq
 (.reg false [⟨4, .mv (.k (.sc (.int .i64 (-1)))), none, false⟩])
 .ret)
 .skip))
 (.seq
 (.reg false [⟨12, .mv (.t 1), none, false⟩,
 ⟨4, .mv (.t 12), none, false⟩])
 .ret))))⟩
attribute [simp] i34
set_option maxRecDepth 1000000 in
theorem c34 : cFn Try.prog 34 [] = some i34 := by kernel_rfl
theorem e34 : enterOk Try.prog 34 = true := by kernel_rfl
def i35 : Ev.Fn := ⟨1, 4, [.tmp 2],
 (.seq
 (.reg false [⟨1, .bx (.t 0), none, false⟩,
 ⟨2, .mv (.k (.sc (.bool false))), none, false⟩])
 (.seq
 (.reg false [⟨3, .ca (.k (.cl 67 [])) [(.t 1)], none, false⟩,
 ⟨2, .mv (.t 3), none, false⟩])
 .ret))⟩
attribute [simp] i35
set_option maxRecDepth 1000000 in
theorem c35 : cFn Try.prog 35 [] = some i35 := by kernel_rfl
theorem e35 : enterOk Try.prog 35 = true := by kernel_rfl
def i36 : Ev.Fn := ⟨1, 14, [.cell 2 3 true],
 (.seq
 (.reg false [⟨1, .bx (.t 0), none, false⟩,
 ⟨2, .al [(.sc (.string ⟨#[]⟩)), (.sc (.int .i64 0)), (.sc (.int .i64 0))], none, false⟩])
 (.seq
 (.reg false [⟨3, .al [(.sc (.string ⟨#[]⟩)), (.sc (.int .i64 0)), (.sc (.int .i64 0))], none, false⟩])
 (.seq
 (.reg false [⟨4, .fa 0 (.t 1), none, false⟩,
 ⟨5, .ld 1 false (.t 4), none, false⟩,
 ⟨6, .fa 0 (.t 3), none, false⟩,
 ⟨1, .so 1 (.t 6) (.t 5), none, true⟩])
 (.seq
 (.reg false [⟨7, .fa 1 (.t 1), none, false⟩,
 ⟨8, .ld 1 false (.t 7), none, false⟩,
 ⟨9, .fa 1 (.t 3), none, false⟩,
 ⟨1, .so 1 (.t 9) (.t 8), none, true⟩])
 (.seq
 (.reg false [⟨10, .fa 2 (.t 1), none, false⟩,
 ⟨11, .ld 1 false (.t 10), none, false⟩,
 ⟨12, .fa 2 (.t 3), none, false⟩,
 ⟨1, .so 1 (.t 12) (.t 11), none, true⟩])
 (.seq
 (.reg false [⟨13, .ld 3 true (.t 3), none, false⟩,
 ⟨1, .so 3 (.t 2) (.t 13), none, true⟩])
 .ret))))))⟩
attribute [simp] i36
set_option maxRecDepth 1000000 in
theorem c36 : cFn Try.prog 36 [] = some i36 := by kernel_rfl
theorem e36 : enterOk Try.prog 36 = true := by kernel_rfl
def i37 : Ev.Fn := ⟨1, 29, [.tmp 2],
 (.seq
 (.reg false [⟨1, .bx (.t 0), none, false⟩,
 ⟨2, .mv (.k (.sc (.bool false))), none, false⟩])
 (.seq
 (.reg false [⟨6, .fa 0 (.t 1), none, false⟩,
 ⟨7, .ld 1 false (.t 6), none, false⟩,
 ⟨8, .ca (.k (.cl 66 [])) [(.t 7)], none, false⟩,
 ⟨5, .mv (.t 8), none, false⟩,
 ⟨9, .xt (.t 5) 0, none, false⟩,
 ⟨10, .xt (.t 5) 1, none, false⟩,
 ⟨3, .mv (.t 9), none, false⟩,
 ⟨4, .mv (.t 10), none, false⟩])
 (.seq
 (.reg false [⟨11, .mv (.t 4), none, false⟩,
 ⟨12, .mv (.t 11), none, false⟩,
 ⟨13, .fa 1 (.t 1), (some (12, true)), false⟩,
 ⟨14, .ld 1 false (.t 13), (some (12, true)), false⟩,
 ⟨15, .ca (.k (.cl 51 [])) [(.t 14), (.k (.sc (.int .i64 0))), (.k (.sc (.int .i64 100)))], (some (12, true)), false⟩,
 ⟨16, .pk (.t 12) (.t 15) (.k (.sc (.bool false))), none, false⟩,
 ⟨17, .mv (.t 16), none, false⟩,
 ⟨18, .fa 1 (.t 1), (some (17, true)), false⟩,
 ⟨19, .ld 1 false (.t 18), (some (17, true)), false⟩,
 ⟨20, .mv (.t 3), (some (17, true)), false⟩,
 ⟨21, .ar .sub false (.t 19) (.t 20), (some (17, true)), false⟩,
 ⟨22, .ca (.k (.cl 51 [])) [(.t 21), (.k (.sc (.int .i64 (-15)))), (.k (.sc (.int .i64 15)))], (some (17, true)), false⟩,
 ⟨23, .pk (.t 17) (.t 22) (.k (.sc (.bool false))), none, false⟩,
 ⟨24, .mv (.t 23), none, false⟩,
 ⟨25, .fa 2 (.t 1), (some (24, true)), false⟩,
 ⟨26, .ld 1 false (.t 25), (some (24, true)), false⟩,
 ⟨27, .ca (.k (.cl 51 [])) [(.t 26), (.k (.sc (.int .i64 0))), (.k (.sc (.int .i64 179)))], (some (24, true)), false⟩,
 ⟨28, .pk (.t 24) (.t 27) (.k (.sc (.bool false))), none, false⟩,
 ⟨2, .mv (.t 28), none, false⟩])
 .ret)))⟩
attribute [simp] i37
set_option maxRecDepth 1000000 in
theorem c37 : cFn Try.prog 37 [] = some i37 := by kernel_rfl
theorem e37 : enterOk Try.prog 37 = true := by kernel_rfl
def i38 : Ev.Fn := ⟨2, 12, [.tmp 4],
 (.seq
 (.reg false [⟨4, .mv (.k (.sc (.int .i64 0))), none, false⟩])
 (.seq
 (.reg false [⟨5, .mv (.t 1), none, false⟩,
 ⟨6, .mv (.t 0), none, false⟩,
 ⟨7, .ln false (.t 6), none, false⟩,
 ⟨8, .ar .sub false (.t 5) (.t 7), none, false⟩,
 ⟨1, .mv (.t 8), none, false⟩])
 (.seq
 (.seq
 (.reg false [⟨9, .mv (.t 1), none, false⟩,
 ⟨10, .ar .lss false (.t 9) (.k (.sc (.int .i64 0))), none, false⟩])
 (.ite (.t 10)
 (.seq
 (.reg false [⟨4, .mv (.k (.sc (.int .i64 (-1)))), none, false⟩])
 .ret)
 .skip))
 (.seq
 (.reg false [⟨11, .mv (.t 1), none, false⟩,
 ⟨4, .mv (.t 11), none, false⟩])
 .ret))))⟩
attribute [simp] i38
set_option maxRecDepth 1000000 in
theorem c38 : cFn Try.prog 38 [] = some i38 := by kernel_rfl
theorem e38 : enterOk Try.prog 38 = true := by kernel_rfl
def i39 : Ev.Fn := ⟨1, 5, [.tmp 2],
 (.seq
 (.reg false [⟨2, .mv (.k (.sc (.bool false))), none, false⟩])
 (.seq
 (.reg false [⟨3, .mv (.t 0), none, false⟩,
 ⟨4, .ca (.k (.cl 68 [])) [(.t 3)], none, false⟩,
 ⟨2, .mv (.t 4), none, false⟩])
 .ret))⟩
attribute [simp] i39
set_option maxRecDepth 1000000 in
theorem c39 : cFn Try.prog 39 [] = some i39 := by kernel_rfl
theorem e39 : enterOk Try.prog 39 = true := by kernel_rfl
def w40_1 : IC :=
(.seq
 (.seq
 (.reg false [⟨8, .mv (.t 4), none, false⟩,
 ⟨9, .mv (.t 0), none, false⟩,
 ⟨10, .ln false (.t 9), none, false⟩,
 ⟨11, .ar .lss false (.t 8) (.t 10), none, false⟩])
 (.ite (.t 11)
 .skip
 (.exit 0)))
 (.seq
 (.block 1
 (.reg false [⟨14, .mv (.t 3), none, false⟩,
 ⟨15, .mv (.t 4), none, false⟩,
 ⟨16, .mv (.t 0), none, false⟩,
 ⟨17, .mv (.t 4), none, false⟩,
 ⟨18, .ia 5 (.t 16) (.t 17), none, false⟩,
 ⟨19, .ld 5 true (.t 18), none, false⟩,
 ⟨20, .ca (.k (.cl 69 [])) [(.t 19)], none, false⟩,
 ⟨21, .ia 5 (.t 14) (.t 15), none, false⟩,
 ⟨1, .so 5 (.t 21) (.t 20), none, true⟩]))
 (.reg false [⟨12, .mv (.t 4), none, false⟩,
 ⟨13, .ar .add false (.t 12) (.k (.sc (.int .i64 1))), none, false⟩,
 ⟨4, .mv (.t 13), none, false⟩])))
def b40_1 : IC := w40_1
theorem u40_1 (call : CallF) (st : St) : evC call b40_1 st = evC call w40_1 st := rfl
attribute [simp] u40_1 w40_1
def i40 : Ev.Fn := ⟨1, 23, [.tmp 2],
 (.seq
 (.reg false [⟨2, .mv (.k .nl), none, false⟩])
 (.seq
 (.reg false [⟨5, .mv (.t 0), none, false⟩,
 ⟨6, .ln false (.t 5), none, false⟩,
 ⟨7, .ms 88 5 [(.sc (.int .i64 0)), (.sc (.int .i64 0)), (.sc (.int .i64 0)), (.sc (.int .i64 0)), (.sc (.int .i64 0))] (.t 6), none, false⟩,
 ⟨3, .mv (.t 7), none, false⟩])
 (.seq
 (.seq
 (.reg false [⟨4, .mv (.k (.sc (.int .i64 0))), none, false⟩])
 (.cln [3] [2]
 (.block 0
 (.loop [0, 3, 4] b40_1))))
 (.seq
 (.reg false [⟨22, .mv (.t 3), none, false⟩,
 ⟨2, .mv (.t 22), none, false⟩])
 .ret))))⟩
attribute [simp] i40
set_option maxRecDepth 1000000 in
theorem c40 : cFn Try.prog 40 [[0, 3, 4], [3], [2]] = some i40 := by kernel_rfl
theorem e40 : enterOk Try.prog 40 = true := by kernel_rfl
def w41_1 : IC :=
(.seq
 (.reg false [⟨8, .ar .lss false (.t 7) (.t 6), none, false⟩])
 (.seq
 (.ite (.t 8)
 .skip
 (.exit 0))
 (.seq
 (.block 1
 (.seq
 (.reg false [⟨9, .mv (.t 7), none, false⟩,
 ⟨10, .ia 5 (.t 5) (.t 7), none, false⟩,
 ⟨11, .ld 5 true (.t 10), none, false⟩,
 ⟨4, .al [(.sc (.int .i64 0)), (.sc (.int .i64 0)), (.sc (.int .i64 0)), (.sc (.int .i64 0)), (.sc (.int .i64 0))], none, false⟩,
 ⟨3, .mv (.t 9), none, false⟩,
 ⟨1, .so 5 (.t 4) (.t 11), none, true⟩])
 (.seq
 (.reg true [⟨12, .ld 5 true (.t 4), none, false⟩,
 ⟨13, .ca (.k (.cl 70 [])) [(.t 12)], none, false⟩,
 ⟨14, .nt (.t 13), none, false⟩,
 ⟨15, .mv (.t 14), none, false⟩,
 ⟨16, .mv (.t 3), (some (15, false)), false⟩,
 ⟨17, .ar .gtr false (.t 16) (.k (.sc (.int .i64 0))), (some (15, false)), false⟩,
 ⟨18, .mv (.t 17), (some (15, false)), false⟩,
 ⟨19, .mv (.t 0), (some (18, true)), false⟩,
 ⟨20, .mv (.t 3), (some (18, true)), false⟩,
 ⟨21, .ar .sub false (.t 20) (.k (.sc (.int .i64 1))), (some (18, true)), false⟩,
 ⟨22, .ia 5 (.t 19) (.t 21), (some (18, true)), false⟩,
 ⟨23, .fa 0 (.t 22), (some (18, true)), false⟩,
 ⟨24, .ld 1 false (.t 23), (some (18, true)), false⟩,
 ⟨25, .fa 0 (.t 4), (some (18, true)), false⟩,
 ⟨26, .ld 1 false (.t 25), (some (18, true)), false⟩,
 ⟨27, .ar .geq false (.t 24) (.t 26), (some (18, true)), false⟩,
 ⟨28, .pk (.t 18) (.t 27) (.k (.sc (.bool false))), (some (15, false)), false⟩,
 ⟨29, .pk (.t 15) (.k (.sc (.bool true))) (.t 28), none, false⟩])
 (.ite (.t 29)
 (.seq
 (.reg false [⟨2, .mv (.k (.sc (.bool false))), none, false⟩])
 .ret)
 .skip))))
 (.reg false [⟨30, .ar .add false (.t 7) (.k (.sc (.int .i64 1))), none, false⟩,
 ⟨7, .mv (.t 30), none, false⟩]))))
def b41_1 : IC := w41_1
theorem u41_1 (call : CallF) (st : St) : evC call b41_1 st = evC call w41_1 st := rfl
attribute [simp] u41_1 w41_1
def i41 : Ev.Fn := ⟨1, 34, [.tmp 2],
 (.seq
 (.reg false [⟨2, .mv (.k (.sc (.bool false))), none, false⟩])
 (.seq
 (.seq
 (.reg false [⟨5, .mv (.t 0), none, false⟩,
 ⟨6, .ln false (.t 5), none, false⟩,
 ⟨7, .mv (.k (.sc (.int .i64 0))), none, false⟩])
 (.cln [0] [2]
 (.block 0
 (.loop [0, 5, 6, 7] b41_1))))
 (.seq
 (.reg false [⟨31, .mv (.t 0), none, false⟩,
 ⟨32, .ln false (.t 31), none, false⟩,
 ⟨33, .ar .leq false (.t 32) (.k (.sc (.int .i64 24))), none, false⟩,
 ⟨2, .mv (.t 33), none, false⟩])
 .ret)))⟩
attribute [simp] i41
set_option maxRecDepth 1000000 in
theorem c41 : cFn Try.prog 41 [[0, 5, 6, 7], [0], [2]] = some i41 := by kernel_rfl
theorem e41 : enterOk Try.prog 41 = true := by kernel_rfl
def w42_1 : IC :=
(.seq
 (.seq
 (.reg false [⟨11, .mv (.t 5), none, false⟩,
 ⟨12, .mv (.t 0), none, false⟩,
 ⟨13, .ln false (.t 12), none, false⟩,
 ⟨14, .ar .lss false (.t 11) (.t 13), none, false⟩])
 (.ite (.t 14)
 .skip
 (.exit 0)))
 (.seq
 (.block 1
 (.seq
 (.reg true [⟨17, .mv (.t 0), none, false⟩,
 ⟨18, .mv (.t 5), none, false⟩,
 ⟨19, .ia 5 (.t 17) (.t 18), none, false⟩,
 ⟨20, .ld 5 true (.t 19), none, false⟩,
 ⟨21, .mv (.t 1), none, false⟩,
 ⟨22, .mv (.t 5), none, false⟩,
 ⟨23, .ia 5 (.t 21) (.t 22), none, false⟩,
 ⟨24, .ld 5 true (.t 23), none, false⟩,
 ⟨25, .ca (.k (.cl 71 [])) [(.t 20), (.t 24)], none, false⟩,
 ⟨26, .nt (.t 25), none, false⟩])
 (.ite (.t 26)
 (.seq
 (.reg false [⟨4, .mv (.k (.sc (.bool false))), none, false⟩])
 .ret)
 .skip)))
 (.reg false [⟨15, .mv (.t 5), none, false⟩,
 ⟨16, .ar .add false (.t 15) (.k (.sc (.int .i64 1))), none, false⟩,
 ⟨5, .mv (.t 16), none, false⟩])))
def b42_1 : IC := w42_1
theorem u42_1 (call : CallF) (st : St) : evC call b42_1 st = evC call w42_1 st := rfl
attribute [simp] u42_1 w42_1
def i42 : Ev.Fn := ⟨2, 27, [.tmp 4],
 (.seq
 (.reg false [⟨4, .mv (.k (.sc (.bool false))), none, false⟩])
 (.seq
 (.seq
 (.reg false [⟨6, .mv (.t 0), none, false⟩,
 ⟨7, .ln false (.t 6), none, false⟩,
 ⟨8, .mv (.t 1), none, false⟩,
 ⟨9, .ln false (.t 8), none, false⟩,
 ⟨10, .ar .neq false (.t 7) (.t 9), none, false⟩])
 (.ite (.t 10)
 (.seq
 (.reg false [⟨4, .mv (.k (.sc (.bool false))), none, false⟩])
 .ret)
 .skip))
 (.seq
 (.seq
 (.reg false [⟨5, .mv (.k (.sc (.int .i64 0))), none, false⟩])
 (.cln [] [4]
 (.block 0
 (.loop [0, 1, 5] b42_1))))
 (.seq
 (.reg false [⟨4, .mv (.k (.sc (.bool true))), none, false⟩])
 .ret))))⟩
attribute [simp] i42
set_option maxRecDepth 1000000 in
theorem c42 : cFn Try.prog 42 [[0, 1, 5], [], [4]] = some i42 := by kernel_rfl
theorem e42 : enterOk Try.prog 42 = true := by kernel_rfl
def w43_1 : IC :=
(.seq
 (.seq
 (.reg false [⟨21, .mv (.t 9), none, false⟩,
 ⟨22, .mv (.t 6), none, false⟩,
 ⟨23, .ln false (.t 22), none, false⟩,
 ⟨24, .ar .lss false (.t 21) (.t 23), none, false⟩])
 (.ite (.t 24)
 .skip
 (.exit 0)))
 (.seq
 (.block 1
 (.seq
 (.reg false [⟨27, .mv (.t 7), none, false⟩,
 ⟨28, .mv (.t 9), none, false⟩,
 ⟨29, .ia 1 (.t 27) (.t 28), none, false⟩,
 ⟨30, .ld 1 false (.t 29), none, false⟩,
 ⟨31, .ia 1 (.t 30) (.k (.sc (.int .i64 0))), none, false⟩,
 ⟨32, .ld 1 false (.t 31), none, false⟩,
 ⟨33, .mv (.t 0), none, false⟩,
 ⟨34, .mv (.t 1), none, false⟩,
 ⟨35, .ar .sub false (.t 33) (.t 34), none, false⟩,
 ⟨36, .mv (.t 0), none, false⟩,
 ⟨37, .mv (.t 1), none, false⟩,
 ⟨38, .ar .add false (.t 36) (.t 37), none, false⟩,
 ⟨39, .ca (.k (.cl 64 [])) [(.t 32), (.t 35), (.t 38)], none, false⟩])
 (.ite (.t 39)
 (.reg false [⟨40, .mv (.t 8), none, false⟩,
 ⟨41, .mv (.t 6), none, false⟩,
 ⟨42, .mv (.t 9), none, false⟩,
 ⟨43, .ia 1 (.t 41) (.t 42), none, false⟩,
 ⟨44, .ld 1 false (.t 43), none, false⟩,
 ⟨45, .bs 9 1 [(.sc (.string ⟨#[]⟩))] 1 [(0, (.t 44))], none, false⟩,
 ⟨46, .ap 9 1 false (.t 40) (.t 45), none, false⟩,
 ⟨8, .mv (.t 46), none, false⟩])
 .skip)))
 (.reg false [⟨25, .mv (.t 9), none, false⟩,
 ⟨26, .ar .add false (.t 25) (.k (.sc (.int .i64 1))), none, false⟩,
 ⟨9, .mv (.t 26), none, false⟩])))
def b43_1 : IC := w43_1
theorem u43_1 (call : CallF) (st : St) : evC call b43_1 st = evC call w43_1 st := rfl
attribute [simp] u43_1 w43_1
def i43 : Ev.Fn := ⟨2, 48, [.tmp 4, .tmp 5],
 (.seq
 (.reg false [⟨4, .mv (.k .nl), none, false⟩,
 ⟨5, .mv (.k (.sc (.int .i64 0))), none, false⟩])
 (.seq
 (.seq
 (.reg false [⟨10, .mv (.t 0), none, false⟩,
 ⟨11, .ca (.k (.cl 64 [])) [(.t 10), (.k (.sc (.int .i64 0))), (.k (.sc (.int .i64 100)))], none, false⟩,
 ⟨12, .nt (.t 11), none, false⟩,
 ⟨13, .mv (.t 12), none, false⟩,
 ⟨14, .mv (.t 1), (some (13, false)), false⟩,
 ⟨15, .ca (.k (.cl 64 [])) [(.t 14), (.k (.sc (.int .i64 0))), (.k (.sc (.int .i64 100)))], (some (13, false)), false⟩,
 ⟨16, .nt (.t 15), (some (13, false)), false⟩,
 ⟨17, .pk (.t 13) (.k (.sc (.bool true))) (.t 16), none, false⟩])
 (.ite (.t 17)
 (.seq
 (.reg false [⟨4, .mv (.k .nl), none, false⟩,
 ⟨5, .mv (.k (.sc (.int .i64 2))), none, false⟩])
 .ret)
 .skip))
 (.seq
 (.reg false [⟨18, .ca (.k (.cl 60 [])) [], none, false⟩,
 ⟨6, .mv (.t 18), none, false⟩])
 (.seq
 (.reg false [⟨19, .ca (.k (.cl 63 [])) [], none, false⟩,
 ⟨7, .mv (.t 19), none, false⟩])
 (.seq
 (.reg false [⟨20, .bs 9 1 [(.sc (.string ⟨#[]⟩))] 0 [], none, false⟩,
 ⟨8, .mv (.t 20), none, false⟩])
 (.seq
 (.seq
 (.reg false [⟨9, .mv (.k (.sc (.int .i64 0))), none, false⟩])
 (.cln [8] [4, 5]
 (.block 0
 (.loop [0, 1, 6, 7, 8, 9] b43_1))))
 (.seq
 (.reg false [⟨47, .mv (.t 8), none, false⟩,
 ⟨4, .mv (.t 47), none, false⟩,
 ⟨5, .mv (.k (.sc (.int .i64 0))), none, false⟩])
 .ret)))))))⟩
attribute [simp] i43
set_option maxRecDepth 1000000 in
theorem c43 : cFn Try.prog 43 [[0, 1, 6, 7, 8, 9], [8], [4, 5]] = some i43 := by kernel_rfl
theorem e43 : enterOk Try.prog 43 = true := by kernel_rfl
def w44_1 : IC :=
(.seq
 (.reg false [⟨23, .ar .lss false (.t 22) (.t 21), none, false⟩])
 (.seq
 (.ite (.t 23)
 .skip
 (.exit 0))
 (.seq
 (.block 1
 (.seq
 (.reg false [⟨24, .ia 1 (.t 20) (.t 22), none, false⟩,
 ⟨25, .ld 1 false (.t 24), none, false⟩,
 ⟨8, .mv (.t 25), none, false⟩])
 (.seq
 (.reg false [⟨27, .mv (.t 8), none, false⟩,
 ⟨28, .ca (.k (.cl 66 [])) [(.t 27)], none, false⟩,
 ⟨26, .mv (.t 28), none, false⟩,
 ⟨29, .xt (.t 26) 0, none, false⟩,
 ⟨30, .xt (.t 26) 1, none, false⟩,
 ⟨9, .mv (.t 29), none, false⟩,
 ⟨10, .mv (.t 30), none, false⟩])
 (.seq
 (.reg false [⟨31, .mv (.t 9), none, false⟩,
 ⟨32, .mv (.t 0), none, false⟩,
 ⟨33, .ar .sub false (.t 31) (.t 32), none, false⟩,
 ⟨34, .mv (.t 1), none, false⟩,
 ⟨35, .ng (.t 34), none, false⟩,
 ⟨36, .mv (.t 1), none, false⟩,
 ⟨37, .ca (.k (.cl 51 [])) [(.t 33), (.t 35), (.t 36)], none, false⟩])
 (.ite (.t 37)
 (.reg false [⟨38, .mv (.t 6), none, false⟩,
 ⟨39, .mv (.t 8), none, false⟩,
 ⟨40, .bs 9 1 [(.sc (.string ⟨#[]⟩))] 1 [(0, (.t 39))], none, false⟩,
 ⟨41, .ap 9 1 false (.t 38) (.t 40), none, false⟩,
 ⟨6, .mv (.t 41), none, false⟩])
 .skip)))))
 (.reg false [⟨42, .ar .add false (.t 22) (.k (.sc (.int .i64 1))), none, false⟩,
 ⟨22, .mv (.t 42), none, false⟩]))))
def b44_1 : IC := w44_1
theorem u44_1 (call : CallF) (st : St) : evC call b44_1 st = evC call w44_1 st := rfl
attribute [simp] u44_1 w44_1
def i44 : Ev.Fn := ⟨2, 44, [.tmp 4, .tmp 5],
 (.seq
 (.reg false [⟨4, .mv (.k .nl), none, false⟩,
 ⟨5, .mv (.k (.sc (.int .i64 0))), none, false⟩])
 (.seq
 (.seq
 (.reg false [⟨11, .mv (.t 0), none, false⟩,
 ⟨12, .ca (.k (.cl 51 [])) [(.t 11), (.k (.sc (.int .i64 0))), (.k (.sc (.int .i64 100)))], none, false⟩,
 ⟨13, .nt (.t 12), none, false⟩,
 ⟨14, .mv (.t 13), none, false⟩,
 ⟨15, .mv (.t 1), (some (14, false)), false⟩,
 ⟨16, .ca (.k (.cl 51 [])) [(.t 15), (.k (.sc (.int .i64 0))), (.k (.sc (.int .i64 100)))], (some (14, false)), false⟩,
 ⟨17, .nt (.t 16), (some (14, false)), false⟩,
 ⟨18, .pk (.t 14) (.k (.sc (.bool true))) (.t 17), none, false⟩])
 (.ite (.t 18)
 (.seq
 (.reg false [⟨4, .mv (.k .nl), none, false⟩,
 ⟨5, .mv (.k (.sc (.int .i64 2))), none, false⟩])
 .ret)
 .skip))
 (.seq
 (.reg false [⟨19, .bs 9 1 [(.sc (.string ⟨#[]⟩))] 0 [], none, false⟩,
 ⟨6, .mv (.t 19), none, false⟩])
 (.seq
 (.seq
 (.reg false [⟨20, .ca (.k (.cl 26 [])) [], none, false⟩,
 ⟨21, .ln false (.t 20), none, false⟩,
 ⟨22, .mv (.k (.sc (.int .i64 0))), none, false⟩])
 (.cln [6] [4, 5]
 (.block 0
 (.loop [0, 1, 6, 20, 21, 22] b44_1))))
 (.seq
 (.reg false [⟨43, .mv (.t 6), none, false⟩,
 ⟨4, .mv (.t 43), none, false⟩,
 ⟨5, .mv (.k (.sc (.int .i64 0))), none, false⟩])
 .ret)))))⟩
attribute [simp] i44
set_option maxRecDepth 1000000 in
theorem c44 : cFn Try.prog 44 [[0, 1, 6, 20, 21, 22], [6], [4, 5]] = some i44 := by kernel_rfl
theorem e44 : enterOk Try.prog 44 = true := by kernel_rfl
def i45 : Ev.Fn := ⟨2, 19, [.cell 4 3 true, .tmp 5],
 (.seq
 (.reg false [⟨2, .bx (.t 0), none, false⟩,
 ⟨4, .al [(.sc (.string ⟨#[]⟩)), (.sc (.int .i64 0)), (.sc (.int .i64 0))], none, false⟩,
 ⟨5, .mv (.k (.sc (.int .i64 0))), none, false⟩])
 (.seq
 (.seq
 (.reg false [⟨6, .ca (.k (.cl 67 [])) [(.t 2)], none, false⟩,
 ⟨7, .nt (.t 6), none, false⟩])
 (.ite (.t 7)
 (.seq
 (.reg false [⟨8, .bd [(.sc (.string ⟨#[]⟩)), (.sc (.int .i64 0)), (.sc (.int .i64 0))] [], none, false⟩,
 ⟨1, .so 3 (.t 4) (.t 8), none, true⟩,
 ⟨5, .mv (.k (.sc (.int .i64 1))), none, false⟩])
 .ret)
 .skip))
 (.seq
 (.seq
 (.reg false [⟨9, .mv (.t 1), none, false⟩,
 ⟨10, .ca (.k (.cl 64 [])) [(.t 9), (.k (.sc (.int .i64 0))), (.k (.sc (.int .i64 100)))], none, false⟩,
 ⟨11, .nt (.t 10), none, false⟩])
 (.ite (.t 11)
 (.seq
 (.reg false [⟨12, .bd [(.sc (.string ⟨#[]⟩)), (.sc (.int .i64 0)), (.sc (.int .i64 0))] [], none, false⟩,
 ⟨1, .so 3 (.t 4) (.t 12), none, true⟩,
 ⟨5, .mv (.k (.sc (.int .i64 2))), none, false⟩])
 .ret)
 .skip))
 (.seq
 (.reg false [⟨13, .mv (.t 1), none, false⟩,
 ⟨14, .fa 1 (.t 2), none, false⟩,
 ⟨1, .so 1 (.t 14) (.t 13), none, true⟩])
 (.seq
 (.seq
 (.reg false [⟨15, .ca (.k (.cl 67 [])) [(.t 2)], none, false⟩,
 ⟨16, .nt (.t 15), none, false⟩])
 (.ite (.t 16)
 (.seq
 (.reg false [⟨17, .bd [(.sc (.string ⟨#[]⟩)), (.sc (.int .i64 0)), (.sc (.int .i64 0))] [], none, false⟩,
 ⟨1, .so 3 (.t 4) (.t 17), none, true⟩,
 ⟨5, .mv (.k (.sc (.int .i64 6))), none, false⟩])
 .ret)
 .skip))
 (.seq
 (.reg false [⟨18, .ld 3 true (.t 2), none, false⟩,
 ⟨1, .so 3 (.t 4) (.t 18), none, true⟩,
 ⟨5, .mv (.k (.sc (.int .i64 0))), none, false⟩])
 .ret))))))⟩
attribute [simp] i45
set_option maxRecDepth 1000000 in
theorem c45 : cFn Try.prog 45 [] = some i45 := by kernel_rfl
theorem e45 : enterOk Try.prog 45 = true := by kernel_rfl
def i46 : Ev.Fn := ⟨2, 23, [.cell 4 3 true, .tmp 5],
 (.seq
 (.reg false [⟨2, .bx (.t 0), none, false⟩,
 ⟨4, .al [(.sc (.string ⟨#[]⟩)), (.sc (.int .i64 0)), (.sc (.int .i64 0))], none, false⟩,
 ⟨5, .mv (.k (.sc (.int .i64 0))), none, false⟩])
 (.seq
 (.block 0
 (.seq
 (.reg false [⟨7, .ld 3 true (.t 2), none, false⟩,
 ⟨8, .ca (.k (.cl 37 [])) [(.t 7)], none, false⟩,
 ⟨9, .nt (.t 8), none, false⟩,
 ⟨6, .mv (.t 9), none, false⟩])
 (.ite (.t 6)
 (.seq
 (.reg false [⟨10, .bd [(.sc (.string ⟨#[]⟩)), (.sc (.int .i64 0)), (.sc (.int .i64 0))] [], none, false⟩,
 ⟨1, .so 3 (.t 4) (.t 10), none, true⟩,
 ⟨5, .mv (.k (.sc (.int .i64 1))), none, false⟩])
 .ret)
 (.seq
 (.reg false [⟨12, .mv (.t 1), none, false⟩,
 ⟨13, .ca (.k (.cl 51 [])) [(.t 12), (.k (.sc (.int .i64 0))), (.k (.sc (.int .i64 100)))], none, false⟩,
 ⟨14, .nt (.t 13), none, false⟩,
 ⟨11, .mv (.t 14), none, false⟩])
 (.ite (.t 11)
 (.seq
 (.reg false [⟨15, .bd [(.sc (.string ⟨#[]⟩)), (.sc (.int .i64 0)), (.sc (.int .i64 0))] [], none, false⟩,
 ⟨1, .so 3 (.t 4) (.t 15), none, true⟩,
 ⟨5, .mv (.k (.sc (.int .i64 2))), none, false⟩])
 .ret)
 .skip)))))
 (.seq
 (.reg false [⟨16, .mv (.t 1), none, false⟩,
 ⟨17, .fa 1 (.t 2), none, false⟩,
 ⟨1, .so 1 (.t 17) (.t 16), none, true⟩])
 (.seq
 (.seq
 (.reg false [⟨18, .ld 3 true (.t 2), none, false⟩,
 ⟨19, .ca (.k (.cl 37 [])) [(.t 18)], none, false⟩,
 ⟨20, .nt (.t 19), none, false⟩])
 (.ite (.t 20)
 (.seq
 (.reg false [⟨21, .bd [(.sc (.string ⟨#[]⟩)), (.sc (.int .i64 0)), (.sc (.int .i64 0))] [], none, false⟩,
 ⟨1, .so 3 (.t 4) (.t 21), none, true⟩,
 ⟨5, .mv (.k (.sc (.int .i64 6))), none, false⟩])
 .ret)
 .skip))
 (.seq
 (.reg false [⟨22, .ld 3 true (.t 2), none, false⟩,
 ⟨1, .so 3 (.t 4) (.t 22), none, true⟩,
 ⟨5, .mv (.k (.sc (.int .i64 0))), none, false⟩])
 .ret)))))⟩
attribute [simp] i46
set_option maxRecDepth 1000000 in
theorem c46 : cFn Try.prog 46 [] = some i46 := by kernel_rfl
theorem e46 : enterOk Try.prog 46 = true := by kernel_rfl
def i47 : Ev.Fn := ⟨2, 20, [.tmp 4],
 (.seq
 (.reg false [⟨2, .bx (.t 0), none, false⟩,
 ⟨3, .bx (.t 1), none, false⟩,
 ⟨4, .mv (.k (.sc (.bool false))), none, false⟩])
 (.seq
 (.seq
 (.reg false [⟨5, .fa 0 (.t 2), none, false⟩,
 ⟨6, .ld 1 false (.t 5), none, false⟩,
 ⟨7, .fa 0 (.t 3), none, false⟩,
 ⟨8, .ld 1 false (.t 7), none, false⟩,
 ⟨9, .ar .neq false (.t 6) (.t 8), none, false⟩])
 (.ite (.t 9)
 (.seq
 (.reg false [⟨4, .mv (.k (.sc (.bool false))), none, false⟩])
 .ret)
 .skip))
 (.seq
 (.seq
 (.reg false [⟨10, .fa 1 (.t 2), none, false⟩,
 ⟨11, .ld 1 false (.t 10), none, false⟩,
 ⟨12, .fa 1 (.t 3), none, false⟩,
 ⟨13, .ld 1 false (.t 12), none, false⟩,
 ⟨14, .ar .neq false (.t 11) (.t 13), none, false⟩])
 (.ite (.t 14)
 (.seq
 (.reg false [⟨4, .mv (.k (.sc (.bool false))), none, false⟩])
 .ret)
 .skip))
 (.seq
 (.seq
 (.reg false [⟨15, .fa 2 (.t 2), none, false⟩,
 ⟨16, .ld 1 false (.t 15), none, false⟩,
 ⟨17, .fa 2 (.t 3), none, false⟩,
 ⟨18, .ld 1 false (.t 17), none, false⟩,
 ⟨19, .ar .neq false (.t 16) (.t 18), none, false⟩])
 (.ite (.t 19)
 (.seq
 (.reg false [⟨4, .mv (.k (.sc (.bool false))), none, false⟩])
 .ret)
 .skip))
 (.seq
 (.reg false [⟨4, .mv (.k (.sc (.bool true))), none, false⟩])
 .ret)))))⟩
attribute [simp] i47
set_option maxRecDepth 1000000 in
theorem c47 : cFn Try.prog 47 [] = some i47 := by kernel_rfl
theorem e47 : enterOk Try.prog 47 = true := by kernel_rfl
def i48 : Ev.Fn := ⟨2, 13, [.tmp 4, .tmp 5],
 (.seq
 (.reg false [⟨2, .bx (.t 0), none, false⟩,
 ⟨3, .bx (.t 1), none, false⟩,
 ⟨4, .mv (.k (.sc (.int .i64 0))), none, false⟩,
 ⟨5, .mv (.k (.sc (.int .i64 0))), none, false⟩])
 (.seq
 (.seq
 (.reg false [⟨6, .ca (.k (.cl 67 [])) [(.t 2)], none, false⟩,
 ⟨7, .nt (.t 6), none, false⟩,
 ⟨8, .mv (.t 7), none, false⟩,
 ⟨9, .ca (.k (.cl 67 [])) [(.t 3)], (some (8, false)), false⟩,
 ⟨10, .nt (.t 9), (some (8, false)), false⟩,
 ⟨11, .pk (.t 8) (.k (.sc (.bool true))) (.t 10), none, false⟩])
 (.ite (.t 11)
 (.seq
 (.reg false [⟨4, .mv (.k (.sc (.int .i64 0))), none, false⟩,
 ⟨5, .mv (.k (.sc (.int .i64 1))), none, false⟩])
 .ret)
 .skip))
 (.seq
 (.reg false [⟨12, .ca (.k (.cl 72 [])) [(.t 2), (.t 3)], none, false⟩,
 ⟨4, .mv (.t 12), none, false⟩,
 ⟨5, .mv (.k (.sc (.int .i64 0))), none, false⟩])
 .ret)))⟩
attribute [simp] i48
set_option maxRecDepth 1000000 in
theorem c48 : cFn Try.prog 48 [] = some i48 := by kernel_rfl
theorem e48 : enterOk Try.prog 48 = true := by kernel_rfl
def i49 : Ev.Fn := ⟨2, 17, [.tmp 4, .tmp 5],
 (.seq
 (.reg false [⟨2, .bx (.t 0), none, false⟩,
 ⟨3, .bx (.t 1), none, false⟩,
 ⟨4, .mv (.k (.sc (.int .i64 0))), none, false⟩,
 ⟨5, .mv (.k (.sc (.int .i64 0))), none, false⟩])
 (.seq
 (.seq
 (.reg false [⟨6, .ld 3 true (.t 2), none, false⟩,
 ⟨7, .ca (.k (.cl 37 [])) [(.t 6)], none, false⟩,
 ⟨8, .nt (.t 7), none, false⟩,
 ⟨9, .mv (.t 8), none, false⟩,
 ⟨10, .ld 3 true (.t 3), (some (9, false)), false⟩,
 ⟨11, .ca (.k (.cl 37 [])) [(.t 10)], (some (9, false)), false⟩,
 ⟨12, .nt (.t 11), (some (9, false)), false⟩,
 ⟨13, .pk (.t 9) (.k (.sc (.bool true))) (.t 12), none, false⟩])
 (.ite (.t 13)
 (.seq
 (.reg false [⟨4, .mv (.k (.sc (.int .i64 0))), none, false⟩,
 ⟨5, .mv (.k (.sc (.int .i64 1))), none, false⟩])
 .ret)
 .skip))
 (.seq
 (.reg false [⟨14, .ld 3 true (.t 2), none, false⟩,
 ⟨15, .ld 3 true (.t 3), none, false⟩,
 ⟨16, .ca (.k (.cl 73 [])) [(.t 14), (.t 15)], none, false⟩,
 ⟨4, .mv (.t 16), none, false⟩,
 ⟨5, .mv (.k (.sc (.int .i64 0))), none, false⟩])
 .ret)))⟩
attribute [simp] i49
set_option maxRecDepth 1000000 in
theorem c49 : cFn Try.prog 49 [] = some i49 := by kernel_rfl
theorem e49 : enterOk Try.prog 49 = true := by kernel_rfl
def i50 : Ev.Fn := ⟨1, 29, [.tmp 2],
 (.seq
 (.reg false [⟨2, .mv (.k (.sc (.bool false))), none, false⟩])
 (.seq
 (.reg false [⟨3, .mv (.t 0), none, false⟩,
 ⟨4, .nc (.t 3), none, false⟩,
 ⟨5, .fa 0 (.t 4), none, false⟩,
 ⟨6, .ld 1 false (.t 5), none, false⟩,
 ⟨7, .ca (.k (.cl 64 [])) [(.t 6), (.k (.sc (.int .i64 0))), (.k (.sc (.int .i64 500)))], none, false⟩,
 ⟨8, .mv (.t 7), none, false⟩,
 ⟨9, .mv (.t 0), (some (8, true)), false⟩,
 ⟨10, .nc (.t 9), (some (8, true)), false⟩,
 ⟨11, .fa 1 (.t 10), (some (8, true)), false⟩,
 ⟨12, .ld 1 false (.t 11), (some (8, true)), false⟩,
 ⟨13, .ca (.k (.cl 64 [])) [(.t 12), (.k (.sc (.int .i64 0))), (.k (.sc (.int .i64 500)))], (some (8, true)), false⟩,
 ⟨14, .pk (.t 8) (.t 13) (.k (.sc (.bool false))), none, false⟩,
 ⟨15, .mv (.t 14), none, false⟩,
 ⟨16, .mv (.t 0), (some (15, true)), false⟩,
 ⟨17, .nc (.t 16), (some (15, true)), false⟩,
 ⟨18, .fa 2 (.t 17), (some (15, true)), false⟩,
 ⟨19, .ld 1 false (.t 18), (some (15, true)), false⟩,
 ⟨20, .ca (.k (.cl 64 [])) [(.t 19), (.k (.sc (.int .i64 0))), (.k (.sc (.int .i64 90)))], (some (15, true)), false⟩,
 ⟨21, .pk (.t 15) (.t 20) (.k (.sc (.bool false))), none, false⟩,
 ⟨22, .mv (.t 21), none, false⟩,
 ⟨23, .mv (.t 0), (some (22, true)), false⟩,
 ⟨24, .nc (.t 23), (some (22, true)), false⟩,
 ⟨25, .fa 3 (.t 24), (some (22, true)), false⟩,
 ⟨26, .ld 1 false (.t 25), (some (22, true)), false⟩,
 ⟨27, .ca (.k (.cl 64 [])) [(.t 26), (.k (.sc (.int .i64 0))), (.k (.sc (.int .i64 100)))], (some (22, true)), false⟩,
 ⟨28, .pk (.t 22) (.t 27) (.k (.sc (.bool false))), none, false⟩,
 ⟨2, .mv (.t 28), none, false⟩])
 .ret))⟩
attribute [simp] i50
set_option maxRecDepth 1000000 in
theorem c50 : cFn Try.prog 50 [] = some i50 := by kernel_rfl
theorem e50 : enterOk Try.prog 50 = true := by kernel_rfl
def i51 : Ev.Fn := ⟨3, 15, [.tmp 6],
 (.seq
 (.reg false [⟨6, .mv (.k (.sc (.bool false))), none, false⟩])
 (.seq
 (.reg false [⟨7, .mv (.t 0), none, false⟩,
 ⟨8, .mv (.t 1), none, false⟩,
 ⟨9, .ar .geq false (.t 7) (.t 8), none, false⟩,
 ⟨10, .mv (.t 9), none, false⟩,
 ⟨11, .mv (.t 0), (some (10, true)), false⟩,
 ⟨12, .mv (.t 2), (some (10, true)), false⟩,
 ⟨13, .ar .leq false (.t 11) (.t 12), (some (10, true)), false⟩,
 ⟨14, .pk (.t 10) (.t 13) (.k (.sc (.bool false))), none, false⟩,
 ⟨6, .mv (.t 14), none, false⟩])
 .ret))⟩
attribute [simp] i51
set_option maxRecDepth 1000000 in
theorem c51 : cFn Try.prog 51 [] = some i51 := by kernel_rfl
theorem e51 : enterOk Try.prog 51 = true := by kernel_rfl
def i52 : Ev.Fn := ⟨1, 5, [.tmp 2],
 (.seq
 (.reg false [⟨2, .mv (.k (.sc (.bool false))), none, false⟩])
 (.seq
 (.reg false [⟨3, .mv (.t 0), none, false⟩,
 ⟨4, .ca (.k (.cl 64 [])) [(.t 3), (.k (.sc (.int .i64 0))), (.k (.sc (.int .i64 179)))], none, false⟩,
 ⟨2, .mv (.t 4), none, false⟩])
 .ret))⟩
attribute [simp] i52
set_option maxRecDepth 1000000 in
theorem c52 : cFn Try.prog 52 [] = some i52 := by kernel_rfl
theorem e52 : enterOk Try.prog 52 = true := by kernel_rfl
def i53 : Ev.Fn := ⟨1, 5, [.tmp 2],
 (.seq
 (.reg false [⟨2, .mv (.k (.sc (.bool false))), none, false⟩])
 (.seq
 (.reg false [⟨3, .mv (.t 0), none, false⟩,
 ⟨4, .ca (.k (.cl 64 [])) [(.t 3), (.k (.sc (.int .i64 0))), (.k (.sc (.int .i64 7)))], none, false⟩,
 ⟨2, .mv (.t 4), none, false⟩])
 .ret))⟩
attribute [simp] i53
set_option maxRecDepth 1000000 in
theorem c53 : cFn Try.prog 53 [] = some i53 := by kernel_rfl
theorem e53 : enterOk Try.prog 53 = true := by kernel_rfl
def i54 : Ev.Fn := ⟨2, 14, [.tmp 4],
 (.seq
 (.reg false [⟨4, .mv (.k (.sc (.int .i64 0))), none, false⟩])
 (.seq
 (.seq
 (.reg false [⟨5, .mv (.t 1), none, false⟩,
 ⟨6, .ar .geq false (.t 5) (.k (.sc (.int .i64 4))), none, false⟩])
 (.ite (.t 6)
 (.reg false [⟨7, .mv (.t 0), none, false⟩,
 ⟨8, .ar .sub false (.k (.sc (.int .i64 180))) (.t 7), none, false⟩,
 ⟨0, .mv (.t 8), none, false⟩])
 .skip))
 (.seq
 (.reg false [⟨9, .mv (.t 0), none, false⟩,
 ⟨10, .mv (.t 1), none, false⟩,
 ⟨11, .ar .mul false (.k (.sc (.int .i64 90))) (.t 10), none, false⟩,
 ⟨12, .ar .add false (.t 9) (.t 11), none, false⟩,
 ⟨13, .ar .rem false (.t 12) (.k (.sc (.int .i64 180))), none, false⟩,
 ⟨4, .mv (.t 13), none, false⟩])
 .ret)))⟩
attribute [simp] i54
set_option maxRecDepth 1000000 in
theorem c54 : cFn Try.prog 54 [] = some i54 := by kernel_rfl
theorem e54 : enterOk Try.prog 54 = true := by kernel_rfl
def i55 : Ev.Fn := ⟨2, 17, [.tmp 4],
 (.seq
 (.reg false [⟨4, .mv (.k (.sc (.int .i64 0))), none, false⟩])
 (.seq
 (.reg false [⟨6, .mv (.t 0), none, false⟩,
 ⟨7, .mv (.t 1), none, false⟩,
 ⟨8, .ar .sub false (.t 6) (.t 7), none, false⟩,
 ⟨9, .mv (.t 1), none, false⟩,
 ⟨10, .mv (.t 0), none, false⟩,
 ⟨11, .ar .sub false (.t 9) (.t 10), none, false⟩,
 ⟨12, .ca (.k (.cl 65 [])) [(.t 8), (.t 11)], none, false⟩,
 ⟨5, .mv (.t 12), none, false⟩])
 (.seq
 (.reg false [⟨13, .mv (.t 5), none, false⟩,
 ⟨14, .mv (.t 5), none, false⟩,
 ⟨15, .ar .sub false (.k (.sc (.int .i64 180))) (.t 14), none, false⟩,
 ⟨16, .ca (.k (.cl 74 [])) [(.t 13), (.t 15)], none, false⟩,
 ⟨4, .mv (.t 16), none, false⟩])
 .ret)))⟩
attribute [simp] i55
set_option maxRecDepth 1000000 in
theorem c55 : cFn Try.prog 55 [] = some i55 := by kernel_rfl
theorem e55 : enterOk Try.prog 55 = true := by kernel_rfl
def i56 : Ev.Fn := ⟨3, 47, [.tmp 6],
 (.seq
 (.reg false [⟨6, .mv (.k (.sc (.bool false))), none, false⟩])
 (.seq
 (.reg true [⟨7, .mv (.t 0), none, false⟩,
 ⟨8, .nc (.t 7), none, false⟩,
 ⟨9, .fa 0 (.t 8), none, false⟩,
 ⟨10, .ld 1 false (.t 9), none, false⟩,
 ⟨11, .mv (.t 1), none, false⟩,
 ⟨12, .ca (.k (.cl 64 [])) [(.t 10), (.k (.sc (.int .i64 0))), (.t 11)], none, false⟩,
 ⟨13, .mv (.t 12), none, false⟩,
 ⟨14, .mv (.t 0), (some (13, true)), false⟩,
 ⟨15, .nc (.t 14), (some (13, true)), false⟩,
 ⟨16, .fa 1 (.t 15), (some (13, true)), false⟩,
 ⟨17, .ld 1 false (.t 16), (some (13, true)), false⟩,
 ⟨18, .mv (.t 2), (some (13, true)), false⟩,
 ⟨19, .ca (.k (.cl 64 [])) [(.t 17), (.k (.sc (.int .i64 0))), (.t 18)], (some (13, true)), false⟩,
 ⟨20, .pk (.t 13) (.t 19) (.k (.sc (.bool false))), none, false⟩,
 ⟨21, .mv (.t 20), none, false⟩,
 ⟨22, .mv (.t 0), (some (21, true)), false⟩,
 ⟨23, .nc (.t 22), (some (21, true)), false⟩,
 ⟨24, .fa 2 (.t 23), (some (21, true)), false⟩,
 ⟨25, .ld 1 false (.t 24), (some (21, true)), false⟩,
 ⟨26, .mv (.t 1), (some (21, true)), false⟩,
 ⟨27, .mv (.t 0), (some (21, true)), false⟩,
 ⟨28, .nc (.t 27), (some (21, true)), false⟩,
 ⟨29, .fa 0 (.t 28), (some (21, true)), false⟩,
 ⟨30, .ld 1 false (.t 29), (some (21, true)), false⟩,
 ⟨31, .ar .sub false (.t 26) (.t 30), (some (21, true)), false⟩,
 ⟨32, .ca (.k (.cl 64 [])) [(.t 25), (.k (.sc (.int .i64 1))), (.t 31)], (some (21, true)), false⟩,
 ⟨33, .pk (.t 21) (.t 32) (.k (.sc (.bool false))), none, false⟩,
 ⟨34, .mv (.t 33), none, false⟩,
 ⟨35, .mv (.t 0), (some (34, true)), false⟩,
 ⟨36, .nc (.t 35), (some (34, true)), false⟩,
 ⟨37, .fa 3 (.t 36), (some (34, true)), false⟩,
 ⟨38, .ld 1 false (.t 37), (some (34, true)), false⟩,
 ⟨39, .mv (.t 2), (some (34, true)), false⟩,
 ⟨40, .mv (.t 0), (some (34, true)), false⟩,
 ⟨41, .nc (.t 40), (some (34, true)), false⟩,
 ⟨42, .fa 1 (.t 41), (some (34, true)), false⟩,
 ⟨43, .ld 1 false (.t 42), (some (34, true)), false⟩,
 ⟨44, .ar .sub false (.t 39) (.t 43), (some (34, true)), false⟩,
 ⟨45, .ca (.k (.cl 64 [])) [(.t 38), (.k (.sc (.int .i64 1))), (.t 44)], (some (34, true)), false⟩,
 ⟨46, .pk (.t 34) (.t 45) (.k (.sc (.bool false))), none, false⟩,
 ⟨6, .mv (.t 46), none, false⟩])
 .ret))⟩
attribute [simp] i56
set_option maxRecDepth 1000000 in
theorem c56 : cFn Try.prog 56 [] = some i56 := by kernel_rfl
theorem e56 : enterOk Try.prog 56 = true := by kernel_rfl
def i57 : Ev.Fn := ⟨2, 67, [.tmp 4],
 (.seq
 (.reg false [⟨4, .mv (.k (.sc (.bool false))), none, false⟩])
 (.seq
 (.reg true [⟨5, .mv (.t 0), none, false⟩,
 ⟨6, .nc (.t 5), none, false⟩,
 ⟨7, .fa 0 (.t 6), none, false⟩,
 ⟨8, .ld 1 false (.t 7), none, false⟩,
 ⟨9, .mv (.t 1), none, false⟩,
 ⟨10, .nc (.t 9), none, false⟩,
 ⟨11, .fa 0 (.t 10), none, false⟩,
 ⟨12, .ld 1 false (.t 11), none, false⟩,
 ⟨13, .mv (.t 1), none, false⟩,
 ⟨14, .nc (.t 13), none, false⟩,
 ⟨15, .fa 2 (.t 14), none, false⟩,
 ⟨16, .ld 1 false (.t 15), none, false⟩,
 ⟨17, .ar .add false (.t 12) (.t 16), none, false⟩,
 ⟨18, .ar .lss false (.t 8) (.t 17), none, false⟩,
 ⟨19, .mv (.t 18), none, false⟩,
 ⟨20, .mv (.t 1), (some (19, true)), false⟩,
 ⟨21, .nc (.t 20), (some (19, true)), false⟩,
 ⟨22, .fa 0 (.t 21), (some (19, true)), false⟩,
 ⟨23, .ld 1 false (.t 22), (some (19, true)), false⟩,
 ⟨24, .mv (.t 0), (some (19, true)), false⟩,
 ⟨25, .nc (.t 24), (some (19, true)), false⟩,
 ⟨26, .fa 0 (.t 25), (some (19, true)), false⟩,
 ⟨27, .ld 1 false (.t 26), (some (19, true)), false⟩,
 ⟨28, .mv (.t 0), (some (19, true)), false⟩,
 ⟨29, .nc (.t 28), (some (19, true)), false⟩,
 ⟨30, .fa 2 (.t 29), (some (19, true)), false⟩,
 ⟨31, .ld 1 false (.t 30), (some (19, true)), false⟩,
 ⟨32, .ar .add false (.t 27) (.t 31), (some (19, true)), false⟩,
 ⟨33, .ar .lss false (.t 23) (.t 32), (some (19, true)), false⟩,
 ⟨34, .pk (.t 19) (.t 33) (.k (.sc (.bool false))), none, false⟩,
 ⟨35, .mv (.t 34), none, false⟩,
 ⟨36, .mv (.t 0), (some (35, true)), false⟩,
 ⟨37, .nc (.t 36), (some (35, true)), false⟩,
 ⟨38, .fa 1 (.t 37), (some (35, true)), false⟩,
 ⟨39, .ld 1 false (.t 38), (some (35, true)), false⟩,
 ⟨40, .mv (.t 1), (some (35, true)), false⟩,
 ⟨41, .nc (.t 40), (some (35, true)), false⟩,
 ⟨42, .fa 1 (.t 41), (some (35, true)), false⟩,
 ⟨43, .ld 1 false (.t 42), (some (35, true)), false⟩,
 ⟨44, .mv (.t 1), (some (35, true)), false⟩,
 ⟨45, .nc (.t 44), (some (35, true)), false⟩,
 ⟨46, .fa 3 (.t 45), (some (35, true)), false⟩,
 ⟨47, .ld 1 false (.t 46), (some (35, true)), false⟩,
 ⟨48, .ar .add false (.t 43) (.t 47), (some (35, true)), false⟩,
 ⟨49, .ar .lss false (.t 39) (.t 48), (some (35, true)), false⟩,
 ⟨50, .pk (.t 35) (.t 49) (.k (.sc (.bool false))), none, false⟩,
 ⟨51, .mv (.t 50), none, false⟩,
 ⟨52, .mv (.t 1), (some (51, true)), false⟩,
 ⟨53, .nc (.t 52), (some (51, true)), false⟩,
 ⟨54, .fa 1 (.t 53), (some (51, true)), false⟩,
 ⟨55, .ld 1 false (.t 54), (some (51, true)), false⟩,
 ⟨56, .mv (.t 0), (some (51, true)), false⟩,
 ⟨57, .nc (.t 56), (some (51, true)), false⟩,
 ⟨58, .fa 1 (.t 57), (some (51, true)), false⟩,
 ⟨59, .ld 1 false (.t 58), (some (51, true)), false⟩,
 ⟨60, .mv (.t 0), (some (51, true)), false⟩,
 ⟨61, .nc (.t 60), (some (51, true)), false⟩,
 ⟨62, .fa 3 (.t 61), (some (51, true)), false⟩,
 ⟨63, .ld 1 false (.t 62), (some (51, true)), false⟩,
 ⟨64, .ar .add false (.t 59) (.t 63), (some (51, true)), false⟩,
 ⟨65, .ar .lss false (.t 55) (.t 64), (some (51, true)), false⟩,
 ⟨66, .pk (.t 51) (.t 65) (.k (.sc (.bool false))), none, false⟩,
 ⟨4, .mv (.t 66), none, false⟩])
 .ret))⟩
attribute [simp] i57
set_option maxRecDepth 1000000 in
theorem c57 : cFn Try.prog 57 [] = some i57 := by kernel_rfl
theorem e57 : enterOk Try.prog 57 = true := by kernel_rfl
def i58 : Ev.Fn := ⟨3, 35, [.tmp 6],
 (.seq
 (.reg false [⟨3, .bx (.t 0), none, false⟩,
 ⟨6, .mv (.k (.sc (.bool false))), none, false⟩])
 (.seq
 (.reg false [⟨7, .fa 0 (.t 3), none, false⟩,
 ⟨8, .ld 1 false (.t 7), none, false⟩,
 ⟨9, .mv (.t 1), none, false⟩,
 ⟨10, .ca (.k (.cl 51 [])) [(.t 8), (.k (.sc (.int .i64 0))), (.t 9)], none, false⟩,
 ⟨11, .mv (.t 10), none, false⟩,
 ⟨12, .fa 1 (.t 3), (some (11, true)), false⟩,
 ⟨13, .ld 1 false (.t 12), (some (11, true)), false⟩,
 ⟨14, .mv (.t 2), (some (11, true)), false⟩,
 ⟨15, .ca (.k (.cl 51 [])) [(.t 13), (.k (.sc (.int .i64 0))), (.t 14)], (some (11, true)), false⟩,
 ⟨16, .pk (.t 11) (.t 15) (.k (.sc (.bool false))), none, false⟩,
 ⟨17, .mv (.t 16), none, false⟩,
 ⟨18, .fa 2 (.t 3), (some (17, true)), false⟩,
 ⟨19, .ld 1 false (.t 18), (some (17, true)), false⟩,
 ⟨20, .mv (.t 1), (some (17, true)), false⟩,
 ⟨21, .fa 0 (.t 3), (some (17, true)), false⟩,
 ⟨22, .ld 1 false (.t 21), (some (17, true)), false⟩,
 ⟨23, .ar .sub false (.t 20) (.t 22), (some (17, true)), false⟩,
 ⟨24, .ca (.k (.cl 51 [])) [(.t 19), (.k (.sc (.int .i64 1))), (.t 23)], (some (17, true)), false⟩,
 ⟨25, .pk (.t 17) (.t 24) (.k (.sc (.bool false))), none, false⟩,
 ⟨26, .mv (.t 25), none, false⟩,
 ⟨27, .fa 3 (.t 3), (some (26, true)), false⟩,
 ⟨28, .ld 1 false (.t 27), (some (26, true)), false⟩,
 ⟨29, .mv (.t 2), (some (26, true)), false⟩,
 ⟨30, .fa 1 (.t 3), (some (26, true)), false⟩,
 ⟨31, .ld 1 false (.t 30), (some (26, true)), false⟩,
 ⟨32, .ar .sub false (.t 29) (.t 31), (some (26, true)), false⟩,
 ⟨33, .ca (.k (.cl 51 [])) [(.t 28), (.k (.sc (.int .i64 1))), (.t 32)], (some (26, true)), false⟩,
 ⟨34, .pk (.t 26) (.t 33) (.k (.sc (.bool false))), none, false⟩,
 ⟨6, .mv (.t 34), none, false⟩])
 .ret))⟩
attribute [simp] i58
set_option maxRecDepth 1000000 in
theorem c58 : cFn Try.prog 58 [] = some i58 := by kernel_rfl
theorem e58 : enterOk Try.prog 58 = true := by kernel_rfl
def i59 : Ev.Fn := ⟨2, 14, [.tmp 4],
 (.seq
 (.reg false [⟨2, .bx (.t 0), none, false⟩,
 ⟨3, .bx (.t 1), none, false⟩,
 ⟨4, .mv (.k (.sc (.bool false))), none, false⟩])
 (.seq
 (.reg false [⟨8, .ld 4 true (.t 2), none, false⟩,
 ⟨9, .ld 4 true (.t 3), none, false⟩,
 ⟨10, .ca (.k (.cl 75 [])) [(.t 8), (.t 9)], none, false⟩,
 ⟨7, .mv (.t 10), none, false⟩,
 ⟨11, .xt (.t 7) 0, none, false⟩,
 ⟨12, .xt (.t 7) 1, none, false⟩,
 ⟨5, .al [(.sc (.int .i64 0)), (.sc (.int .i64 0)), (.sc (.int .i64 0)), (.sc (.int .i64 0))], none, false⟩,
 ⟨1, .so 4 (.t 5) (.t 11), none, true⟩,
 ⟨6, .mv (.t 12), none, false⟩])
 (.seq
 (.reg false [⟨13, .mv (.t 6), none, false⟩,
 ⟨4, .mv (.t 13), none, false⟩])
 .ret)))⟩
attribute [simp] i59
set_option maxRecDepth 1000000 in
theorem c59 : cFn Try.prog 59 [] = some i59 := by kernel_rfl
theorem e59 : enterOk Try.prog 59 = true := by kernel_rfl
def i60 : Ev.Fn := ⟨0, 2, [.tmp 0],
 (.seq
 (.reg false [⟨0, .mv (.k .nl), none, false⟩])
 (.seq
 (.reg false [⟨1, .bs 9 1 [(.sc (.string ⟨#[]⟩))] 10 [(0, (.k (.sc (.string ⟨#[97, 115, 104]⟩)))), (1, (.k (.sc (.string ⟨#[98, 101, 101, 99, 104]⟩)))), (2, (.k (.sc (.string ⟨#[98, 105, 114, 99, 104]⟩)))), (3, (.k (.sc (.string ⟨#[99, 104, 101, 114, 114, 121]⟩)))), (4, (.k (.sc (.string ⟨#[101, 98, 111, 110, 121]⟩)))), (5, (.k (.sc (.string ⟨#[104, 111, 108, 108, 121]⟩)))), (6, (.k (.sc (.string ⟨#[109, 97, 112, 108, 101]⟩)))), (7, (.k (.sc (.string ⟨#[111, 97, 107]⟩)))), (8, (.k (.sc (.string ⟨#[114, 111, 115, 101, 119, 111, 111, 100]⟩)))), (9, (.k (.sc (.string ⟨#[119, 97, 108, 110, 117, 116]⟩))))], none, false⟩,
 ⟨0, .mv (.t 1), none, false⟩])
 .ret))⟩
attribute [simp] i60
set_option maxRecDepth 1000000 in
theorem c60 : cFn Try.prog 60 [] = some i60 := by kernel_rfl
theorem e60 : enterOk Try.prog 60 = true := by kernel_rfl
def w61_1 : IC :=
(.seq
 (.seq
 (.reg false [⟨6, .mv (.t 0), none, false⟩,
 ⟨7, .ar .gtr false (.t 6) (.k (.sc (.int .i64 0))), none, false⟩])
 (.ite (.t 7)
 .skip
 (.exit 0)))
 (.block 1
 (.seq
 (.reg false [⟨8, .mv (.t 0), none, false⟩,
 ⟨9, .ar .rem false (.t 8) (.k (.sc (.int .i64 10))), none, false⟩,
 ⟨10, .ar .add false (.k (.sc (.int .i64 48))) (.t 9), none, false⟩,
 ⟨11, .cv .u8 (.t 10), none, false⟩,
 ⟨12, .bs 5 1 [(.sc (.int .u8 0))] 1 [(0, (.t 11))], none, false⟩,
 ⟨13, .by (.t 12), none, false⟩,
 ⟨14, .mv (.t 3), none, false⟩,
 ⟨15, .ar .add false (.t 13) (.t 14), none, false⟩,
 ⟨3, .mv (.t 15), none, false⟩])
 (.reg false [⟨16, .mv (.t 0), none, false⟩,
 ⟨17, .ar .quo false (.t 16) (.k (.sc (.int .i64 10))), none, false⟩,
 ⟨0, .mv (.t 17), none, false⟩]))))
def b61_1 : IC := w61_1
theorem u61_1 (call : CallF) (st : St) : evC call b61_1 st = evC call w61_1 st := rfl
attribute [simp] u61_1 w61_1
def i61 : Ev.Fn := ⟨1, 20, [.tmp 2],
 (.seq
 (.reg false [⟨2, .mv (.k (.sc (.string ⟨#[]⟩))), none, false⟩])
 (.seq
 (.seq
 (.reg false [⟨4, .mv (.t 0), none, false⟩,
 ⟨5, .ar .leq false (.t 4) (.k (.sc (.int .i64 0))), none, false⟩])
 (.ite (.t 5)
 (.seq
 (.reg false [⟨2, .mv (.k (.sc (.string ⟨#[109, 48]⟩))), none, false⟩])
 .ret)
 .skip))
 (.seq
 (.reg false [⟨3, .mv (.k (.sc (.string ⟨#[]⟩))), none, false⟩])
 (.seq
 (.cln [3] [2]
 (.block 0
 (.loop [0, 3] b61_1)))
 (.seq
 (.reg false [⟨18, .mv (.t 3), none, false⟩,
 ⟨19, .ar .add false (.k (.sc (.string ⟨#[109]⟩))) (.t 18), none, false⟩,
 ⟨2, .mv (.t 19), none, false⟩])
 .ret)))))⟩
attribute [simp] i61
set_option maxRecDepth 1000000 in
theorem c61 : cFn Try.prog 61 [[0, 3], [3], [2]] = some i61 := by kernel_rfl
theorem e61 : enterOk Try.prog 61 = true := by kernel_rfl
def w62_1 : IC :=
(.seq
 (.seq
 (.reg false [⟨6, .mv (.t 4), none, false⟩,
 ⟨7, .mv (.t 3), none, false⟩,
 ⟨8, .ln false (.t 7), none, false⟩,
 ⟨9, .ar .lss false (.t 6) (.t 8), none, false⟩])
 (.ite (.t 9)
 .skip
 (.exit 0)))
 (.seq
 (.block 1
 (.seq
 (.reg false [⟨12, .mv (.t 3), none, false⟩,
 ⟨13, .mv (.t 4), none, false⟩,
 ⟨14, .ia 1 (.t 12) (.t 13), none, false⟩,
 ⟨15, .ld 1 false (.t 14), none, false⟩,
 ⟨16, .mv (.t 0), none, false⟩,
 ⟨17, .ar .eql false (.t 15) (.t 16), none, false⟩])
 (.ite (.t 17)
 (.seq
 (.reg false [⟨18, .mv (.t 4), none, false⟩,
 ⟨2, .mv (.t 18), none, false⟩])
 .ret)
 .skip)))
 (.reg false [⟨10, .mv (.t 4), none, false⟩,
 ⟨11, .ar .add false (.t 10) (.k (.sc (.int .i64 1))), none, false⟩,
 ⟨4, .mv (.t 11), none, false⟩])))
def b62_1 : IC := w62_1
theorem u62_1 (call : CallF) (st : St) : evC call b62_1 st = evC call w62_1 st := rfl
attribute [simp] u62_1 w62_1
def i62 : Ev.Fn := ⟨1, 19, [.tmp 2],
 (.seq
 (.reg false [⟨2, .mv (.k (.sc (.int .i64 0))), none, false⟩])
 (.seq
 (.reg false [⟨5, .ca (.k (.cl 60 [])) [], none, false⟩,
 ⟨3, .mv (.t 5), none, false⟩])
 (.seq
 (.seq
 (.reg false [⟨4, .mv (.k (.sc (.int .i64 0))), none, false⟩])
 (.cln [] [2]
 (.block 0
 (.loop [0, 3, 4] b62_1))))
 (.seq
 (.reg false [⟨2, .mv (.k (.sc (.int .i64 (-1)))), none, false⟩])
 .ret))))⟩
attribute [simp] i62
set_option maxRecDepth 1000000 in
theorem c62 : cFn Try.prog 62 [[0, 3, 4], [], [2]] = some i62 := by kernel_rfl
theorem e62 : enterOk Try.prog 62 = true := by kernel_rfl
def i63 : Ev.Fn := ⟨0, 12, [.tmp 0],
 (.seq
 (.reg false [⟨0, .mv (.k .nl), none, false⟩])
 (.seq
 (.reg false [⟨1, .bs 2 1 [(.sc (.int .i64 0))] 3 [(0, (.k (.sc (.int .i64 20)))), (1, (.k (.sc (.int .i64 40)))), (2, (.k (.sc (.int .i64 310))))], none, false⟩,
 ⟨2, .bs 2 1 [(.sc (.int .i64 0))] 3 [(0, (.k (.sc (.int .i64 35)))), (1, (.k (.sc (.int .i64 45)))), (2, (.k (.sc (.int .i64 410))))], none, false⟩,
 ⟨3, .bs 2 1 [(.sc (.int .i64 0))] 3 [(0, (.k (.sc (.int .i64 15)))), (1, (.k (.sc (.int .i64 33)))), (2, (.k (.sc (.int .i64 280))))], none, false⟩,
 ⟨4, .bs 2 1 [(.sc (.int .i64 0))] 3 [(0, (.k (.sc (.int .i64 50)))), (1, (.k (.sc (.int .i64 36)))), (2, (.k (.sc (.int .i64 240))))], none, false⟩,
 ⟨5, .bs 2 1 [(.sc (.int .i64 0))] 3 [(0, (.k (.sc (.int .i64 95)))), (1, (.k (.sc (.int .i64 85)))), (2, (.k (.sc (.int .i64 270))))], none, false⟩,
 ⟨6, .bs 2 1 [(.sc (.int .i64 0))] 3 [(0, (.k (.sc (.int .i64 5)))), (1, (.k (.sc (.int .i64 35)))), (2, (.k (.sc (.int .i64 370))))], none, false⟩,
 ⟨7, .bs 2 1 [(.sc (.int .i64 0))] 3 [(0, (.k (.sc (.int .i64 10)))), (1, (.k (.sc (.int .i64 42)))), (2, (.k (.sc (.int .i64 290))))], none, false⟩,
 ⟨8, .bs 2 1 [(.sc (.int .i64 0))] 3 [(0, (.k (.sc (.int .i64 40)))), (1, (.k (.sc (.int .i64 40)))), (2, (.k (.sc (.int .i64 330))))], none, false⟩,
 ⟨9, .bs 2 1 [(.sc (.int .i64 0))] 3 [(0, (.k (.sc (.int .i64 80)))), (1, (.k (.sc (.int .i64 60)))), (2, (.k (.sc (.int .i64 220))))], none, false⟩,
 ⟨10, .bs 2 1 [(.sc (.int .i64 0))] 3 [(0, (.k (.sc (.int .i64 70)))), (1, (.k (.sc (.int .i64 38)))), (2, (.k (.sc (.int .i64 260))))], none, false⟩,
 ⟨11, .bw 80 1 [.nl] 10 [(0, (.t 1)), (1, (.t 2)), (2, (.t 3)), (3, (.t 4)), (4, (.t 5)), (5, (.t 6)), (6, (.t 7)), (7, (.t 8)), (8, (.t 9)), (9, (.t 10))], none, false⟩,
 ⟨0, .mv (.t 11), none, false⟩])
 .ret))⟩
attribute [simp] i63
set_option maxRecDepth 1000000 in
theorem c63 : cFn Try.prog 63 [] = some i63 := by kernel_rfl
theorem e63 : enterOk Try.prog 63 = true := by kernel_rfl
def i64 : Ev.Fn := ⟨3, 15, [.tmp 6],
 (.seq
 (.reg false [⟨6, .mv (.k (.sc (.bool false))), none, false⟩])
 (.seq
 (.reg false [⟨7, .mv (.t 0), none, false⟩,
 ⟨8, .mv (.t 1), none, false⟩,
 ⟨9, .ar .geq false (.t 7) (.t 8), none, false⟩,
 ⟨10, .mv (.t 9), none, false⟩,
 ⟨11, .mv (.t 0), (some (10, true)), false⟩,
 ⟨12, .mv (.t 2), (some (10, true)), false⟩,
 ⟨13, .ar .leq false (.t 11) (.t 12), (some (10, true)), false⟩,
 ⟨14, .pk (.t 10) (.t 13) (.k (.sc (.bool false))), none, false⟩,
 ⟨6, .mv (.t 14), none, false⟩])
 .ret))⟩
attribute [simp] i64
set_option maxRecDepth 1000000 in
theorem c64 : cFn Try.prog 64 [] = some i64 := by kernel_rfl
theorem e64 : enterOk Try.prog 64 = true := by kernel_rfl
def i65 : Ev.Fn := ⟨2, 10, [.tmp 4],
 (.seq
 (.reg false [⟨4, .mv (.k (.sc (.int .i64 0))), none, false⟩])
 (.seq
 (.seq
 (.reg false [⟨5, .mv (.t 0), none, false⟩,
 ⟨6, .mv (.t 1), none, false⟩,
 ⟨7, .ar .gtr false (.t 5) (.t 6), none, false⟩])
 (.ite (.t 7)
 (.seq
 (.reg false [⟨8, .mv (.t 0), none, false⟩,
 ⟨4, .mv (.t 8), none, false⟩])
 .ret)
 .skip))
 (.seq
 (.reg false [⟨9, .mv (.t 1), none, false⟩,
 ⟨4, .mv (.t 9), none, false⟩])
 .ret)))⟩
attribute [simp] i65
set_option maxRecDepth 1000000 in
theorem c65 : cFn Try.prog 65 [] = some i65 := by kernel_rfl
theorem e65 : enterOk Try.prog 65 = true := by kernel_rfl
def i66 : Ev.Fn := ⟨1, 18, [.tmp 2, .tmp 3],
 (.seq
 (.reg false [⟨2, .mv (.k (.sc (.int .i64 0))), none, false⟩,
 ⟨3, .mv (.k (.sc (.bool false))), none, false⟩])
 (.seq
 (.reg false [⟨9, .mv (.t 0), none, false⟩,
 ⟨10, .ca (.k (.cl 31 [])) [(.t 9)], none, false⟩,
 ⟨8, .mv (.t 10), none, false⟩,
 ⟨11, .xt (.t 8) 0, none, false⟩,
 ⟨12, .xt (.t 8) 1, none, false⟩,
 ⟨13, .xt (.t 8) 2, none, false⟩,
 ⟨14, .xt (.t 8) 3, none, false⟩,
 ⟨4, .mv (.t 11), none, false⟩,
 ⟨5, .mv (.t 12), none, false⟩,
 ⟨6, .mv (.t 13), none, false⟩,
 ⟨7, .mv (.t 14), none, false⟩])
 (.seq
 (.reg false [⟨15, .mv (.t 4), none, false⟩,
 ⟨16, .mv (.t 7), none, false⟩,
 ⟨17, .ar .eql false (.t 16) (.k (.sc (.int .i64 0))), none, false⟩,
 ⟨2, .mv (.t 15), none, false⟩,
 ⟨3, .mv (.t 17), none, false⟩])
 .ret)))⟩
attribute [simp] i66
set_option maxRecDepth 1000000 in
theorem c66 : cFn Try.prog 66 [] = some i66 := by kernel_rfl
theorem e66 : enterOk Try.prog 66 = true := by kernel_rfl
def i67 : Ev.Fn := ⟨1, 42, [.tmp 2],
 (.seq
 (.reg false [⟨2, .mv (.k (.sc (.bool false))), none, false⟩])
 (.seq
 (.reg false [⟨5, .mv (.t 0), none, false⟩,
 ⟨6, .nc (.t 5), none, false⟩,
 ⟨7, .fa 0 (.t 6), none, false⟩,
 ⟨8, .ld 1 false (.t 7), none, false⟩,
 ⟨9, .ca (.k (.cl 62 [])) [(.t 8)], none, false⟩,
 ⟨3, .mv (.t 9), none, false⟩])
 (.seq
 (.seq
 (.reg false [⟨10, .mv (.t 3), none, false⟩,
 ⟨11, .ar .lss false (.t 10) (.k (.sc (.int .i64 0))), none, false⟩,
 ⟨12, .mv (.t 11), none, false⟩,
 ⟨13, .mv (.t 0), (some (12, false)), false⟩,
 ⟨14, .nc (.t 13), (some (12, false)), false⟩,
 ⟨15, .fa 1 (.t 14), (some (12, false)), false⟩,
 ⟨16, .ld 1 false (.t 15), (some (12, false)), false⟩,
 ⟨17, .ca (.k (.cl 64 [])) [(.t 16), (.k (.sc (.int .i64 0))), (.k (.sc (.int .i64 100)))], (some (12, false)), false⟩,
 ⟨18, .nt (.t 17), (some (12, false)), false⟩,
 ⟨19, .pk (.t 12) (.k (.sc (.bool true))) (.t 18), none, false⟩])
 (.ite (.t 19)
 (.seq
 (.reg false [⟨2, .mv (.k (.sc (.bool false))), none, false⟩])
 .ret)
 .skip))
 (.seq
 (.reg false [⟨20, .ca (.k (.cl 63 [])) [], none, false⟩,
 ⟨21, .mv (.t 3), none, false⟩,
 ⟨22, .ia 1 (.t 20) (.t 21), none, false⟩,
 ⟨23, .ld 1 false (.t 22), none, false⟩,
 ⟨24, .ia 1 (.t 23) (.k (.sc (.int .i64 0))), none, false⟩,
 ⟨25, .ld 1 false (.t 24), none, false⟩,
 ⟨4, .mv (.t 25), none, false⟩])
 (.seq
 (.reg false [⟨26, .mv (.t 0), none, false⟩,
 ⟨27, .nc (.t 26), none, false⟩,
 ⟨28, .fa 1 (.t 27), none, false⟩,
 ⟨29, .ld 1 false (.t 28), none, false⟩,
 ⟨30, .mv (.t 4), none, false⟩,
 ⟨31, .ar .sub false (.t 30) (.k (.sc (.int .i64 15))), none, false⟩,
 ⟨32, .mv (.t 4), none, false⟩,
 ⟨33, .ar .add false (.t 32) (.k (.sc (.int .i64 15))), none, false⟩,
 ⟨34, .ca (.k (.cl 64 [])) [(.t 29), (.t 31), (.t 33)], none, false⟩,
 ⟨35, .mv (.t 34), none, false⟩,
 ⟨36, .mv (.t 0), (some (35, true)), false⟩,
 ⟨37, .nc (.t 36), (some (35, true)), false⟩,
 ⟨38, .fa 2 (.t 37), (some (35, true)), false⟩,
 ⟨39, .ld 1 false (.t 38), (some (35, true)), false⟩,
 ⟨40, .ca (.k (.cl 52 [])) [(.t 39)], (some (35, true)), false⟩,
 ⟨41, .pk (.t 35) (.t 40) (.k (.sc (.bool false))), none, false⟩,
 ⟨2, .mv (.t 41), none, false⟩])
 .ret)))))⟩
attribute [simp] i67
set_option maxRecDepth 1000000 in
theorem c67 : cFn Try.prog 67 [] = some i67 := by kernel_rfl
theorem e67 : enterOk Try.prog 67 = true := by kernel_rfl
def w68_1 : IC :=
(.seq
 (.seq
 (.reg false [⟨4, .mv (.t 3), none, false⟩,
 ⟨5, .mv (.t 0), none, false⟩,
 ⟨6, .ln false (.t 5), none, false⟩,
 ⟨7, .ar .lss false (.t 4) (.t 6), none, false⟩])
 (.ite (.t 7)
 .skip
 (.exit 0)))
 (.seq
 (.block 1
 (.seq
 (.reg true [⟨10, .mv (.t 0), none, false⟩,
 ⟨11, .mv (.t 3), none, false⟩,
 ⟨12, .ia 5 (.t 10) (.t 11), none, false⟩,
 ⟨13, .ca (.k (.cl 76 [])) [(.t 12)], none, false⟩,
 ⟨14, .nt (.t 13), none, false⟩,
 ⟨15, .mv (.t 14), none, false⟩,
 ⟨16, .mv (.t 3), (some (15, false)), false⟩,
 ⟨17, .ar .gtr false (.t 16) (.k (.sc (.int .i64 0))), (some (15, false)), false⟩,
 ⟨18, .mv (.t 17), (some (15, false)), false⟩,
 ⟨19, .mv (.t 0), (some (18, true)), false⟩,
 ⟨20, .mv (.t 3), (some (18, true)), false⟩,
 ⟨21, .ar .sub false (.t 20) (.k (.sc (.int .i64 1))), (some (18, true)), false⟩,
 ⟨22, .ia 5 (.t 19) (.t 21), (some (18, true)), false⟩,
 ⟨23, .fa 0 (.t 22), (some (18, true)), false⟩,
 ⟨24, .ld 1 false (.t 23), (some (18, true)), false⟩,
 ⟨25, .mv (.t 0), (some (18, true)), false⟩,
 ⟨26, .mv (.t 3), (some (18, true)), false⟩,
 ⟨27, .ia 5 (.t 25) (.t 26), (some (18, true)), false⟩,
 ⟨28, .fa 0 (.t 27), (some (18, true)), false⟩,
 ⟨29, .ld 1 false (.t 28), (some (18, true)), false⟩,
 ⟨30, .ar .geq false (.t 24) (.t 29), (some (18, true)), false⟩,
 ⟨31, .pk (.t 18) (.t 30) (.k (.sc (.bool false))), (some (15, false)), false⟩,
 ⟨32, .pk (.t 15) (.k (.sc (.bool true))) (.t 31), none, false⟩])
 (.ite (.t 32)
 (.seq
 (.reg false [⟨2, .mv (.k (.sc (.bool false))), none, false⟩])
 .ret)
 .skip)))
 (.reg false [⟨8, .mv (.t 3), none, false⟩,
 ⟨9, .ar .add false (.t 8) (.k (.sc (.int .i64 1))), none, false⟩,
 ⟨3, .mv (.t 9), none, false⟩])))
def b68_1 : IC := w68_1
theorem u68_1 (call : CallF) (st : St) : evC call b68_1 st = evC call w68_1 st := rfl
attribute [simp] u68_1 w68_1
def i68 : Ev.Fn := ⟨1, 36, [.tmp 2],
 (.seq
 (.reg false [⟨2, .mv (.k (.sc (.bool false))), none, false⟩])
 (.seq
 (.seq
 (.reg false [⟨3, .mv (.k (.sc (.int .i64 0))), none, false⟩])
 (.cln [0] [2]
 (.block 0
 (.loop [0, 3] b68_1))))
 (.seq
 (.reg false [⟨33, .mv (.t 0), none, false⟩,
 ⟨34, .ln false (.t 33), none, false⟩,
 ⟨35, .ar .leq false (.t 34) (.k (.sc (.int .i64 24))), none, false⟩,
 ⟨2, .mv (.t 35), none, false⟩])
 .ret)))⟩
attribute [simp] i68
set_option maxRecDepth 1000000 in
theorem c68 : cFn Try.prog 68 [[0, 3], [0], [2]] = some i68 := by kernel_rfl
theorem e68 : enterOk Try.prog 68 = true := by kernel_rfl
def i69 : Ev.Fn := ⟨1, 20, [.cell 2 5 true],
 (.seq
 (.reg false [⟨1, .bx (.t 0), none, false⟩,
 ⟨2, .al [(.sc (.int .i64 0)), (.sc (.int .i64 0)), (.sc (.int .i64 0)), (.sc (.int .i64 0)), (.sc (.int .i64 0))], none, false⟩])
 (.seq
 (.reg false [⟨3, .al [(.sc (.int .i64 0)), (.sc (.int .i64 0)), (.sc (.int .i64 0)), (.sc (.int .i64 0)), (.sc (.int .i64 0))], none, false⟩])
 (.seq
 (.reg false [⟨4, .fa 0 (.t 1), none, false⟩,
 ⟨5, .ld 1 false (.t 4), none, false⟩,
 ⟨6, .fa 0 (.t 3), none, false⟩,
 ⟨1, .so 1 (.t 6) (.t 5), none, true⟩])
 (.seq
 (.reg false [⟨7, .fa 1 (.t 1), none, false⟩,
 ⟨8, .ld 1 false (.t 7), none, false⟩,
 ⟨9, .fa 1 (.t 3), none, false⟩,
 ⟨1, .so 1 (.t 9) (.t 8), none, true⟩])
 (.seq
 (.reg false [⟨10, .fa 2 (.t 1), none, false⟩,
 ⟨11, .ld 1 false (.t 10), none, false⟩,
 ⟨12, .fa 2 (.t 3), none, false⟩,
 ⟨1, .so 1 (.t 12) (.t 11), none, true⟩])
 (.seq
 (.reg false [⟨13, .fa 3 (.t 1), none, false⟩,
 ⟨14, .ld 1 false (.t 13), none, false⟩,
 ⟨15, .fa 3 (.t 3), none, false⟩,
 ⟨1, .so 1 (.t 15) (.t 14), none, true⟩])
 (.seq
 (.reg false [⟨16, .fa 4 (.t 1), none, false⟩,
 ⟨17, .ld 1 false (.t 16), none, false⟩,
 ⟨18, .fa 4 (.t 3), none, false⟩,
 ⟨1, .so 1 (.t 18) (.t 17), none, true⟩])
 (.seq
 (.reg false [⟨19, .ld 5 true (.t 3), none, false⟩,
 ⟨1, .so 5 (.t 2) (.t 19), none, true⟩])
 .ret))))))))⟩
attribute [simp] i69
set_option maxRecDepth 1000000 in
theorem c69 : cFn Try.prog 69 [] = some i69 := by kernel_rfl
theorem e69 : enterOk Try.prog 69 = true := by kernel_rfl
def i70 : Ev.Fn := ⟨1, 26, [.tmp 2],
 (.seq
 (.reg false [⟨1, .bx (.t 0), none, false⟩,
 ⟨2, .mv (.k (.sc (.bool false))), none, false⟩])
 (.seq
 (.reg false [⟨3, .fa 0 (.t 1), none, false⟩,
 ⟨4, .ld 1 false (.t 3), none, false⟩,
 ⟨5, .ca (.k (.cl 51 [])) [(.t 4), (.k (.sc (.int .i64 0))), (.k (.sc (.int .i64 23)))], none, false⟩,
 ⟨6, .mv (.t 5), none, false⟩,
 ⟨7, .fa 1 (.t 1), (some (6, true)), false⟩,
 ⟨8, .ld 1 false (.t 7), (some (6, true)), false⟩,
 ⟨9, .ca (.k (.cl 51 [])) [(.t 8), (.k (.sc (.int .i64 0))), (.k (.sc (.int .i64 15)))], (some (6, true)), false⟩,
 ⟨10, .pk (.t 6) (.t 9) (.k (.sc (.bool false))), none, false⟩,
 ⟨11, .mv (.t 10), none, false⟩,
 ⟨12, .fa 2 (.t 1), (some (11, true)), false⟩,
 ⟨13, .ld 1 false (.t 12), (some (11, true)), false⟩,
 ⟨14, .ca (.k (.cl 51 [])) [(.t 13), (.k (.sc (.int .i64 0))), (.k (.sc (.int .i64 20000)))], (some (11, true)), false⟩,
 ⟨15, .pk (.t 11) (.t 14) (.k (.sc (.bool false))), none, false⟩,
 ⟨16, .mv (.t 15), none, false⟩,
 ⟨17, .fa 3 (.t 1), (some (16, true)), false⟩,
 ⟨18, .ld 1 false (.t 17), (some (16, true)), false⟩,
 ⟨19, .ca (.k (.cl 51 [])) [(.t 18), (.k (.sc (.int .i64 0))), (.k (.sc (.int .i64 20000)))], (some (16, true)), false⟩,
 ⟨20, .pk (.t 16) (.t 19) (.k (.sc (.bool false))), none, false⟩,
 ⟨21, .mv (.t 20), none, false⟩,
 ⟨22, .fa 4 (.t 1), (some (21, true)), false⟩,
 ⟨23, .ld 1 false (.t 22), (some (21, true)), false⟩,
 ⟨24, .ca (.k (.cl 51 [])) [(.t 23), (.k (.sc (.int .i64 0))), (.k (.sc (.int .i64 7)))], (some (21, true)), false⟩,
 ⟨25, .pk (.t 21) (.t 24) (.k (.sc (.bool false))), none, false⟩,
 ⟨2, .mv (.t 25), none, false⟩])
 .ret))⟩
attribute [simp] i70
set_option maxRecDepth 1000000 in
theorem c70 : cFn Try.prog 70 [] = some i70 := by kernel_rfl
theorem e70 : enterOk Try.prog 70 = true := by kernel_rfl
end Go.Proofs.Ytjdcohcdgdjobaa.walkS
