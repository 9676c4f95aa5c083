/- The functions that some rows reach, turned; no conditions. -/
import Derived.Test.YtmfcdjkeofohpaaEv2
import Derived.KernelRfl
import Derived.Test.YtmfcdjkeofohpaaProg
namespace Go.Proofs.Ytmfcdjkeofohpaa.walkS
open Go Go.Proofs.Ytmfcdjkeofohpaa.Ev
def i3 : Ev.Fn := ⟨2, 45, [.tmp 4],
 (.seq
 (.reg false [⟨2, .bx (.t 0), none, false⟩,
 ⟨3, .bx (.t 1), none, false⟩,
 ⟨4, .mv (.k (.sc (.bool false))), none, false⟩])
 (.seq
 (.reg false [⟨5, .mv (.k (.sc (.int .i64 1048576))), none, false⟩])
 (.seq
 (.reg false [⟨10, .ld 9 true (.t 2), none, false⟩,
 ⟨11, .mv (.t 5), none, false⟩,
 ⟨12, .ca (.k (.cl 17 [])) [(.t 10), (.t 11)], none, false⟩,
 ⟨5, .mv (.t 12), none, false⟩])
 (.seq
 (.seq
 (.reg false [⟨13, .mv (.t 5), none, false⟩,
 ⟨14, .ar .lss false (.t 13) (.k (.sc (.int .i64 0))), none, false⟩])
 (.ite (.t 14)
 (.seq
 (.reg false [⟨4, .mv (.k (.sc (.bool true))), none, false⟩])
 .ret)
 .skip))
 (.seq
 (.reg false [⟨15, .ld 9 true (.t 3), none, false⟩,
 ⟨16, .mv (.t 5), none, false⟩,
 ⟨17, .ca (.k (.cl 17 [])) [(.t 15), (.t 16)], none, false⟩,
 ⟨5, .mv (.t 17), none, false⟩])
 (.seq
 (.seq
 (.reg false [⟨18, .mv (.t 5), none, false⟩,
 ⟨19, .ar .lss false (.t 18) (.k (.sc (.int .i64 0))), none, false⟩])
 (.ite (.t 19)
 (.seq
 (.reg false [⟨4, .mv (.k (.sc (.bool true))), none, false⟩])
 .ret)
 .skip))
 (.seq
 (.reg true [⟨20, .ld 9 true (.t 2), none, false⟩,
 ⟨21, .ca (.k (.cl 19 [])) [(.t 20)], none, false⟩,
 ⟨22, .ld 9 true (.t 3), none, false⟩,
 ⟨23, .ca (.k (.cl 19 [])) [(.t 22)], none, false⟩,
 ⟨24, .ca (.k (.cl 18 [])) [(.t 21), (.t 23)], none, false⟩,
 ⟨6, .mv (.t 24), none, false⟩])
 (.seq
 (.reg false [⟨25, .ld 9 true (.t 2), none, false⟩,
 ⟨26, .ca (.k (.cl 19 [])) [(.t 25)], none, false⟩,
 ⟨7, .al [(.sc (.string ⟨#[]⟩)), (.sc (.string ⟨#[]⟩)), (.sc (.int .i64 0)), (.sc (.string ⟨#[]⟩)), (.sc (.int .i64 0)), (.sc (.int .i64 0)), (.sc (.int .i64 0)), (.sc (.int .i64 0)), .nl], none, false⟩,
 ⟨1, .so 9 (.t 7) (.t 26), none, true⟩])
 (.seq
 (.reg false [⟨27, .ld 9 true (.t 3), none, false⟩,
 ⟨28, .ca (.k (.cl 19 [])) [(.t 27)], none, false⟩,
 ⟨8, .al [(.sc (.string ⟨#[]⟩)), (.sc (.string ⟨#[]⟩)), (.sc (.int .i64 0)), (.sc (.string ⟨#[]⟩)), (.sc (.int .i64 0)), (.sc (.int .i64 0)), (.sc (.int .i64 0)), (.sc (.int .i64 0)), .nl], none, false⟩,
 ⟨1, .so 9 (.t 8) (.t 28), none, true⟩])
 (.seq
 (.reg false [⟨29, .ld 9 true (.t 7), none, false⟩,
 ⟨30, .ld 9 true (.t 8), none, false⟩,
 ⟨31, .ca (.k (.cl 20 [])) [(.t 29), (.t 30)], none, false⟩,
 ⟨9, .mv (.t 31), none, false⟩])
 (.seq
 (.seq
 (.reg false [⟨32, .mv (.t 9), none, false⟩,
 ⟨33, .mv (.t 6), none, false⟩,
 ⟨34, .ar .neq true (.t 32) (.t 33), none, false⟩])
 (.ite (.t 34)
 (.seq
 (.reg false [⟨4, .mv (.k (.sc (.bool false))), none, false⟩])
 .ret)
 .skip))
 (.seq
 (.seq
 (.reg true [⟨35, .ld 9 true (.t 7), none, false⟩,
 ⟨36, .ld 9 true (.t 2), none, false⟩,
 ⟨37, .ca (.k (.cl 19 [])) [(.t 36)], none, false⟩,
 ⟨38, .ca (.k (.cl 21 [])) [(.t 35), (.t 37)], none, false⟩,
 ⟨39, .nt (.t 38), none, false⟩])
 (.ite (.t 39)
 (.seq
 (.reg false [⟨4, .mv (.k (.sc (.bool false))), none, false⟩])
 .ret)
 .skip))
 (.seq
 (.seq
 (.reg true [⟨40, .ld 9 true (.t 8), none, false⟩,
 ⟨41, .ld 9 true (.t 3), none, false⟩,
 ⟨42, .ca (.k (.cl 19 [])) [(.t 41)], none, false⟩,
 ⟨43, .ca (.k (.cl 21 [])) [(.t 40), (.t 42)], none, false⟩,
 ⟨44, .nt (.t 43), none, false⟩])
 (.ite (.t 44)
 (.seq
 (.reg false [⟨4, .mv (.k (.sc (.bool false))), none, false⟩])
 .ret)
 .skip))
 (.seq
 (.reg false [⟨4, .mv (.k (.sc (.bool true))), none, false⟩])
 .ret))))))))))))))⟩
attribute [simp] i3
set_option maxRecDepth 1000000 in
theorem c3 : cFn Try.prog 3 [[]] = some i3 := by kernel_rfl
theorem e3 : enterOk Try.prog 3 = true := by kernel_rfl
def i4 : Ev.Fn := ⟨1, 40, [.tmp 2],
 (.seq
 (.reg false [⟨2, .mv (.k (.sc (.bool false))), none, false⟩])
 (.seq
 (.reg false [⟨3, .mv (.k (.sc (.int .i64 1048576))), none, false⟩])
 (.seq
 (.reg false [⟨9, .mv (.t 0), none, false⟩,
 ⟨10, .mv (.t 3), none, false⟩,
 ⟨11, .ca (.k (.cl 22 [])) [(.t 9), (.t 10)], none, false⟩,
 ⟨3, .mv (.t 11), none, false⟩])
 (.seq
 (.seq
 (.reg false [⟨12, .mv (.t 3), none, false⟩,
 ⟨13, .ar .lss false (.t 12) (.k (.sc (.int .i64 0))), none, false⟩])
 (.ite (.t 13)
 (.seq
 (.reg false [⟨2, .mv (.k (.sc (.bool true))), none, false⟩])
 .ret)
 .skip))
 (.seq
 (.reg false [⟨15, .mv (.t 0), none, false⟩,
 ⟨16, .ca (.k (.cl 24 [])) [(.t 15)], none, false⟩,
 ⟨17, .ca (.k (.cl 23 [])) [(.t 16)], none, false⟩,
 ⟨14, .mv (.t 17), none, false⟩,
 ⟨18, .xt (.t 14) 0, none, false⟩,
 ⟨19, .xt (.t 14) 1, none, false⟩,
 ⟨4, .mv (.t 18), none, false⟩,
 ⟨5, .mv (.t 19), none, false⟩])
 (.seq
 (.reg false [⟨20, .mv (.t 0), none, false⟩,
 ⟨21, .ca (.k (.cl 24 [])) [(.t 20)], none, false⟩,
 ⟨6, .mv (.t 21), none, false⟩])
 (.seq
 (.reg false [⟨23, .mv (.t 6), none, false⟩,
 ⟨24, .ca (.k (.cl 25 [])) [(.t 23)], none, false⟩,
 ⟨22, .mv (.t 24), none, false⟩,
 ⟨25, .xt (.t 22) 0, none, false⟩,
 ⟨26, .xt (.t 22) 1, none, false⟩,
 ⟨7, .mv (.t 25), none, false⟩,
 ⟨8, .mv (.t 26), none, false⟩])
 (.seq
 (.seq
 (.reg false [⟨27, .mv (.t 7), none, false⟩,
 ⟨28, .mv (.t 4), none, false⟩,
 ⟨29, .ar .neq false (.t 27) (.t 28), none, false⟩,
 ⟨30, .mv (.t 29), none, false⟩,
 ⟨31, .mv (.t 8), (some (30, false)), false⟩,
 ⟨32, .mv (.t 5), (some (30, false)), false⟩,
 ⟨33, .ar .neq false (.t 31) (.t 32), (some (30, false)), false⟩,
 ⟨34, .pk (.t 30) (.k (.sc (.bool true))) (.t 33), none, false⟩])
 (.ite (.t 34)
 (.seq
 (.reg false [⟨2, .mv (.k (.sc (.bool false))), none, false⟩])
 .ret)
 .skip))
 (.seq
 (.seq
 (.reg false [⟨35, .mv (.t 6), none, false⟩,
 ⟨36, .mv (.t 0), none, false⟩,
 ⟨37, .ca (.k (.cl 24 [])) [(.t 36)], none, false⟩,
 ⟨38, .ca (.k (.cl 26 [])) [(.t 35), (.t 37)], none, false⟩,
 ⟨39, .nt (.t 38), none, false⟩])
 (.ite (.t 39)
 (.seq
 (.reg false [⟨2, .mv (.k (.sc (.bool false))), none, false⟩])
 .ret)
 .skip))
 (.seq
 (.reg false [⟨2, .mv (.k (.sc (.bool true))), none, false⟩])
 .ret))))))))))⟩
attribute [simp] i4
set_option maxRecDepth 1000000 in
theorem c4 : cFn Try.prog 4 [[]] = some i4 := by kernel_rfl
theorem e4 : enterOk Try.prog 4 = true := by kernel_rfl
def i5 : Ev.Fn := ⟨1, 27, [.tmp 2],
 (.seq
 (.reg false [⟨1, .bx (.t 0), none, false⟩,
 ⟨2, .mv (.k (.sc (.bool false))), none, false⟩])
 (.seq
 (.reg false [⟨3, .mv (.k (.sc (.int .i64 1048576))), none, false⟩])
 (.seq
 (.reg false [⟨7, .ld 9 true (.t 1), none, false⟩,
 ⟨8, .mv (.t 3), none, false⟩,
 ⟨9, .ca (.k (.cl 17 [])) [(.t 7), (.t 8)], none, false⟩,
 ⟨3, .mv (.t 9), none, false⟩])
 (.seq
 (.seq
 (.reg false [⟨10, .mv (.t 3), none, false⟩,
 ⟨11, .ar .lss false (.t 10) (.k (.sc (.int .i64 0))), none, false⟩])
 (.ite (.t 11)
 (.seq
 (.reg false [⟨2, .mv (.k (.sc (.bool true))), none, false⟩])
 .ret)
 .skip))
 (.seq
 (.reg false [⟨12, .ld 9 true (.t 1), none, false⟩,
 ⟨13, .ca (.k (.cl 19 [])) [(.t 12)], none, false⟩,
 ⟨14, .ca (.k (.cl 27 [])) [(.t 13)], none, false⟩,
 ⟨4, .mv (.t 14), none, false⟩])
 (.seq
 (.reg false [⟨15, .ld 9 true (.t 1), none, false⟩,
 ⟨16, .ca (.k (.cl 19 [])) [(.t 15)], none, false⟩,
 ⟨5, .al [(.sc (.string ⟨#[]⟩)), (.sc (.string ⟨#[]⟩)), (.sc (.int .i64 0)), (.sc (.string ⟨#[]⟩)), (.sc (.int .i64 0)), (.sc (.int .i64 0)), (.sc (.int .i64 0)), (.sc (.int .i64 0)), .nl], none, false⟩,
 ⟨1, .so 9 (.t 5) (.t 16), none, true⟩])
 (.seq
 (.reg false [⟨17, .ld 9 true (.t 5), none, false⟩,
 ⟨18, .ca (.k (.cl 28 [])) [(.t 17)], none, false⟩,
 ⟨6, .mv (.t 18), none, false⟩])
 (.seq
 (.seq
 (.reg false [⟨19, .mv (.t 6), none, false⟩,
 ⟨20, .mv (.t 4), none, false⟩,
 ⟨21, .ar .neq true (.t 19) (.t 20), none, false⟩])
 (.ite (.t 21)
 (.seq
 (.reg false [⟨2, .mv (.k (.sc (.bool false))), none, false⟩])
 .ret)
 .skip))
 (.seq
 (.seq
 (.reg true [⟨22, .ld 9 true (.t 5), none, false⟩,
 ⟨23, .ld 9 true (.t 1), none, false⟩,
 ⟨24, .ca (.k (.cl 19 [])) [(.t 23)], none, false⟩,
 ⟨25, .ca (.k (.cl 21 [])) [(.t 22), (.t 24)], none, false⟩,
 ⟨26, .nt (.t 25), none, false⟩])
 (.ite (.t 26)
 (.seq
 (.reg false [⟨2, .mv (.k (.sc (.bool false))), none, false⟩])
 .ret)
 .skip))
 (.seq
 (.reg false [⟨2, .mv (.k (.sc (.bool true))), none, false⟩])
 .ret))))))))))⟩
attribute [simp] i5
set_option maxRecDepth 1000000 in
theorem c5 : cFn Try.prog 5 [[]] = some i5 := by kernel_rfl
theorem e5 : enterOk Try.prog 5 = true := by kernel_rfl
def i6 : Ev.Fn := ⟨3, 48, [.tmp 6],
 (.seq
 (.reg false [⟨3, .bx (.t 0), none, false⟩,
 ⟨6, .mv (.k (.sc (.bool false))), none, false⟩])
 (.seq
 (.reg false [⟨7, .mv (.k (.sc (.int .i64 1048576))), none, false⟩])
 (.seq
 (.reg false [⟨13, .ld 9 true (.t 3), none, false⟩,
 ⟨14, .mv (.t 7), none, false⟩,
 ⟨15, .ca (.k (.cl 17 [])) [(.t 13), (.t 14)], none, false⟩,
 ⟨7, .mv (.t 15), none, false⟩])
 (.seq
 (.seq
 (.reg false [⟨16, .mv (.t 7), none, false⟩,
 ⟨17, .ar .lss false (.t 16) (.k (.sc (.int .i64 0))), none, false⟩])
 (.ite (.t 17)
 (.seq
 (.reg false [⟨6, .mv (.k (.sc (.bool true))), none, false⟩])
 .ret)
 .skip))
 (.seq
 (.reg false [⟨19, .ld 9 true (.t 3), none, false⟩,
 ⟨20, .ca (.k (.cl 19 [])) [(.t 19)], none, false⟩,
 ⟨21, .mv (.t 1), none, false⟩,
 ⟨22, .mv (.t 2), none, false⟩,
 ⟨23, .ca (.k (.cl 29 [])) [(.t 20), (.t 21), (.t 22)], none, false⟩,
 ⟨18, .mv (.t 23), none, false⟩,
 ⟨24, .xt (.t 18) 0, none, false⟩,
 ⟨25, .xt (.t 18) 1, none, false⟩,
 ⟨8, .mv (.t 24), none, false⟩,
 ⟨9, .mv (.t 25), none, false⟩])
 (.seq
 (.reg false [⟨26, .ld 9 true (.t 3), none, false⟩,
 ⟨27, .ca (.k (.cl 19 [])) [(.t 26)], none, false⟩,
 ⟨10, .al [(.sc (.string ⟨#[]⟩)), (.sc (.string ⟨#[]⟩)), (.sc (.int .i64 0)), (.sc (.string ⟨#[]⟩)), (.sc (.int .i64 0)), (.sc (.int .i64 0)), (.sc (.int .i64 0)), (.sc (.int .i64 0)), .nl], none, false⟩,
 ⟨1, .so 9 (.t 10) (.t 27), none, true⟩])
 (.seq
 (.reg false [⟨29, .ld 9 true (.t 10), none, false⟩,
 ⟨30, .mv (.t 1), none, false⟩,
 ⟨31, .mv (.t 2), none, false⟩,
 ⟨32, .ca (.k (.cl 30 [])) [(.t 29), (.t 30), (.t 31)], none, false⟩,
 ⟨28, .mv (.t 32), none, false⟩,
 ⟨33, .xt (.t 28) 0, none, false⟩,
 ⟨34, .xt (.t 28) 1, none, false⟩,
 ⟨11, .mv (.t 33), none, false⟩,
 ⟨12, .mv (.t 34), none, false⟩])
 (.seq
 (.seq
 (.reg false [⟨35, .mv (.t 11), none, false⟩,
 ⟨36, .mv (.t 8), none, false⟩,
 ⟨37, .ar .neq false (.t 35) (.t 36), none, false⟩,
 ⟨38, .mv (.t 37), none, false⟩,
 ⟨39, .mv (.t 12), (some (38, false)), false⟩,
 ⟨40, .mv (.t 9), (some (38, false)), false⟩,
 ⟨41, .ar .neq false (.t 39) (.t 40), (some (38, false)), false⟩,
 ⟨42, .pk (.t 38) (.k (.sc (.bool true))) (.t 41), none, false⟩])
 (.ite (.t 42)
 (.seq
 (.reg false [⟨6, .mv (.k (.sc (.bool false))), none, false⟩])
 .ret)
 .skip))
 (.seq
 (.seq
 (.reg true [⟨43, .ld 9 true (.t 10), none, false⟩,
 ⟨44, .ld 9 true (.t 3), none, false⟩,
 ⟨45, .ca (.k (.cl 19 [])) [(.t 44)], none, false⟩,
 ⟨46, .ca (.k (.cl 21 [])) [(.t 43), (.t 45)], none, false⟩,
 ⟨47, .nt (.t 46), none, false⟩])
 (.ite (.t 47)
 (.seq
 (.reg false [⟨6, .mv (.k (.sc (.bool false))), none, false⟩])
 .ret)
 .skip))
 (.seq
 (.reg false [⟨6, .mv (.k (.sc (.bool true))), none, false⟩])
 .ret))))))))))⟩
attribute [simp] i6
set_option maxRecDepth 1000000 in
theorem c6 : cFn Try.prog 6 [[]] = some i6 := by kernel_rfl
theorem e6 : enterOk Try.prog 6 = true := by kernel_rfl
def i7 : Ev.Fn := ⟨1, 27, [.tmp 2],
 (.seq
 (.reg false [⟨2, .mv (.k (.sc (.bool false))), none, false⟩])
 (.seq
 (.reg false [⟨3, .mv (.k (.sc (.int .i64 1048576))), none, false⟩])
 (.seq
 (.reg false [⟨7, .mv (.t 0), none, false⟩,
 ⟨8, .mv (.t 3), none, false⟩,
 ⟨9, .ca (.k (.cl 31 [])) [(.t 7), (.t 8)], none, false⟩,
 ⟨3, .mv (.t 9), none, false⟩])
 (.seq
 (.seq
 (.reg false [⟨10, .mv (.t 3), none, false⟩,
 ⟨11, .ar .lss false (.t 10) (.k (.sc (.int .i64 0))), none, false⟩])
 (.ite (.t 11)
 (.seq
 (.reg false [⟨2, .mv (.k (.sc (.bool true))), none, false⟩])
 .ret)
 .skip))
 (.seq
 (.reg false [⟨12, .mv (.t 0), none, false⟩,
 ⟨13, .ca (.k (.cl 33 [])) [(.t 12)], none, false⟩,
 ⟨14, .ca (.k (.cl 32 [])) [(.t 13)], none, false⟩,
 ⟨4, .mv (.t 14), none, false⟩])
 (.seq
 (.reg false [⟨15, .mv (.t 0), none, false⟩,
 ⟨16, .ca (.k (.cl 33 [])) [(.t 15)], none, false⟩,
 ⟨5, .mv (.t 16), none, false⟩])
 (.seq
 (.reg false [⟨17, .mv (.t 5), none, false⟩,
 ⟨18, .ca (.k (.cl 34 [])) [(.t 17)], none, false⟩,
 ⟨6, .mv (.t 18), none, false⟩])
 (.seq
 (.seq
 (.reg false [⟨19, .mv (.t 6), none, false⟩,
 ⟨20, .mv (.t 4), none, false⟩,
 ⟨21, .ar .neq true (.t 19) (.t 20), none, false⟩])
 (.ite (.t 21)
 (.seq
 (.reg false [⟨2, .mv (.k (.sc (.bool false))), none, false⟩])
 .ret)
 .skip))
 (.seq
 (.seq
 (.reg false [⟨22, .mv (.t 5), none, false⟩,
 ⟨23, .mv (.t 0), none, false⟩,
 ⟨24, .ca (.k (.cl 33 [])) [(.t 23)], none, false⟩,
 ⟨25, .ca (.k (.cl 35 [])) [(.t 22), (.t 24)], none, false⟩,
 ⟨26, .nt (.t 25), none, false⟩])
 (.ite (.t 26)
 (.seq
 (.reg false [⟨2, .mv (.k (.sc (.bool false))), none, false⟩])
 .ret)
 .skip))
 (.seq
 (.reg false [⟨2, .mv (.k (.sc (.bool true))), none, false⟩])
 .ret))))))))))⟩
attribute [simp] i7
set_option maxRecDepth 1000000 in
theorem c7 : cFn Try.prog 7 [[]] = some i7 := by kernel_rfl
theorem e7 : enterOk Try.prog 7 = true := by kernel_rfl
def i8 : Ev.Fn := ⟨2, 45, [.tmp 4],
 (.seq
 (.reg false [⟨2, .bx (.t 0), none, false⟩,
 ⟨3, .bx (.t 1), none, false⟩,
 ⟨4, .mv (.k (.sc (.bool false))), none, false⟩])
 (.seq
 (.reg false [⟨5, .mv (.k (.sc (.int .i64 1048576))), none, false⟩])
 (.seq
 (.reg false [⟨10, .ld 5 true (.t 2), none, false⟩,
 ⟨11, .mv (.t 5), none, false⟩,
 ⟨12, .ca (.k (.cl 36 [])) [(.t 10), (.t 11)], none, false⟩,
 ⟨5, .mv (.t 12), none, false⟩])
 (.seq
 (.seq
 (.reg false [⟨13, .mv (.t 5), none, false⟩,
 ⟨14, .ar .lss false (.t 13) (.k (.sc (.int .i64 0))), none, false⟩])
 (.ite (.t 14)
 (.seq
 (.reg false [⟨4, .mv (.k (.sc (.bool true))), none, false⟩])
 .ret)
 .skip))
 (.seq
 (.reg false [⟨15, .ld 5 true (.t 3), none, false⟩,
 ⟨16, .mv (.t 5), none, false⟩,
 ⟨17, .ca (.k (.cl 36 [])) [(.t 15), (.t 16)], none, false⟩,
 ⟨5, .mv (.t 17), none, false⟩])
 (.seq
 (.seq
 (.reg false [⟨18, .mv (.t 5), none, false⟩,
 ⟨19, .ar .lss false (.t 18) (.k (.sc (.int .i64 0))), none, false⟩])
 (.ite (.t 19)
 (.seq
 (.reg false [⟨4, .mv (.k (.sc (.bool true))), none, false⟩])
 .ret)
 .skip))
 (.seq
 (.reg true [⟨20, .ld 5 true (.t 2), none, false⟩,
 ⟨21, .ca (.k (.cl 38 [])) [(.t 20)], none, false⟩,
 ⟨22, .ld 5 true (.t 3), none, false⟩,
 ⟨23, .ca (.k (.cl 38 [])) [(.t 22)], none, false⟩,
 ⟨24, .ca (.k (.cl 37 [])) [(.t 21), (.t 23)], none, false⟩,
 ⟨6, .mv (.t 24), none, false⟩])
 (.seq
 (.reg false [⟨25, .ld 5 true (.t 2), none, false⟩,
 ⟨26, .ca (.k (.cl 38 [])) [(.t 25)], none, false⟩,
 ⟨7, .al [(.sc (.int .i64 0)), (.sc (.int .i64 0)), .nl, .nl, .nl], none, false⟩,
 ⟨1, .so 5 (.t 7) (.t 26), none, true⟩])
 (.seq
 (.reg false [⟨27, .ld 5 true (.t 3), none, false⟩,
 ⟨28, .ca (.k (.cl 38 [])) [(.t 27)], none, false⟩,
 ⟨8, .al [(.sc (.int .i64 0)), (.sc (.int .i64 0)), .nl, .nl, .nl], none, false⟩,
 ⟨1, .so 5 (.t 8) (.t 28), none, true⟩])
 (.seq
 (.reg false [⟨29, .ld 5 true (.t 7), none, false⟩,
 ⟨30, .ld 5 true (.t 8), none, false⟩,
 ⟨31, .ca (.k (.cl 39 [])) [(.t 29), (.t 30)], none, false⟩,
 ⟨9, .mv (.t 31), none, false⟩])
 (.seq
 (.seq
 (.reg false [⟨32, .mv (.t 9), none, false⟩,
 ⟨33, .mv (.t 6), none, false⟩,
 ⟨34, .ar .neq true (.t 32) (.t 33), none, false⟩])
 (.ite (.t 34)
 (.seq
 (.reg false [⟨4, .mv (.k (.sc (.bool false))), none, false⟩])
 .ret)
 .skip))
 (.seq
 (.seq
 (.reg true [⟨35, .ld 5 true (.t 7), none, false⟩,
 ⟨36, .ld 5 true (.t 2), none, false⟩,
 ⟨37, .ca (.k (.cl 38 [])) [(.t 36)], none, false⟩,
 ⟨38, .ca (.k (.cl 40 [])) [(.t 35), (.t 37)], none, false⟩,
 ⟨39, .nt (.t 38), none, false⟩])
 (.ite (.t 39)
 (.seq
 (.reg false [⟨4, .mv (.k (.sc (.bool false))), none, false⟩])
 .ret)
 .skip))
 (.seq
 (.seq
 (.reg true [⟨40, .ld 5 true (.t 8), none, false⟩,
 ⟨41, .ld 5 true (.t 3), none, false⟩,
 ⟨42, .ca (.k (.cl 38 [])) [(.t 41)], none, false⟩,
 ⟨43, .ca (.k (.cl 40 [])) [(.t 40), (.t 42)], none, false⟩,
 ⟨44, .nt (.t 43), none, false⟩])
 (.ite (.t 44)
 (.seq
 (.reg false [⟨4, .mv (.k (.sc (.bool false))), none, false⟩])
 .ret)
 .skip))
 (.seq
 (.reg false [⟨4, .mv (.k (.sc (.bool true))), none, false⟩])
 .ret))))))))))))))⟩
attribute [simp] i8
set_option maxRecDepth 1000000 in
theorem c8 : cFn Try.prog 8 [[]] = some i8 := by kernel_rfl
theorem e8 : enterOk Try.prog 8 = true := by kernel_rfl
def i9 : Ev.Fn := ⟨3, 62, [.tmp 6],
 (.seq
 (.reg false [⟨3, .bx (.t 0), none, false⟩,
 ⟨4, .bx (.t 1), none, false⟩,
 ⟨6, .mv (.k (.sc (.bool false))), none, false⟩])
 (.seq
 (.reg false [⟨7, .mv (.k (.sc (.int .i64 1048576))), none, false⟩])
 (.seq
 (.reg false [⟨14, .ld 9 true (.t 3), none, false⟩,
 ⟨15, .mv (.t 7), none, false⟩,
 ⟨16, .ca (.k (.cl 17 [])) [(.t 14), (.t 15)], none, false⟩,
 ⟨7, .mv (.t 16), none, false⟩])
 (.seq
 (.seq
 (.reg false [⟨17, .mv (.t 7), none, false⟩,
 ⟨18, .ar .lss false (.t 17) (.k (.sc (.int .i64 0))), none, false⟩])
 (.ite (.t 18)
 (.seq
 (.reg false [⟨6, .mv (.k (.sc (.bool true))), none, false⟩])
 .ret)
 .skip))
 (.seq
 (.reg false [⟨19, .ld 9 true (.t 4), none, false⟩,
 ⟨20, .mv (.t 7), none, false⟩,
 ⟨21, .ca (.k (.cl 17 [])) [(.t 19), (.t 20)], none, false⟩,
 ⟨7, .mv (.t 21), none, false⟩])
 (.seq
 (.seq
 (.reg false [⟨22, .mv (.t 7), none, false⟩,
 ⟨23, .ar .lss false (.t 22) (.k (.sc (.int .i64 0))), none, false⟩])
 (.ite (.t 23)
 (.seq
 (.reg false [⟨6, .mv (.k (.sc (.bool true))), none, false⟩])
 .ret)
 .skip))
 (.seq
 (.reg true [⟨25, .ld 9 true (.t 3), none, false⟩,
 ⟨26, .ca (.k (.cl 19 [])) [(.t 25)], none, false⟩,
 ⟨27, .ld 9 true (.t 4), none, false⟩,
 ⟨28, .ca (.k (.cl 19 [])) [(.t 27)], none, false⟩,
 ⟨29, .mv (.t 2), none, false⟩,
 ⟨30, .ca (.k (.cl 41 [])) [(.t 26), (.t 28), (.t 29)], none, false⟩,
 ⟨24, .mv (.t 30), none, false⟩,
 ⟨31, .xt (.t 24) 0, none, false⟩,
 ⟨32, .xt (.t 24) 1, none, false⟩,
 ⟨8, .mv (.t 31), none, false⟩,
 ⟨9, .mv (.t 32), none, false⟩])
 (.seq
 (.reg false [⟨33, .ld 9 true (.t 3), none, false⟩,
 ⟨34, .ca (.k (.cl 19 [])) [(.t 33)], none, false⟩,
 ⟨10, .al [(.sc (.string ⟨#[]⟩)), (.sc (.string ⟨#[]⟩)), (.sc (.int .i64 0)), (.sc (.string ⟨#[]⟩)), (.sc (.int .i64 0)), (.sc (.int .i64 0)), (.sc (.int .i64 0)), (.sc (.int .i64 0)), .nl], none, false⟩,
 ⟨1, .so 9 (.t 10) (.t 34), none, true⟩])
 (.seq
 (.reg false [⟨35, .ld 9 true (.t 4), none, false⟩,
 ⟨36, .ca (.k (.cl 19 [])) [(.t 35)], none, false⟩,
 ⟨11, .al [(.sc (.string ⟨#[]⟩)), (.sc (.string ⟨#[]⟩)), (.sc (.int .i64 0)), (.sc (.string ⟨#[]⟩)), (.sc (.int .i64 0)), (.sc (.int .i64 0)), (.sc (.int .i64 0)), (.sc (.int .i64 0)), .nl], none, false⟩,
 ⟨1, .so 9 (.t 11) (.t 36), none, true⟩])
 (.seq
 (.reg false [⟨38, .ld 9 true (.t 10), none, false⟩,
 ⟨39, .ld 9 true (.t 11), none, false⟩,
 ⟨40, .mv (.t 2), none, false⟩,
 ⟨41, .ca (.k (.cl 42 [])) [(.t 38), (.t 39), (.t 40)], none, false⟩,
 ⟨37, .mv (.t 41), none, false⟩,
 ⟨42, .xt (.t 37) 0, none, false⟩,
 ⟨43, .xt (.t 37) 1, none, false⟩,
 ⟨12, .mv (.t 42), none, false⟩,
 ⟨13, .mv (.t 43), none, false⟩])
 (.seq
 (.seq
 (.reg false [⟨44, .mv (.t 12), none, false⟩,
 ⟨45, .mv (.t 8), none, false⟩,
 ⟨46, .ar .neq false (.t 44) (.t 45), none, false⟩,
 ⟨47, .mv (.t 46), none, false⟩,
 ⟨48, .mv (.t 13), (some (47, false)), false⟩,
 ⟨49, .mv (.t 9), (some (47, false)), false⟩,
 ⟨50, .ar .neq false (.t 48) (.t 49), (some (47, false)), false⟩,
 ⟨51, .pk (.t 47) (.k (.sc (.bool true))) (.t 50), none, false⟩])
 (.ite (.t 51)
 (.seq
 (.reg false [⟨6, .mv (.k (.sc (.bool false))), none, false⟩])
 .ret)
 .skip))
 (.seq
 (.seq
 (.reg true [⟨52, .ld 9 true (.t 10), none, false⟩,
 ⟨53, .ld 9 true (.t 3), none, false⟩,
 ⟨54, .ca (.k (.cl 19 [])) [(.t 53)], none, false⟩,
 ⟨55, .ca (.k (.cl 21 [])) [(.t 52), (.t 54)], none, false⟩,
 ⟨56, .nt (.t 55), none, false⟩])
 (.ite (.t 56)
 (.seq
 (.reg false [⟨6, .mv (.k (.sc (.bool false))), none, false⟩])
 .ret)
 .skip))
 (.seq
 (.seq
 (.reg true [⟨57, .ld 9 true (.t 11), none, false⟩,
 ⟨58, .ld 9 true (.t 4), none, false⟩,
 ⟨59, .ca (.k (.cl 19 [])) [(.t 58)], none, false⟩,
 ⟨60, .ca (.k (.cl 21 [])) [(.t 57), (.t 59)], none, false⟩,
 ⟨61, .nt (.t 60), none, false⟩])
 (.ite (.t 61)
 (.seq
 (.reg false [⟨6, .mv (.k (.sc (.bool false))), none, false⟩])
 .ret)
 .skip))
 (.seq
 (.reg false [⟨6, .mv (.k (.sc (.bool true))), none, false⟩])
 .ret))))))))))))))⟩
attribute [simp] i9
set_option maxRecDepth 1000000 in
theorem c9 : cFn Try.prog 9 [[]] = some i9 := by kernel_rfl
theorem e9 : enterOk Try.prog 9 = true := by kernel_rfl
def i10 : Ev.Fn := ⟨1, 96, [.tmp 2],
 (.seq
 (.reg false [⟨1, .bx (.t 0), none, false⟩,
 ⟨2, .mv (.k (.sc (.bool false))), none, false⟩])
 (.seq
 (.reg false [⟨3, .mv (.k (.sc (.int .i64 1048576))), none, false⟩])
 (.seq
 (.reg false [⟨14, .ld 9 true (.t 1), none, false⟩,
 ⟨15, .mv (.t 3), none, false⟩,
 ⟨16, .ca (.k (.cl 17 [])) [(.t 14), (.t 15)], none, false⟩,
 ⟨3, .mv (.t 16), none, false⟩])
 (.seq
 (.seq
 (.reg false [⟨17, .mv (.t 3), none, false⟩,
 ⟨18, .ar .lss false (.t 17) (.k (.sc (.int .i64 0))), none, false⟩])
 (.ite (.t 18)
 (.seq
 (.reg false [⟨2, .mv (.k (.sc (.bool true))), none, false⟩])
 .ret)
 .skip))
 (.seq
 (.reg false [⟨20, .ld 9 true (.t 1), none, false⟩,
 ⟨21, .ca (.k (.cl 19 [])) [(.t 20)], none, false⟩,
 ⟨22, .ca (.k (.cl 43 [])) [(.t 21)], none, false⟩,
 ⟨19, .mv (.t 22), none, false⟩,
 ⟨23, .xt (.t 19) 0, none, false⟩,
 ⟨24, .xt (.t 19) 1, none, false⟩,
 ⟨4, .al [(.sc (.string ⟨#[]⟩)), (.sc (.string ⟨#[]⟩)), (.sc (.int .i64 0)), (.sc (.string ⟨#[]⟩)), (.sc (.int .i64 0)), (.sc (.int .i64 0)), (.sc (.int .i64 0)), (.sc (.int .i64 0)), .nl], none, false⟩,
 ⟨1, .so 9 (.t 4) (.t 23), none, true⟩,
 ⟨5, .mv (.t 24), none, false⟩])
 (.seq
 (.reg false [⟨25, .ld 9 true (.t 1), none, false⟩,
 ⟨26, .ca (.k (.cl 19 [])) [(.t 25)], none, false⟩,
 ⟨6, .al [(.sc (.string ⟨#[]⟩)), (.sc (.string ⟨#[]⟩)), (.sc (.int .i64 0)), (.sc (.string ⟨#[]⟩)), (.sc (.int .i64 0)), (.sc (.int .i64 0)), (.sc (.int .i64 0)), (.sc (.int .i64 0)), .nl], none, false⟩,
 ⟨1, .so 9 (.t 6) (.t 26), none, true⟩])
 (.seq
 (.reg false [⟨28, .ld 9 true (.t 6), none, false⟩,
 ⟨29, .ca (.k (.cl 44 [])) [(.t 28)], none, false⟩,
 ⟨27, .mv (.t 29), none, false⟩,
 ⟨30, .xt (.t 27) 0, none, false⟩,
 ⟨31, .xt (.t 27) 1, none, false⟩,
 ⟨7, .al [(.sc (.string ⟨#[]⟩)), (.sc (.string ⟨#[]⟩)), (.sc (.int .i64 0)), (.sc (.string ⟨#[]⟩)), (.sc (.int .i64 0)), (.sc (.int .i64 0)), (.sc (.int .i64 0)), (.sc (.int .i64 0)), .nl], none, false⟩,
 ⟨1, .so 9 (.t 7) (.t 30), none, true⟩,
 ⟨8, .mv (.t 31), none, false⟩])
 (.seq
 (.seq
 (.reg false [⟨32, .ld 9 true (.t 7), none, false⟩,
 ⟨33, .ld 9 true (.t 4), none, false⟩,
 ⟨34, .ca (.k (.cl 21 [])) [(.t 32), (.t 33)], none, false⟩,
 ⟨35, .nt (.t 34), none, false⟩,
 ⟨36, .mv (.t 35), none, false⟩,
 ⟨37, .mv (.t 8), (some (36, false)), false⟩,
 ⟨38, .mv (.t 5), (some (36, false)), false⟩,
 ⟨39, .ar .neq false (.t 37) (.t 38), (some (36, false)), false⟩,
 ⟨40, .pk (.t 36) (.k (.sc (.bool true))) (.t 39), none, false⟩])
 (.ite (.t 40)
 (.seq
 (.reg false [⟨2, .mv (.k (.sc (.bool false))), none, false⟩])
 .ret)
 .skip))
 (.seq
 (.seq
 (.reg true [⟨41, .ld 9 true (.t 6), none, false⟩,
 ⟨42, .ld 9 true (.t 1), none, false⟩,
 ⟨43, .ca (.k (.cl 19 [])) [(.t 42)], none, false⟩,
 ⟨44, .ca (.k (.cl 21 [])) [(.t 41), (.t 43)], none, false⟩,
 ⟨45, .nt (.t 44), none, false⟩])
 (.ite (.t 45)
 (.seq
 (.reg false [⟨2, .mv (.k (.sc (.bool false))), none, false⟩])
 .ret)
 .skip))
 (.seq
 (.reg false [⟨9, .mv (.k (.sc (.int .i64 1))), none, false⟩])
 (.seq
 (.rgw [⟨46, .ld 9 true (.t 6), none, false⟩,
 ⟨47, .mv (.t 9), none, false⟩,
 ⟨48, .cw 45 [] [(.t 46), (.t 47)], none, false⟩,
 ⟨9, .mv (.t 48), none, false⟩])
 (.seq
 (.seq
 (.reg false [⟨49, .mv (.t 9), none, false⟩,
 ⟨50, .ar .lss false (.t 49) (.k (.sc (.int .i64 0))), none, false⟩,
 ⟨51, .mv (.t 50), none, false⟩,
 ⟨52, .ld 9 true (.t 7), (some (51, false)), false⟩,
 ⟨53, .ld 9 true (.t 4), (some (51, false)), false⟩,
 ⟨54, .ca (.k (.cl 21 [])) [(.t 52), (.t 53)], (some (51, false)), false⟩,
 ⟨55, .nt (.t 54), (some (51, false)), false⟩,
 ⟨56, .pk (.t 51) (.k (.sc (.bool true))) (.t 55), none, false⟩,
 ⟨57, .mv (.t 56), none, false⟩,
 ⟨58, .mv (.t 8), (some (57, false)), false⟩,
 ⟨59, .mv (.t 5), (some (57, false)), false⟩,
 ⟨60, .ar .neq false (.t 58) (.t 59), (some (57, false)), false⟩,
 ⟨61, .pk (.t 57) (.k (.sc (.bool true))) (.t 60), none, false⟩])
 (.ite (.t 61)
 (.seq
 (.reg false [⟨2, .mv (.k (.sc (.bool false))), none, false⟩])
 .ret)
 .skip))
 (.seq
 (.reg false [⟨10, .mv (.k (.sc (.int .i64 1))), none, false⟩])
 (.seq
 (.rgw [⟨62, .ld 9 true (.t 7), none, false⟩,
 ⟨63, .mv (.t 10), none, false⟩,
 ⟨64, .cw 45 [] [(.t 62), (.t 63)], none, false⟩,
 ⟨10, .mv (.t 64), none, false⟩])
 (.seq
 (.reg false [⟨11, .mv (.k (.sc (.int .i64 1))), none, false⟩])
 (.seq
 (.reg false [⟨65, .ld 9 true (.t 7), none, false⟩,
 ⟨66, .mv (.t 11), none, false⟩,
 ⟨67, .ca (.k (.cl 46 [])) [(.t 65), (.t 66)], none, false⟩,
 ⟨11, .mv (.t 67), none, false⟩])
 (.seq
 (.seq
 (.reg false [⟨68, .mv (.t 11), none, false⟩,
 ⟨69, .ar .lss false (.t 68) (.k (.sc (.int .i64 0))), none, false⟩])
 (.ite (.t 69)
 (.seq
 (.reg false [⟨2, .mv (.k (.sc (.bool false))), none, false⟩])
 .ret)
 .skip))
 (.seq
 (.seq
 (.reg false [⟨70, .mv (.t 11), none, false⟩,
 ⟨71, .mv (.t 10), none, false⟩,
 ⟨72, .ar .neq false (.t 70) (.t 71), none, false⟩])
 (.ite (.t 72)
 (.seq
 (.reg false [⟨2, .mv (.k (.sc (.bool false))), none, false⟩])
 .ret)
 .skip))
 (.seq
 (.reg false [⟨74, .ld 9 true (.t 1), none, false⟩,
 ⟨75, .ca (.k (.cl 19 [])) [(.t 74)], none, false⟩,
 ⟨76, .ca (.k (.cl 44 [])) [(.t 75)], none, false⟩,
 ⟨73, .mv (.t 76), none, false⟩,
 ⟨77, .xt (.t 73) 0, none, false⟩,
 ⟨78, .xt (.t 73) 1, none, false⟩,
 ⟨12, .al [(.sc (.string ⟨#[]⟩)), (.sc (.string ⟨#[]⟩)), (.sc (.int .i64 0)), (.sc (.string ⟨#[]⟩)), (.sc (.int .i64 0)), (.sc (.int .i64 0)), (.sc (.int .i64 0)), (.sc (.int .i64 0)), .nl], none, false⟩,
 ⟨1, .so 9 (.t 12) (.t 77), none, true⟩,
 ⟨13, .mv (.t 78), none, false⟩])
 (.seq
 (.seq
 (.reg false [⟨79, .ld 9 true (.t 12), none, false⟩,
 ⟨80, .ld 9 true (.t 4), none, false⟩,
 ⟨81, .ca (.k (.cl 21 [])) [(.t 79), (.t 80)], none, false⟩,
 ⟨82, .nt (.t 81), none, false⟩,
 ⟨83, .mv (.t 82), none, false⟩,
 ⟨84, .mv (.t 13), (some (83, false)), false⟩,
 ⟨85, .mv (.t 5), (some (83, false)), false⟩,
 ⟨86, .ar .neq false (.t 84) (.t 85), (some (83, false)), false⟩,
 ⟨87, .pk (.t 83) (.k (.sc (.bool true))) (.t 86), none, false⟩])
 (.ite (.t 87)
 (.seq
 (.reg false [⟨2, .mv (.k (.sc (.bool false))), none, false⟩])
 .ret)
 .skip))
 (.seq
 (.reg false [⟨11, .mv (.k (.sc (.int .i64 1))), none, false⟩])
 (.seq
 (.reg false [⟨88, .ld 9 true (.t 7), none, false⟩,
 ⟨89, .mv (.t 11), none, false⟩,
 ⟨90, .ca (.k (.cl 46 [])) [(.t 88), (.t 89)], none, false⟩,
 ⟨11, .mv (.t 90), none, false⟩])
 (.seq
 (.seq
 (.reg false [⟨91, .mv (.t 11), none, false⟩,
 ⟨92, .ar .lss false (.t 91) (.k (.sc (.int .i64 0))), none, false⟩])
 (.ite (.t 92)
 (.seq
 (.reg false [⟨2, .mv (.k (.sc (.bool false))), none, false⟩])
 .ret)
 .skip))
 (.seq
 (.seq
 (.reg false [⟨93, .mv (.t 11), none, false⟩,
 ⟨94, .mv (.t 10), none, false⟩,
 ⟨95, .ar .neq false (.t 93) (.t 94), none, false⟩])
 (.ite (.t 95)
 (.seq
 (.reg false [⟨2, .mv (.k (.sc (.bool false))), none, false⟩])
 .ret)
 .skip))
 (.seq
 (.reg false [⟨2, .mv (.k (.sc (.bool true))), none, false⟩])
 .ret)))))))))))))))))))))))))⟩
attribute [simp] i10
set_option maxRecDepth 1000000 in
theorem c10 : cFn Try.prog 10 [[45]] = some i10 := by kernel_rfl
theorem e10 : enterOk Try.prog 10 = true := by kernel_rfl
def i11 : Ev.Fn := ⟨4, 61, [.tmp 8],
 (.seq
 (.reg false [⟨4, .bx (.t 0), none, false⟩,
 ⟨5, .bx (.t 1), none, false⟩,
 ⟨7, .bx (.t 3), none, false⟩,
 ⟨8, .mv (.k (.sc (.bool false))), none, false⟩])
 (.seq
 (.reg false [⟨9, .mv (.k (.sc (.int .i64 1048576))), none, false⟩])
 (.seq
 (.reg false [⟨15, .ld 3 true (.t 4), none, false⟩,
 ⟨16, .mv (.t 9), none, false⟩,
 ⟨17, .ca (.k (.cl 47 [])) [(.t 15), (.t 16)], none, false⟩,
 ⟨9, .mv (.t 17), none, false⟩])
 (.seq
 (.seq
 (.reg false [⟨18, .mv (.t 9), none, false⟩,
 ⟨19, .ar .lss false (.t 18) (.k (.sc (.int .i64 0))), none, false⟩])
 (.ite (.t 19)
 (.seq
 (.reg false [⟨8, .mv (.k (.sc (.bool true))), none, false⟩])
 .ret)
 .skip))
 (.seq
 (.reg false [⟨20, .ld 9 true (.t 5), none, false⟩,
 ⟨21, .mv (.t 9), none, false⟩,
 ⟨22, .ca (.k (.cl 17 [])) [(.t 20), (.t 21)], none, false⟩,
 ⟨9, .mv (.t 22), none, false⟩])
 (.seq
 (.seq
 (.reg false [⟨23, .mv (.t 9), none, false⟩,
 ⟨24, .ar .lss false (.t 23) (.k (.sc (.int .i64 0))), none, false⟩])
 (.ite (.t 24)
 (.seq
 (.reg false [⟨8, .mv (.k (.sc (.bool true))), none, false⟩])
 .ret)
 .skip))
 (.seq
 (.reg true [⟨26, .ld 3 true (.t 4), none, false⟩,
 ⟨27, .ca (.k (.cl 49 [])) [(.t 26)], none, false⟩,
 ⟨28, .ld 9 true (.t 5), none, false⟩,
 ⟨29, .ca (.k (.cl 19 [])) [(.t 28)], none, false⟩,
 ⟨30, .mv (.t 2), none, false⟩,
 ⟨31, .ld 4 true (.t 7), none, false⟩,
 ⟨32, .ca (.k (.cl 50 [])) [(.t 31)], none, false⟩,
 ⟨33, .ca (.k (.cl 48 [])) [(.t 27), (.t 29), (.t 30), (.t 32)], none, false⟩,
 ⟨25, .mv (.t 33), none, false⟩,
 ⟨34, .xt (.t 25) 0, none, false⟩,
 ⟨35, .xt (.t 25) 1, none, false⟩,
 ⟨10, .mv (.t 34), none, false⟩,
 ⟨11, .mv (.t 35), none, false⟩])
 (.seq
 (.reg false [⟨36, .ld 9 true (.t 5), none, false⟩,
 ⟨37, .ca (.k (.cl 19 [])) [(.t 36)], none, false⟩,
 ⟨12, .al [(.sc (.string ⟨#[]⟩)), (.sc (.string ⟨#[]⟩)), (.sc (.int .i64 0)), (.sc (.string ⟨#[]⟩)), (.sc (.int .i64 0)), (.sc (.int .i64 0)), (.sc (.int .i64 0)), (.sc (.int .i64 0)), .nl], none, false⟩,
 ⟨1, .so 9 (.t 12) (.t 37), none, true⟩])
 (.seq
 (.reg true [⟨39, .ld 3 true (.t 4), none, false⟩,
 ⟨40, .ca (.k (.cl 49 [])) [(.t 39)], none, false⟩,
 ⟨41, .ld 9 true (.t 12), none, false⟩,
 ⟨42, .mv (.t 2), none, false⟩,
 ⟨43, .ld 4 true (.t 7), none, false⟩,
 ⟨44, .ca (.k (.cl 50 [])) [(.t 43)], none, false⟩,
 ⟨45, .ca (.k (.cl 51 [])) [(.t 40), (.t 41), (.t 42), (.t 44)], none, false⟩,
 ⟨38, .mv (.t 45), none, false⟩,
 ⟨46, .xt (.t 38) 0, none, false⟩,
 ⟨47, .xt (.t 38) 1, none, false⟩,
 ⟨13, .mv (.t 46), none, false⟩,
 ⟨14, .mv (.t 47), none, false⟩])
 (.seq
 (.seq
 (.reg false [⟨48, .mv (.t 13), none, false⟩,
 ⟨49, .mv (.t 10), none, false⟩,
 ⟨50, .ar .neq false (.t 48) (.t 49), none, false⟩,
 ⟨51, .mv (.t 50), none, false⟩,
 ⟨52, .mv (.t 14), (some (51, false)), false⟩,
 ⟨53, .mv (.t 11), (some (51, false)), false⟩,
 ⟨54, .ar .neq false (.t 52) (.t 53), (some (51, false)), false⟩,
 ⟨55, .pk (.t 51) (.k (.sc (.bool true))) (.t 54), none, false⟩])
 (.ite (.t 55)
 (.seq
 (.reg false [⟨8, .mv (.k (.sc (.bool false))), none, false⟩])
 .ret)
 .skip))
 (.seq
 (.seq
 (.reg true [⟨56, .ld 9 true (.t 12), none, false⟩,
 ⟨57, .ld 9 true (.t 5), none, false⟩,
 ⟨58, .ca (.k (.cl 19 [])) [(.t 57)], none, false⟩,
 ⟨59, .ca (.k (.cl 21 [])) [(.t 56), (.t 58)], none, false⟩,
 ⟨60, .nt (.t 59), none, false⟩])
 (.ite (.t 60)
 (.seq
 (.reg false [⟨8, .mv (.k (.sc (.bool false))), none, false⟩])
 .ret)
 .skip))
 (.seq
 (.reg false [⟨8, .mv (.k (.sc (.bool true))), none, false⟩])
 .ret))))))))))))⟩
attribute [simp] i11
set_option maxRecDepth 1000000 in
theorem c11 : cFn Try.prog 11 [[]] = some i11 := by kernel_rfl
theorem e11 : enterOk Try.prog 11 = true := by kernel_rfl
def i12 : Ev.Fn := ⟨2, 43, [.tmp 4],
 (.seq
 (.reg false [⟨4, .mv (.k (.sc (.bool false))), none, false⟩])
 (.seq
 (.seq
 (.reg false [⟨10, .mv (.t 1), none, false⟩,
 ⟨11, .ln false (.t 10), none, false⟩,
 ⟨12, .ar .gtr false (.t 11) (.k (.sc (.int .i64 1048576))), none, false⟩])
 (.ite (.t 12)
 (.seq
 (.reg false [⟨4, .mv (.k (.sc (.bool true))), none, false⟩])
 .ret)
 .skip))
 (.seq
 (.reg false [⟨5, .mv (.k (.sc (.int .i64 1048576))), none, false⟩])
 (.seq
 (.reg false [⟨13, .mv (.t 0), none, false⟩,
 ⟨14, .mv (.t 5), none, false⟩,
 ⟨15, .ca (.k (.cl 31 [])) [(.t 13), (.t 14)], none, false⟩,
 ⟨5, .mv (.t 15), none, false⟩])
 (.seq
 (.seq
 (.reg false [⟨16, .mv (.t 5), none, false⟩,
 ⟨17, .ar .lss false (.t 16) (.k (.sc (.int .i64 0))), none, false⟩])
 (.ite (.t 17)
 (.seq
 (.reg false [⟨4, .mv (.k (.sc (.bool true))), none, false⟩])
 .ret)
 .skip))
 (.seq
 (.reg false [⟨18, .mv (.t 0), none, false⟩,
 ⟨19, .ca (.k (.cl 33 [])) [(.t 18)], none, false⟩,
 ⟨20, .mv (.t 1), none, false⟩,
 ⟨21, .ca (.k (.cl 53 [])) [(.t 20)], none, false⟩,
 ⟨22, .ca (.k (.cl 52 [])) [(.t 19), (.t 21)], none, false⟩,
 ⟨6, .mv (.t 22), none, false⟩])
 (.seq
 (.reg false [⟨23, .mv (.t 0), none, false⟩,
 ⟨24, .ca (.k (.cl 33 [])) [(.t 23)], none, false⟩,
 ⟨7, .mv (.t 24), none, false⟩])
 (.seq
 (.reg false [⟨25, .mv (.t 1), none, false⟩,
 ⟨26, .ca (.k (.cl 53 [])) [(.t 25)], none, false⟩,
 ⟨8, .mv (.t 26), none, false⟩])
 (.seq
 (.reg false [⟨27, .mv (.t 7), none, false⟩,
 ⟨28, .mv (.t 8), none, false⟩,
 ⟨29, .ca (.k (.cl 54 [])) [(.t 27), (.t 28)], none, false⟩,
 ⟨9, .mv (.t 29), none, false⟩])
 (.seq
 (.seq
 (.reg false [⟨30, .mv (.t 9), none, false⟩,
 ⟨31, .mv (.t 6), none, false⟩,
 ⟨32, .ar .neq true (.t 30) (.t 31), none, false⟩])
 (.ite (.t 32)
 (.seq
 (.reg false [⟨4, .mv (.k (.sc (.bool false))), none, false⟩])
 .ret)
 .skip))
 (.seq
 (.seq
 (.reg false [⟨33, .mv (.t 7), none, false⟩,
 ⟨34, .mv (.t 0), none, false⟩,
 ⟨35, .ca (.k (.cl 33 [])) [(.t 34)], none, false⟩,
 ⟨36, .ca (.k (.cl 35 [])) [(.t 33), (.t 35)], none, false⟩,
 ⟨37, .nt (.t 36), none, false⟩])
 (.ite (.t 37)
 (.seq
 (.reg false [⟨4, .mv (.k (.sc (.bool false))), none, false⟩])
 .ret)
 .skip))
 (.seq
 (.seq
 (.reg false [⟨38, .mv (.t 8), none, false⟩,
 ⟨39, .mv (.t 1), none, false⟩,
 ⟨40, .ca (.k (.cl 53 [])) [(.t 39)], none, false⟩,
 ⟨41, .ca (.k (.cl 55 [])) [(.t 38), (.t 40)], none, false⟩,
 ⟨42, .nt (.t 41), none, false⟩])
 (.ite (.t 42)
 (.seq
 (.reg false [⟨4, .mv (.k (.sc (.bool false))), none, false⟩])
 .ret)
 .skip))
 (.seq
 (.reg false [⟨4, .mv (.k (.sc (.bool true))), none, false⟩])
 .ret)))))))))))))⟩
attribute [simp] i12
set_option maxRecDepth 1000000 in
theorem c12 : cFn Try.prog 12 [[]] = some i12 := by kernel_rfl
theorem e12 : enterOk Try.prog 12 = true := by kernel_rfl
def i13 : Ev.Fn := ⟨2, 104, [.tmp 4],
 (.seq
 (.reg false [⟨2, .bx (.t 0), none, false⟩,
 ⟨3, .bx (.t 1), none, false⟩,
 ⟨4, .mv (.k (.sc (.bool false))), none, false⟩])
 (.seq
 (.reg false [⟨5, .mv (.k (.sc (.int .i64 1048576))), none, false⟩])
 (.seq
 (.reg false [⟨16, .ld 9 true (.t 2), none, false⟩,
 ⟨17, .mv (.t 5), none, false⟩,
 ⟨18, .ca (.k (.cl 17 [])) [(.t 16), (.t 17)], none, false⟩,
 ⟨5, .mv (.t 18), none, false⟩])
 (.seq
 (.seq
 (.reg false [⟨19, .mv (.t 5), none, false⟩,
 ⟨20, .ar .lss false (.t 19) (.k (.sc (.int .i64 0))), none, false⟩])
 (.ite (.t 20)
 (.seq
 (.reg false [⟨4, .mv (.k (.sc (.bool true))), none, false⟩])
 .ret)
 .skip))
 (.seq
 (.rgc [.ne 6 21] [⟨22, .ld 9 true (.t 2), none, false⟩,
 ⟨23, .ca (.k (.cl 19 [])) [(.t 22)], none, false⟩,
 ⟨24, .ld 4 true (.t 3), none, false⟩,
 ⟨25, .ca (.k (.cl 57 [])) [(.t 24)], none, false⟩,
 ⟨26, .ca (.k (.cl 56 [])) [(.t 23), (.t 25)], none, false⟩,
 ⟨21, .mv (.t 26), none, false⟩,
 ⟨27, .xt (.t 21) 0, none, false⟩,
 ⟨28, .xt (.t 21) 1, none, false⟩,
 ⟨6, .al [(.sc (.string ⟨#[]⟩)), (.sc (.string ⟨#[]⟩)), (.sc (.int .i64 0)), (.sc (.string ⟨#[]⟩)), (.sc (.int .i64 0)), (.sc (.int .i64 0)), (.sc (.int .i64 0)), (.sc (.int .i64 0)), .nl], none, false⟩,
 ⟨0, .so 9 (.t 6) (.t 27), none, true⟩,
 ⟨7, .mv (.t 28), none, false⟩])
 (.seq
 (.reg false [⟨29, .ld 9 true (.t 2), none, false⟩,
 ⟨30, .ca (.k (.cl 19 [])) [(.t 29)], none, false⟩,
 ⟨8, .al [(.sc (.string ⟨#[]⟩)), (.sc (.string ⟨#[]⟩)), (.sc (.int .i64 0)), (.sc (.string ⟨#[]⟩)), (.sc (.int .i64 0)), (.sc (.int .i64 0)), (.sc (.int .i64 0)), (.sc (.int .i64 0)), .nl], none, false⟩,
 ⟨1, .so 9 (.t 8) (.t 30), none, true⟩])
 (.seq
 (.rgc [.ne 9 31] [⟨32, .ld 9 true (.t 8), none, false⟩,
 ⟨33, .ld 4 true (.t 3), none, false⟩,
 ⟨34, .ca (.k (.cl 57 [])) [(.t 33)], none, false⟩,
 ⟨35, .ca (.k (.cl 58 [])) [(.t 32), (.t 34)], none, false⟩,
 ⟨31, .mv (.t 35), none, false⟩,
 ⟨36, .xt (.t 31) 0, none, false⟩,
 ⟨37, .xt (.t 31) 1, none, false⟩,
 ⟨9, .al [(.sc (.string ⟨#[]⟩)), (.sc (.string ⟨#[]⟩)), (.sc (.int .i64 0)), (.sc (.string ⟨#[]⟩)), (.sc (.int .i64 0)), (.sc (.int .i64 0)), (.sc (.int .i64 0)), (.sc (.int .i64 0)), .nl], none, false⟩,
 ⟨0, .so 9 (.t 9) (.t 36), none, true⟩,
 ⟨10, .mv (.t 37), none, false⟩])
 (.seq
 (.seq
 (.reg false [⟨38, .ld 9 true (.t 9), none, false⟩,
 ⟨39, .ld 9 true (.t 6), none, false⟩,
 ⟨40, .ca (.k (.cl 21 [])) [(.t 38), (.t 39)], none, false⟩,
 ⟨41, .nt (.t 40), none, false⟩,
 ⟨42, .mv (.t 41), none, false⟩,
 ⟨43, .mv (.t 10), (some (42, false)), false⟩,
 ⟨44, .mv (.t 7), (some (42, false)), false⟩,
 ⟨45, .ar .neq false (.t 43) (.t 44), (some (42, false)), false⟩,
 ⟨46, .pk (.t 42) (.k (.sc (.bool true))) (.t 45), none, false⟩])
 (.ite (.t 46)
 (.seq
 (.reg false [⟨4, .mv (.k (.sc (.bool false))), none, false⟩])
 .ret)
 .skip))
 (.seq
 (.seq
 (.reg true [⟨47, .ld 9 true (.t 8), none, false⟩,
 ⟨48, .ld 9 true (.t 2), none, false⟩,
 ⟨49, .ca (.k (.cl 19 [])) [(.t 48)], none, false⟩,
 ⟨50, .ca (.k (.cl 21 [])) [(.t 47), (.t 49)], none, false⟩,
 ⟨51, .nt (.t 50), none, false⟩])
 (.ite (.t 51)
 (.seq
 (.reg false [⟨4, .mv (.k (.sc (.bool false))), none, false⟩])
 .ret)
 .skip))
 (.seq
 (.reg false [⟨11, .mv (.k (.sc (.int .i64 1))), none, false⟩])
 (.seq
 (.rgw [⟨52, .ld 9 true (.t 8), none, false⟩,
 ⟨53, .mv (.t 11), none, false⟩,
 ⟨54, .cw 45 [] [(.t 52), (.t 53)], none, false⟩,
 ⟨11, .mv (.t 54), none, false⟩])
 (.seq
 (.seq
 (.reg false [⟨55, .mv (.t 11), none, false⟩,
 ⟨56, .ar .lss false (.t 55) (.k (.sc (.int .i64 0))), none, false⟩,
 ⟨57, .mv (.t 56), none, false⟩,
 ⟨58, .ld 9 true (.t 9), (some (57, false)), false⟩,
 ⟨59, .ld 9 true (.t 6), (some (57, false)), false⟩,
 ⟨60, .ca (.k (.cl 21 [])) [(.t 58), (.t 59)], (some (57, false)), false⟩,
 ⟨61, .nt (.t 60), (some (57, false)), false⟩,
 ⟨62, .pk (.t 57) (.k (.sc (.bool true))) (.t 61), none, false⟩,
 ⟨63, .mv (.t 62), none, false⟩,
 ⟨64, .mv (.t 10), (some (63, false)), false⟩,
 ⟨65, .mv (.t 7), (some (63, false)), false⟩,
 ⟨66, .ar .neq false (.t 64) (.t 65), (some (63, false)), false⟩,
 ⟨67, .pk (.t 63) (.k (.sc (.bool true))) (.t 66), none, false⟩])
 (.ite (.t 67)
 (.seq
 (.reg false [⟨4, .mv (.k (.sc (.bool false))), none, false⟩])
 .ret)
 .skip))
 (.seq
 (.reg false [⟨12, .mv (.k (.sc (.int .i64 1))), none, false⟩])
 (.seq
 (.rgw [⟨68, .ld 9 true (.t 9), none, false⟩,
 ⟨69, .mv (.t 12), none, false⟩,
 ⟨70, .cw 45 [] [(.t 68), (.t 69)], none, false⟩,
 ⟨12, .mv (.t 70), none, false⟩])
 (.seq
 (.reg false [⟨13, .mv (.k (.sc (.int .i64 1))), none, false⟩])
 (.seq
 (.reg false [⟨71, .ld 9 true (.t 9), none, false⟩,
 ⟨72, .mv (.t 13), none, false⟩,
 ⟨73, .ca (.k (.cl 46 [])) [(.t 71), (.t 72)], none, false⟩,
 ⟨13, .mv (.t 73), none, false⟩])
 (.seq
 (.seq
 (.reg false [⟨74, .mv (.t 13), none, false⟩,
 ⟨75, .ar .lss false (.t 74) (.k (.sc (.int .i64 0))), none, false⟩])
 (.ite (.t 75)
 (.seq
 (.reg false [⟨4, .mv (.k (.sc (.bool false))), none, false⟩])
 .ret)
 .skip))
 (.seq
 (.seq
 (.reg false [⟨76, .mv (.t 13), none, false⟩,
 ⟨77, .mv (.t 12), none, false⟩,
 ⟨78, .ar .neq false (.t 76) (.t 77), none, false⟩])
 (.ite (.t 78)
 (.seq
 (.reg false [⟨4, .mv (.k (.sc (.bool false))), none, false⟩])
 .ret)
 .skip))
 (.seq
 (.rgc [.ne 14 79] [⟨80, .ld 9 true (.t 2), none, false⟩,
 ⟨81, .ca (.k (.cl 19 [])) [(.t 80)], none, false⟩,
 ⟨82, .ld 4 true (.t 3), none, false⟩,
 ⟨83, .ca (.k (.cl 57 [])) [(.t 82)], none, false⟩,
 ⟨84, .ca (.k (.cl 58 [])) [(.t 81), (.t 83)], none, false⟩,
 ⟨79, .mv (.t 84), none, false⟩,
 ⟨85, .xt (.t 79) 0, none, false⟩,
 ⟨86, .xt (.t 79) 1, none, false⟩,
 ⟨14, .al [(.sc (.string ⟨#[]⟩)), (.sc (.string ⟨#[]⟩)), (.sc (.int .i64 0)), (.sc (.string ⟨#[]⟩)), (.sc (.int .i64 0)), (.sc (.int .i64 0)), (.sc (.int .i64 0)), (.sc (.int .i64 0)), .nl], none, false⟩,
 ⟨0, .so 9 (.t 14) (.t 85), none, true⟩,
 ⟨15, .mv (.t 86), none, false⟩])
 (.seq
 (.seq
 (.reg false [⟨87, .ld 9 true (.t 14), none, false⟩,
 ⟨88, .ld 9 true (.t 6), none, false⟩,
 ⟨89, .ca (.k (.cl 21 [])) [(.t 87), (.t 88)], none, false⟩,
 ⟨90, .nt (.t 89), none, false⟩,
 ⟨91, .mv (.t 90), none, false⟩,
 ⟨92, .mv (.t 15), (some (91, false)), false⟩,
 ⟨93, .mv (.t 7), (some (91, false)), false⟩,
 ⟨94, .ar .neq false (.t 92) (.t 93), (some (91, false)), false⟩,
 ⟨95, .pk (.t 91) (.k (.sc (.bool true))) (.t 94), none, false⟩])
 (.ite (.t 95)
 (.seq
 (.reg false [⟨4, .mv (.k (.sc (.bool false))), none, false⟩])
 .ret)
 .skip))
 (.seq
 (.reg false [⟨13, .mv (.k (.sc (.int .i64 1))), none, false⟩])
 (.seq
 (.reg false [⟨96, .ld 9 true (.t 9), none, false⟩,
 ⟨97, .mv (.t 13), none, false⟩,
 ⟨98, .ca (.k (.cl 46 [])) [(.t 96), (.t 97)], none, false⟩,
 ⟨13, .mv (.t 98), none, false⟩])
 (.seq
 (.seq
 (.reg false [⟨99, .mv (.t 13), none, false⟩,
 ⟨100, .ar .lss false (.t 99) (.k (.sc (.int .i64 0))), none, false⟩])
 (.ite (.t 100)
 (.seq
 (.reg false [⟨4, .mv (.k (.sc (.bool false))), none, false⟩])
 .ret)
 .skip))
 (.seq
 (.seq
 (.reg false [⟨101, .mv (.t 13), none, false⟩,
 ⟨102, .mv (.t 12), none, false⟩,
 ⟨103, .ar .neq false (.t 101) (.t 102), none, false⟩])
 (.ite (.t 103)
 (.seq
 (.reg false [⟨4, .mv (.k (.sc (.bool false))), none, false⟩])
 .ret)
 .skip))
 (.seq
 (.reg false [⟨4, .mv (.k (.sc (.bool true))), none, false⟩])
 .ret)))))))))))))))))))))))))⟩
attribute [simp] i13
set_option maxRecDepth 1000000 in
theorem c13 : cFn Try.prog 13 [[45]] = some i13 := by kernel_rfl
theorem e13 : enterOk Try.prog 13 = true := by kernel_rfl
def i14 : Ev.Fn := ⟨2, 104, [.tmp 4],
 (.seq
 (.reg false [⟨4, .mv (.k (.sc (.bool false))), none, false⟩])
 (.seq
 (.seq
 (.reg false [⟨16, .mv (.t 1), none, false⟩,
 ⟨17, .ln true (.t 16), none, false⟩,
 ⟨18, .ar .gtr false (.t 17) (.k (.sc (.int .i64 1048576))), none, false⟩])
 (.ite (.t 18)
 (.seq
 (.reg false [⟨4, .mv (.k (.sc (.bool true))), none, false⟩])
 .ret)
 .skip))
 (.seq
 (.reg false [⟨5, .mv (.k (.sc (.int .i64 1048576))), none, false⟩])
 (.seq
 (.reg false [⟨19, .mv (.t 0), none, false⟩,
 ⟨20, .mv (.t 5), none, false⟩,
 ⟨21, .ca (.k (.cl 31 [])) [(.t 19), (.t 20)], none, false⟩,
 ⟨5, .mv (.t 21), none, false⟩])
 (.seq
 (.seq
 (.reg false [⟨22, .mv (.t 5), none, false⟩,
 ⟨23, .ar .lss false (.t 22) (.k (.sc (.int .i64 0))), none, false⟩])
 (.ite (.t 23)
 (.seq
 (.reg false [⟨4, .mv (.k (.sc (.bool true))), none, false⟩])
 .ret)
 .skip))
 (.seq
 (.reg false [⟨25, .mv (.t 0), none, false⟩,
 ⟨26, .ca (.k (.cl 33 [])) [(.t 25)], none, false⟩,
 ⟨27, .mv (.t 1), none, false⟩,
 ⟨28, .ca (.k (.cl 59 [])) [(.t 26), (.t 27)], none, false⟩,
 ⟨24, .mv (.t 28), none, false⟩,
 ⟨29, .xt (.t 24) 0, none, false⟩,
 ⟨30, .xt (.t 24) 1, none, false⟩,
 ⟨6, .mv (.t 29), none, false⟩,
 ⟨7, .mv (.t 30), none, false⟩])
 (.seq
 (.reg false [⟨31, .mv (.t 0), none, false⟩,
 ⟨32, .ca (.k (.cl 33 [])) [(.t 31)], none, false⟩,
 ⟨8, .mv (.t 32), none, false⟩])
 (.seq
 (.reg false [⟨34, .mv (.t 8), none, false⟩,
 ⟨35, .mv (.t 1), none, false⟩,
 ⟨36, .ca (.k (.cl 60 [])) [(.t 34), (.t 35)], none, false⟩,
 ⟨33, .mv (.t 36), none, false⟩,
 ⟨37, .xt (.t 33) 0, none, false⟩,
 ⟨38, .xt (.t 33) 1, none, false⟩,
 ⟨9, .mv (.t 37), none, false⟩,
 ⟨10, .mv (.t 38), none, false⟩])
 (.seq
 (.seq
 (.reg false [⟨39, .mv (.t 9), none, false⟩,
 ⟨40, .mv (.t 6), none, false⟩,
 ⟨41, .ca (.k (.cl 55 [])) [(.t 39), (.t 40)], none, false⟩,
 ⟨42, .nt (.t 41), none, false⟩,
 ⟨43, .mv (.t 42), none, false⟩,
 ⟨44, .mv (.t 10), (some (43, false)), false⟩,
 ⟨45, .mv (.t 7), (some (43, false)), false⟩,
 ⟨46, .ar .neq false (.t 44) (.t 45), (some (43, false)), false⟩,
 ⟨47, .pk (.t 43) (.k (.sc (.bool true))) (.t 46), none, false⟩])
 (.ite (.t 47)
 (.seq
 (.reg false [⟨4, .mv (.k (.sc (.bool false))), none, false⟩])
 .ret)
 .skip))
 (.seq
 (.seq
 (.reg false [⟨48, .mv (.t 8), none, false⟩,
 ⟨49, .mv (.t 0), none, false⟩,
 ⟨50, .ca (.k (.cl 33 [])) [(.t 49)], none, false⟩,
 ⟨51, .ca (.k (.cl 35 [])) [(.t 48), (.t 50)], none, false⟩,
 ⟨52, .nt (.t 51), none, false⟩])
 (.ite (.t 52)
 (.seq
 (.reg false [⟨4, .mv (.k (.sc (.bool false))), none, false⟩])
 .ret)
 .skip))
 (.seq
 (.reg false [⟨11, .mv (.k (.sc (.int .i64 1))), none, false⟩])
 (.seq
 (.rgw [⟨53, .mv (.t 8), none, false⟩,
 ⟨54, .mv (.t 11), none, false⟩,
 ⟨55, .cw 61 [] [(.t 53), (.t 54)], none, false⟩,
 ⟨11, .mv (.t 55), none, false⟩])
 (.seq
 (.seq
 (.reg false [⟨56, .mv (.t 11), none, false⟩,
 ⟨57, .ar .lss false (.t 56) (.k (.sc (.int .i64 0))), none, false⟩,
 ⟨58, .mv (.t 57), none, false⟩,
 ⟨59, .mv (.t 9), (some (58, false)), false⟩,
 ⟨60, .mv (.t 6), (some (58, false)), false⟩,
 ⟨61, .ca (.k (.cl 55 [])) [(.t 59), (.t 60)], (some (58, false)), false⟩,
 ⟨62, .nt (.t 61), (some (58, false)), false⟩,
 ⟨63, .pk (.t 58) (.k (.sc (.bool true))) (.t 62), none, false⟩,
 ⟨64, .mv (.t 63), none, false⟩,
 ⟨65, .mv (.t 10), (some (64, false)), false⟩,
 ⟨66, .mv (.t 7), (some (64, false)), false⟩,
 ⟨67, .ar .neq false (.t 65) (.t 66), (some (64, false)), false⟩,
 ⟨68, .pk (.t 64) (.k (.sc (.bool true))) (.t 67), none, false⟩])
 (.ite (.t 68)
 (.seq
 (.reg false [⟨4, .mv (.k (.sc (.bool false))), none, false⟩])
 .ret)
 .skip))
 (.seq
 (.reg false [⟨12, .mv (.k (.sc (.int .i64 1))), none, false⟩])
 (.seq
 (.rgw [⟨69, .mv (.t 9), none, false⟩,
 ⟨70, .mv (.t 12), none, false⟩,
 ⟨71, .cw 62 [] [(.t 69), (.t 70)], none, false⟩,
 ⟨12, .mv (.t 71), none, false⟩])
 (.seq
 (.reg false [⟨13, .mv (.k (.sc (.int .i64 1))), none, false⟩])
 (.seq
 (.reg false [⟨72, .mv (.t 9), none, false⟩,
 ⟨73, .mv (.t 13), none, false⟩,
 ⟨74, .ca (.k (.cl 63 [])) [(.t 72), (.t 73)], none, false⟩,
 ⟨13, .mv (.t 74), none, false⟩])
 (.seq
 (.seq
 (.reg false [⟨75, .mv (.t 13), none, false⟩,
 ⟨76, .ar .lss false (.t 75) (.k (.sc (.int .i64 0))), none, false⟩])
 (.ite (.t 76)
 (.seq
 (.reg false [⟨4, .mv (.k (.sc (.bool false))), none, false⟩])
 .ret)
 .skip))
 (.seq
 (.seq
 (.reg false [⟨77, .mv (.t 13), none, false⟩,
 ⟨78, .mv (.t 12), none, false⟩,
 ⟨79, .ar .neq false (.t 77) (.t 78), none, false⟩])
 (.ite (.t 79)
 (.seq
 (.reg false [⟨4, .mv (.k (.sc (.bool false))), none, false⟩])
 .ret)
 .skip))
 (.seq
 (.reg false [⟨81, .mv (.t 0), none, false⟩,
 ⟨82, .ca (.k (.cl 33 [])) [(.t 81)], none, false⟩,
 ⟨83, .mv (.t 1), none, false⟩,
 ⟨84, .ca (.k (.cl 60 [])) [(.t 82), (.t 83)], none, false⟩,
 ⟨80, .mv (.t 84), none, false⟩,
 ⟨85, .xt (.t 80) 0, none, false⟩,
 ⟨86, .xt (.t 80) 1, none, false⟩,
 ⟨14, .mv (.t 85), none, false⟩,
 ⟨15, .mv (.t 86), none, false⟩])
 (.seq
 (.seq
 (.reg false [⟨87, .mv (.t 14), none, false⟩,
 ⟨88, .mv (.t 6), none, false⟩,
 ⟨89, .ca (.k (.cl 55 [])) [(.t 87), (.t 88)], none, false⟩,
 ⟨90, .nt (.t 89), none, false⟩,
 ⟨91, .mv (.t 90), none, false⟩,
 ⟨92, .mv (.t 15), (some (91, false)), false⟩,
 ⟨93, .mv (.t 7), (some (91, false)), false⟩,
 ⟨94, .ar .neq false (.t 92) (.t 93), (some (91, false)), false⟩,
 ⟨95, .pk (.t 91) (.k (.sc (.bool true))) (.t 94), none, false⟩])
 (.ite (.t 95)
 (.seq
 (.reg false [⟨4, .mv (.k (.sc (.bool false))), none, false⟩])
 .ret)
 .skip))
 (.seq
 (.reg false [⟨13, .mv (.k (.sc (.int .i64 1))), none, false⟩])
 (.seq
 (.reg false [⟨96, .mv (.t 9), none, false⟩,
 ⟨97, .mv (.t 13), none, false⟩,
 ⟨98, .ca (.k (.cl 63 [])) [(.t 96), (.t 97)], none, false⟩,
 ⟨13, .mv (.t 98), none, false⟩])
 (.seq
 (.seq
 (.reg false [⟨99, .mv (.t 13), none, false⟩,
 ⟨100, .ar .lss false (.t 99) (.k (.sc (.int .i64 0))), none, false⟩])
 (.ite (.t 100)
 (.seq
 (.reg false [⟨4, .mv (.k (.sc (.bool false))), none, false⟩])
 .ret)
 .skip))
 (.seq
 (.seq
 (.reg false [⟨101, .mv (.t 13), none, false⟩,
 ⟨102, .mv (.t 12), none, false⟩,
 ⟨103, .ar .neq false (.t 101) (.t 102), none, false⟩])
 (.ite (.t 103)
 (.seq
 (.reg false [⟨4, .mv (.k (.sc (.bool false))), none, false⟩])
 .ret)
 .skip))
 (.seq
 (.reg false [⟨4, .mv (.k (.sc (.bool true))), none, false⟩])
 .ret))))))))))))))))))))))))))⟩
attribute [simp] i14
set_option maxRecDepth 1000000 in
theorem c14 : cFn Try.prog 14 [[61, 62]] = some i14 := by kernel_rfl
theorem e14 : enterOk Try.prog 14 = true := by kernel_rfl
def i15 : Ev.Fn := ⟨3, 57, [.tmp 6],
 (.seq
 (.reg false [⟨6, .mv (.k (.sc (.bool false))), none, false⟩])
 (.seq
 (.reg false [⟨7, .mv (.k (.sc (.int .i64 1048576))), none, false⟩])
 (.seq
 (.reg false [⟨15, .mv (.t 0), none, false⟩,
 ⟨16, .mv (.t 7), none, false⟩,
 ⟨17, .ca (.k (.cl 31 [])) [(.t 15), (.t 16)], none, false⟩,
 ⟨7, .mv (.t 17), none, false⟩])
 (.seq
 (.seq
 (.reg false [⟨18, .mv (.t 7), none, false⟩,
 ⟨19, .ar .lss false (.t 18) (.k (.sc (.int .i64 0))), none, false⟩])
 (.ite (.t 19)
 (.seq
 (.reg false [⟨6, .mv (.k (.sc (.bool true))), none, false⟩])
 .ret)
 .skip))
 (.seq
 (.reg false [⟨21, .mv (.t 0), none, false⟩,
 ⟨22, .ca (.k (.cl 33 [])) [(.t 21)], none, false⟩,
 ⟨23, .mv (.t 1), none, false⟩,
 ⟨24, .mv (.t 2), none, false⟩,
 ⟨25, .ca (.k (.cl 64 [])) [(.t 22), (.t 23), (.t 24)], none, false⟩,
 ⟨20, .mv (.t 25), none, false⟩,
 ⟨26, .xt (.t 20) 0, none, false⟩,
 ⟨27, .xt (.t 20) 1, none, false⟩,
 ⟨28, .xt (.t 20) 2, none, false⟩,
 ⟨8, .mv (.t 26), none, false⟩,
 ⟨9, .mv (.t 27), none, false⟩,
 ⟨10, .mv (.t 28), none, false⟩])
 (.seq
 (.reg false [⟨29, .mv (.t 0), none, false⟩,
 ⟨30, .ca (.k (.cl 33 [])) [(.t 29)], none, false⟩,
 ⟨11, .mv (.t 30), none, false⟩])
 (.seq
 (.reg false [⟨32, .mv (.t 11), none, false⟩,
 ⟨33, .mv (.t 1), none, false⟩,
 ⟨34, .mv (.t 2), none, false⟩,
 ⟨35, .ca (.k (.cl 65 [])) [(.t 32), (.t 33), (.t 34)], none, false⟩,
 ⟨31, .mv (.t 35), none, false⟩,
 ⟨36, .xt (.t 31) 0, none, false⟩,
 ⟨37, .xt (.t 31) 1, none, false⟩,
 ⟨38, .xt (.t 31) 2, none, false⟩,
 ⟨12, .mv (.t 36), none, false⟩,
 ⟨13, .mv (.t 37), none, false⟩,
 ⟨14, .mv (.t 38), none, false⟩])
 (.seq
 (.seq
 (.reg false [⟨39, .mv (.t 12), none, false⟩,
 ⟨40, .mv (.t 8), none, false⟩,
 ⟨41, .ar .neq false (.t 39) (.t 40), none, false⟩,
 ⟨42, .mv (.t 41), none, false⟩,
 ⟨43, .mv (.t 13), (some (42, false)), false⟩,
 ⟨44, .mv (.t 9), (some (42, false)), false⟩,
 ⟨45, .ar .neq false (.t 43) (.t 44), (some (42, false)), false⟩,
 ⟨46, .pk (.t 42) (.k (.sc (.bool true))) (.t 45), none, false⟩,
 ⟨47, .mv (.t 46), none, false⟩,
 ⟨48, .mv (.t 14), (some (47, false)), false⟩,
 ⟨49, .mv (.t 10), (some (47, false)), false⟩,
 ⟨50, .ar .neq false (.t 48) (.t 49), (some (47, false)), false⟩,
 ⟨51, .pk (.t 47) (.k (.sc (.bool true))) (.t 50), none, false⟩])
 (.ite (.t 51)
 (.seq
 (.reg false [⟨6, .mv (.k (.sc (.bool false))), none, false⟩])
 .ret)
 .skip))
 (.seq
 (.seq
 (.reg false [⟨52, .mv (.t 11), none, false⟩,
 ⟨53, .mv (.t 0), none, false⟩,
 ⟨54, .ca (.k (.cl 33 [])) [(.t 53)], none, false⟩,
 ⟨55, .ca (.k (.cl 35 [])) [(.t 52), (.t 54)], none, false⟩,
 ⟨56, .nt (.t 55), none, false⟩])
 (.ite (.t 56)
 (.seq
 (.reg false [⟨6, .mv (.k (.sc (.bool false))), none, false⟩])
 .ret)
 .skip))
 (.seq
 (.reg false [⟨6, .mv (.k (.sc (.bool true))), none, false⟩])
 .ret))))))))))⟩
attribute [simp] i15
set_option maxRecDepth 1000000 in
theorem c15 : cFn Try.prog 15 [[]] = some i15 := by kernel_rfl
theorem e15 : enterOk Try.prog 15 = true := by kernel_rfl
def i16 : Ev.Fn := ⟨1, 96, [.tmp 2],
 (.seq
 (.reg false [⟨1, .bx (.t 0), none, false⟩,
 ⟨2, .mv (.k (.sc (.bool false))), none, false⟩])
 (.seq
 (.reg false [⟨3, .mv (.k (.sc (.int .i64 1048576))), none, false⟩])
 (.seq
 (.reg false [⟨14, .ld 4 true (.t 1), none, false⟩,
 ⟨15, .mv (.t 3), none, false⟩,
 ⟨16, .ca (.k (.cl 66 [])) [(.t 14), (.t 15)], none, false⟩,
 ⟨3, .mv (.t 16), none, false⟩])
 (.seq
 (.seq
 (.reg false [⟨17, .mv (.t 3), none, false⟩,
 ⟨18, .ar .lss false (.t 17) (.k (.sc (.int .i64 0))), none, false⟩])
 (.ite (.t 18)
 (.seq
 (.reg false [⟨2, .mv (.k (.sc (.bool true))), none, false⟩])
 .ret)
 .skip))
 (.seq
 (.reg false [⟨20, .ld 4 true (.t 1), none, false⟩,
 ⟨21, .ca (.k (.cl 68 [])) [(.t 20)], none, false⟩,
 ⟨22, .ca (.k (.cl 67 [])) [(.t 21)], none, false⟩,
 ⟨19, .mv (.t 22), none, false⟩,
 ⟨23, .xt (.t 19) 0, none, false⟩,
 ⟨24, .xt (.t 19) 1, none, false⟩,
 ⟨4, .mv (.t 23), none, false⟩,
 ⟨5, .mv (.t 24), none, false⟩])
 (.seq
 (.reg false [⟨25, .ld 4 true (.t 1), none, false⟩,
 ⟨26, .ca (.k (.cl 68 [])) [(.t 25)], none, false⟩,
 ⟨6, .al [(.sc (.int .i64 0)), (.sc (.int .i64 0)), .nl, .nl], none, false⟩,
 ⟨1, .so 4 (.t 6) (.t 26), none, true⟩])
 (.seq
 (.reg false [⟨28, .ld 4 true (.t 6), none, false⟩,
 ⟨29, .ca (.k (.cl 69 [])) [(.t 28)], none, false⟩,
 ⟨27, .mv (.t 29), none, false⟩,
 ⟨30, .xt (.t 27) 0, none, false⟩,
 ⟨31, .xt (.t 27) 1, none, false⟩,
 ⟨7, .mv (.t 30), none, false⟩,
 ⟨8, .mv (.t 31), none, false⟩])
 (.seq
 (.seq
 (.reg false [⟨32, .mv (.t 7), none, false⟩,
 ⟨33, .mv (.t 4), none, false⟩,
 ⟨34, .ca (.k (.cl 55 [])) [(.t 32), (.t 33)], none, false⟩,
 ⟨35, .nt (.t 34), none, false⟩,
 ⟨36, .mv (.t 35), none, false⟩,
 ⟨37, .mv (.t 8), (some (36, false)), false⟩,
 ⟨38, .mv (.t 5), (some (36, false)), false⟩,
 ⟨39, .ar .neq false (.t 37) (.t 38), (some (36, false)), false⟩,
 ⟨40, .pk (.t 36) (.k (.sc (.bool true))) (.t 39), none, false⟩])
 (.ite (.t 40)
 (.seq
 (.reg false [⟨2, .mv (.k (.sc (.bool false))), none, false⟩])
 .ret)
 .skip))
 (.seq
 (.seq
 (.reg true [⟨41, .ld 4 true (.t 6), none, false⟩,
 ⟨42, .ld 4 true (.t 1), none, false⟩,
 ⟨43, .ca (.k (.cl 68 [])) [(.t 42)], none, false⟩,
 ⟨44, .ca (.k (.cl 70 [])) [(.t 41), (.t 43)], none, false⟩,
 ⟨45, .nt (.t 44), none, false⟩])
 (.ite (.t 45)
 (.seq
 (.reg false [⟨2, .mv (.k (.sc (.bool false))), none, false⟩])
 .ret)
 .skip))
 (.seq
 (.reg false [⟨9, .mv (.k (.sc (.int .i64 1))), none, false⟩])
 (.seq
 (.rgw [⟨46, .ld 4 true (.t 6), none, false⟩,
 ⟨47, .mv (.t 9), none, false⟩,
 ⟨48, .cw 71 [] [(.t 46), (.t 47)], none, false⟩,
 ⟨9, .mv (.t 48), none, false⟩])
 (.seq
 (.seq
 (.reg false [⟨49, .mv (.t 9), none, false⟩,
 ⟨50, .ar .lss false (.t 49) (.k (.sc (.int .i64 0))), none, false⟩,
 ⟨51, .mv (.t 50), none, false⟩,
 ⟨52, .mv (.t 7), (some (51, false)), false⟩,
 ⟨53, .mv (.t 4), (some (51, false)), false⟩,
 ⟨54, .ca (.k (.cl 55 [])) [(.t 52), (.t 53)], (some (51, false)), false⟩,
 ⟨55, .nt (.t 54), (some (51, false)), false⟩,
 ⟨56, .pk (.t 51) (.k (.sc (.bool true))) (.t 55), none, false⟩,
 ⟨57, .mv (.t 56), none, false⟩,
 ⟨58, .mv (.t 8), (some (57, false)), false⟩,
 ⟨59, .mv (.t 5), (some (57, false)), false⟩,
 ⟨60, .ar .neq false (.t 58) (.t 59), (some (57, false)), false⟩,
 ⟨61, .pk (.t 57) (.k (.sc (.bool true))) (.t 60), none, false⟩])
 (.ite (.t 61)
 (.seq
 (.reg false [⟨2, .mv (.k (.sc (.bool false))), none, false⟩])
 .ret)
 .skip))
 (.seq
 (.reg false [⟨10, .mv (.k (.sc (.int .i64 1))), none, false⟩])
 (.seq
 (.rgw [⟨62, .mv (.t 7), none, false⟩,
 ⟨63, .mv (.t 10), none, false⟩,
 ⟨64, .cw 62 [] [(.t 62), (.t 63)], none, false⟩,
 ⟨10, .mv (.t 64), none, false⟩])
 (.seq
 (.reg false [⟨11, .mv (.k (.sc (.int .i64 1))), none, false⟩])
 (.seq
 (.reg false [⟨65, .mv (.t 7), none, false⟩,
 ⟨66, .mv (.t 11), none, false⟩,
 ⟨67, .ca (.k (.cl 63 [])) [(.t 65), (.t 66)], none, false⟩,
 ⟨11, .mv (.t 67), none, false⟩])
 (.seq
 (.seq
 (.reg false [⟨68, .mv (.t 11), none, false⟩,
 ⟨69, .ar .lss false (.t 68) (.k (.sc (.int .i64 0))), none, false⟩])
 (.ite (.t 69)
 (.seq
 (.reg false [⟨2, .mv (.k (.sc (.bool false))), none, false⟩])
 .ret)
 .skip))
 (.seq
 (.seq
 (.reg false [⟨70, .mv (.t 11), none, false⟩,
 ⟨71, .mv (.t 10), none, false⟩,
 ⟨72, .ar .neq false (.t 70) (.t 71), none, false⟩])
 (.ite (.t 72)
 (.seq
 (.reg false [⟨2, .mv (.k (.sc (.bool false))), none, false⟩])
 .ret)
 .skip))
 (.seq
 (.reg false [⟨74, .ld 4 true (.t 1), none, false⟩,
 ⟨75, .ca (.k (.cl 68 [])) [(.t 74)], none, false⟩,
 ⟨76, .ca (.k (.cl 69 [])) [(.t 75)], none, false⟩,
 ⟨73, .mv (.t 76), none, false⟩,
 ⟨77, .xt (.t 73) 0, none, false⟩,
 ⟨78, .xt (.t 73) 1, none, false⟩,
 ⟨12, .mv (.t 77), none, false⟩,
 ⟨13, .mv (.t 78), none, false⟩])
 (.seq
 (.seq
 (.reg false [⟨79, .mv (.t 12), none, false⟩,
 ⟨80, .mv (.t 4), none, false⟩,
 ⟨81, .ca (.k (.cl 55 [])) [(.t 79), (.t 80)], none, false⟩,
 ⟨82, .nt (.t 81), none, false⟩,
 ⟨83, .mv (.t 82), none, false⟩,
 ⟨84, .mv (.t 13), (some (83, false)), false⟩,
 ⟨85, .mv (.t 5), (some (83, false)), false⟩,
 ⟨86, .ar .neq false (.t 84) (.t 85), (some (83, false)), false⟩,
 ⟨87, .pk (.t 83) (.k (.sc (.bool true))) (.t 86), none, false⟩])
 (.ite (.t 87)
 (.seq
 (.reg false [⟨2, .mv (.k (.sc (.bool false))), none, false⟩])
 .ret)
 .skip))
 (.seq
 (.reg false [⟨11, .mv (.k (.sc (.int .i64 1))), none, false⟩])
 (.seq
 (.reg false [⟨88, .mv (.t 7), none, false⟩,
 ⟨89, .mv (.t 11), none, false⟩,
 ⟨90, .ca (.k (.cl 63 [])) [(.t 88), (.t 89)], none, false⟩,
 ⟨11, .mv (.t 90), none, false⟩])
 (.seq
 (.seq
 (.reg false [⟨91, .mv (.t 11), none, false⟩,
 ⟨92, .ar .lss false (.t 91) (.k (.sc (.int .i64 0))), none, false⟩])
 (.ite (.t 92)
 (.seq
 (.reg false [⟨2, .mv (.k (.sc (.bool false))), none, false⟩])
 .ret)
 .skip))
 (.seq
 (.seq
 (.reg false [⟨93, .mv (.t 11), none, false⟩,
 ⟨94, .mv (.t 10), none, false⟩,
 ⟨95, .ar .neq false (.t 93) (.t 94), none, false⟩])
 (.ite (.t 95)
 (.seq
 (.reg false [⟨2, .mv (.k (.sc (.bool false))), none, false⟩])
 .ret)
 .skip))
 (.seq
 (.reg false [⟨2, .mv (.k (.sc (.bool true))), none, false⟩])
 .ret)))))))))))))))))))))))))⟩
attribute [simp] i16
set_option maxRecDepth 1000000 in
theorem c16 : cFn Try.prog 16 [[71, 62]] = some i16 := by kernel_rfl
theorem e16 : enterOk Try.prog 16 = true := by kernel_rfl
def i17 : Ev.Fn := ⟨2, 32, [.tmp 4],
 (.seq
 (.reg false [⟨2, .bx (.t 0), none, false⟩,
 ⟨4, .mv (.k (.sc (.int .i64 0))), none, false⟩])
 (.seq
 (.reg false [⟨5, .mv (.t 1), none, false⟩,
 ⟨6, .fa 0 (.t 2), none, false⟩,
 ⟨7, .ld 1 false (.t 6), none, false⟩,
 ⟨8, .ln true (.t 7), none, false⟩,
 ⟨9, .ar .sub false (.t 5) (.t 8), none, false⟩,
 ⟨1, .mv (.t 9), none, false⟩])
 (.seq
 (.seq
 (.reg false [⟨10, .mv (.t 1), none, false⟩,
 ⟨11, .ar .lss false (.t 10) (.k (.sc (.int .i64 0))), none, false⟩])
 (.ite (.t 11)
 (.seq
 (.reg false [⟨4, .mv (.k (.sc (.int .i64 (-1)))), none, false⟩])
 .ret)
 .skip))
 (.seq
 (.reg false [⟨12, .mv (.t 1), none, false⟩,
 ⟨13, .fa 1 (.t 2), none, false⟩,
 ⟨14, .ld 1 false (.t 13), none, false⟩,
 ⟨15, .ln true (.t 14), none, false⟩,
 ⟨16, .ar .sub false (.t 12) (.t 15), none, false⟩,
 ⟨1, .mv (.t 16), none, false⟩])
 (.seq
 (.seq
 (.reg false [⟨17, .mv (.t 1), none, false⟩,
 ⟨18, .ar .lss false (.t 17) (.k (.sc (.int .i64 0))), none, false⟩])
 (.ite (.t 18)
 (.seq
 (.reg false [⟨4, .mv (.k (.sc (.int .i64 (-1)))), none, false⟩])
 .ret)
 .skip))
 (.seq
 (.reg false [⟨19, .fa 3 (.t 2), none, false⟩,
 ⟨20, .ld 3 true (.t 19), none, false⟩,
 ⟨21, .mv (.t 1), none, false⟩,
 ⟨22, .ca (.k (.cl 47 [])) [(.t 20), (.t 21)], none, false⟩,
 ⟨1, .mv (.t 22), none, false⟩])
 (.seq
 (.seq
 (.reg false [⟨23, .mv (.t 1), none, false⟩,
 ⟨24, .ar .lss false (.t 23) (.k (.sc (.int .i64 0))), none, false⟩])
 (.ite (.t 24)
 (.seq
 (.reg false [⟨4, .mv (.k (.sc (.int .i64 (-1)))), none, false⟩])
 .ret)
 .skip))
 (.seq
 (.reg false [⟨25, .fa 8 (.t 2), none, false⟩,
 ⟨26, .ld 1 false (.t 25), none, false⟩,
 ⟨27, .mv (.t 1), none, false⟩,
 ⟨28, .ca (.k (.cl 72 [])) [(.t 26), (.t 27)], none, false⟩,
 ⟨1, .mv (.t 28), none, false⟩])
 (.seq
 (.seq
 (.reg false [⟨29, .mv (.t 1), none, false⟩,
 ⟨30, .ar .lss false (.t 29) (.k (.sc (.int .i64 0))), none, false⟩])
 (.ite (.t 30)
 (.seq
 (.reg false [⟨4, .mv (.k (.sc (.int .i64 (-1)))), none, false⟩])
 .ret)
 .skip))
 (.seq
 (.reg false [⟨31, .mv (.t 1), none, false⟩,
 ⟨4, .mv (.t 31), none, false⟩])
 .ret))))))))))⟩
attribute [simp] i17
set_option maxRecDepth 1000000 in
theorem c17 : cFn Try.prog 17 [[]] = some i17 := by kernel_rfl
theorem e17 : enterOk Try.prog 17 = true := by kernel_rfl
def i18 : Ev.Fn := ⟨2, 6, [.tmp 4],
 (.seq
 (.reg false [⟨2, .bx (.t 0), none, false⟩,
 ⟨3, .bx (.t 1), none, false⟩,
 ⟨4, .mv (.k (.sc (.bool false))), none, false⟩])
 (.seq
 (.reg false [⟨5, .ca (.k (.cl 73 [])) [(.t 2), (.t 3)], none, false⟩,
 ⟨4, .mv (.t 5), none, false⟩])
 .ret))⟩
attribute [simp] i18
set_option maxRecDepth 1000000 in
theorem c18 : cFn Try.prog 18 [[]] = some i18 := by kernel_rfl
theorem e18 : enterOk Try.prog 18 = true := by kernel_rfl
def i19 : Ev.Fn := ⟨1, 28, [.cell 2 9 true],
 (.seq
 (.reg false [⟨1, .bx (.t 0), none, false⟩,
 ⟨2, .al [(.sc (.string ⟨#[]⟩)), (.sc (.string ⟨#[]⟩)), (.sc (.int .i64 0)), (.sc (.string ⟨#[]⟩)), (.sc (.int .i64 0)), (.sc (.int .i64 0)), (.sc (.int .i64 0)), (.sc (.int .i64 0)), .nl], none, false⟩])
 (.seq
 (.reg false [⟨3, .al [(.sc (.string ⟨#[]⟩)), (.sc (.string ⟨#[]⟩)), (.sc (.int .i64 0)), (.sc (.string ⟨#[]⟩)), (.sc (.int .i64 0)), (.sc (.int .i64 0)), (.sc (.int .i64 0)), (.sc (.int .i64 0)), .nl], none, false⟩])
 (.seq
 (.reg false [⟨4, .fa 0 (.t 1), none, false⟩,
 ⟨5, .ld 1 false (.t 4), none, false⟩,
 ⟨6, .fa 0 (.t 3), none, false⟩,
 ⟨1, .so 1 (.t 6) (.t 5), none, true⟩])
 (.seq
 (.reg false [⟨7, .fa 1 (.t 1), none, false⟩,
 ⟨8, .ld 1 false (.t 7), none, false⟩,
 ⟨9, .fa 1 (.t 3), none, false⟩,
 ⟨1, .so 1 (.t 9) (.t 8), none, true⟩])
 (.seq
 (.reg false [⟨10, .fa 2 (.t 1), none, false⟩,
 ⟨11, .ld 1 false (.t 10), none, false⟩,
 ⟨12, .fa 2 (.t 3), none, false⟩,
 ⟨1, .so 1 (.t 12) (.t 11), none, true⟩])
 (.seq
 (.reg false [⟨13, .fa 3 (.t 1), none, false⟩,
 ⟨14, .ld 3 true (.t 13), none, false⟩,
 ⟨15, .ca (.k (.cl 49 [])) [(.t 14)], none, false⟩,
 ⟨16, .fa 3 (.t 3), none, false⟩,
 ⟨1, .so 3 (.t 16) (.t 15), none, true⟩])
 (.seq
 (.reg false [⟨17, .fa 6 (.t 1), none, false⟩,
 ⟨18, .ld 1 false (.t 17), none, false⟩,
 ⟨19, .fa 6 (.t 3), none, false⟩,
 ⟨1, .so 1 (.t 19) (.t 18), none, true⟩])
 (.seq
 (.reg false [⟨20, .fa 7 (.t 1), none, false⟩,
 ⟨21, .ld 1 false (.t 20), none, false⟩,
 ⟨22, .fa 7 (.t 3), none, false⟩,
 ⟨1, .so 1 (.t 22) (.t 21), none, true⟩])
 (.seq
 (.reg false [⟨23, .fa 8 (.t 1), none, false⟩,
 ⟨24, .ld 1 false (.t 23), none, false⟩,
 ⟨25, .ca (.k (.cl 74 [])) [(.t 24)], none, false⟩,
 ⟨26, .fa 8 (.t 3), none, false⟩,
 ⟨1, .so 1 (.t 26) (.t 25), none, true⟩])
 (.seq
 (.reg false [⟨27, .ld 9 true (.t 3), none, false⟩,
 ⟨1, .so 9 (.t 2) (.t 27), none, true⟩])
 .ret))))))))))⟩
attribute [simp] i19
set_option maxRecDepth 1000000 in
theorem c19 : cFn Try.prog 19 [[]] = some i19 := by kernel_rfl
theorem e19 : enterOk Try.prog 19 = true := by kernel_rfl
def i20 : Ev.Fn := ⟨2, 52, [.tmp 4],
 (.seq
 (.reg false [⟨2, .bx (.t 0), none, false⟩,
 ⟨3, .bx (.t 1), none, false⟩,
 ⟨4, .mv (.k (.sc (.bool false))), none, false⟩])
 (.seq
 (.reg false [⟨5, .fa 0 (.t 2), none, false⟩,
 ⟨6, .ld 1 false (.t 5), none, false⟩,
 ⟨7, .fa 0 (.t 3), none, false⟩,
 ⟨8, .ld 1 false (.t 7), none, false⟩,
 ⟨9, .ar .eql false (.t 6) (.t 8), none, false⟩,
 ⟨10, .mv (.t 9), none, false⟩,
 ⟨11, .fa 1 (.t 2), (some (10, true)), false⟩,
 ⟨12, .ld 1 false (.t 11), (some (10, true)), false⟩,
 ⟨13, .fa 1 (.t 3), (some (10, true)), false⟩,
 ⟨14, .ld 1 false (.t 13), (some (10, true)), false⟩,
 ⟨15, .ar .eql false (.t 12) (.t 14), (some (10, true)), false⟩,
 ⟨16, .pk (.t 10) (.t 15) (.k (.sc (.bool false))), none, false⟩,
 ⟨17, .mv (.t 16), none, false⟩,
 ⟨18, .fa 2 (.t 2), (some (17, true)), false⟩,
 ⟨19, .ld 1 false (.t 18), (some (17, true)), false⟩,
 ⟨20, .fa 2 (.t 3), (some (17, true)), false⟩,
 ⟨21, .ld 1 false (.t 20), (some (17, true)), false⟩,
 ⟨22, .ar .eql false (.t 19) (.t 21), (some (17, true)), false⟩,
 ⟨23, .pk (.t 17) (.t 22) (.k (.sc (.bool false))), none, false⟩,
 ⟨24, .mv (.t 23), none, false⟩,
 ⟨25, .fa 3 (.t 2), (some (24, true)), false⟩,
 ⟨26, .ld 3 true (.t 25), (some (24, true)), false⟩,
 ⟨27, .fa 3 (.t 3), (some (24, true)), false⟩,
 ⟨28, .ld 3 true (.t 27), (some (24, true)), false⟩,
 ⟨29, .eq false [2, 1, 1] (.t 26) (.t 28), (some (24, true)), false⟩,
 ⟨30, .pk (.t 24) (.t 29) (.k (.sc (.bool false))), none, false⟩,
 ⟨31, .mv (.t 30), none, false⟩,
 ⟨32, .fa 6 (.t 2), (some (31, true)), false⟩,
 ⟨33, .ld 1 false (.t 32), (some (31, true)), false⟩,
 ⟨34, .fa 6 (.t 3), (some (31, true)), false⟩,
 ⟨35, .ld 1 false (.t 34), (some (31, true)), false⟩,
 ⟨36, .ar .eql false (.t 33) (.t 35), (some (31, true)), false⟩,
 ⟨37, .pk (.t 31) (.t 36) (.k (.sc (.bool false))), none, false⟩,
 ⟨38, .mv (.t 37), none, false⟩,
 ⟨39, .fa 7 (.t 2), (some (38, true)), false⟩,
 ⟨40, .ld 1 false (.t 39), (some (38, true)), false⟩,
 ⟨41, .fa 7 (.t 3), (some (38, true)), false⟩,
 ⟨42, .ld 1 false (.t 41), (some (38, true)), false⟩,
 ⟨43, .ar .eql false (.t 40) (.t 42), (some (38, true)), false⟩,
 ⟨44, .pk (.t 38) (.t 43) (.k (.sc (.bool false))), none, false⟩,
 ⟨45, .mv (.t 44), none, false⟩,
 ⟨46, .fa 8 (.t 2), (some (45, true)), false⟩,
 ⟨47, .ld 1 false (.t 46), (some (45, true)), false⟩,
 ⟨48, .fa 8 (.t 3), (some (45, true)), false⟩,
 ⟨49, .ld 1 false (.t 48), (some (45, true)), false⟩,
 ⟨50, .ca (.k (.cl 75 [])) [(.t 47), (.t 49)], (some (45, true)), false⟩,
 ⟨51, .pk (.t 45) (.t 50) (.k (.sc (.bool false))), none, false⟩,
 ⟨4, .mv (.t 51), none, false⟩])
 .ret))⟩
attribute [simp] i20
set_option maxRecDepth 1000000 in
theorem c20 : cFn Try.prog 20 [[]] = some i20 := by kernel_rfl
theorem e20 : enterOk Try.prog 20 = true := by kernel_rfl
def i21 : Ev.Fn := ⟨2, 42, [.tmp 4],
 (.seq
 (.reg false [⟨2, .bx (.t 0), none, false⟩,
 ⟨3, .bx (.t 1), none, false⟩,
 ⟨4, .mv (.k (.sc (.bool false))), none, false⟩])
 (.seq
 (.seq
 (.reg false [⟨5, .fa 0 (.t 2), none, false⟩,
 ⟨6, .ld 1 false (.t 5), none, false⟩,
 ⟨7, .fa 0 (.t 3), none, false⟩,
 ⟨8, .ld 1 false (.t 7), none, false⟩,
 ⟨9, .ar .neq false (.t 6) (.t 8), none, false⟩])
 (.ite (.t 9)
 (.seq
 (.reg false [⟨4, .mv (.k (.sc (.bool false))), none, false⟩])
 .ret)
 .skip))
 (.seq
 (.seq
 (.reg false [⟨10, .fa 1 (.t 2), none, false⟩,
 ⟨11, .ld 1 false (.t 10), none, false⟩,
 ⟨12, .fa 1 (.t 3), none, false⟩,
 ⟨13, .ld 1 false (.t 12), none, false⟩,
 ⟨14, .ar .neq false (.t 11) (.t 13), none, false⟩])
 (.ite (.t 14)
 (.seq
 (.reg false [⟨4, .mv (.k (.sc (.bool false))), none, false⟩])
 .ret)
 .skip))
 (.seq
 (.seq
 (.reg false [⟨15, .fa 2 (.t 2), none, false⟩,
 ⟨16, .ld 1 false (.t 15), none, false⟩,
 ⟨17, .fa 2 (.t 3), none, false⟩,
 ⟨18, .ld 1 false (.t 17), none, false⟩,
 ⟨19, .ar .neq false (.t 16) (.t 18), none, false⟩])
 (.ite (.t 19)
 (.seq
 (.reg false [⟨4, .mv (.k (.sc (.bool false))), none, false⟩])
 .ret)
 .skip))
 (.seq
 (.seq
 (.reg false [⟨20, .fa 3 (.t 2), none, false⟩,
 ⟨21, .ld 3 true (.t 20), none, false⟩,
 ⟨22, .fa 3 (.t 3), none, false⟩,
 ⟨23, .ld 3 true (.t 22), none, false⟩,
 ⟨24, .ca (.k (.cl 76 [])) [(.t 21), (.t 23)], none, false⟩,
 ⟨25, .nt (.t 24), none, false⟩])
 (.ite (.t 25)
 (.seq
 (.reg false [⟨4, .mv (.k (.sc (.bool false))), none, false⟩])
 .ret)
 .skip))
 (.seq
 (.seq
 (.reg false [⟨26, .fa 6 (.t 2), none, false⟩,
 ⟨27, .ld 1 false (.t 26), none, false⟩,
 ⟨28, .fa 6 (.t 3), none, false⟩,
 ⟨29, .ld 1 false (.t 28), none, false⟩,
 ⟨30, .ar .neq false (.t 27) (.t 29), none, false⟩])
 (.ite (.t 30)
 (.seq
 (.reg false [⟨4, .mv (.k (.sc (.bool false))), none, false⟩])
 .ret)
 .skip))
 (.seq
 (.seq
 (.reg false [⟨31, .fa 7 (.t 2), none, false⟩,
 ⟨32, .ld 1 false (.t 31), none, false⟩,
 ⟨33, .fa 7 (.t 3), none, false⟩,
 ⟨34, .ld 1 false (.t 33), none, false⟩,
 ⟨35, .ar .neq false (.t 32) (.t 34), none, false⟩])
 (.ite (.t 35)
 (.seq
 (.reg false [⟨4, .mv (.k (.sc (.bool false))), none, false⟩])
 .ret)
 .skip))
 (.seq
 (.seq
 (.reg false [⟨36, .fa 8 (.t 2), none, false⟩,
 ⟨37, .ld 1 false (.t 36), none, false⟩,
 ⟨38, .fa 8 (.t 3), none, false⟩,
 ⟨39, .ld 1 false (.t 38), none, false⟩,
 ⟨40, .ca (.k (.cl 77 [])) [(.t 37), (.t 39)], none, false⟩,
 ⟨41, .nt (.t 40), none, false⟩])
 (.ite (.t 41)
 (.seq
 (.reg false [⟨4, .mv (.k (.sc (.bool false))), none, false⟩])
 .ret)
 .skip))
 (.seq
 (.reg false [⟨4, .mv (.k (.sc (.bool true))), none, false⟩])
 .ret)))))))))⟩
attribute [simp] i21
set_option maxRecDepth 1000000 in
theorem c21 : cFn Try.prog 21 [[]] = some i21 := by kernel_rfl
theorem e21 : enterOk Try.prog 21 = true := by kernel_rfl
def w22_1 : IC :=
(.seq
 (.seq
 (.reg false [⟨12, .mv (.t 5), none, false⟩,
 ⟨13, .mv (.t 0), none, false⟩,
 ⟨14, .ln false (.t 13), none, false⟩,
 ⟨15, .ar .lss false (.t 12) (.t 14), none, false⟩])
 (.ite (.t 15)
 .skip
 (.exit 0)))
 (.seq
 (.block 1
 (.seq
 (.reg false [⟨18, .mv (.t 0), none, false⟩,
 ⟨19, .mv (.t 5), none, false⟩,
 ⟨20, .ia 3 (.t 18) (.t 19), none, false⟩,
 ⟨21, .ld 3 true (.t 20), none, false⟩,
 ⟨22, .mv (.t 1), none, false⟩,
 ⟨23, .ca (.k (.cl 47 [])) [(.t 21), (.t 22)], none, false⟩,
 ⟨1, .mv (.t 23), none, false⟩])
 (.seq
 (.reg false [⟨24, .mv (.t 1), none, false⟩,
 ⟨25, .ar .lss false (.t 24) (.k (.sc (.int .i64 0))), none, false⟩])
 (.ite (.t 25)
 (.seq
 (.reg false [⟨4, .mv (.k (.sc (.int .i64 (-1)))), none, false⟩])
 .ret)
 .skip))))
 (.reg false [⟨16, .mv (.t 5), none, false⟩,
 ⟨17, .ar .add false (.t 16) (.k (.sc (.int .i64 1))), none, false⟩,
 ⟨5, .mv (.t 17), none, false⟩])))
def b22_1 : IC := w22_1
theorem u22_1 (call : CallF) (st : St) : evC call b22_1 st = evC call w22_1 st := rfl
attribute [simp] u22_1 w22_1
def i22 : Ev.Fn := ⟨2, 27, [.tmp 4],
 (.seq
 (.reg false [⟨4, .mv (.k (.sc (.int .i64 0))), none, false⟩])
 (.seq
 (.reg false [⟨6, .mv (.t 1), none, false⟩,
 ⟨7, .mv (.t 0), none, false⟩,
 ⟨8, .ln false (.t 7), none, false⟩,
 ⟨9, .ar .sub false (.t 6) (.t 8), none, false⟩,
 ⟨1, .mv (.t 9), none, false⟩])
 (.seq
 (.seq
 (.reg false [⟨10, .mv (.t 1), none, false⟩,
 ⟨11, .ar .lss false (.t 10) (.k (.sc (.int .i64 0))), none, false⟩])
 (.ite (.t 11)
 (.seq
 (.reg false [⟨4, .mv (.k (.sc (.int .i64 (-1)))), none, false⟩])
 .ret)
 .skip))
 (.seq
 (.seq
 (.reg false [⟨5, .mv (.k (.sc (.int .i64 0))), none, false⟩])
 (.cln [1] [4]
 (.block 0
 (.loop [0, 1, 5] b22_1))))
 (.seq
 (.reg false [⟨26, .mv (.t 1), none, false⟩,
 ⟨4, .mv (.t 26), none, false⟩])
 .ret)))))⟩
attribute [simp] i22
set_option maxRecDepth 1000000 in
theorem c22 : cFn Try.prog 22 [[], [0, 1, 5], [1], [4]] = some i22 := by kernel_rfl
theorem e22 : enterOk Try.prog 22 = true := by kernel_rfl
def w23_1 : IC :=
(.seq
 (.seq
 (.reg false [⟨6, .mv (.t 5), none, false⟩,
 ⟨7, .mv (.t 0), none, false⟩,
 ⟨8, .ln false (.t 7), none, false⟩,
 ⟨9, .ar .lss false (.t 6) (.t 8), none, false⟩])
 (.ite (.t 9)
 .skip
 (.exit 0)))
 (.seq
 (.block 1
 (.seq
 (.seq
 (.reg false [⟨12, .mv (.t 0), none, false⟩,
 ⟨13, .mv (.t 5), none, false⟩,
 ⟨14, .ia 3 (.t 12) (.t 13), none, false⟩,
 ⟨15, .ca (.k (.cl 78 [])) [(.t 14)], none, false⟩,
 ⟨16, .nt (.t 15), none, false⟩])
 (.ite (.t 16)
 (.seq
 (.reg false [⟨2, .mv (.k (.sc (.int .i64 0))), none, false⟩,
 ⟨3, .mv (.k (.sc (.int .i64 1))), none, false⟩])
 .ret)
 .skip))
 (.reg false [⟨17, .mv (.t 4), none, false⟩,
 ⟨18, .mv (.t 0), none, false⟩,
 ⟨19, .mv (.t 5), none, false⟩,
 ⟨20, .ia 3 (.t 18) (.t 19), none, false⟩,
 ⟨21, .fa 1 (.t 20), none, false⟩,
 ⟨22, .ld 1 false (.t 21), none, false⟩,
 ⟨23, .ar .add false (.t 17) (.t 22), none, false⟩,
 ⟨4, .mv (.t 23), none, false⟩])))
 (.reg false [⟨10, .mv (.t 5), none, false⟩,
 ⟨11, .ar .add false (.t 10) (.k (.sc (.int .i64 1))), none, false⟩,
 ⟨5, .mv (.t 11), none, false⟩])))
def b23_1 : IC := w23_1
theorem u23_1 (call : CallF) (st : St) : evC call b23_1 st = evC call w23_1 st := rfl
attribute [simp] u23_1 w23_1
def i23 : Ev.Fn := ⟨1, 34, [.tmp 2, .tmp 3],
 (.seq
 (.reg false [⟨2, .mv (.k (.sc (.int .i64 0))), none, false⟩,
 ⟨3, .mv (.k (.sc (.int .i64 0))), none, false⟩])
 (.seq
 (.reg false [⟨4, .mv (.k (.sc (.int .i64 0))), none, false⟩])
 (.seq
 (.seq
 (.reg false [⟨5, .mv (.k (.sc (.int .i64 0))), none, false⟩])
 (.cln [0, 4] [2, 3]
 (.block 0
 (.loop [0, 4, 5] b23_1))))
 (.seq
 (.seq
 (.reg false [⟨24, .mv (.t 0), none, false⟩,
 ⟨25, .ln false (.t 24), none, false⟩,
 ⟨26, .ar .gtr false (.t 25) (.k (.sc (.int .i64 64))), none, false⟩])
 (.ite (.t 26)
 (.seq
 (.reg false [⟨2, .mv (.k (.sc (.int .i64 0))), none, false⟩,
 ⟨3, .mv (.k (.sc (.int .i64 5))), none, false⟩])
 .ret)
 .skip))
 (.seq
 (.seq
 (.reg false [⟨27, .mv (.t 0), none, false⟩,
 ⟨28, .ln false (.t 27), none, false⟩,
 ⟨29, .ar .eql false (.t 28) (.k (.sc (.int .i64 0))), none, false⟩])
 (.ite (.t 29)
 (.seq
 (.reg false [⟨2, .mv (.k (.sc (.int .i64 0))), none, false⟩,
 ⟨3, .mv (.k (.sc (.int .i64 6))), none, false⟩])
 .ret)
 .skip))
 (.seq
 (.reg false [⟨30, .mv (.t 4), none, false⟩,
 ⟨31, .mv (.t 0), none, false⟩,
 ⟨32, .ln false (.t 31), none, false⟩,
 ⟨33, .ca (.k (.cl 79 [])) [(.t 30), (.t 32)], none, false⟩,
 ⟨2, .mv (.t 33), none, false⟩,
 ⟨3, .mv (.k (.sc (.int .i64 0))), none, false⟩])
 .ret))))))⟩
attribute [simp] i23
set_option maxRecDepth 1000000 in
theorem c23 : cFn Try.prog 23 [[], [0, 4, 5], [0, 4], [2, 3]] = some i23 := by kernel_rfl
theorem e23 : enterOk Try.prog 23 = true := by kernel_rfl
def w24_1 : IC :=
(.seq
 (.seq
 (.reg false [⟨8, .mv (.t 4), none, false⟩,
 ⟨9, .mv (.t 0), none, false⟩,
 ⟨10, .ln false (.t 9), none, false⟩,
 ⟨11, .ar .lss false (.t 8) (.t 10), none, false⟩])
 (.ite (.t 11)
 .skip
 (.exit 0)))
 (.seq
 (.block 1
 (.reg false [⟨14, .mv (.t 3), none, false⟩,
 ⟨15, .mv (.t 4), none, false⟩,
 ⟨16, .mv (.t 0), none, false⟩,
 ⟨17, .mv (.t 4), none, false⟩,
 ⟨18, .ia 3 (.t 16) (.t 17), none, false⟩,
 ⟨19, .ld 3 true (.t 18), none, false⟩,
 ⟨20, .ca (.k (.cl 49 [])) [(.t 19)], none, false⟩,
 ⟨21, .ia 3 (.t 14) (.t 15), none, false⟩,
 ⟨1, .so 3 (.t 21) (.t 20), none, true⟩]))
 (.reg false [⟨12, .mv (.t 4), none, false⟩,
 ⟨13, .ar .add false (.t 12) (.k (.sc (.int .i64 1))), none, false⟩,
 ⟨4, .mv (.t 13), none, false⟩])))
def b24_1 : IC := w24_1
theorem u24_1 (call : CallF) (st : St) : evC call b24_1 st = evC call w24_1 st := rfl
attribute [simp] u24_1 w24_1
def i24 : Ev.Fn := ⟨1, 23, [.tmp 2],
 (.seq
 (.reg false [⟨2, .mv (.k .nl), none, false⟩])
 (.seq
 (.reg false [⟨5, .mv (.t 0), none, false⟩,
 ⟨6, .ln false (.t 5), none, false⟩,
 ⟨7, .ms 29 3 [(.sc (.string ⟨#[]⟩)), (.sc (.int .i64 0)), (.sc (.int .i64 0))] (.t 6), none, false⟩,
 ⟨3, .mv (.t 7), none, false⟩])
 (.seq
 (.seq
 (.reg false [⟨4, .mv (.k (.sc (.int .i64 0))), none, false⟩])
 (.cln [3] [2]
 (.block 0
 (.loop [0, 3, 4] b24_1))))
 (.seq
 (.reg false [⟨22, .mv (.t 3), none, false⟩,
 ⟨2, .mv (.t 22), none, false⟩])
 .ret))))⟩
attribute [simp] i24
set_option maxRecDepth 1000000 in
theorem c24 : cFn Try.prog 24 [[], [0, 3, 4], [3], [2]] = some i24 := by kernel_rfl
theorem e24 : enterOk Try.prog 24 = true := by kernel_rfl
def w25_1 : IC :=
(.seq
 (.reg false [⟨10, .ar .lss false (.t 9) (.t 8), none, false⟩])
 (.seq
 (.ite (.t 10)
 .skip
 (.exit 0))
 (.seq
 (.block 1
 (.seq
 (.reg false [⟨11, .ia 3 (.t 7) (.t 9), none, false⟩,
 ⟨12, .ld 3 true (.t 11), none, false⟩,
 ⟨6, .al [(.sc (.string ⟨#[]⟩)), (.sc (.int .i64 0)), (.sc (.int .i64 0))], none, false⟩,
 ⟨1, .so 3 (.t 6) (.t 12), none, true⟩])
 (.seq
 (.seq
 (.reg false [⟨13, .ld 3 true (.t 6), none, false⟩,
 ⟨14, .ca (.k (.cl 80 [])) [(.t 13)], none, false⟩,
 ⟨15, .nt (.t 14), none, false⟩])
 (.ite (.t 15)
 (.seq
 (.reg false [⟨2, .mv (.k (.sc (.int .i64 0))), none, false⟩,
 ⟨3, .mv (.k (.sc (.int .i64 1))), none, false⟩])
 .ret)
 .skip))
 (.reg false [⟨16, .mv (.t 4), none, false⟩,
 ⟨17, .fa 1 (.t 6), none, false⟩,
 ⟨18, .ld 1 false (.t 17), none, false⟩,
 ⟨19, .ar .add false (.t 16) (.t 18), none, false⟩,
 ⟨4, .mv (.t 19), none, false⟩]))))
 (.reg false [⟨20, .ar .add false (.t 9) (.k (.sc (.int .i64 1))), none, false⟩,
 ⟨9, .mv (.t 20), none, false⟩]))))
def b25_1 : IC := w25_1
theorem u25_1 (call : CallF) (st : St) : evC call b25_1 st = evC call w25_1 st := rfl
attribute [simp] u25_1 w25_1
def i25 : Ev.Fn := ⟨1, 33, [.tmp 2, .tmp 3],
 (.seq
 (.reg false [⟨2, .mv (.k (.sc (.int .i64 0))), none, false⟩,
 ⟨3, .mv (.k (.sc (.int .i64 0))), none, false⟩])
 (.seq
 (.reg false [⟨4, .mv (.k (.sc (.int .i64 0))), none, false⟩])
 (.seq
 (.seq
 (.reg false [⟨7, .mv (.t 0), none, false⟩,
 ⟨8, .ln false (.t 7), none, false⟩,
 ⟨9, .mv (.k (.sc (.int .i64 0))), none, false⟩])
 (.cln [0, 4] [2, 3]
 (.block 0
 (.loop [0, 4, 7, 8, 9] b25_1))))
 (.seq
 (.block 2
 (.seq
 (.reg false [⟨22, .mv (.t 0), none, false⟩,
 ⟨23, .ln false (.t 22), none, false⟩,
 ⟨24, .ar .gtr false (.t 23) (.k (.sc (.int .i64 64))), none, false⟩,
 ⟨21, .mv (.t 24), none, false⟩])
 (.ite (.t 21)
 (.seq
 (.reg false [⟨2, .mv (.k (.sc (.int .i64 0))), none, false⟩,
 ⟨3, .mv (.k (.sc (.int .i64 5))), none, false⟩])
 .ret)
 (.seq
 (.reg false [⟨26, .mv (.t 0), none, false⟩,
 ⟨27, .ln false (.t 26), none, false⟩,
 ⟨28, .ar .eql false (.t 27) (.k (.sc (.int .i64 0))), none, false⟩,
 ⟨25, .mv (.t 28), none, false⟩])
 (.ite (.t 25)
 (.seq
 (.reg false [⟨2, .mv (.k (.sc (.int .i64 0))), none, false⟩,
 ⟨3, .mv (.k (.sc (.int .i64 6))), none, false⟩])
 .ret)
 .skip)))))
 (.seq
 (.reg false [⟨29, .mv (.t 4), none, false⟩,
 ⟨30, .mv (.t 0), none, false⟩,
 ⟨31, .ln false (.t 30), none, false⟩,
 ⟨32, .ca (.k (.cl 81 [])) [(.t 29), (.t 31)], none, false⟩,
 ⟨2, .mv (.t 32), none, false⟩,
 ⟨3, .mv (.k (.sc (.int .i64 0))), none, false⟩])
 .ret)))))⟩
attribute [simp] i25
set_option maxRecDepth 1000000 in
theorem c25 : cFn Try.prog 25 [[], [0, 4, 7, 8, 9], [0, 4], [2, 3]] = some i25 := by kernel_rfl
theorem e25 : enterOk Try.prog 25 = true := by kernel_rfl
def w26_1 : IC :=
(.seq
 (.seq
 (.reg false [⟨11, .mv (.t 5), none, false⟩,
 ⟨12, .mv (.t 0), none, false⟩,
 ⟨13, .ln false (.t 12), none, false⟩,
 ⟨14, .ar .lss false (.t 11) (.t 13), none, false⟩])
 (.ite (.t 14)
 .skip
 (.exit 0)))
 (.seq
 (.block 1
 (.seq
 (.reg true [⟨17, .mv (.t 0), none, false⟩,
 ⟨18, .mv (.t 5), none, false⟩,
 ⟨19, .ia 3 (.t 17) (.t 18), none, false⟩,
 ⟨20, .ld 3 true (.t 19), none, false⟩,
 ⟨21, .mv (.t 1), none, false⟩,
 ⟨22, .mv (.t 5), none, false⟩,
 ⟨23, .ia 3 (.t 21) (.t 22), none, false⟩,
 ⟨24, .ld 3 true (.t 23), none, false⟩,
 ⟨25, .ca (.k (.cl 76 [])) [(.t 20), (.t 24)], none, false⟩,
 ⟨26, .nt (.t 25), none, false⟩])
 (.ite (.t 26)
 (.seq
 (.reg false [⟨4, .mv (.k (.sc (.bool false))), none, false⟩])
 .ret)
 .skip)))
 (.reg false [⟨15, .mv (.t 5), none, false⟩,
 ⟨16, .ar .add false (.t 15) (.k (.sc (.int .i64 1))), none, false⟩,
 ⟨5, .mv (.t 16), none, false⟩])))
def b26_1 : IC := w26_1
theorem u26_1 (call : CallF) (st : St) : evC call b26_1 st = evC call w26_1 st := rfl
attribute [simp] u26_1 w26_1
def i26 : Ev.Fn := ⟨2, 27, [.tmp 4],
 (.seq
 (.reg false [⟨4, .mv (.k (.sc (.bool false))), none, false⟩])
 (.seq
 (.seq
 (.reg false [⟨6, .mv (.t 0), none, false⟩,
 ⟨7, .ln false (.t 6), none, false⟩,
 ⟨8, .mv (.t 1), none, false⟩,
 ⟨9, .ln false (.t 8), none, false⟩,
 ⟨10, .ar .neq false (.t 7) (.t 9), none, false⟩])
 (.ite (.t 10)
 (.seq
 (.reg false [⟨4, .mv (.k (.sc (.bool false))), none, false⟩])
 .ret)
 .skip))
 (.seq
 (.seq
 (.reg false [⟨5, .mv (.k (.sc (.int .i64 0))), none, false⟩])
 (.cln [] [4]
 (.block 0
 (.loop [0, 1, 5] b26_1))))
 (.seq
 (.reg false [⟨4, .mv (.k (.sc (.bool true))), none, false⟩])
 .ret))))⟩
attribute [simp] i26
set_option maxRecDepth 1000000 in
theorem c26 : cFn Try.prog 26 [[], [0, 1, 5], [], [4]] = some i26 := by kernel_rfl
theorem e26 : enterOk Try.prog 26 = true := by kernel_rfl
def i27 : Ev.Fn := ⟨1, 4, [.tmp 2],
 (.seq
 (.reg false [⟨1, .bx (.t 0), none, false⟩,
 ⟨2, .mv (.k (.sc (.bool false))), none, false⟩])
 (.seq
 (.reg false [⟨3, .ca (.k (.cl 82 [])) [(.t 1)], none, false⟩,
 ⟨2, .mv (.t 3), none, false⟩])
 .ret))⟩
attribute [simp] i27
set_option maxRecDepth 1000000 in
theorem c27 : cFn Try.prog 27 [[]] = some i27 := by kernel_rfl
theorem e27 : enterOk Try.prog 27 = true := by kernel_rfl
def i28 : Ev.Fn := ⟨1, 46, [.tmp 2],
 (.seq
 (.reg false [⟨1, .bx (.t 0), none, false⟩,
 ⟨2, .mv (.k (.sc (.bool false))), none, false⟩])
 (.seq
 (.seq
 (.reg false [⟨3, .fa 0 (.t 1), none, false⟩,
 ⟨4, .ld 1 false (.t 3), none, false⟩,
 ⟨5, .ca (.k (.cl 83 [])) [(.t 4)], none, false⟩,
 ⟨6, .nt (.t 5), none, false⟩,
 ⟨7, .mv (.t 6), none, false⟩,
 ⟨8, .fa 1 (.t 1), (some (7, false)), false⟩,
 ⟨9, .ld 1 false (.t 8), (some (7, false)), false⟩,
 ⟨10, .ca (.k (.cl 83 [])) [(.t 9)], (some (7, false)), false⟩,
 ⟨11, .nt (.t 10), (some (7, false)), false⟩,
 ⟨12, .pk (.t 7) (.k (.sc (.bool true))) (.t 11), none, false⟩,
 ⟨13, .mv (.t 12), none, false⟩,
 ⟨14, .fa 2 (.t 1), (some (13, false)), false⟩,
 ⟨15, .ld 1 false (.t 14), (some (13, false)), false⟩,
 ⟨16, .ca (.k (.cl 84 [])) [(.t 15), (.k (.sc (.int .i64 0))), (.k (.sc (.int .i64 999)))], (some (13, false)), false⟩,
 ⟨17, .nt (.t 16), (some (13, false)), false⟩,
 ⟨18, .pk (.t 13) (.k (.sc (.bool true))) (.t 17), none, false⟩,
 ⟨19, .mv (.t 18), none, false⟩,
 ⟨20, .fa 3 (.t 1), (some (19, false)), false⟩,
 ⟨21, .ld 3 true (.t 20), (some (19, false)), false⟩,
 ⟨22, .ca (.k (.cl 80 [])) [(.t 21)], (some (19, false)), false⟩,
 ⟨23, .nt (.t 22), (some (19, false)), false⟩,
 ⟨24, .pk (.t 19) (.k (.sc (.bool true))) (.t 23), none, false⟩])
 (.ite (.t 24)
 (.seq
 (.reg false [⟨2, .mv (.k (.sc (.bool false))), none, false⟩])
 .ret)
 .skip))
 (.seq
 (.seq
 (.reg false [⟨25, .fa 6 (.t 1), none, false⟩,
 ⟨26, .ld 1 false (.t 25), none, false⟩,
 ⟨27, .ca (.k (.cl 84 [])) [(.t 26), (.k (.sc (.int .i64 10))), (.k (.sc (.int .i64 20000)))], none, false⟩,
 ⟨28, .nt (.t 27), none, false⟩,
 ⟨29, .mv (.t 28), none, false⟩,
 ⟨30, .fa 7 (.t 1), (some (29, false)), false⟩,
 ⟨31, .ld 1 false (.t 30), (some (29, false)), false⟩,
 ⟨32, .ca (.k (.cl 84 [])) [(.t 31), (.k (.sc (.int .i64 10))), (.k (.sc (.int .i64 20000)))], (some (29, false)), false⟩,
 ⟨33, .nt (.t 32), (some (29, false)), false⟩,
 ⟨34, .pk (.t 29) (.k (.sc (.bool true))) (.t 33), none, false⟩,
 ⟨35, .mv (.t 34), none, false⟩,
 ⟨36, .fa 8 (.t 1), (some (35, false)), false⟩,
 ⟨37, .ld 1 false (.t 36), (some (35, false)), false⟩,
 ⟨38, .ln false (.t 37), (some (35, false)), false⟩,
 ⟨39, .ar .gtr false (.t 38) (.k (.sc (.int .i64 6))), (some (35, false)), false⟩,
 ⟨40, .pk (.t 35) (.k (.sc (.bool true))) (.t 39), none, false⟩])
 (.ite (.t 40)
 (.seq
 (.reg false [⟨2, .mv (.k (.sc (.bool false))), none, false⟩])
 .ret)
 .skip))
 (.seq
 (.reg false [⟨41, .fa 8 (.t 1), none, false⟩,
 ⟨42, .ld 1 false (.t 41), none, false⟩,
 ⟨43, .mf 86 [(.t 1)], none, false⟩,
 ⟨44, .ca (.k (.cl 85 [])) [(.t 42), (.t 43)], none, false⟩,
 ⟨45, .nt (.t 44), none, false⟩,
 ⟨2, .mv (.t 45), none, false⟩])
 .ret))))⟩
attribute [simp] i28
set_option maxRecDepth 1000000 in
theorem c28 : cFn Try.prog 28 [[]] = some i28 := by kernel_rfl
theorem e28 : enterOk Try.prog 28 = true := by kernel_rfl
def w29_1 : IC :=
(.seq
 (.seq
 (.reg false [⟨29, .mv (.t 9), none, false⟩,
 ⟨30, .fa 8 (.t 3), none, false⟩,
 ⟨31, .ld 1 false (.t 30), none, false⟩,
 ⟨32, .ln false (.t 31), none, false⟩,
 ⟨33, .ar .lss false (.t 29) (.t 32), none, false⟩])
 (.ite (.t 33)
 .skip
 (.exit 0)))
 (.seq
 (.block 1
 (.seq
 (.reg false [⟨36, .fa 8 (.t 3), none, false⟩,
 ⟨37, .ld 1 false (.t 36), none, false⟩,
 ⟨38, .mv (.t 9), none, false⟩,
 ⟨39, .ia 4 (.t 37) (.t 38), none, false⟩,
 ⟨40, .ca (.k (.cl 89 [])) [(.t 8), (.t 39)], none, false⟩])
 (.ite (.t 40)
 (.seq
 (.reg false [⟨41, .mv (.t 9), none, false⟩,
 ⟨6, .mv (.t 41), none, false⟩,
 ⟨7, .mv (.k (.sc (.int .i64 0))), none, false⟩])
 .ret)
 .skip)))
 (.reg false [⟨34, .mv (.t 9), none, false⟩,
 ⟨35, .ar .add false (.t 34) (.k (.sc (.int .i64 1))), none, false⟩,
 ⟨9, .mv (.t 35), none, false⟩])))
def b29_1 : IC := w29_1
theorem u29_1 (call : CallF) (st : St) : evC call b29_1 st = evC call w29_1 st := rfl
attribute [simp] u29_1 w29_1
def i29 : Ev.Fn := ⟨3, 42, [.tmp 6, .tmp 7],
 (.seq
 (.reg false [⟨3, .bx (.t 0), none, false⟩,
 ⟨6, .mv (.k (.sc (.int .i64 0))), none, false⟩,
 ⟨7, .mv (.k (.sc (.int .i64 0))), none, false⟩])
 (.seq
 (.seq
 (.reg false [⟨10, .ca (.k (.cl 82 [])) [(.t 3)], none, false⟩,
 ⟨11, .nt (.t 10), none, false⟩])
 (.ite (.t 11)
 (.seq
 (.reg false [⟨6, .mv (.k (.sc (.int .i64 0))), none, false⟩,
 ⟨7, .mv (.k (.sc (.int .i64 1))), none, false⟩])
 .ret)
 .skip))
 (.seq
 (.seq
 (.reg false [⟨12, .mv (.t 1), none, false⟩,
 ⟨13, .fa 6 (.t 3), none, false⟩,
 ⟨14, .ld 1 false (.t 13), none, false⟩,
 ⟨15, .ar .sub false (.t 14) (.k (.sc (.int .i64 1))), none, false⟩,
 ⟨16, .ca (.k (.cl 88 [])) [(.t 12), (.k (.sc (.int .i64 0))), (.t 15)], none, false⟩,
 ⟨17, .nt (.t 16), none, false⟩,
 ⟨18, .mv (.t 17), none, false⟩,
 ⟨19, .mv (.t 2), (some (18, false)), false⟩,
 ⟨20, .fa 7 (.t 3), (some (18, false)), false⟩,
 ⟨21, .ld 1 false (.t 20), (some (18, false)), false⟩,
 ⟨22, .ar .sub false (.t 21) (.k (.sc (.int .i64 1))), (some (18, false)), false⟩,
 ⟨23, .ca (.k (.cl 88 [])) [(.t 19), (.k (.sc (.int .i64 0))), (.t 22)], (some (18, false)), false⟩,
 ⟨24, .nt (.t 23), (some (18, false)), false⟩,
 ⟨25, .pk (.t 18) (.k (.sc (.bool true))) (.t 24), none, false⟩])
 (.ite (.t 25)
 (.seq
 (.reg false [⟨6, .mv (.k (.sc (.int .i64 0))), none, false⟩,
 ⟨7, .mv (.k (.sc (.int .i64 2))), none, false⟩])
 .ret)
 .skip))
 (.seq
 (.reg false [⟨26, .mv (.t 1), none, false⟩,
 ⟨27, .mv (.t 2), none, false⟩,
 ⟨28, .bd [(.sc (.int .i64 0)), (.sc (.int .i64 0)), (.sc (.int .i64 0)), (.sc (.int .i64 0))] [(0, 1, (.t 26)), (1, 1, (.t 27)), (2, 1, (.k (.sc (.int .i64 1)))), (3, 1, (.k (.sc (.int .i64 1))))], none, false⟩,
 ⟨8, .al [(.sc (.int .i64 0)), (.sc (.int .i64 0)), (.sc (.int .i64 0)), (.sc (.int .i64 0))], none, false⟩,
 ⟨1, .so 4 (.t 8) (.t 28), none, true⟩])
 (.seq
 (.seq
 (.reg false [⟨9, .mv (.k (.sc (.int .i64 0))), none, false⟩])
 (.cln [] [6, 7]
 (.block 0
 (.loop [3, 8, 9] b29_1))))
 (.seq
 (.reg false [⟨6, .mv (.k (.sc (.int .i64 0))), none, false⟩,
 ⟨7, .mv (.k (.sc (.int .i64 3))), none, false⟩])
 .ret))))))⟩
attribute [simp] i29
set_option maxRecDepth 1000000 in
theorem c29 : cFn Try.prog 29 [[], [3, 8, 9], [], [6, 7]] = some i29 := by kernel_rfl
theorem e29 : enterOk Try.prog 29 = true := by kernel_rfl
def w30_1 : IC :=
(.seq
 (.reg false [⟨33, .ar .lss false (.t 32) (.t 31), none, false⟩])
 (.seq
 (.ite (.t 33)
 .skip
 (.exit 1))
 (.seq
 (.block 2
 (.seq
 (.reg false [⟨34, .mv (.t 32), none, false⟩,
 ⟨35, .ia 4 (.t 30) (.t 32), none, false⟩,
 ⟨36, .ld 4 true (.t 35), none, false⟩,
 ⟨9, .al [(.sc (.int .i64 0)), (.sc (.int .i64 0)), (.sc (.int .i64 0)), (.sc (.int .i64 0))], none, false⟩,
 ⟨8, .mv (.t 34), none, false⟩,
 ⟨1, .so 4 (.t 9) (.t 36), none, true⟩])
 (.seq
 (.reg false [⟨37, .ld 4 true (.t 9), none, false⟩,
 ⟨38, .mv (.t 1), none, false⟩,
 ⟨39, .mv (.t 2), none, false⟩,
 ⟨40, .bd [(.sc (.int .i64 0)), (.sc (.int .i64 0)), (.sc (.int .i64 0)), (.sc (.int .i64 0))] [(0, 1, (.t 38)), (1, 1, (.t 39)), (2, 1, (.k (.sc (.int .i64 1)))), (3, 1, (.k (.sc (.int .i64 1))))], none, false⟩,
 ⟨41, .ca (.k (.cl 90 [])) [(.t 37), (.t 40)], none, false⟩])
 (.ite (.t 41)
 (.seq
 (.reg false [⟨42, .mv (.t 8), none, false⟩,
 ⟨6, .mv (.t 42), none, false⟩,
 ⟨7, .mv (.k (.sc (.int .i64 0))), none, false⟩])
 .ret)
 .skip))))
 (.reg false [⟨43, .ar .add false (.t 32) (.k (.sc (.int .i64 1))), none, false⟩,
 ⟨32, .mv (.t 43), none, false⟩]))))
def b30_1 : IC := w30_1
theorem u30_1 (call : CallF) (st : St) : evC call b30_1 st = evC call w30_1 st := rfl
attribute [simp] u30_1 w30_1
def i30 : Ev.Fn := ⟨3, 44, [.tmp 6, .tmp 7],
 (.seq
 (.reg false [⟨3, .bx (.t 0), none, false⟩,
 ⟨6, .mv (.k (.sc (.int .i64 0))), none, false⟩,
 ⟨7, .mv (.k (.sc (.int .i64 0))), none, false⟩])
 (.seq
 (.block 0
 (.seq
 (.reg false [⟨11, .ld 9 true (.t 3), none, false⟩,
 ⟨12, .ca (.k (.cl 28 [])) [(.t 11)], none, false⟩,
 ⟨13, .nt (.t 12), none, false⟩,
 ⟨10, .mv (.t 13), none, false⟩])
 (.ite (.t 10)
 (.seq
 (.reg false [⟨6, .mv (.k (.sc (.int .i64 0))), none, false⟩,
 ⟨7, .mv (.k (.sc (.int .i64 1))), none, false⟩])
 .ret)
 (.seq
 (.reg false [⟨15, .mv (.t 1), none, false⟩,
 ⟨16, .fa 6 (.t 3), none, false⟩,
 ⟨17, .ld 1 false (.t 16), none, false⟩,
 ⟨18, .ar .sub false (.t 17) (.k (.sc (.int .i64 1))), none, false⟩,
 ⟨19, .ca (.k (.cl 84 [])) [(.t 15), (.k (.sc (.int .i64 0))), (.t 18)], none, false⟩,
 ⟨20, .nt (.t 19), none, false⟩,
 ⟨21, .mv (.t 20), none, false⟩,
 ⟨22, .mv (.t 2), (some (21, false)), false⟩,
 ⟨23, .fa 7 (.t 3), (some (21, false)), false⟩,
 ⟨24, .ld 1 false (.t 23), (some (21, false)), false⟩,
 ⟨25, .ar .sub false (.t 24) (.k (.sc (.int .i64 1))), (some (21, false)), false⟩,
 ⟨26, .ca (.k (.cl 84 [])) [(.t 22), (.k (.sc (.int .i64 0))), (.t 25)], (some (21, false)), false⟩,
 ⟨27, .nt (.t 26), (some (21, false)), false⟩,
 ⟨28, .pk (.t 21) (.k (.sc (.bool true))) (.t 27), none, false⟩,
 ⟨14, .mv (.t 28), none, false⟩])
 (.ite (.t 14)
 (.seq
 (.reg false [⟨6, .mv (.k (.sc (.int .i64 0))), none, false⟩,
 ⟨7, .mv (.k (.sc (.int .i64 2))), none, false⟩])
 .ret)
 .skip)))))
 (.seq
 (.seq
 (.reg false [⟨29, .fa 8 (.t 3), none, false⟩,
 ⟨30, .ld 1 false (.t 29), none, false⟩,
 ⟨31, .ln false (.t 30), none, false⟩,
 ⟨32, .mv (.k (.sc (.int .i64 0))), none, false⟩])
 (.cln [] [6, 7]
 (.block 1
 (.loop [1, 2, 30, 31, 32] b30_1))))
 (.seq
 (.reg false [⟨6, .mv (.k (.sc (.int .i64 0))), none, false⟩,
 ⟨7, .mv (.k (.sc (.int .i64 3))), none, false⟩])
 .ret))))⟩
attribute [simp] i30
set_option maxRecDepth 1000000 in
theorem c30 : cFn Try.prog 30 [[], [1, 2, 30, 31, 32], [], [6, 7]] = some i30 := by kernel_rfl
theorem e30 : enterOk Try.prog 30 = true := by kernel_rfl
def w31_1 : IC :=
(.seq
 (.seq
 (.reg false [⟨12, .mv (.t 5), none, false⟩,
 ⟨13, .mv (.t 0), none, false⟩,
 ⟨14, .ln false (.t 13), none, false⟩,
 ⟨15, .ar .lss false (.t 12) (.t 14), none, false⟩])
 (.ite (.t 15)
 .skip
 (.exit 0)))
 (.seq
 (.block 1
 (.seq
 (.reg false [⟨18, .mv (.t 0), none, false⟩,
 ⟨19, .mv (.t 5), none, false⟩,
 ⟨20, .ia 9 (.t 18) (.t 19), none, false⟩,
 ⟨21, .ld 9 true (.t 20), none, false⟩,
 ⟨22, .mv (.t 1), none, false⟩,
 ⟨23, .ca (.k (.cl 17 [])) [(.t 21), (.t 22)], none, false⟩,
 ⟨1, .mv (.t 23), none, false⟩])
 (.seq
 (.reg false [⟨24, .mv (.t 1), none, false⟩,
 ⟨25, .ar .lss false (.t 24) (.k (.sc (.int .i64 0))), none, false⟩])
 (.ite (.t 25)
 (.seq
 (.reg false [⟨4, .mv (.k (.sc (.int .i64 (-1)))), none, false⟩])
 .ret)
 .skip))))
 (.reg false [⟨16, .mv (.t 5), none, false⟩,
 ⟨17, .ar .add false (.t 16) (.k (.sc (.int .i64 1))), none, false⟩,
 ⟨5, .mv (.t 17), none, false⟩])))
def b31_1 : IC := w31_1
theorem u31_1 (call : CallF) (st : St) : evC call b31_1 st = evC call w31_1 st := rfl
attribute [simp] u31_1 w31_1
def i31 : Ev.Fn := ⟨2, 27, [.tmp 4],
 (.seq
 (.reg false [⟨4, .mv (.k (.sc (.int .i64 0))), none, false⟩])
 (.seq
 (.reg false [⟨6, .mv (.t 1), none, false⟩,
 ⟨7, .mv (.t 0), none, false⟩,
 ⟨8, .ln false (.t 7), none, false⟩,
 ⟨9, .ar .sub false (.t 6) (.t 8), none, false⟩,
 ⟨1, .mv (.t 9), none, false⟩])
 (.seq
 (.seq
 (.reg false [⟨10, .mv (.t 1), none, false⟩,
 ⟨11, .ar .lss false (.t 10) (.k (.sc (.int .i64 0))), none, false⟩])
 (.ite (.t 11)
 (.seq
 (.reg false [⟨4, .mv (.k (.sc (.int .i64 (-1)))), none, false⟩])
 .ret)
 .skip))
 (.seq
 (.seq
 (.reg false [⟨5, .mv (.k (.sc (.int .i64 0))), none, false⟩])
 (.cln [1] [4]
 (.block 0
 (.loop [0, 1, 5] b31_1))))
 (.seq
 (.reg false [⟨26, .mv (.t 1), none, false⟩,
 ⟨4, .mv (.t 26), none, false⟩])
 .ret)))))⟩
attribute [simp] i31
set_option maxRecDepth 1000000 in
theorem c31 : cFn Try.prog 31 [[], [0, 1, 5], [1], [4]] = some i31 := by kernel_rfl
theorem e31 : enterOk Try.prog 31 = true := by kernel_rfl
def i32 : Ev.Fn := ⟨1, 5, [.tmp 2],
 (.seq
 (.reg false [⟨2, .mv (.k (.sc (.bool false))), none, false⟩])
 (.seq
 (.reg false [⟨3, .mv (.t 0), none, false⟩,
 ⟨4, .ca (.k (.cl 91 [])) [(.t 3)], none, false⟩,
 ⟨2, .mv (.t 4), none, false⟩])
 .ret))⟩
attribute [simp] i32
set_option maxRecDepth 1000000 in
theorem c32 : cFn Try.prog 32 [[]] = some i32 := by kernel_rfl
theorem e32 : enterOk Try.prog 32 = true := by kernel_rfl
def w33_1 : IC :=
(.seq
 (.seq
 (.reg false [⟨8, .mv (.t 4), none, false⟩,
 ⟨9, .mv (.t 0), none, false⟩,
 ⟨10, .ln false (.t 9), none, false⟩,
 ⟨11, .ar .lss false (.t 8) (.t 10), none, false⟩])
 (.ite (.t 11)
 .skip
 (.exit 0)))
 (.seq
 (.block 1
 (.reg false [⟨14, .mv (.t 3), none, false⟩,
 ⟨15, .mv (.t 4), none, false⟩,
 ⟨16, .mv (.t 0), none, false⟩,
 ⟨17, .mv (.t 4), none, false⟩,
 ⟨18, .ia 9 (.t 16) (.t 17), none, false⟩,
 ⟨19, .ld 9 true (.t 18), none, false⟩,
 ⟨20, .ca (.k (.cl 19 [])) [(.t 19)], none, false⟩,
 ⟨21, .ia 9 (.t 14) (.t 15), none, false⟩,
 ⟨1, .so 9 (.t 21) (.t 20), none, true⟩]))
 (.reg false [⟨12, .mv (.t 4), none, false⟩,
 ⟨13, .ar .add false (.t 12) (.k (.sc (.int .i64 1))), none, false⟩,
 ⟨4, .mv (.t 13), none, false⟩])))
def b33_1 : IC := w33_1
theorem u33_1 (call : CallF) (st : St) : evC call b33_1 st = evC call w33_1 st := rfl
attribute [simp] u33_1 w33_1
def i33 : Ev.Fn := ⟨1, 23, [.tmp 2],
 (.seq
 (.reg false [⟨2, .mv (.k .nl), none, false⟩])
 (.seq
 (.reg false [⟨5, .mv (.t 0), none, false⟩,
 ⟨6, .ln false (.t 5), none, false⟩,
 ⟨7, .ms 32 9 [(.sc (.string ⟨#[]⟩)), (.sc (.string ⟨#[]⟩)), (.sc (.int .i64 0)), (.sc (.string ⟨#[]⟩)), (.sc (.int .i64 0)), (.sc (.int .i64 0)), (.sc (.int .i64 0)), (.sc (.int .i64 0)), .nl] (.t 6), none, false⟩,
 ⟨3, .mv (.t 7), none, false⟩])
 (.seq
 (.seq
 (.reg false [⟨4, .mv (.k (.sc (.int .i64 0))), none, false⟩])
 (.cln [3] [2]
 (.block 0
 (.loop [0, 3, 4] b33_1))))
 (.seq
 (.reg false [⟨22, .mv (.t 3), none, false⟩,
 ⟨2, .mv (.t 22), none, false⟩])
 .ret))))⟩
attribute [simp] i33
set_option maxRecDepth 1000000 in
theorem c33 : cFn Try.prog 33 [[], [0, 3, 4], [3], [2]] = some i33 := by kernel_rfl
theorem e33 : enterOk Try.prog 33 = true := by kernel_rfl
def w34_1 : IC :=
(.seq
 (.reg false [⟨8, .ar .lss false (.t 7) (.t 6), none, false⟩])
 (.seq
 (.ite (.t 8)
 .skip
 (.exit 0))
 (.seq
 (.block 1
 (.seq
 (.reg false [⟨9, .mv (.t 7), none, false⟩,
 ⟨10, .ia 9 (.t 5) (.t 7), none, false⟩,
 ⟨11, .ld 9 true (.t 10), none, false⟩,
 ⟨4, .al [(.sc (.string ⟨#[]⟩)), (.sc (.string ⟨#[]⟩)), (.sc (.int .i64 0)), (.sc (.string ⟨#[]⟩)), (.sc (.int .i64 0)), (.sc (.int .i64 0)), (.sc (.int .i64 0)), (.sc (.int .i64 0)), .nl], none, false⟩,
 ⟨3, .mv (.t 9), none, false⟩,
 ⟨1, .so 9 (.t 4) (.t 11), none, true⟩])
 (.seq
 (.reg true [⟨12, .ld 9 true (.t 4), none, false⟩,
 ⟨13, .ca (.k (.cl 28 [])) [(.t 12)], none, false⟩,
 ⟨14, .nt (.t 13), none, false⟩,
 ⟨15, .mv (.t 14), none, false⟩,
 ⟨16, .mv (.t 3), (some (15, false)), false⟩,
 ⟨17, .ar .gtr false (.t 16) (.k (.sc (.int .i64 0))), (some (15, false)), false⟩,
 ⟨18, .mv (.t 17), (some (15, false)), false⟩,
 ⟨19, .mv (.t 0), (some (18, true)), false⟩,
 ⟨20, .mv (.t 3), (some (18, true)), false⟩,
 ⟨21, .ar .sub false (.t 20) (.k (.sc (.int .i64 1))), (some (18, true)), false⟩,
 ⟨22, .ia 9 (.t 19) (.t 21), (some (18, true)), false⟩,
 ⟨23, .fa 0 (.t 22), (some (18, true)), false⟩,
 ⟨24, .ld 1 false (.t 23), (some (18, true)), false⟩,
 ⟨25, .fa 0 (.t 4), (some (18, true)), false⟩,
 ⟨26, .ld 1 false (.t 25), (some (18, true)), false⟩,
 ⟨27, .ar .geq false (.t 24) (.t 26), (some (18, true)), false⟩,
 ⟨28, .pk (.t 18) (.t 27) (.k (.sc (.bool false))), (some (15, false)), false⟩,
 ⟨29, .pk (.t 15) (.k (.sc (.bool true))) (.t 28), none, false⟩])
 (.ite (.t 29)
 (.seq
 (.reg false [⟨2, .mv (.k (.sc (.bool false))), none, false⟩])
 .ret)
 .skip))))
 (.reg false [⟨30, .ar .add false (.t 7) (.k (.sc (.int .i64 1))), none, false⟩,
 ⟨7, .mv (.t 30), none, false⟩]))))
def b34_1 : IC := w34_1
theorem u34_1 (call : CallF) (st : St) : evC call b34_1 st = evC call w34_1 st := rfl
attribute [simp] u34_1 w34_1
def i34 : Ev.Fn := ⟨1, 34, [.tmp 2],
 (.seq
 (.reg false [⟨2, .mv (.k (.sc (.bool false))), none, false⟩])
 (.seq
 (.seq
 (.reg false [⟨5, .mv (.t 0), none, false⟩,
 ⟨6, .ln false (.t 5), none, false⟩,
 ⟨7, .mv (.k (.sc (.int .i64 0))), none, false⟩])
 (.cln [0] [2]
 (.block 0
 (.loop [0, 5, 6, 7] b34_1))))
 (.seq
 (.reg false [⟨31, .mv (.t 0), none, false⟩,
 ⟨32, .ln false (.t 31), none, false⟩,
 ⟨33, .ar .leq false (.t 32) (.k (.sc (.int .i64 16))), none, false⟩,
 ⟨2, .mv (.t 33), none, false⟩])
 .ret)))⟩
attribute [simp] i34
set_option maxRecDepth 1000000 in
theorem c34 : cFn Try.prog 34 [[], [0, 5, 6, 7], [0], [2]] = some i34 := by kernel_rfl
theorem e34 : enterOk Try.prog 34 = true := by kernel_rfl
def w35_1 : IC :=
(.seq
 (.seq
 (.reg false [⟨11, .mv (.t 5), none, false⟩,
 ⟨12, .mv (.t 0), none, false⟩,
 ⟨13, .ln false (.t 12), none, false⟩,
 ⟨14, .ar .lss false (.t 11) (.t 13), none, false⟩])
 (.ite (.t 14)
 .skip
 (.exit 0)))
 (.seq
 (.block 1
 (.seq
 (.reg true [⟨17, .mv (.t 0), none, false⟩,
 ⟨18, .mv (.t 5), none, false⟩,
 ⟨19, .ia 9 (.t 17) (.t 18), none, false⟩,
 ⟨20, .ld 9 true (.t 19), none, false⟩,
 ⟨21, .mv (.t 1), none, false⟩,
 ⟨22, .mv (.t 5), none, false⟩,
 ⟨23, .ia 9 (.t 21) (.t 22), none, false⟩,
 ⟨24, .ld 9 true (.t 23), none, false⟩,
 ⟨25, .ca (.k (.cl 21 [])) [(.t 20), (.t 24)], none, false⟩,
 ⟨26, .nt (.t 25), none, false⟩])
 (.ite (.t 26)
 (.seq
 (.reg false [⟨4, .mv (.k (.sc (.bool false))), none, false⟩])
 .ret)
 .skip)))
 (.reg false [⟨15, .mv (.t 5), none, false⟩,
 ⟨16, .ar .add false (.t 15) (.k (.sc (.int .i64 1))), none, false⟩,
 ⟨5, .mv (.t 16), none, false⟩])))
def b35_1 : IC := w35_1
theorem u35_1 (call : CallF) (st : St) : evC call b35_1 st = evC call w35_1 st := rfl
attribute [simp] u35_1 w35_1
def i35 : Ev.Fn := ⟨2, 27, [.tmp 4],
 (.seq
 (.reg false [⟨4, .mv (.k (.sc (.bool false))), none, false⟩])
 (.seq
 (.seq
 (.reg false [⟨6, .mv (.t 0), none, false⟩,
 ⟨7, .ln false (.t 6), none, false⟩,
 ⟨8, .mv (.t 1), none, false⟩,
 ⟨9, .ln false (.t 8), none, false⟩,
 ⟨10, .ar .neq false (.t 7) (.t 9), none, false⟩])
 (.ite (.t 10)
 (.seq
 (.reg false [⟨4, .mv (.k (.sc (.bool false))), none, false⟩])
 .ret)
 .skip))
 (.seq
 (.seq
 (.reg false [⟨5, .mv (.k (.sc (.int .i64 0))), none, false⟩])
 (.cln [] [4]
 (.block 0
 (.loop [0, 1, 5] b35_1))))
 (.seq
 (.reg false [⟨4, .mv (.k (.sc (.bool true))), none, false⟩])
 .ret))))⟩
attribute [simp] i35
set_option maxRecDepth 1000000 in
theorem c35 : cFn Try.prog 35 [[], [0, 1, 5], [], [4]] = some i35 := by kernel_rfl
theorem e35 : enterOk Try.prog 35 = true := by kernel_rfl
def i36 : Ev.Fn := ⟨2, 18, [.tmp 4],
 (.seq
 (.reg false [⟨2, .bx (.t 0), none, false⟩,
 ⟨4, .mv (.k (.sc (.int .i64 0))), none, false⟩])
 (.seq
 (.reg false [⟨5, .fa 0 (.t 2), none, false⟩,
 ⟨6, .ld 4 true (.t 5), none, false⟩,
 ⟨7, .mv (.t 1), none, false⟩,
 ⟨8, .ca (.k (.cl 66 [])) [(.t 6), (.t 7)], none, false⟩,
 ⟨1, .mv (.t 8), none, false⟩])
 (.seq
 (.seq
 (.reg false [⟨9, .mv (.t 1), none, false⟩,
 ⟨10, .ar .lss false (.t 9) (.k (.sc (.int .i64 0))), none, false⟩])
 (.ite (.t 10)
 (.seq
 (.reg false [⟨4, .mv (.k (.sc (.int .i64 (-1)))), none, false⟩])
 .ret)
 .skip))
 (.seq
 (.reg false [⟨11, .fa 4 (.t 2), none, false⟩,
 ⟨12, .ld 1 false (.t 11), none, false⟩,
 ⟨13, .mv (.t 1), none, false⟩,
 ⟨14, .ca (.k (.cl 22 [])) [(.t 12), (.t 13)], none, false⟩,
 ⟨1, .mv (.t 14), none, false⟩])
 (.seq
 (.seq
 (.reg false [⟨15, .mv (.t 1), none, false⟩,
 ⟨16, .ar .lss false (.t 15) (.k (.sc (.int .i64 0))), none, false⟩])
 (.ite (.t 16)
 (.seq
 (.reg false [⟨4, .mv (.k (.sc (.int .i64 (-1)))), none, false⟩])
 .ret)
 .skip))
 (.seq
 (.reg false [⟨17, .mv (.t 1), none, false⟩,
 ⟨4, .mv (.t 17), none, false⟩])
 .ret))))))⟩
attribute [simp] i36
set_option maxRecDepth 1000000 in
theorem c36 : cFn Try.prog 36 [[]] = some i36 := by kernel_rfl
theorem e36 : enterOk Try.prog 36 = true := by kernel_rfl
def i37 : Ev.Fn := ⟨2, 6, [.tmp 4],
 (.seq
 (.reg false [⟨2, .bx (.t 0), none, false⟩,
 ⟨3, .bx (.t 1), none, false⟩,
 ⟨4, .mv (.k (.sc (.bool false))), none, false⟩])
 (.seq
 (.reg false [⟨5, .ca (.k (.cl 92 [])) [(.t 2), (.t 3)], none, false⟩,
 ⟨4, .mv (.t 5), none, false⟩])
 .ret))⟩
attribute [simp] i37
set_option maxRecDepth 1000000 in
theorem c37 : cFn Try.prog 37 [[]] = some i37 := by kernel_rfl
theorem e37 : enterOk Try.prog 37 = true := by kernel_rfl
def i38 : Ev.Fn := ⟨1, 13, [.cell 2 5 true],
 (.seq
 (.reg false [⟨1, .bx (.t 0), none, false⟩,
 ⟨2, .al [(.sc (.int .i64 0)), (.sc (.int .i64 0)), .nl, .nl, .nl], none, false⟩])
 (.seq
 (.reg false [⟨3, .al [(.sc (.int .i64 0)), (.sc (.int .i64 0)), .nl, .nl, .nl], none, false⟩])
 (.seq
 (.reg false [⟨4, .fa 0 (.t 1), none, false⟩,
 ⟨5, .ld 4 true (.t 4), none, false⟩,
 ⟨6, .ca (.k (.cl 68 [])) [(.t 5)], none, false⟩,
 ⟨7, .fa 0 (.t 3), none, false⟩,
 ⟨1, .so 4 (.t 7) (.t 6), none, true⟩])
 (.seq
 (.reg false [⟨8, .fa 4 (.t 1), none, false⟩,
 ⟨9, .ld 1 false (.t 8), none, false⟩,
 ⟨10, .ca (.k (.cl 24 [])) [(.t 9)], none, false⟩,
 ⟨11, .fa 4 (.t 3), none, false⟩,
 ⟨1, .so 1 (.t 11) (.t 10), none, true⟩])
 (.seq
 (.reg false [⟨12, .ld 5 true (.t 3), none, false⟩,
 ⟨1, .so 5 (.t 2) (.t 12), none, true⟩])
 .ret)))))⟩
attribute [simp] i38
set_option maxRecDepth 1000000 in
theorem c38 : cFn Try.prog 38 [[]] = some i38 := by kernel_rfl
theorem e38 : enterOk Try.prog 38 = true := by kernel_rfl
def i39 : Ev.Fn := ⟨2, 17, [.tmp 4],
 (.seq
 (.reg false [⟨2, .bx (.t 0), none, false⟩,
 ⟨3, .bx (.t 1), none, false⟩,
 ⟨4, .mv (.k (.sc (.bool false))), none, false⟩])
 (.seq
 (.reg false [⟨5, .fa 0 (.t 2), none, false⟩,
 ⟨6, .ld 4 true (.t 5), none, false⟩,
 ⟨7, .fa 0 (.t 3), none, false⟩,
 ⟨8, .ld 4 true (.t 7), none, false⟩,
 ⟨9, .ca (.k (.cl 93 [])) [(.t 6), (.t 8)], none, false⟩,
 ⟨10, .mv (.t 9), none, false⟩,
 ⟨11, .fa 4 (.t 2), (some (10, true)), false⟩,
 ⟨12, .ld 1 false (.t 11), (some (10, true)), false⟩,
 ⟨13, .fa 4 (.t 3), (some (10, true)), false⟩,
 ⟨14, .ld 1 false (.t 13), (some (10, true)), false⟩,
 ⟨15, .ca (.k (.cl 94 [])) [(.t 12), (.t 14)], (some (10, true)), false⟩,
 ⟨16, .pk (.t 10) (.t 15) (.k (.sc (.bool false))), none, false⟩,
 ⟨4, .mv (.t 16), none, false⟩])
 .ret))⟩
attribute [simp] i39
set_option maxRecDepth 1000000 in
theorem c39 : cFn Try.prog 39 [[]] = some i39 := by kernel_rfl
theorem e39 : enterOk Try.prog 39 = true := by kernel_rfl
def i40 : Ev.Fn := ⟨2, 17, [.tmp 4],
 (.seq
 (.reg false [⟨2, .bx (.t 0), none, false⟩,
 ⟨3, .bx (.t 1), none, false⟩,
 ⟨4, .mv (.k (.sc (.bool false))), none, false⟩])
 (.seq
 (.seq
 (.reg false [⟨5, .fa 0 (.t 2), none, false⟩,
 ⟨6, .ld 4 true (.t 5), none, false⟩,
 ⟨7, .fa 0 (.t 3), none, false⟩,
 ⟨8, .ld 4 true (.t 7), none, false⟩,
 ⟨9, .ca (.k (.cl 70 [])) [(.t 6), (.t 8)], none, false⟩,
 ⟨10, .nt (.t 9), none, false⟩])
 (.ite (.t 10)
 (.seq
 (.reg false [⟨4, .mv (.k (.sc (.bool false))), none, false⟩])
 .ret)
 .skip))
 (.seq
 (.seq
 (.reg false [⟨11, .fa 4 (.t 2), none, false⟩,
 ⟨12, .ld 1 false (.t 11), none, false⟩,
 ⟨13, .fa 4 (.t 3), none, false⟩,
 ⟨14, .ld 1 false (.t 13), none, false⟩,
 ⟨15, .ca (.k (.cl 26 [])) [(.t 12), (.t 14)], none, false⟩,
 ⟨16, .nt (.t 15), none, false⟩])
 (.ite (.t 16)
 (.seq
 (.reg false [⟨4, .mv (.k (.sc (.bool false))), none, false⟩])
 .ret)
 .skip))
 (.seq
 (.reg false [⟨4, .mv (.k (.sc (.bool true))), none, false⟩])
 .ret))))⟩
attribute [simp] i40
set_option maxRecDepth 1000000 in
theorem c40 : cFn Try.prog 40 [[]] = some i40 := by kernel_rfl
theorem e40 : enterOk Try.prog 40 = true := by kernel_rfl
def i41 : Ev.Fn := ⟨3, 18, [.tmp 6, .tmp 7],
 (.seq
 (.reg false [⟨3, .bx (.t 0), none, false⟩,
 ⟨4, .bx (.t 1), none, false⟩,
 ⟨6, .mv (.k (.sc (.int .i64 0))), none, false⟩,
 ⟨7, .mv (.k (.sc (.int .i64 0))), none, false⟩])
 (.seq
 (.seq
 (.reg false [⟨8, .ld 9 true (.t 3), none, false⟩,
 ⟨9, .ca (.k (.cl 27 [])) [(.t 8)], none, false⟩,
 ⟨10, .nt (.t 9), none, false⟩,
 ⟨11, .mv (.t 10), none, false⟩,
 ⟨12, .ld 9 true (.t 4), (some (11, false)), false⟩,
 ⟨13, .ca (.k (.cl 27 [])) [(.t 12)], (some (11, false)), false⟩,
 ⟨14, .nt (.t 13), (some (11, false)), false⟩,
 ⟨15, .pk (.t 11) (.k (.sc (.bool true))) (.t 14), none, false⟩])
 (.ite (.t 15)
 (.seq
 (.reg false [⟨6, .mv (.k (.sc (.int .i64 0))), none, false⟩,
 ⟨7, .mv (.k (.sc (.int .i64 1))), none, false⟩])
 .ret)
 .skip))
 (.seq
 (.reg false [⟨16, .mv (.t 2), none, false⟩,
 ⟨17, .ca (.k (.cl 95 [])) [(.t 3), (.t 4), (.t 16)], none, false⟩,
 ⟨6, .mv (.t 17), none, false⟩,
 ⟨7, .mv (.k (.sc (.int .i64 0))), none, false⟩])
 .ret)))⟩
attribute [simp] i41
set_option maxRecDepth 1000000 in
theorem c41 : cFn Try.prog 41 [[]] = some i41 := by kernel_rfl
theorem e41 : enterOk Try.prog 41 = true := by kernel_rfl
def i42 : Ev.Fn := ⟨3, 20, [.tmp 6, .tmp 7],
 (.seq
 (.reg false [⟨3, .bx (.t 0), none, false⟩,
 ⟨4, .bx (.t 1), none, false⟩,
 ⟨6, .mv (.k (.sc (.int .i64 0))), none, false⟩,
 ⟨7, .mv (.k (.sc (.int .i64 0))), none, false⟩])
 (.seq
 (.seq
 (.reg false [⟨8, .ld 9 true (.t 3), none, false⟩,
 ⟨9, .ca (.k (.cl 28 [])) [(.t 8)], none, false⟩,
 ⟨10, .nt (.t 9), none, false⟩,
 ⟨11, .mv (.t 10), none, false⟩,
 ⟨12, .ld 9 true (.t 4), (some (11, false)), false⟩,
 ⟨13, .ca (.k (.cl 28 [])) [(.t 12)], (some (11, false)), false⟩,
 ⟨14, .nt (.t 13), (some (11, false)), false⟩,
 ⟨15, .pk (.t 11) (.k (.sc (.bool true))) (.t 14), none, false⟩])
 (.ite (.t 15)
 (.seq
 (.reg false [⟨6, .mv (.k (.sc (.int .i64 0))), none, false⟩,
 ⟨7, .mv (.k (.sc (.int .i64 1))), none, false⟩])
 .ret)
 .skip))
 (.seq
 (.reg false [⟨16, .ld 9 true (.t 3), none, false⟩,
 ⟨17, .ld 9 true (.t 4), none, false⟩,
 ⟨18, .mv (.t 2), none, false⟩,
 ⟨19, .ca (.k (.cl 96 [])) [(.t 16), (.t 17), (.t 18)], none, false⟩,
 ⟨6, .mv (.t 19), none, false⟩,
 ⟨7, .mv (.k (.sc (.int .i64 0))), none, false⟩])
 .ret)))⟩
attribute [simp] i42
set_option maxRecDepth 1000000 in
theorem c42 : cFn Try.prog 42 [[]] = some i42 := by kernel_rfl
theorem e42 : enterOk Try.prog 42 = true := by kernel_rfl
def i43 : Ev.Fn := ⟨1, 9, [.cell 2 9 true, .tmp 3],
 (.seq
 (.reg false [⟨1, .bx (.t 0), none, false⟩,
 ⟨2, .al [(.sc (.string ⟨#[]⟩)), (.sc (.string ⟨#[]⟩)), (.sc (.int .i64 0)), (.sc (.string ⟨#[]⟩)), (.sc (.int .i64 0)), (.sc (.int .i64 0)), (.sc (.int .i64 0)), (.sc (.int .i64 0)), .nl], none, false⟩,
 ⟨3, .mv (.k (.sc (.int .i64 0))), none, false⟩])
 (.seq
 (.seq
 (.reg false [⟨4, .ld 9 true (.t 1), none, false⟩,
 ⟨5, .ca (.k (.cl 27 [])) [(.t 4)], none, false⟩,
 ⟨6, .nt (.t 5), none, false⟩])
 (.ite (.t 6)
 (.seq
 (.reg false [⟨7, .bd [(.sc (.string ⟨#[]⟩)), (.sc (.string ⟨#[]⟩)), (.sc (.int .i64 0)), (.sc (.string ⟨#[]⟩)), (.sc (.int .i64 0)), (.sc (.int .i64 0)), (.sc (.int .i64 0)), (.sc (.int .i64 0)), .nl] [], none, false⟩,
 ⟨1, .so 9 (.t 2) (.t 7), none, true⟩,
 ⟨3, .mv (.k (.sc (.int .i64 1))), none, false⟩])
 .ret)
 .skip))
 (.seq
 (.reg false [⟨8, .ca (.k (.cl 97 [])) [(.t 1)], none, false⟩,
 ⟨1, .so 9 (.t 2) (.t 8), none, true⟩,
 ⟨3, .mv (.k (.sc (.int .i64 0))), none, false⟩])
 .ret)))⟩
attribute [simp] i43
set_option maxRecDepth 1000000 in
theorem c43 : cFn Try.prog 43 [[]] = some i43 := by kernel_rfl
theorem e43 : enterOk Try.prog 43 = true := by kernel_rfl
def w44_1 : IC :=
(.seq
 (.reg false [⟨17, .ar .lss false (.t 16) (.t 15), none, false⟩])
 (.seq
 (.ite (.t 17)
 .skip
 (.exit 0))
 (.seq
 (.block 1
 (.seq
 (.reg false [⟨18, .mv (.t 16), none, false⟩,
 ⟨19, .ia 4 (.t 14) (.t 16), none, false⟩,
 ⟨20, .ld 4 true (.t 19), none, false⟩,
 ⟨6, .al [(.sc (.int .i64 0)), (.sc (.int .i64 0)), (.sc (.int .i64 0)), (.sc (.int .i64 0))], none, false⟩,
 ⟨5, .mv (.t 18), none, false⟩,
 ⟨1, .so 4 (.t 6) (.t 20), none, true⟩])
 (.reg false [⟨21, .fa 8 (.t 4), none, false⟩,
 ⟨22, .ld 1 false (.t 21), none, false⟩,
 ⟨23, .mv (.t 5), none, false⟩,
 ⟨24, .fa 6 (.t 1), none, false⟩,
 ⟨25, .ld 1 false (.t 24), none, false⟩,
 ⟨26, .fa 0 (.t 6), none, false⟩,
 ⟨27, .ld 1 false (.t 26), none, false⟩,
 ⟨28, .ar .sub false (.t 25) (.t 27), none, false⟩,
 ⟨29, .fa 2 (.t 6), none, false⟩,
 ⟨30, .ld 1 false (.t 29), none, false⟩,
 ⟨31, .ar .sub false (.t 28) (.t 30), none, false⟩,
 ⟨32, .ia 4 (.t 22) (.t 23), none, false⟩,
 ⟨33, .fa 0 (.t 32), none, false⟩,
 ⟨1, .so 1 (.t 33) (.t 31), none, true⟩])))
 (.reg false [⟨34, .ar .add false (.t 16) (.k (.sc (.int .i64 1))), none, false⟩,
 ⟨16, .mv (.t 34), none, false⟩]))))
def b44_1 : IC := w44_1
theorem u44_1 (call : CallF) (st : St) : evC call b44_1 st = evC call w44_1 st := rfl
attribute [simp] u44_1 w44_1
def i44 : Ev.Fn := ⟨1, 42, [.cell 2 9 true, .tmp 3],
 (.seq
 (.reg false [⟨1, .bx (.t 0), none, false⟩,
 ⟨2, .al [(.sc (.string ⟨#[]⟩)), (.sc (.string ⟨#[]⟩)), (.sc (.int .i64 0)), (.sc (.string ⟨#[]⟩)), (.sc (.int .i64 0)), (.sc (.int .i64 0)), (.sc (.int .i64 0)), (.sc (.int .i64 0)), .nl], none, false⟩,
 ⟨3, .mv (.k (.sc (.int .i64 0))), none, false⟩])
 (.seq
 (.seq
 (.reg false [⟨7, .ld 9 true (.t 1), none, false⟩,
 ⟨8, .ca (.k (.cl 28 [])) [(.t 7)], none, false⟩,
 ⟨9, .nt (.t 8), none, false⟩])
 (.ite (.t 9)
 (.seq
 (.reg false [⟨10, .bd [(.sc (.string ⟨#[]⟩)), (.sc (.string ⟨#[]⟩)), (.sc (.int .i64 0)), (.sc (.string ⟨#[]⟩)), (.sc (.int .i64 0)), (.sc (.int .i64 0)), (.sc (.int .i64 0)), (.sc (.int .i64 0)), .nl] [], none, false⟩,
 ⟨1, .so 9 (.t 2) (.t 10), none, true⟩,
 ⟨3, .mv (.k (.sc (.int .i64 1))), none, false⟩])
 .ret)
 .skip))
 (.seq
 (.reg false [⟨11, .ld 9 true (.t 1), none, false⟩,
 ⟨12, .ca (.k (.cl 98 [])) [(.t 11)], none, false⟩,
 ⟨4, .al [(.sc (.string ⟨#[]⟩)), (.sc (.string ⟨#[]⟩)), (.sc (.int .i64 0)), (.sc (.string ⟨#[]⟩)), (.sc (.int .i64 0)), (.sc (.int .i64 0)), (.sc (.int .i64 0)), (.sc (.int .i64 0)), .nl], none, false⟩,
 ⟨1, .so 9 (.t 4) (.t 12), none, true⟩])
 (.seq
 (.seq
 (.reg false [⟨13, .fa 8 (.t 4), none, false⟩,
 ⟨14, .ld 1 false (.t 13), none, false⟩,
 ⟨15, .ln false (.t 14), none, false⟩,
 ⟨16, .mv (.k (.sc (.int .i64 0))), none, false⟩])
 (.cln [1, 2, 4] [2, 3]
 (.block 0
 (.loop [1, 2, 4, 14, 15, 16] b44_1))))
 (.seq
 (.reg false [⟨35, .fa 3 (.t 1), none, false⟩,
 ⟨36, .fa 2 (.t 35), none, false⟩,
 ⟨37, .ld 1 false (.t 36), none, false⟩,
 ⟨38, .ca (.k (.cl 99 [])) [(.t 37)], none, false⟩,
 ⟨39, .fa 3 (.t 4), none, false⟩,
 ⟨40, .fa 2 (.t 39), none, false⟩,
 ⟨1, .so 1 (.t 40) (.t 38), none, true⟩])
 (.seq
 (.reg false [⟨41, .ld 9 true (.t 4), none, false⟩,
 ⟨1, .so 9 (.t 2) (.t 41), none, true⟩,
 ⟨3, .mv (.k (.sc (.int .i64 0))), none, false⟩])
 .ret))))))⟩
attribute [simp] i44
set_option maxRecDepth 1000000 in
theorem c44 : cFn Try.prog 44 [[], [1, 2, 4, 14, 15, 16], [1, 2, 4], [2, 3]] = some i44 := by kernel_rfl
theorem e44 : enterOk Try.prog 44 = true := by kernel_rfl
def i45 : Ev.Fn := ⟨2, 10, [.tmp 4],
 (.seq
 (.reg false [⟨2, .bx (.t 0), none, false⟩,
 ⟨4, .mv (.k (.sc (.int .i64 0))), none, false⟩])
 (.seq
 (.rgw [⟨5, .fa 8 (.t 2), none, false⟩,
 ⟨6, .ld 1 false (.t 5), none, false⟩,
 ⟨7, .mv (.t 1), none, false⟩,
 ⟨8, .cw 100 [] [(.t 6), (.t 7)], none, false⟩,
 ⟨1, .mv (.t 8), none, false⟩])
 (.seq
 (.reg false [⟨9, .mv (.t 1), none, false⟩,
 ⟨4, .mv (.t 9), none, false⟩])
 .ret)))⟩
attribute [simp] i45
set_option maxRecDepth 1000000 in
theorem c45 : cFn Try.prog 45 [[100]] = some i45 := by kernel_rfl
theorem e45 : enterOk Try.prog 45 = true := by kernel_rfl
def i46 : Ev.Fn := ⟨2, 12, [.tmp 4],
 (.seq
 (.reg false [⟨2, .bx (.t 0), none, false⟩,
 ⟨4, .mv (.k (.sc (.int .i64 0))), none, false⟩])
 (.seq
 (.reg false [⟨5, .fa 8 (.t 2), none, false⟩,
 ⟨6, .ld 1 false (.t 5), none, false⟩,
 ⟨7, .mv (.t 1), none, false⟩,
 ⟨8, .ca (.k (.cl 101 [])) [(.t 6), (.t 7)], none, false⟩,
 ⟨1, .mv (.t 8), none, false⟩])
 (.seq
 (.seq
 (.reg false [⟨9, .mv (.t 1), none, false⟩,
 ⟨10, .ar .lss false (.t 9) (.k (.sc (.int .i64 0))), none, false⟩])
 (.ite (.t 10)
 (.seq
 (.reg false [⟨4, .mv (.k (.sc (.int .i64 (-1)))), none, false⟩])
 .ret)
 .skip))
 (.seq
 (.reg false [⟨11, .mv (.t 1), none, false⟩,
 ⟨4, .mv (.t 11), none, false⟩])
 .ret))))⟩
attribute [simp] i46
set_option maxRecDepth 1000000 in
theorem c46 : cFn Try.prog 46 [[]] = some i46 := by kernel_rfl
theorem e46 : enterOk Try.prog 46 = true := by kernel_rfl
def i47 : Ev.Fn := ⟨2, 13, [.tmp 4],
 (.seq
 (.reg false [⟨2, .bx (.t 0), none, false⟩,
 ⟨4, .mv (.k (.sc (.int .i64 0))), none, false⟩])
 (.seq
 (.reg false [⟨5, .mv (.t 1), none, false⟩,
 ⟨6, .fa 0 (.t 2), none, false⟩,
 ⟨7, .ld 1 false (.t 6), none, false⟩,
 ⟨8, .ln true (.t 7), none, false⟩,
 ⟨9, .ar .sub false (.t 5) (.t 8), none, false⟩,
 ⟨1, .mv (.t 9), none, false⟩])
 (.seq
 (.seq
 (.reg false [⟨10, .mv (.t 1), none, false⟩,
 ⟨11, .ar .lss false (.t 10) (.k (.sc (.int .i64 0))), none, false⟩])
 (.ite (.t 11)
 (.seq
 (.reg false [⟨4, .mv (.k (.sc (.int .i64 (-1)))), none, false⟩])
 .ret)
 .skip))
 (.seq
 (.reg false [⟨12, .mv (.t 1), none, false⟩,
 ⟨4, .mv (.t 12), none, false⟩])
 .ret))))⟩
attribute [simp] i47
set_option maxRecDepth 1000000 in
theorem c47 : cFn Try.prog 47 [[]] = some i47 := by kernel_rfl
theorem e47 : enterOk Try.prog 47 = true := by kernel_rfl
end Go.Proofs.Ytmfcdjkeofohpaa.walkS
