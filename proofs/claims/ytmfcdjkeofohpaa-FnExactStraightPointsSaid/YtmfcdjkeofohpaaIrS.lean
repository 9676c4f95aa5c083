/- The functions that some rows reach, turned; no conditions. -/
import Derived.Test.YtmfcdjkeofohpaaIrS1
import Derived.KernelRfl
import Derived.Test.YtmfcdjkeofohpaaProg
namespace Go.Proofs.Ytmfcdjkeofohpaa.walkS
open Go Go.Proofs.Ytmfcdjkeofohpaa.Ev
def w167_1 : IC :=
(.seq
 (.reg false [⟨9, .ar .lss false (.t 8) (.t 7), none, false⟩])
 (.seq
 (.ite (.t 9)
 .skip
 (.exit 0))
 (.seq
 (.block 1
 (.seq
 (.reg false [⟨10, .mv (.t 8), none, false⟩,
 ⟨5, .mv (.t 10), none, false⟩])
 (.seq
 (.reg true [⟨11, .ld 2 true (.t 3), none, false⟩,
 ⟨12, .mv (.t 0), none, false⟩,
 ⟨13, .mv (.t 5), none, false⟩,
 ⟨14, .ia 2 (.t 12) (.t 13), none, false⟩,
 ⟨15, .ld 2 true (.t 14), none, false⟩,
 ⟨16, .eq false [1, 1] (.t 11) (.t 15), none, false⟩])
 (.ite (.t 16)
 (.seq
 (.reg false [⟨17, .mv (.t 5), none, false⟩,
 ⟨4, .mv (.t 17), none, false⟩])
 .ret)
 .skip))))
 (.reg false [⟨18, .ar .add false (.t 8) (.k (.sc (.int .i64 1))), none, false⟩,
 ⟨8, .mv (.t 18), none, false⟩]))))
def b167_1 : IC := w167_1
theorem u167_1 (call : CallF) (st : St) : evC call b167_1 st = evC call w167_1 st := rfl
attribute [simp] u167_1 w167_1
def i167 : Ev.Fn := ⟨2, 19, [.tmp 4],
 (.seq
 (.reg false [⟨3, .bx (.t 1), none, false⟩,
 ⟨4, .mv (.k (.sc (.int .i64 0))), none, false⟩])
 (.seq
 (.seq
 (.reg false [⟨6, .mv (.t 0), none, false⟩,
 ⟨7, .ln false (.t 6), none, false⟩,
 ⟨8, .mv (.k (.sc (.int .i64 0))), none, false⟩])
 (.cln [] [4]
 (.block 0
 (.loop [0, 3, 7, 8] b167_1))))
 (.seq
 (.reg false [⟨4, .mv (.k (.sc (.int .i64 (-1)))), none, false⟩])
 .ret)))⟩
attribute [simp] i167
set_option maxRecDepth 1000000 in
theorem c167 : cFn Try.prog 167 [[], [0, 3, 7, 8], [], [4]] = some i167 := by kernel_rfl
theorem e167 : enterOk Try.prog 167 = true := by kernel_rfl
def w168_1 : IC :=
(.seq
 (.reg false [⟨8, .ar .lss false (.t 7) (.t 6), none, false⟩])
 (.seq
 (.ite (.t 8)
 .skip
 (.exit 0))
 (.seq
 (.block 1
 (.seq
 (.reg false [⟨9, .ia 2 (.t 5) (.t 7), none, false⟩,
 ⟨10, .ld 2 true (.t 9), none, false⟩,
 ⟨4, .al [(.sc (.int .i64 0)), (.sc (.int .i64 0))], none, false⟩,
 ⟨1, .so 2 (.t 4) (.t 10), none, true⟩])
 (.seq
 (.reg false [⟨11, .ld 2 true (.t 4), none, false⟩,
 ⟨12, .ca (.k (.cl 173 [])) [(.t 11)], none, false⟩,
 ⟨13, .nt (.t 12), none, false⟩])
 (.ite (.t 13)
 (.seq
 (.reg false [⟨2, .mv (.k (.sc (.bool false))), none, false⟩])
 .ret)
 .skip))))
 (.reg false [⟨14, .ar .add false (.t 7) (.k (.sc (.int .i64 1))), none, false⟩,
 ⟨7, .mv (.t 14), none, false⟩]))))
def b168_1 : IC := w168_1
theorem u168_1 (call : CallF) (st : St) : evC call b168_1 st = evC call w168_1 st := rfl
attribute [simp] u168_1 w168_1
def i168 : Ev.Fn := ⟨1, 15, [.tmp 2],
 (.seq
 (.reg false [⟨2, .mv (.k (.sc (.bool false))), none, false⟩])
 (.seq
 (.seq
 (.reg false [⟨5, .mv (.t 0), none, false⟩,
 ⟨6, .ln false (.t 5), none, false⟩,
 ⟨7, .mv (.k (.sc (.int .i64 0))), none, false⟩])
 (.cln [] [2]
 (.block 0
 (.loop [5, 6, 7] b168_1))))
 (.seq
 (.reg false [⟨2, .mv (.k (.sc (.bool true))), none, false⟩])
 .ret)))⟩
attribute [simp] i168
set_option maxRecDepth 1000000 in
theorem c168 : cFn Try.prog 168 [[], [5, 6, 7], [], [2]] = some i168 := by kernel_rfl
theorem e168 : enterOk Try.prog 168 = true := by kernel_rfl
def i169 : Ev.Fn := ⟨3, 42, [.tmp 6],
 (.seq
 (.reg false [⟨3, .bx (.t 0), none, false⟩,
 ⟨4, .bx (.t 1), none, false⟩,
 ⟨5, .bx (.t 2), none, false⟩,
 ⟨6, .mv (.k (.sc (.bool false))), none, false⟩])
 (.seq
 (.reg false [⟨7, .ld 2 true (.t 3), none, false⟩,
 ⟨8, .ld 2 true (.t 4), none, false⟩,
 ⟨9, .ld 2 true (.t 5), none, false⟩,
 ⟨10, .ca (.k (.cl 154 [])) [(.t 7), (.t 8), (.t 9)], none, false⟩,
 ⟨11, .ar .eql false (.t 10) (.k (.sc (.int .i64 0))), none, false⟩,
 ⟨12, .mv (.t 11), none, false⟩,
 ⟨13, .fa 0 (.t 5), (some (12, true)), false⟩,
 ⟨14, .ld 1 false (.t 13), (some (12, true)), false⟩,
 ⟨15, .fa 0 (.t 3), (some (12, true)), false⟩,
 ⟨16, .ld 1 false (.t 15), (some (12, true)), false⟩,
 ⟨17, .fa 0 (.t 4), (some (12, true)), false⟩,
 ⟨18, .ld 1 false (.t 17), (some (12, true)), false⟩,
 ⟨19, .mn (.t 16) (.t 18), (some (12, true)), false⟩,
 ⟨20, .fa 0 (.t 3), (some (12, true)), false⟩,
 ⟨21, .ld 1 false (.t 20), (some (12, true)), false⟩,
 ⟨22, .fa 0 (.t 4), (some (12, true)), false⟩,
 ⟨23, .ld 1 false (.t 22), (some (12, true)), false⟩,
 ⟨24, .mx (.t 21) (.t 23), (some (12, true)), false⟩,
 ⟨25, .ca (.k (.cl 84 [])) [(.t 14), (.t 19), (.t 24)], (some (12, true)), false⟩,
 ⟨26, .pk (.t 12) (.t 25) (.k (.sc (.bool false))), none, false⟩,
 ⟨27, .mv (.t 26), none, false⟩,
 ⟨28, .fa 1 (.t 5), (some (27, true)), false⟩,
 ⟨29, .ld 1 false (.t 28), (some (27, true)), false⟩,
 ⟨30, .fa 1 (.t 3), (some (27, true)), false⟩,
 ⟨31, .ld 1 false (.t 30), (some (27, true)), false⟩,
 ⟨32, .fa 1 (.t 4), (some (27, true)), false⟩,
 ⟨33, .ld 1 false (.t 32), (some (27, true)), false⟩,
 ⟨34, .mn (.t 31) (.t 33), (some (27, true)), false⟩,
 ⟨35, .fa 1 (.t 3), (some (27, true)), false⟩,
 ⟨36, .ld 1 false (.t 35), (some (27, true)), false⟩,
 ⟨37, .fa 1 (.t 4), (some (27, true)), false⟩,
 ⟨38, .ld 1 false (.t 37), (some (27, true)), false⟩,
 ⟨39, .mx (.t 36) (.t 38), (some (27, true)), false⟩,
 ⟨40, .ca (.k (.cl 84 [])) [(.t 29), (.t 34), (.t 39)], (some (27, true)), false⟩,
 ⟨41, .pk (.t 27) (.t 40) (.k (.sc (.bool false))), none, false⟩,
 ⟨6, .mv (.t 41), none, false⟩])
 .ret))⟩
attribute [simp] i169
set_option maxRecDepth 1000000 in
theorem c169 : cFn Try.prog 169 [[]] = some i169 := by kernel_rfl
theorem e169 : enterOk Try.prog 169 = true := by kernel_rfl
def i170 : Ev.Fn := ⟨4, 38, [.tmp 8],
 (.seq
 (.reg false [⟨4, .bx (.t 0), none, false⟩,
 ⟨5, .bx (.t 1), none, false⟩,
 ⟨6, .bx (.t 2), none, false⟩,
 ⟨7, .bx (.t 3), none, false⟩,
 ⟨8, .mv (.k (.sc (.bool false))), none, false⟩])
 (.seq
 (.reg false [⟨9, .ld 2 true (.t 4), none, false⟩,
 ⟨10, .ld 2 true (.t 5), none, false⟩,
 ⟨11, .ld 2 true (.t 6), none, false⟩,
 ⟨12, .ld 2 true (.t 7), none, false⟩,
 ⟨13, .ca (.k (.cl 174 [])) [(.t 9), (.t 10), (.t 11), (.t 12)], none, false⟩,
 ⟨14, .mv (.t 13), none, false⟩,
 ⟨15, .ld 2 true (.t 4), (some (14, false)), false⟩,
 ⟨16, .ld 2 true (.t 5), (some (14, false)), false⟩,
 ⟨17, .ld 2 true (.t 6), (some (14, false)), false⟩,
 ⟨18, .ca (.k (.cl 169 [])) [(.t 15), (.t 16), (.t 17)], (some (14, false)), false⟩,
 ⟨19, .pk (.t 14) (.k (.sc (.bool true))) (.t 18), none, false⟩,
 ⟨20, .mv (.t 19), none, false⟩,
 ⟨21, .ld 2 true (.t 4), (some (20, false)), false⟩,
 ⟨22, .ld 2 true (.t 5), (some (20, false)), false⟩,
 ⟨23, .ld 2 true (.t 7), (some (20, false)), false⟩,
 ⟨24, .ca (.k (.cl 169 [])) [(.t 21), (.t 22), (.t 23)], (some (20, false)), false⟩,
 ⟨25, .pk (.t 20) (.k (.sc (.bool true))) (.t 24), none, false⟩,
 ⟨26, .mv (.t 25), none, false⟩,
 ⟨27, .ld 2 true (.t 6), (some (26, false)), false⟩,
 ⟨28, .ld 2 true (.t 7), (some (26, false)), false⟩,
 ⟨29, .ld 2 true (.t 4), (some (26, false)), false⟩,
 ⟨30, .ca (.k (.cl 169 [])) [(.t 27), (.t 28), (.t 29)], (some (26, false)), false⟩,
 ⟨31, .pk (.t 26) (.k (.sc (.bool true))) (.t 30), none, false⟩,
 ⟨32, .mv (.t 31), none, false⟩,
 ⟨33, .ld 2 true (.t 6), (some (32, false)), false⟩,
 ⟨34, .ld 2 true (.t 7), (some (32, false)), false⟩,
 ⟨35, .ld 2 true (.t 5), (some (32, false)), false⟩,
 ⟨36, .ca (.k (.cl 169 [])) [(.t 33), (.t 34), (.t 35)], (some (32, false)), false⟩,
 ⟨37, .pk (.t 32) (.k (.sc (.bool true))) (.t 36), none, false⟩,
 ⟨8, .mv (.t 37), none, false⟩])
 .ret))⟩
attribute [simp] i170
set_option maxRecDepth 1000000 in
theorem c170 : cFn Try.prog 170 [[]] = some i170 := by kernel_rfl
theorem e170 : enterOk Try.prog 170 = true := by kernel_rfl
def w171_1 : IC :=
(.seq
 (.reg false [⟨10, .ar .lss false (.t 9) (.t 8), none, false⟩])
 (.seq
 (.ite (.t 10)
 .skip
 (.exit 0))
 (.seq
 (.block 1
 (.seq
 (.reg false [⟨11, .mv (.t 9), none, false⟩,
 ⟨12, .ia 2 (.t 7) (.t 9), none, false⟩,
 ⟨13, .ld 2 true (.t 12), none, false⟩,
 ⟨5, .al [(.sc (.int .i64 0)), (.sc (.int .i64 0))], none, false⟩,
 ⟨4, .mv (.t 11), none, false⟩,
 ⟨1, .so 2 (.t 5) (.t 13), none, true⟩])
 (.seq
 (.reg false [⟨14, .mv (.t 0), none, false⟩,
 ⟨15, .mv (.t 4), none, false⟩,
 ⟨16, .ar .add false (.t 15) (.k (.sc (.int .i64 1))), none, false⟩,
 ⟨17, .mv (.t 0), none, false⟩,
 ⟨18, .ln false (.t 17), none, false⟩,
 ⟨19, .ar .rem false (.t 16) (.t 18), none, false⟩,
 ⟨20, .ia 2 (.t 14) (.t 19), none, false⟩,
 ⟨21, .ld 2 true (.t 20), none, false⟩,
 ⟨6, .al [(.sc (.int .i64 0)), (.sc (.int .i64 0))], none, false⟩,
 ⟨1, .so 2 (.t 6) (.t 21), none, true⟩])
 (.reg false [⟨22, .mv (.t 3), none, false⟩,
 ⟨23, .fa 0 (.t 5), none, false⟩,
 ⟨24, .ld 1 false (.t 23), none, false⟩,
 ⟨25, .fa 1 (.t 6), none, false⟩,
 ⟨26, .ld 1 false (.t 25), none, false⟩,
 ⟨27, .ar .mul false (.t 24) (.t 26), none, false⟩,
 ⟨28, .fa 1 (.t 5), none, false⟩,
 ⟨29, .ld 1 false (.t 28), none, false⟩,
 ⟨30, .fa 0 (.t 6), none, false⟩,
 ⟨31, .ld 1 false (.t 30), none, false⟩,
 ⟨32, .ar .mul false (.t 29) (.t 31), none, false⟩,
 ⟨33, .ar .sub false (.t 27) (.t 32), none, false⟩,
 ⟨34, .ar .add false (.t 22) (.t 33), none, false⟩,
 ⟨3, .mv (.t 34), none, false⟩]))))
 (.reg false [⟨35, .ar .add false (.t 9) (.k (.sc (.int .i64 1))), none, false⟩,
 ⟨9, .mv (.t 35), none, false⟩]))))
def b171_1 : IC := w171_1
theorem u171_1 (call : CallF) (st : St) : evC call b171_1 st = evC call w171_1 st := rfl
attribute [simp] u171_1 w171_1
def i171 : Ev.Fn := ⟨1, 37, [.tmp 2],
 (.seq
 (.reg false [⟨2, .mv (.k (.sc (.int .i64 0))), none, false⟩])
 (.seq
 (.reg false [⟨3, .mv (.k (.sc (.int .i64 0))), none, false⟩])
 (.seq
 (.seq
 (.reg false [⟨7, .mv (.t 0), none, false⟩,
 ⟨8, .ln false (.t 7), none, false⟩,
 ⟨9, .mv (.k (.sc (.int .i64 0))), none, false⟩])
 (.cln [3] [2]
 (.block 0
 (.loop [0, 3, 7, 8, 9] b171_1))))
 (.seq
 (.reg false [⟨36, .mv (.t 3), none, false⟩,
 ⟨2, .mv (.t 36), none, false⟩])
 .ret))))⟩
attribute [simp] i171
set_option maxRecDepth 1000000 in
theorem c171 : cFn Try.prog 171 [[], [0, 3, 7, 8, 9], [3], [2]] = some i171 := by kernel_rfl
theorem e171 : enterOk Try.prog 171 = true := by kernel_rfl
def i172 : Ev.Fn := ⟨4, 31, [.tmp 8],
 (.seq
 (.reg false [⟨4, .bx (.t 0), none, false⟩,
 ⟨5, .bx (.t 1), none, false⟩,
 ⟨6, .bx (.t 2), none, false⟩,
 ⟨7, .bx (.t 3), none, false⟩,
 ⟨8, .mv (.k (.sc (.bool false))), none, false⟩])
 (.seq
 (.reg true [⟨9, .ld 2 true (.t 4), none, false⟩,
 ⟨10, .ld 2 true (.t 5), none, false⟩,
 ⟨11, .ld 2 true (.t 6), none, false⟩,
 ⟨12, .ca (.k (.cl 147 [])) [(.t 9), (.t 10), (.t 11)], none, false⟩,
 ⟨13, .ld 2 true (.t 4), none, false⟩,
 ⟨14, .ld 2 true (.t 5), none, false⟩,
 ⟨15, .ld 2 true (.t 7), none, false⟩,
 ⟨16, .ca (.k (.cl 147 [])) [(.t 13), (.t 14), (.t 15)], none, false⟩,
 ⟨17, .ar .mul false (.t 12) (.t 16), none, false⟩,
 ⟨18, .ar .lss false (.t 17) (.k (.sc (.int .i64 0))), none, false⟩,
 ⟨19, .mv (.t 18), none, false⟩,
 ⟨20, .ld 2 true (.t 6), (some (19, true)), false⟩,
 ⟨21, .ld 2 true (.t 7), (some (19, true)), false⟩,
 ⟨22, .ld 2 true (.t 4), (some (19, true)), false⟩,
 ⟨23, .ca (.k (.cl 147 [])) [(.t 20), (.t 21), (.t 22)], (some (19, true)), false⟩,
 ⟨24, .ld 2 true (.t 6), (some (19, true)), false⟩,
 ⟨25, .ld 2 true (.t 7), (some (19, true)), false⟩,
 ⟨26, .ld 2 true (.t 5), (some (19, true)), false⟩,
 ⟨27, .ca (.k (.cl 147 [])) [(.t 24), (.t 25), (.t 26)], (some (19, true)), false⟩,
 ⟨28, .ar .mul false (.t 23) (.t 27), (some (19, true)), false⟩,
 ⟨29, .ar .lss false (.t 28) (.k (.sc (.int .i64 0))), (some (19, true)), false⟩,
 ⟨30, .pk (.t 19) (.t 29) (.k (.sc (.bool false))), none, false⟩,
 ⟨8, .mv (.t 30), none, false⟩])
 .ret))⟩
attribute [simp] i172
set_option maxRecDepth 1000000 in
theorem c172 : cFn Try.prog 172 [[]] = some i172 := by kernel_rfl
theorem e172 : enterOk Try.prog 172 = true := by kernel_rfl
def i173 : Ev.Fn := ⟨1, 11, [.tmp 2],
 (.seq
 (.reg false [⟨1, .bx (.t 0), none, false⟩,
 ⟨2, .mv (.k (.sc (.bool false))), none, false⟩])
 (.seq
 (.reg false [⟨3, .fa 0 (.t 1), none, false⟩,
 ⟨4, .ld 1 false (.t 3), none, false⟩,
 ⟨5, .ca (.k (.cl 84 [])) [(.t 4), (.k (.sc (.int .i64 0))), (.k (.sc (.int .i64 20000)))], none, false⟩,
 ⟨6, .mv (.t 5), none, false⟩,
 ⟨7, .fa 1 (.t 1), (some (6, true)), false⟩,
 ⟨8, .ld 1 false (.t 7), (some (6, true)), false⟩,
 ⟨9, .ca (.k (.cl 84 [])) [(.t 8), (.k (.sc (.int .i64 0))), (.k (.sc (.int .i64 20000)))], (some (6, true)), false⟩,
 ⟨10, .pk (.t 6) (.t 9) (.k (.sc (.bool false))), none, false⟩,
 ⟨2, .mv (.t 10), none, false⟩])
 .ret))⟩
attribute [simp] i173
set_option maxRecDepth 1000000 in
theorem c173 : cFn Try.prog 173 [[]] = some i173 := by kernel_rfl
theorem e173 : enterOk Try.prog 173 = true := by kernel_rfl
def i174 : Ev.Fn := ⟨4, 31, [.tmp 8],
 (.seq
 (.reg false [⟨4, .bx (.t 0), none, false⟩,
 ⟨5, .bx (.t 1), none, false⟩,
 ⟨6, .bx (.t 2), none, false⟩,
 ⟨7, .bx (.t 3), none, false⟩,
 ⟨8, .mv (.k (.sc (.bool false))), none, false⟩])
 (.seq
 (.reg true [⟨9, .ld 2 true (.t 4), none, false⟩,
 ⟨10, .ld 2 true (.t 5), none, false⟩,
 ⟨11, .ld 2 true (.t 6), none, false⟩,
 ⟨12, .ca (.k (.cl 154 [])) [(.t 9), (.t 10), (.t 11)], none, false⟩,
 ⟨13, .ld 2 true (.t 4), none, false⟩,
 ⟨14, .ld 2 true (.t 5), none, false⟩,
 ⟨15, .ld 2 true (.t 7), none, false⟩,
 ⟨16, .ca (.k (.cl 154 [])) [(.t 13), (.t 14), (.t 15)], none, false⟩,
 ⟨17, .ar .mul false (.t 12) (.t 16), none, false⟩,
 ⟨18, .ar .lss false (.t 17) (.k (.sc (.int .i64 0))), none, false⟩,
 ⟨19, .mv (.t 18), none, false⟩,
 ⟨20, .ld 2 true (.t 6), (some (19, true)), false⟩,
 ⟨21, .ld 2 true (.t 7), (some (19, true)), false⟩,
 ⟨22, .ld 2 true (.t 4), (some (19, true)), false⟩,
 ⟨23, .ca (.k (.cl 154 [])) [(.t 20), (.t 21), (.t 22)], (some (19, true)), false⟩,
 ⟨24, .ld 2 true (.t 6), (some (19, true)), false⟩,
 ⟨25, .ld 2 true (.t 7), (some (19, true)), false⟩,
 ⟨26, .ld 2 true (.t 5), (some (19, true)), false⟩,
 ⟨27, .ca (.k (.cl 154 [])) [(.t 24), (.t 25), (.t 26)], (some (19, true)), false⟩,
 ⟨28, .ar .mul false (.t 23) (.t 27), (some (19, true)), false⟩,
 ⟨29, .ar .lss false (.t 28) (.k (.sc (.int .i64 0))), (some (19, true)), false⟩,
 ⟨30, .pk (.t 19) (.t 29) (.k (.sc (.bool false))), none, false⟩,
 ⟨8, .mv (.t 30), none, false⟩])
 .ret))⟩
attribute [simp] i174
set_option maxRecDepth 1000000 in
theorem c174 : cFn Try.prog 174 [[]] = some i174 := by kernel_rfl
theorem e174 : enterOk Try.prog 174 = true := by kernel_rfl
theorem mixed : Try.prog.follows .mixedOrders = true := by kernel_rfl
def Ft : List (Nat × Ev.Fn) := [(16, i16), (53, i53), (55, i55), (62, i62), (63, i63), (66, i66), (67, i67), (68, i68), (69, i69), (70, i70), (71, i71), (83, i83), (84, i84), (88, i88), (108, i108), (109, i109), (113, i113), (114, i114), (115, i115), (116, i116), (117, i117), (118, i118), (119, i119), (120, i120), (121, i121), (122, i122), (123, i123), (124, i124), (125, i125), (129, i129), (143, i143), (144, i144), (145, i145), (146, i146), (147, i147), (148, i148), (149, i149), (150, i150), (151, i151), (152, i152), (153, i153), (154, i154), (155, i155), (156, i156), (157, i157), (158, i158), (161, i161), (162, i162), (163, i163), (164, i164), (165, i165), (166, i166), (167, i167), (168, i168), (169, i169), (170, i170), (171, i171), (172, i172), (173, i173), (174, i174)]
def F : Nat → Option Ev.Fn := getF Ft
noncomputable def ev (d : Nat) : CallF := evF F (fun _ _ => none) d
theorem ev_fn {f : Nat} {fn : Ev.Fn} (h : F f = some fn) (d : Nat) (args : List LV) (hl : args.length = fn.nargs) : ev (d + 1) f args = Ev.finish fn.res (evC (ev d) fn.body (Ev.start args)) := evF_fn h d args hl
set_option maxRecDepth 1000000 in
theorem tab : ∀ f fn, F f = some fn → enterOk Try.prog f = true ∧ ∃ ks, cFn Try.prog f ks = some fn :=
  tabF (L := Ft) ⟨⟨e16, _, c16⟩, ⟨e53, _, c53⟩, ⟨e55, _, c55⟩, ⟨e62, _, c62⟩, ⟨e63, _, c63⟩, ⟨e66, _, c66⟩, ⟨e67, _, c67⟩, ⟨e68, _, c68⟩, ⟨e69, _, c69⟩, ⟨e70, _, c70⟩, ⟨e71, _, c71⟩, ⟨e83, _, c83⟩, ⟨e84, _, c84⟩, ⟨e88, _, c88⟩, ⟨e108, _, c108⟩, ⟨e109, _, c109⟩, ⟨e113, _, c113⟩, ⟨e114, _, c114⟩, ⟨e115, _, c115⟩, ⟨e116, _, c116⟩, ⟨e117, _, c117⟩, ⟨e118, _, c118⟩, ⟨e119, _, c119⟩, ⟨e120, _, c120⟩, ⟨e121, _, c121⟩, ⟨e122, _, c122⟩, ⟨e123, _, c123⟩, ⟨e124, _, c124⟩, ⟨e125, _, c125⟩, ⟨e129, _, c129⟩, ⟨e143, _, c143⟩, ⟨e144, _, c144⟩, ⟨e145, _, c145⟩, ⟨e146, _, c146⟩, ⟨e147, _, c147⟩, ⟨e148, _, c148⟩, ⟨e149, _, c149⟩, ⟨e150, _, c150⟩, ⟨e151, _, c151⟩, ⟨e152, _, c152⟩, ⟨e153, _, c153⟩, ⟨e154, _, c154⟩, ⟨e155, _, c155⟩, ⟨e156, _, c156⟩, ⟨e157, _, c157⟩, ⟨e158, _, c158⟩, ⟨e161, _, c161⟩, ⟨e162, _, c162⟩, ⟨e163, _, c163⟩, ⟨e164, _, c164⟩, ⟨e165, _, c165⟩, ⟨e166, _, c166⟩, ⟨e167, _, c167⟩, ⟨e168, _, c168⟩, ⟨e169, _, c169⟩, ⟨e170, _, c170⟩, ⟨e171, _, c171⟩, ⟨e172, _, c172⟩, ⟨e173, _, c173⟩, ⟨e174, _, c174⟩, trivial⟩
theorem tabn : ∀ f fn, F f = some fn → f < wrN := tabN (L := Ft) (by kernel_rfl)
theorem callOk (d : Nat) : CallOk Try.prog (ev d) := (evF_ok2 mixed tab tabn (noPrim_ok _) (noPrim_okW _) d).1
abbrev I (n : Int) : LV := .sc (.int .i64 n)
abbrev B (b : Bool) : LV := .sc (.bool b)
abbrev T (s : ByteArray) : LV := .sc (.string s)
theorem s16 (d : Nat) (args : List LV) (hl : args.length = i16.nargs) : ev (d + 1) 16 args = Ev.finish i16.res (evC (ev d) i16.body (Ev.start args)) := ev_fn (by kernel_rfl) d args hl
theorem s53 (d : Nat) (args : List LV) (hl : args.length = i53.nargs) : ev (d + 1) 53 args = Ev.finish i53.res (evC (ev d) i53.body (Ev.start args)) := ev_fn (by kernel_rfl) d args hl
theorem s55 (d : Nat) (args : List LV) (hl : args.length = i55.nargs) : ev (d + 1) 55 args = Ev.finish i55.res (evC (ev d) i55.body (Ev.start args)) := ev_fn (by kernel_rfl) d args hl
theorem s62 (d : Nat) (args : List LV) (hl : args.length = i62.nargs) : ev (d + 1) 62 args = Ev.finish i62.res (evC (ev d) i62.body (Ev.start args)) := ev_fn (by kernel_rfl) d args hl
theorem s63 (d : Nat) (args : List LV) (hl : args.length = i63.nargs) : ev (d + 1) 63 args = Ev.finish i63.res (evC (ev d) i63.body (Ev.start args)) := ev_fn (by kernel_rfl) d args hl
theorem s66 (d : Nat) (args : List LV) (hl : args.length = i66.nargs) : ev (d + 1) 66 args = Ev.finish i66.res (evC (ev d) i66.body (Ev.start args)) := ev_fn (by kernel_rfl) d args hl
theorem s67 (d : Nat) (args : List LV) (hl : args.length = i67.nargs) : ev (d + 1) 67 args = Ev.finish i67.res (evC (ev d) i67.body (Ev.start args)) := ev_fn (by kernel_rfl) d args hl
theorem s68 (d : Nat) (args : List LV) (hl : args.length = i68.nargs) : ev (d + 1) 68 args = Ev.finish i68.res (evC (ev d) i68.body (Ev.start args)) := ev_fn (by kernel_rfl) d args hl
theorem s69 (d : Nat) (args : List LV) (hl : args.length = i69.nargs) : ev (d + 1) 69 args = Ev.finish i69.res (evC (ev d) i69.body (Ev.start args)) := ev_fn (by kernel_rfl) d args hl
theorem s70 (d : Nat) (args : List LV) (hl : args.length = i70.nargs) : ev (d + 1) 70 args = Ev.finish i70.res (evC (ev d) i70.body (Ev.start args)) := ev_fn (by kernel_rfl) d args hl
theorem s71 (d : Nat) (args : List LV) (hl : args.length = i71.nargs) : ev (d + 1) 71 args = Ev.finish i71.res (evC (ev d) i71.body (Ev.start args)) := ev_fn (by kernel_rfl) d args hl
theorem s83 (d : Nat) (args : List LV) (hl : args.length = i83.nargs) : ev (d + 1) 83 args = Ev.finish i83.res (evC (ev d) i83.body (Ev.start args)) := ev_fn (by kernel_rfl) d args hl
theorem s84 (d : Nat) (args : List LV) (hl : args.length = i84.nargs) : ev (d + 1) 84 args = Ev.finish i84.res (evC (ev d) i84.body (Ev.start args)) := ev_fn (by kernel_rfl) d args hl
theorem s88 (d : Nat) (args : List LV) (hl : args.length = i88.nargs) : ev (d + 1) 88 args = Ev.finish i88.res (evC (ev d) i88.body (Ev.start args)) := ev_fn (by kernel_rfl) d args hl
theorem s108 (d : Nat) (args : List LV) (hl : args.length = i108.nargs) : ev (d + 1) 108 args = Ev.finish i108.res (evC (ev d) i108.body (Ev.start args)) := ev_fn (by kernel_rfl) d args hl
theorem s109 (d : Nat) (args : List LV) (hl : args.length = i109.nargs) : ev (d + 1) 109 args = Ev.finish i109.res (evC (ev d) i109.body (Ev.start args)) := ev_fn (by kernel_rfl) d args hl
theorem s113 (d : Nat) (args : List LV) (hl : args.length = i113.nargs) : ev (d + 1) 113 args = Ev.finish i113.res (evC (ev d) i113.body (Ev.start args)) := ev_fn (by kernel_rfl) d args hl
theorem s114 (d : Nat) (args : List LV) (hl : args.length = i114.nargs) : ev (d + 1) 114 args = Ev.finish i114.res (evC (ev d) i114.body (Ev.start args)) := ev_fn (by kernel_rfl) d args hl
theorem s115 (d : Nat) (args : List LV) (hl : args.length = i115.nargs) : ev (d + 1) 115 args = Ev.finish i115.res (evC (ev d) i115.body (Ev.start args)) := ev_fn (by kernel_rfl) d args hl
theorem s116 (d : Nat) (args : List LV) (hl : args.length = i116.nargs) : ev (d + 1) 116 args = Ev.finish i116.res (evC (ev d) i116.body (Ev.start args)) := ev_fn (by kernel_rfl) d args hl
theorem s117 (d : Nat) (args : List LV) (hl : args.length = i117.nargs) : ev (d + 1) 117 args = Ev.finish i117.res (evC (ev d) i117.body (Ev.start args)) := ev_fn (by kernel_rfl) d args hl
theorem s118 (d : Nat) (args : List LV) (hl : args.length = i118.nargs) : ev (d + 1) 118 args = Ev.finish i118.res (evC (ev d) i118.body (Ev.start args)) := ev_fn (by kernel_rfl) d args hl
theorem s119 (d : Nat) (args : List LV) (hl : args.length = i119.nargs) : ev (d + 1) 119 args = Ev.finish i119.res (evC (ev d) i119.body (Ev.start args)) := ev_fn (by kernel_rfl) d args hl
theorem s120 (d : Nat) (args : List LV) (hl : args.length = i120.nargs) : ev (d + 1) 120 args = Ev.finish i120.res (evC (ev d) i120.body (Ev.start args)) := ev_fn (by kernel_rfl) d args hl
theorem s121 (d : Nat) (args : List LV) (hl : args.length = i121.nargs) : ev (d + 1) 121 args = Ev.finish i121.res (evC (ev d) i121.body (Ev.start args)) := ev_fn (by kernel_rfl) d args hl
theorem s122 (d : Nat) (args : List LV) (hl : args.length = i122.nargs) : ev (d + 1) 122 args = Ev.finish i122.res (evC (ev d) i122.body (Ev.start args)) := ev_fn (by kernel_rfl) d args hl
theorem s123 (d : Nat) (args : List LV) (hl : args.length = i123.nargs) : ev (d + 1) 123 args = Ev.finish i123.res (evC (ev d) i123.body (Ev.start args)) := ev_fn (by kernel_rfl) d args hl
theorem s124 (d : Nat) (args : List LV) (hl : args.length = i124.nargs) : ev (d + 1) 124 args = Ev.finish i124.res (evC (ev d) i124.body (Ev.start args)) := ev_fn (by kernel_rfl) d args hl
theorem s125 (d : Nat) (args : List LV) (hl : args.length = i125.nargs) : ev (d + 1) 125 args = Ev.finish i125.res (evC (ev d) i125.body (Ev.start args)) := ev_fn (by kernel_rfl) d args hl
theorem s129 (d : Nat) (args : List LV) (hl : args.length = i129.nargs) : ev (d + 1) 129 args = Ev.finish i129.res (evC (ev d) i129.body (Ev.start args)) := ev_fn (by kernel_rfl) d args hl
theorem s143 (d : Nat) (args : List LV) (hl : args.length = i143.nargs) : ev (d + 1) 143 args = Ev.finish i143.res (evC (ev d) i143.body (Ev.start args)) := ev_fn (by kernel_rfl) d args hl
theorem s144 (d : Nat) (args : List LV) (hl : args.length = i144.nargs) : ev (d + 1) 144 args = Ev.finish i144.res (evC (ev d) i144.body (Ev.start args)) := ev_fn (by kernel_rfl) d args hl
theorem s145 (d : Nat) (args : List LV) (hl : args.length = i145.nargs) : ev (d + 1) 145 args = Ev.finish i145.res (evC (ev d) i145.body (Ev.start args)) := ev_fn (by kernel_rfl) d args hl
theorem s146 (d : Nat) (args : List LV) (hl : args.length = i146.nargs) : ev (d + 1) 146 args = Ev.finish i146.res (evC (ev d) i146.body (Ev.start args)) := ev_fn (by kernel_rfl) d args hl
theorem s147 (d : Nat) (args : List LV) (hl : args.length = i147.nargs) : ev (d + 1) 147 args = Ev.finish i147.res (evC (ev d) i147.body (Ev.start args)) := ev_fn (by kernel_rfl) d args hl
theorem s148 (d : Nat) (args : List LV) (hl : args.length = i148.nargs) : ev (d + 1) 148 args = Ev.finish i148.res (evC (ev d) i148.body (Ev.start args)) := ev_fn (by kernel_rfl) d args hl
theorem s149 (d : Nat) (args : List LV) (hl : args.length = i149.nargs) : ev (d + 1) 149 args = Ev.finish i149.res (evC (ev d) i149.body (Ev.start args)) := ev_fn (by kernel_rfl) d args hl
theorem s150 (d : Nat) (args : List LV) (hl : args.length = i150.nargs) : ev (d + 1) 150 args = Ev.finish i150.res (evC (ev d) i150.body (Ev.start args)) := ev_fn (by kernel_rfl) d args hl
theorem s151 (d : Nat) (args : List LV) (hl : args.length = i151.nargs) : ev (d + 1) 151 args = Ev.finish i151.res (evC (ev d) i151.body (Ev.start args)) := ev_fn (by kernel_rfl) d args hl
theorem s152 (d : Nat) (args : List LV) (hl : args.length = i152.nargs) : ev (d + 1) 152 args = Ev.finish i152.res (evC (ev d) i152.body (Ev.start args)) := ev_fn (by kernel_rfl) d args hl
theorem s153 (d : Nat) (args : List LV) (hl : args.length = i153.nargs) : ev (d + 1) 153 args = Ev.finish i153.res (evC (ev d) i153.body (Ev.start args)) := ev_fn (by kernel_rfl) d args hl
theorem s154 (d : Nat) (args : List LV) (hl : args.length = i154.nargs) : ev (d + 1) 154 args = Ev.finish i154.res (evC (ev d) i154.body (Ev.start args)) := ev_fn (by kernel_rfl) d args hl
theorem s155 (d : Nat) (args : List LV) (hl : args.length = i155.nargs) : ev (d + 1) 155 args = Ev.finish i155.res (evC (ev d) i155.body (Ev.start args)) := ev_fn (by kernel_rfl) d args hl
theorem s156 (d : Nat) (args : List LV) (hl : args.length = i156.nargs) : ev (d + 1) 156 args = Ev.finish i156.res (evC (ev d) i156.body (Ev.start args)) := ev_fn (by kernel_rfl) d args hl
theorem s157 (d : Nat) (args : List LV) (hl : args.length = i157.nargs) : ev (d + 1) 157 args = Ev.finish i157.res (evC (ev d) i157.body (Ev.start args)) := ev_fn (by kernel_rfl) d args hl
theorem s158 (d : Nat) (args : List LV) (hl : args.length = i158.nargs) : ev (d + 1) 158 args = Ev.finish i158.res (evC (ev d) i158.body (Ev.start args)) := ev_fn (by kernel_rfl) d args hl
theorem s161 (d : Nat) (args : List LV) (hl : args.length = i161.nargs) : ev (d + 1) 161 args = Ev.finish i161.res (evC (ev d) i161.body (Ev.start args)) := ev_fn (by kernel_rfl) d args hl
theorem s162 (d : Nat) (args : List LV) (hl : args.length = i162.nargs) : ev (d + 1) 162 args = Ev.finish i162.res (evC (ev d) i162.body (Ev.start args)) := ev_fn (by kernel_rfl) d args hl
theorem s163 (d : Nat) (args : List LV) (hl : args.length = i163.nargs) : ev (d + 1) 163 args = Ev.finish i163.res (evC (ev d) i163.body (Ev.start args)) := ev_fn (by kernel_rfl) d args hl
theorem s164 (d : Nat) (args : List LV) (hl : args.length = i164.nargs) : ev (d + 1) 164 args = Ev.finish i164.res (evC (ev d) i164.body (Ev.start args)) := ev_fn (by kernel_rfl) d args hl
theorem s165 (d : Nat) (args : List LV) (hl : args.length = i165.nargs) : ev (d + 1) 165 args = Ev.finish i165.res (evC (ev d) i165.body (Ev.start args)) := ev_fn (by kernel_rfl) d args hl
theorem s166 (d : Nat) (args : List LV) (hl : args.length = i166.nargs) : ev (d + 1) 166 args = Ev.finish i166.res (evC (ev d) i166.body (Ev.start args)) := ev_fn (by kernel_rfl) d args hl
theorem s167 (d : Nat) (args : List LV) (hl : args.length = i167.nargs) : ev (d + 1) 167 args = Ev.finish i167.res (evC (ev d) i167.body (Ev.start args)) := ev_fn (by kernel_rfl) d args hl
theorem s168 (d : Nat) (args : List LV) (hl : args.length = i168.nargs) : ev (d + 1) 168 args = Ev.finish i168.res (evC (ev d) i168.body (Ev.start args)) := ev_fn (by kernel_rfl) d args hl
theorem s169 (d : Nat) (args : List LV) (hl : args.length = i169.nargs) : ev (d + 1) 169 args = Ev.finish i169.res (evC (ev d) i169.body (Ev.start args)) := ev_fn (by kernel_rfl) d args hl
theorem s170 (d : Nat) (args : List LV) (hl : args.length = i170.nargs) : ev (d + 1) 170 args = Ev.finish i170.res (evC (ev d) i170.body (Ev.start args)) := ev_fn (by kernel_rfl) d args hl
theorem s171 (d : Nat) (args : List LV) (hl : args.length = i171.nargs) : ev (d + 1) 171 args = Ev.finish i171.res (evC (ev d) i171.body (Ev.start args)) := ev_fn (by kernel_rfl) d args hl
theorem s172 (d : Nat) (args : List LV) (hl : args.length = i172.nargs) : ev (d + 1) 172 args = Ev.finish i172.res (evC (ev d) i172.body (Ev.start args)) := ev_fn (by kernel_rfl) d args hl
theorem s173 (d : Nat) (args : List LV) (hl : args.length = i173.nargs) : ev (d + 1) 173 args = Ev.finish i173.res (evC (ev d) i173.body (Ev.start args)) := ev_fn (by kernel_rfl) d args hl
theorem s174 (d : Nat) (args : List LV) (hl : args.length = i174.nargs) : ev (d + 1) 174 args = Ev.finish i174.res (evC (ev d) i174.body (Ev.start args)) := ev_fn (by kernel_rfl) d args hl
theorem v62 (d : Nat) {args bs : List LV} {st : St} (hs : startW args = some (bs, st)) (hl : bs.length = i62.nargs) : ev (d + 1) (wrN + 62) args = finishW bs i62.res (evC (ev d) i62.body st) := evF_fnW (by kernel_rfl) tabn d hs hl
theorem v71 (d : Nat) {args bs : List LV} {st : St} (hs : startW args = some (bs, st)) (hl : bs.length = i71.nargs) : ev (d + 1) (wrN + 71) args = finishW bs i71.res (evC (ev d) i71.body st) := evF_fnW (by kernel_rfl) tabn d hs hl
theorem v124 (d : Nat) {args bs : List LV} {st : St} (hs : startW args = some (bs, st)) (hl : bs.length = i124.nargs) : ev (d + 1) (wrN + 124) args = finishW bs i124.res (evC (ev d) i124.body st) := evF_fnW (by kernel_rfl) tabn d hs hl
theorem v125 (d : Nat) {args bs : List LV} {st : St} (hs : startW args = some (bs, st)) (hl : bs.length = i125.nargs) : ev (d + 1) (wrN + 125) args = finishW bs i125.res (evC (ev d) i125.body st) := evF_fnW (by kernel_rfl) tabn d hs hl
end Go.Proofs.Ytmfcdjkeofohpaa.walkS
