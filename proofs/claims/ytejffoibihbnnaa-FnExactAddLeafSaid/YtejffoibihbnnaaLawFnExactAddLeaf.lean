/- The row of FnExactAddLeaf: the program and the reference answer alike; no conditions. -/
import Derived.Test.YtejffoibihbnnaaRows
import Derived.Test.YtejffoibihbnnaaWAlf
import Derived.Test.YtejffoibihbnnaaEv4
import Derived.WalkKit
import Derived.ProofKit
import Derived.OpenShut
import Derived.ShutString
import Derived.ChangeOld
import Derived.Below
import Derived.SizedLaws
import Derived.Carry
namespace Go.Proofs.Ytejffoibihbnnaa.fnExactAddLeaf
open Go.ChangeShapes Go.WideShapes Go.ChangeAt Go.RowKit
open Go.ChangeMaps (open_string shut_string)
open Go.Proofs.Ytejffoibihbnnaa.walkS Go.Proofs.Ytejffoibihbnnaa.Ev
set_option linter.unusedVariables false
attribute [local irreducible] Ev.LvT Ev.CellT Ev.IsT
theorem own : ownKnob Try.prog.godebug = none := by kernel_rfl
theorem laidOut : laidOutB Try.prog = true := by kernel_rfl
def gh : Ev.Gh := ⟨fun _ => 0, fun _ => 0, fun _ _ _ => 0, fun _ _ _ => 0⟩
theorem lc9 {x : Ev.Cell} (h : Ev.CellT Try.prog 9 x) : ∃ s, x = .sc (.string s) ∧ s.size ≤ maxLen := by
  exact Ev.cell_string Try.underlying9 h
theorem lc2 {x : Ev.Cell} (h : Ev.CellT Try.prog 2 x) : ∃ n, x = .sc (.int .i64 n) ∧ -9223372036854775808 ≤ n ∧ n ≤ 9223372036854775807 := by
  obtain ⟨n, rfl, hw⟩ := Ev.cell_int Try.underlying2 h
  exact ⟨n, rfl, Ev.in64 hw⟩
theorem it2 {x : Value} (h : Ev.IsT Try.prog 2 x) : ∃ n, x = .int .i64 n ∧ -9223372036854775808 ≤ n ∧ n ≤ 9223372036854775807 := by
  obtain ⟨n, rfl, hw⟩ := Ev.isT_int Try.underlying2 h
  exact ⟨n, rfl, Ev.in64 hw⟩
theorem le24 : Ev.leafs Try.prog 8 210 = some [2, 2, 2, 2] := by kernel_rfl
def W24 (p : Int × Int × Int × Int) : Prop := (-9223372036854775808 ≤ p.1 ∧ p.1 ≤ 9223372036854775807) ∧ (-9223372036854775808 ≤ p.2.1 ∧ p.2.1 ≤ 9223372036854775807) ∧ (-9223372036854775808 ≤ p.2.2.1 ∧ p.2.2.1 ≤ 9223372036854775807) ∧ (-9223372036854775808 ≤ p.2.2.2 ∧ p.2.2.2 ≤ 9223372036854775807)
abbrev RW24 (p : Int × Int × Int × Int) : List Value := [.int .i64 p.1, .int .i64 p.2.1, .int .i64 p.2.2.1, .int .i64 p.2.2.2]
theorem rowV24 {row : List Value} (h : Ev.All2 (Ev.IsT Try.prog) [2, 2, 2, 2] row) : ∃ p : Int × Int × Int × Int, row = RW24 p ∧ W24 p := by
  obtain ⟨y0, z0, rfl, t0, s0⟩ := Ev.all_to h
  obtain ⟨y1, z1, rfl, t1, s1⟩ := Ev.all_to s0
  obtain ⟨y2, z2, rfl, t2, s2⟩ := Ev.all_to s1
  obtain ⟨y3, z3, rfl, t3, s3⟩ := Ev.all_to s2
  obtain rfl := Ev.all_nil s3
  obtain ⟨a0, rfl, u0⟩ := it2 t0
  obtain ⟨a1, rfl, u1⟩ := it2 t1
  obtain ⟨a2, rfl, u2⟩ := it2 t2
  obtain ⟨a3, rfl, u3⟩ := it2 t3
  exact ⟨⟨a0, a1, a2, a3⟩, rfl, ⟨u0, u1, u2, u3⟩⟩
theorem lc24 {x : Ev.Cell} (h : Ev.CellT Try.prog 24 x) : ∃ p : List (Int × Int × Int × Int) × Bool, x = ifb p.2 .nl (.sl false 0 4 (p.1.map RW24)) ∧ p.1.length ≤ maxLen ∧ (p.2 = true → p.1 = []) := by
  rcases Ev.cell_slice Try.underlying24 le24 h with rfl | ⟨rows, rfl, hlen, hrows⟩
  · exact ⟨([], true), rfl, by simp, fun _ => rfl⟩
  · obtain ⟨l, rfl, _⟩ := Ev.rows_of fun row hr => rowV24 (hrows row hr)
    exact ⟨(l, false), rfl, by simpa using hlen, fun h => by cases h⟩
theorem le55 : Ev.leafs Try.prog 8 26 = some [9, 9, 2, 9, 2, 2, 2, 2, 24] := by kernel_rfl
def W55 (p : ByteArray × ByteArray × Int × ByteArray × Int × Int × Int × Int × (List (Int × Int × Int × Int) × Bool)) : Prop := p.1.size ≤ maxLen ∧ p.2.1.size ≤ maxLen ∧ (-9223372036854775808 ≤ p.2.2.1 ∧ p.2.2.1 ≤ 9223372036854775807) ∧ p.2.2.2.1.size ≤ maxLen ∧ (-9223372036854775808 ≤ p.2.2.2.2.1 ∧ p.2.2.2.2.1 ≤ 9223372036854775807) ∧ (-9223372036854775808 ≤ p.2.2.2.2.2.1 ∧ p.2.2.2.2.2.1 ≤ 9223372036854775807) ∧ (-9223372036854775808 ≤ p.2.2.2.2.2.2.1 ∧ p.2.2.2.2.2.2.1 ≤ 9223372036854775807) ∧ (-9223372036854775808 ≤ p.2.2.2.2.2.2.2.1 ∧ p.2.2.2.2.2.2.2.1 ≤ 9223372036854775807) ∧ (p.2.2.2.2.2.2.2.2.1.length ≤ maxLen ∧ (p.2.2.2.2.2.2.2.2.2 = true → p.2.2.2.2.2.2.2.2.1 = []))
abbrev R55 (p : ByteArray × ByteArray × Int × ByteArray × Int × Int × Int × Int × (List (Int × Int × Int × Int) × Bool)) : List Ev.Cell := [.sc (.string p.1), .sc (.string p.2.1), .sc (.int .i64 p.2.2.1), .sc (.string p.2.2.2.1), .sc (.int .i64 p.2.2.2.2.1), .sc (.int .i64 p.2.2.2.2.2.1), .sc (.int .i64 p.2.2.2.2.2.2.1), .sc (.int .i64 p.2.2.2.2.2.2.2.1), (ifb p.2.2.2.2.2.2.2.2.2 .nl (.sl false 0 4 (p.2.2.2.2.2.2.2.2.1.map RW24)))]
theorem row55 {row : List Ev.Cell} (h : Ev.All2 (Ev.CellT Try.prog) [9, 9, 2, 9, 2, 2, 2, 2, 24] row) : ∃ p : ByteArray × ByteArray × Int × ByteArray × Int × Int × Int × Int × (List (Int × Int × Int × Int) × Bool), row = R55 p ∧ W55 p := by
  obtain ⟨y0, z0, rfl, t0, s0⟩ := Ev.all_to h
  obtain ⟨y1, z1, rfl, t1, s1⟩ := Ev.all_to s0
  obtain ⟨y2, z2, rfl, t2, s2⟩ := Ev.all_to s1
  obtain ⟨y3, z3, rfl, t3, s3⟩ := Ev.all_to s2
  obtain ⟨y4, z4, rfl, t4, s4⟩ := Ev.all_to s3
  obtain ⟨y5, z5, rfl, t5, s5⟩ := Ev.all_to s4
  obtain ⟨y6, z6, rfl, t6, s6⟩ := Ev.all_to s5
  obtain ⟨y7, z7, rfl, t7, s7⟩ := Ev.all_to s6
  obtain ⟨y8, z8, rfl, t8, s8⟩ := Ev.all_to s7
  obtain rfl := Ev.all_nil s8
  obtain ⟨a0, rfl, u0⟩ := lc9 t0
  obtain ⟨a1, rfl, u1⟩ := lc9 t1
  obtain ⟨a2, rfl, u2⟩ := lc2 t2
  obtain ⟨a3, rfl, u3⟩ := lc9 t3
  obtain ⟨a4, rfl, u4⟩ := lc2 t4
  obtain ⟨a5, rfl, u5⟩ := lc2 t5
  obtain ⟨a6, rfl, u6⟩ := lc2 t6
  obtain ⟨a7, rfl, u7⟩ := lc2 t7
  obtain ⟨a8, rfl, u8⟩ := lc24 t8
  exact ⟨⟨a0, a1, a2, a3, a4, a5, a6, a7, a8⟩, rfl, ⟨u0, u1, u2, u3, u4, u5, u6, u7, u8⟩⟩
theorem lv55 {x : Ev.LV} (h : Ev.LvT Try.prog 55 x) : ∃ l : List (ByteArray × ByteArray × Int × ByteArray × Int × Int × Int × Int × (List (Int × Int × Int × Int) × Bool)), SV 9 (l.map R55) x ∧ l.length ≤ maxLen ∧ ∀ p ∈ l, W55 p := by
  rcases Ev.lv_slice Try.underlying55 le55 h with rfl | ⟨rows, rfl, hlen, hrows⟩
  · exact ⟨[], .inr ⟨rfl, rfl⟩, by simp, fun p hp => by simp at hp⟩
  · obtain ⟨l, rfl, hW⟩ := Ev.rows_of fun row hr => row55 (hrows row hr)
    exact ⟨l, .inl rfl, by simpa using hlen, hW⟩
theorem lv9 {x : Ev.LV} (h : Ev.LvT Try.prog 9 x) : ∃ s, x = T s ∧ s.size ≤ maxLen := by
  exact Ev.lv_string Try.underlying9 h
theorem lv2 {x : Ev.LV} (h : Ev.LvT Try.prog 2 x) : ∃ n, x = I n ∧ -9223372036854775808 ≤ n ∧ n ≤ 9223372036854775807 := by
  obtain ⟨n, rfl, hw⟩ := Ev.lv_int Try.underlying2 h
  exact ⟨n, rfl, Ev.in64 hw⟩
abbrev R24 (p : Int × Int × Int × Int) : List Ev.Cell := [.sc (.int .i64 p.1), .sc (.int .i64 p.2.1), .sc (.int .i64 p.2.2.1), .sc (.int .i64 p.2.2.2)]
theorem row24 {row : List Ev.Cell} (h : Ev.All2 (Ev.CellT Try.prog) [2, 2, 2, 2] row) : ∃ p : Int × Int × Int × Int, row = R24 p ∧ W24 p := by
  obtain ⟨y0, z0, rfl, t0, s0⟩ := Ev.all_to h
  obtain ⟨y1, z1, rfl, t1, s1⟩ := Ev.all_to s0
  obtain ⟨y2, z2, rfl, t2, s2⟩ := Ev.all_to s1
  obtain ⟨y3, z3, rfl, t3, s3⟩ := Ev.all_to s2
  obtain rfl := Ev.all_nil s3
  obtain ⟨a0, rfl, u0⟩ := lc2 t0
  obtain ⟨a1, rfl, u1⟩ := lc2 t1
  obtain ⟨a2, rfl, u2⟩ := lc2 t2
  obtain ⟨a3, rfl, u3⟩ := lc2 t3
  exact ⟨⟨a0, a1, a2, a3⟩, rfl, ⟨u0, u1, u2, u3⟩⟩
theorem lv24 {x : Ev.LV} (h : Ev.LvT Try.prog 24 x) : ∃ l : List (Int × Int × Int × Int), SV 4 (l.map R24) x ∧ l.length ≤ maxLen ∧ ∀ p ∈ l, W24 p := by
  rcases Ev.lv_slice Try.underlying24 le24 h with rfl | ⟨rows, rfl, hlen, hrows⟩
  · exact ⟨[], .inr ⟨rfl, rfl⟩, by simp, fun p hp => by simp at hp⟩
  · obtain ⟨l, rfl, hW⟩ := Ev.rows_of fun row hr => row24 (hrows row hr)
    exact ⟨l, .inl rfl, by simpa using hlen, hW⟩
theorem lf1 : Ev.leafs Try.prog 8 26 = some [9, 9, 2, 9, 2, 2, 2, 2, 24] := by kernel_rfl
theorem args {x0 x1 : Ev.LV} {v0 v1 : Value} {w : World} (h0 : Ev.R gh (fun b => b < w.heap.size) Ev.noMem w x0 v0 ∧ Ev.wf Ev.noMem x0) (h1 : Ev.R gh (fun b => b < w.heap.size) Ev.noMem w x1 v1 ∧ Ev.wf Ev.noMem x1) : Ev.RL (fun x u => Ev.R gh (fun b => b < w.heap.size) Ev.noMem w x u ∧ Ev.wf Ev.noMem x) [x0, x1] #[v0, v1] := by
  refine ⟨rfl, fun k y hk => ?_⟩
  cases k with
  | zero => cases hk; exact ⟨v0, rfl, h0⟩
  | succ k =>
    cases k with
    | zero => cases hk; exact ⟨v1, rfl, h1⟩
    | succ k =>
      cases hk
set_option maxRecDepth 1000000 in
theorem cells55 {H : Type} {enc : TypeId × Value → H} {v : Value} {w : World} {r : Reach} {b0 : Nat} {d : DataW H} {ps : List MemPlace} {sp : Nat → Bool} {held : Bool} (h : Value.okWide Try.prog w r b0 55 v) (hd : DataW.Trod enc Try.prog w 0 sp held 55 v d ps) : v.cells = #[v] := by
  exact Ev.cells_slice Try.underlying55 h
set_option maxRecDepth 100000 in
theorem lifted (os : Os) (started : os.Started) (H : Type) (enc : TypeId × Value → H) :
    ReturnsInHanded {} Try.checked os 6 .any (Rows.fnExactAddLeafSpec.pre6 enc Try.prog Try.f6 Rows.fnExactAddLeafRow.domain false) (Rows.fnExactAddLeafSpec.post enc Try.prog Try.f6 false true false false) := by
  refine returnsInHanded_of_change_sized (C := Try.checked) own started (by kernel_rfl) Try.func6
    (ChangeSpec.witness6 (enc := enc) (C := Try.checked) false ⟨#[], #[.slice none 0 0, .agg #[.string ByteArray.empty, .string ByteArray.empty, .int .i64 0, .string ByteArray.empty, .int .i64 0, .int .i64 0, .int .i64 0, .int .i64 0, .slice none 0 0]], []⟩ 8 (by kernel_rfl) (by kernel_rfl) (by kernel_rfl) (by kernel_rfl)) ?_
  intro W base args ds gs before hval0 hW hcnd hsz0 _
  have hval : ∀ (j : Nat) t v, Try.f6.params[j]? = some t → args[j]? = some v → Value.okWide Try.prog W .any base t v := hval0
  have hW' := hW
  obtain ⟨p, q, hA0, hV, rfl, hfz, hnd⟩ := hW
  have hA : DataW.TrodAll enc Try.prog W 0 (fun _ => true) true Try.f6.params.toList args.toList ds p := hA0
  rw [Try.params6] at hA hval
  obtain ⟨v0, vs0, d0, ds0, p0, q0, hargs, rfl, rfl, h0, r0⟩ := trodAll_cons hA
  obtain ⟨v1, vs1, d1, ds1, p1, q1, rfl, rfl, rfl, h1, r1⟩ := trodAll_cons r0
  obtain ⟨rfl, rfl, rfl⟩ := trodAll_nil r1
  obtain rfl : args = #[v0, v1] := by cases args; simp_all
  obtain ⟨rfl, rfl⟩ := trodVars_none hV
  have k0 := h0
  have k1 := h1
  have lt0 : ∀ x ∈ p0, x.block < W.heap.size := by obtain ⟨m, hm⟩ := k0; exact DataW.trod_lt m _ _ _ hm
  have lt1 : ∀ x ∈ p1, x.block < W.heap.size := by obtain ⟨m, hm⟩ := k1; exact DataW.trod_lt m _ _ _ hm
  obtain ⟨y0, x0_1, x0_2, x0_3⟩ := Ev.open_one (G := gh) (t := 55) (by kernel_rfl) (hval 0 55 v0 rfl rfl) h0 (cells55 (hval 0 55 v0 rfl rfl) h0)
  obtain ⟨xs1, x1_1, x1_2, x1_3⟩ := Ev.open_agg (G := gh) Try.underlying26 lf1 (by kernel_rfl) (hval 1 26 v1 rfl rfl) h1
  clear hA0 hval0 hsz0
  obtain ⟨a0, h'0, w0⟩ := lv55 x0_1
  obtain ⟨y1_0, zs1_0, rfl, t1_0, s1_0⟩ := Ev.all_to x1_1
  obtain ⟨y1_1, zs1_1, rfl, t1_1, s1_1⟩ := Ev.all_to s1_0
  obtain ⟨y1_2, zs1_2, rfl, t1_2, s1_2⟩ := Ev.all_to s1_1
  obtain ⟨y1_3, zs1_3, rfl, t1_3, s1_3⟩ := Ev.all_to s1_2
  obtain ⟨y1_4, zs1_4, rfl, t1_4, s1_4⟩ := Ev.all_to s1_3
  obtain ⟨y1_5, zs1_5, rfl, t1_5, s1_5⟩ := Ev.all_to s1_4
  obtain ⟨y1_6, zs1_6, rfl, t1_6, s1_6⟩ := Ev.all_to s1_5
  obtain ⟨y1_7, zs1_7, rfl, t1_7, s1_7⟩ := Ev.all_to s1_6
  obtain ⟨y1_8, zs1_8, rfl, t1_8, s1_8⟩ := Ev.all_to s1_7
  obtain rfl := Ev.all_nil s1_8
  obtain ⟨a1, rfl, w1⟩ := lv9 t1_0
  obtain ⟨a2, rfl, w2⟩ := lv9 t1_1
  obtain ⟨a3, rfl, w3⟩ := lv2 t1_2
  obtain ⟨a4, rfl, w4⟩ := lv9 t1_3
  obtain ⟨a5, rfl, w5⟩ := lv2 t1_4
  obtain ⟨a6, rfl, w6⟩ := lv2 t1_5
  obtain ⟨a7, rfl, w7⟩ := lv2 t1_6
  obtain ⟨a8, rfl, w8⟩ := lv2 t1_7
  obtain ⟨a9, h'9, w9⟩ := lv24 t1_8
  have con := (callOk 9 6 _ _ (r6 0 (a0.map conv) (by simpa using w0.1) (conv_wf fun p hp => ⟨(w0.2 p hp).1, (w0.2 p hp).2.1, (w0.2 p hp).2.2.2.1, (w0.2 p hp).2.2.2.2.2.2.2.2⟩) (conv_sv (fun _ => rfl) h'0) ⟨a1, a2, a3, a4, a5, a6, a7, a8, a9⟩ ⟨w1, w2, w4, w9.1⟩ h'9)).2.2
  refine (Ev.Contract.walk (G := gh) (Ev.Tb.nil _ _) con (args ⟨x0_2, x0_3⟩ ⟨x1_2, x1_3⟩)).mono fun e W' ⟨he, bel⟩ => ?_
  subst he
  exact ⟨_, rfl, _, _, _, [], _, [], hW', trodAll_mk1 (shut_bool Try.underlying4 _), (trodAll_cons_mk (Below.trod laidOut (by kernel_rfl) (of_decide_eq_true (by kernel_rfl)) k0 bel lt0) (trodAll_cons_mk (Below.trod laidOut (by kernel_rfl) (of_decide_eq_true (by kernel_rfl)) k1 bel lt1) trodAll_mk0)), rfl, bel.frame _, fun h => by cases h⟩
theorem named : Try.pinned.checked.prog.funcNamed Rows.fnExactAddLeafRow.func = some 6 := by kernel_rfl
set_option maxHeartbeats 40000000 in
theorem closed : joinedFacts Try.pinned.checked.prog 6 Try.f6 Rows.fnExactAddLeafSpec Rows.fnExactAddLeafRow = true := by
  simp only [joinedFacts, Bool.and_eq_true]
  and_intros <;> as_aux_lemma => kernel_rfl
theorem instOk : Try.f6.isInstance Try.pinned.checked.prog Rows.fnExactAddLeafRow.origin Rows.fnExactAddLeafRow.targs := of_decide_eq_true (by kernel_rfl)
theorem wrapOk : Try.f6.isWrapper Try.pinned.checked.prog Rows.fnExactAddLeafRow.wrapper Rows.fnExactAddLeafRow.mainSum := by
  unfold Func.isWrapper; first | (rw [if_pos (by decide +kernel)]; kernel_rfl) | (rw [if_neg (by decide +kernel)]; exact ⟨rfl, rfl⟩)
theorem over : Rows.fnExactAddLeafRow.holds Try.pinned (OpenSpec.ofChange Rows.fnExactAddLeafSpec) :=
  OpenClaim.holds_of_wide 6 Try.f6 rfl rfl rfl rfl rfl rfl rfl ⟨rfl, rfl, rfl, rfl, rfl⟩ rfl rfl rfl rfl rfl named Try.func6 closed instOk wrapOk
    (fun os started H enc _ => lifted os started H enc)
theorem proved : Rows.FnExactAddLeafSaid := over
#print axioms proved
end Go.Proofs.Ytejffoibihbnnaa.fnExactAddLeaf
namespace Go.Proofs.Ytejffoibihbnnaa
/-- The row, under a short name, for the claim. -/
theorem fnExactAddLeaf_holds : Rows.FnExactAddLeafSaid := fnExactAddLeaf.proved
end Go.Proofs.Ytejffoibihbnnaa
