/- The row of FnExactUsableArea: the program and the reference answer alike; no conditions. -/
import Derived.Test.YtejffoibihbnnaaRows
import Derived.Test.YtejffoibihbnnaaWUsa
import Derived.Test.YtejffoibihbnnaaEv4
import Derived.WalkKit
import Derived.ProofKit
import Derived.OpenShut
import Derived.ShutString
import Derived.ChangeOld
import Derived.Below
import Derived.SizedLaws
import Derived.Carry
namespace Go.Proofs.Ytejffoibihbnnaa.fnExactUsableArea
open Go.ChangeShapes Go.WideShapes Go.ChangeAt Go.RowKit
open Go.ChangeMaps (open_string shut_string)
open Go.Proofs.Ytejffoibihbnnaa.walkS Go.Proofs.Ytejffoibihbnnaa.Ev
set_option linter.unusedVariables false
attribute [local irreducible] Ev.LvT Ev.CellT Ev.IsT
theorem own : ownKnob Try.prog.godebug = none := by kernel_rfl
theorem laidOut : laidOutB Try.prog = true := by kernel_rfl
def gh : Ev.Gh := ⟨fun _ => 0, fun _ => 0, fun _ _ _ => 0, fun _ _ _ => 0⟩
theorem lv9 {x : Ev.LV} (h : Ev.LvT Try.prog 9 x) : ∃ s, x = T s ∧ s.size ≤ maxLen := by
  exact Ev.lv_string Try.underlying9 h
theorem lv2 {x : Ev.LV} (h : Ev.LvT Try.prog 2 x) : ∃ n, x = I n ∧ -9223372036854775808 ≤ n ∧ n ≤ 9223372036854775807 := by
  obtain ⟨n, rfl, hw⟩ := Ev.lv_int Try.underlying2 h
  exact ⟨n, rfl, Ev.in64 hw⟩
theorem lc2 {x : Ev.Cell} (h : Ev.CellT Try.prog 2 x) : ∃ n, x = .sc (.int .i64 n) ∧ -9223372036854775808 ≤ n ∧ n ≤ 9223372036854775807 := by
  obtain ⟨n, rfl, hw⟩ := Ev.cell_int Try.underlying2 h
  exact ⟨n, rfl, Ev.in64 hw⟩
theorem le24 : Ev.leafs Try.prog 8 210 = some [2, 2, 2, 2] := by kernel_rfl
def W24 (p : Int × Int × Int × Int) : Prop := (-9223372036854775808 ≤ p.1 ∧ p.1 ≤ 9223372036854775807) ∧ (-9223372036854775808 ≤ p.2.1 ∧ p.2.1 ≤ 9223372036854775807) ∧ (-9223372036854775808 ≤ p.2.2.1 ∧ p.2.2.1 ≤ 9223372036854775807) ∧ (-9223372036854775808 ≤ p.2.2.2 ∧ p.2.2.2 ≤ 9223372036854775807)
abbrev R24 (p : Int × Int × Int × Int) : List Ev.Cell := [.sc (.int .i64 p.1), .sc (.int .i64 p.2.1), .sc (.int .i64 p.2.2.1), .sc (.int .i64 p.2.2.2)]
theorem row24 {row : List Ev.Cell} (h : Ev.All2 (Ev.CellT Try.prog) [2, 2, 2, 2] row) : ∃ p : Int × Int × Int × Int, row = R24 p ∧ W24 p := by
  obtain ⟨y0, z0, rfl, t0, s0⟩ := Ev.all_to h
  obtain ⟨y1, z1, rfl, t1, s1⟩ := Ev.all_to s0
  obtain ⟨y2, z2, rfl, t2, s2⟩ := Ev.all_to s1
  obtain ⟨y3, z3, rfl, t3, s3⟩ := Ev.all_to s2
  obtain rfl := Ev.all_nil s3
  obtain ⟨a0, rfl, u0⟩ := lc2 t0
  obtain ⟨a1, rfl, u1⟩ := lc2 t1
  obtain ⟨a2, rfl, u2⟩ := lc2 t2
  obtain ⟨a3, rfl, u3⟩ := lc2 t3
  exact ⟨⟨a0, a1, a2, a3⟩, rfl, ⟨u0, u1, u2, u3⟩⟩
theorem lv24 {x : Ev.LV} (h : Ev.LvT Try.prog 24 x) : ∃ l : List (Int × Int × Int × Int), SV 4 (l.map R24) x ∧ l.length ≤ maxLen ∧ ∀ p ∈ l, W24 p := by
  rcases Ev.lv_slice Try.underlying24 le24 h with rfl | ⟨rows, rfl, hlen, hrows⟩
  · exact ⟨[], .inr ⟨rfl, rfl⟩, by simp, fun p hp => by simp at hp⟩
  · obtain ⟨l, rfl, hW⟩ := Ev.rows_of fun row hr => row24 (hrows row hr)
    exact ⟨l, .inl rfl, by simpa using hlen, hW⟩
theorem lf0 : Ev.leafs Try.prog 8 26 = some [9, 9, 2, 9, 2, 2, 2, 2, 24] := by kernel_rfl
theorem args {x0 : Ev.LV} {v0 : Value} {w : World} (h0 : Ev.R gh (fun b => b < w.heap.size) Ev.noMem w x0 v0 ∧ Ev.wf Ev.noMem x0) : Ev.RL (fun x u => Ev.R gh (fun b => b < w.heap.size) Ev.noMem w x u ∧ Ev.wf Ev.noMem x) [x0] #[v0] := by
  refine ⟨rfl, fun k y hk => ?_⟩
  cases k with
  | zero => cases hk; exact ⟨v0, rfl, h0⟩
  | succ k =>
    cases hk
set_option maxRecDepth 100000 in
theorem lifted (os : Os) (started : os.Started) (H : Type) (enc : TypeId × Value → H) :
    ReturnsInHanded {} Try.checked os 13 .any (Rows.fnExactUsableAreaSpec.pre6 enc Try.prog Try.f13 Rows.fnExactUsableAreaRow.domain false) (Rows.fnExactUsableAreaSpec.post enc Try.prog Try.f13 false true false false) := by
  refine returnsInHanded_of_change_sized (C := Try.checked) own started (by kernel_rfl) Try.func13
    (ChangeSpec.witness6 (enc := enc) (C := Try.checked) false ⟨#[], #[.agg #[.string ByteArray.empty, .string ByteArray.empty, .int .i64 0, .string ByteArray.empty, .int .i64 0, .int .i64 0, .int .i64 0, .int .i64 0, .slice none 0 0]], []⟩ 8 (by kernel_rfl) (by kernel_rfl) (by kernel_rfl) (by kernel_rfl)) ?_
  intro W base args ds gs before hval0 hW hcnd hsz0 _
  have hval : ∀ (j : Nat) t v, Try.f13.params[j]? = some t → args[j]? = some v → Value.okWide Try.prog W .any base t v := hval0
  have hW' := hW
  obtain ⟨p, q, hA0, hV, rfl, hfz, hnd⟩ := hW
  have hA : DataW.TrodAll enc Try.prog W 0 (fun _ => true) true Try.f13.params.toList args.toList ds p := hA0
  rw [Try.params13] at hA hval
  obtain ⟨v0, vs0, d0, ds0, p0, q0, hargs, rfl, rfl, h0, r0⟩ := trodAll_cons hA
  obtain ⟨rfl, rfl, rfl⟩ := trodAll_nil r0
  obtain rfl : args = #[v0] := by cases args; simp_all
  obtain ⟨rfl, rfl⟩ := trodVars_none hV
  have k0 := h0
  have lt0 : ∀ x ∈ p0, x.block < W.heap.size := by obtain ⟨m, hm⟩ := k0; exact DataW.trod_lt m _ _ _ hm
  obtain ⟨xs0, x0_1, x0_2, x0_3⟩ := Ev.open_agg (G := gh) Try.underlying26 lf0 (by kernel_rfl) (hval 0 26 v0 rfl rfl) h0
  clear hA0 hval0 hsz0
  obtain ⟨y0_0, zs0_0, rfl, t0_0, s0_0⟩ := Ev.all_to x0_1
  obtain ⟨y0_1, zs0_1, rfl, t0_1, s0_1⟩ := Ev.all_to s0_0
  obtain ⟨y0_2, zs0_2, rfl, t0_2, s0_2⟩ := Ev.all_to s0_1
  obtain ⟨y0_3, zs0_3, rfl, t0_3, s0_3⟩ := Ev.all_to s0_2
  obtain ⟨y0_4, zs0_4, rfl, t0_4, s0_4⟩ := Ev.all_to s0_3
  obtain ⟨y0_5, zs0_5, rfl, t0_5, s0_5⟩ := Ev.all_to s0_4
  obtain ⟨y0_6, zs0_6, rfl, t0_6, s0_6⟩ := Ev.all_to s0_5
  obtain ⟨y0_7, zs0_7, rfl, t0_7, s0_7⟩ := Ev.all_to s0_6
  obtain ⟨y0_8, zs0_8, rfl, t0_8, s0_8⟩ := Ev.all_to s0_7
  obtain rfl := Ev.all_nil s0_8
  obtain ⟨a0, rfl, w0⟩ := lv9 t0_0
  obtain ⟨a1, rfl, w1⟩ := lv9 t0_1
  obtain ⟨a2, rfl, w2⟩ := lv2 t0_2
  obtain ⟨a3, rfl, w3⟩ := lv9 t0_3
  obtain ⟨a4, rfl, w4⟩ := lv2 t0_4
  obtain ⟨a5, rfl, w5⟩ := lv2 t0_5
  obtain ⟨a6, rfl, w6⟩ := lv2 t0_6
  obtain ⟨a7, rfl, w7⟩ := lv2 t0_7
  obtain ⟨a8, h'8, w8⟩ := lv24 t0_8
  have con := (callOk 8 13 _ _ (r13 0 ⟨a0, a1, a2, a3, a4, a5, a6, a7, a8⟩ ⟨w0, w1, w3, w8.1⟩ h'8)).2.2
  refine (Ev.Contract.walk (G := gh) (Ev.Tb.nil _ _) con (args ⟨x0_2, x0_3⟩)).mono fun e W' ⟨he, bel⟩ => ?_
  subst he
  exact ⟨_, rfl, _, _, _, [], _, [], hW', trodAll_mk1 (shut_bool Try.underlying4 _), (trodAll_cons_mk (Below.trod laidOut (by kernel_rfl) (of_decide_eq_true (by kernel_rfl)) k0 bel lt0) trodAll_mk0), rfl, bel.frame _, fun h => by cases h⟩
theorem named : Try.pinned.checked.prog.funcNamed Rows.fnExactUsableAreaRow.func = some 13 := by kernel_rfl
set_option maxHeartbeats 40000000 in
theorem closed : joinedFacts Try.pinned.checked.prog 13 Try.f13 Rows.fnExactUsableAreaSpec Rows.fnExactUsableAreaRow = true := by
  simp only [joinedFacts, Bool.and_eq_true]
  and_intros <;> as_aux_lemma => kernel_rfl
theorem instOk : Try.f13.isInstance Try.pinned.checked.prog Rows.fnExactUsableAreaRow.origin Rows.fnExactUsableAreaRow.targs := of_decide_eq_true (by kernel_rfl)
theorem wrapOk : Try.f13.isWrapper Try.pinned.checked.prog Rows.fnExactUsableAreaRow.wrapper Rows.fnExactUsableAreaRow.mainSum := by
  unfold Func.isWrapper; first | (rw [if_pos (by decide +kernel)]; kernel_rfl) | (rw [if_neg (by decide +kernel)]; exact ⟨rfl, rfl⟩)
theorem over : Rows.fnExactUsableAreaRow.holds Try.pinned (OpenSpec.ofChange Rows.fnExactUsableAreaSpec) :=
  OpenClaim.holds_of_wide 13 Try.f13 rfl rfl rfl rfl rfl rfl rfl ⟨rfl, rfl, rfl, rfl, rfl⟩ rfl rfl rfl rfl rfl named Try.func13 closed instOk wrapOk
    (fun os started H enc _ => lifted os started H enc)
theorem proved : Rows.FnExactUsableAreaSaid := over
#print axioms proved
end Go.Proofs.Ytejffoibihbnnaa.fnExactUsableArea
namespace Go.Proofs.Ytejffoibihbnnaa
/-- The row, under a short name, for the claim. -/
theorem fnExactUsableArea_holds : Rows.FnExactUsableAreaSaid := fnExactUsableArea.proved
end Go.Proofs.Ytejffoibihbnnaa
