/- The row of FnExactUsedLeaves: the program and the reference answer alike; no conditions. -/
import Derived.Test.YtejffoibihbnnaaRows
import Derived.Test.YtejffoibihbnnaaWUls
import Derived.Test.YtejffoibihbnnaaEv4
import Derived.WalkKit
import Derived.ProofKit
import Derived.OpenShut
import Derived.ShutString
import Derived.ChangeOld
import Derived.Below
import Derived.SizedLaws
import Derived.Carry
namespace Go.Proofs.Ytejffoibihbnnaa.fnExactUsedLeaves
open Go.ChangeShapes Go.WideShapes Go.ChangeAt Go.RowKit
open Go.ChangeMaps (open_string shut_string)
open Go.Proofs.Ytejffoibihbnnaa.walkS Go.Proofs.Ytejffoibihbnnaa.Ev
set_option linter.unusedVariables false
attribute [local irreducible] Ev.LvT Ev.CellT Ev.IsT
theorem own : ownKnob Try.prog.godebug = none := by kernel_rfl
theorem laidOut : laidOutB Try.prog = true := by kernel_rfl
def gh : Ev.Gh := ⟨fun _ => 0, fun _ => 0, fun _ _ _ => 0, fun _ _ _ => 0⟩
theorem lc2 {x : Ev.Cell} (h : Ev.CellT Try.prog 2 x) : ∃ n, x = .sc (.int .i64 n) ∧ -9223372036854775808 ≤ n ∧ n ≤ 9223372036854775807 := by
  obtain ⟨n, rfl, hw⟩ := Ev.cell_int Try.underlying2 h
  exact ⟨n, rfl, Ev.in64 hw⟩
theorem le67 : Ev.leafs Try.prog 8 153 = some [2, 2, 2, 2, 2] := by kernel_rfl
def W67 (p : Int × Int × Int × Int × Int) : Prop := (-9223372036854775808 ≤ p.1 ∧ p.1 ≤ 9223372036854775807) ∧ (-9223372036854775808 ≤ p.2.1 ∧ p.2.1 ≤ 9223372036854775807) ∧ (-9223372036854775808 ≤ p.2.2.1 ∧ p.2.2.1 ≤ 9223372036854775807) ∧ (-9223372036854775808 ≤ p.2.2.2.1 ∧ p.2.2.2.1 ≤ 9223372036854775807) ∧ (-9223372036854775808 ≤ p.2.2.2.2 ∧ p.2.2.2.2 ≤ 9223372036854775807)
abbrev R67 (p : Int × Int × Int × Int × Int) : List Ev.Cell := [.sc (.int .i64 p.1), .sc (.int .i64 p.2.1), .sc (.int .i64 p.2.2.1), .sc (.int .i64 p.2.2.2.1), .sc (.int .i64 p.2.2.2.2)]
theorem row67 {row : List Ev.Cell} (h : Ev.All2 (Ev.CellT Try.prog) [2, 2, 2, 2, 2] row) : ∃ p : Int × Int × Int × Int × Int, row = R67 p ∧ W67 p := by
  obtain ⟨y0, z0, rfl, t0, s0⟩ := Ev.all_to h
  obtain ⟨y1, z1, rfl, t1, s1⟩ := Ev.all_to s0
  obtain ⟨y2, z2, rfl, t2, s2⟩ := Ev.all_to s1
  obtain ⟨y3, z3, rfl, t3, s3⟩ := Ev.all_to s2
  obtain ⟨y4, z4, rfl, t4, s4⟩ := Ev.all_to s3
  obtain rfl := Ev.all_nil s4
  obtain ⟨a0, rfl, u0⟩ := lc2 t0
  obtain ⟨a1, rfl, u1⟩ := lc2 t1
  obtain ⟨a2, rfl, u2⟩ := lc2 t2
  obtain ⟨a3, rfl, u3⟩ := lc2 t3
  obtain ⟨a4, rfl, u4⟩ := lc2 t4
  exact ⟨⟨a0, a1, a2, a3, a4⟩, rfl, ⟨u0, u1, u2, u3, u4⟩⟩
theorem lv67 {x : Ev.LV} (h : Ev.LvT Try.prog 67 x) : ∃ l : List (Int × Int × Int × Int × Int), SV 5 (l.map R67) x ∧ l.length ≤ maxLen ∧ ∀ p ∈ l, W67 p := by
  rcases Ev.lv_slice Try.underlying67 le67 h with rfl | ⟨rows, rfl, hlen, hrows⟩
  · exact ⟨[], .inr ⟨rfl, rfl⟩, by simp, fun p hp => by simp at hp⟩
  · obtain ⟨l, rfl, hW⟩ := Ev.rows_of fun row hr => row67 (hrows row hr)
    exact ⟨l, .inl rfl, by simpa using hlen, hW⟩
theorem args {x0 : Ev.LV} {v0 : Value} {w : World} (h0 : Ev.R gh (fun b => b < w.heap.size) Ev.noMem w x0 v0 ∧ Ev.wf Ev.noMem x0) : Ev.RL (fun x u => Ev.R gh (fun b => b < w.heap.size) Ev.noMem w x u ∧ Ev.wf Ev.noMem x) [x0] #[v0] := by
  refine ⟨rfl, fun k y hk => ?_⟩
  cases k with
  | zero => cases hk; exact ⟨v0, rfl, h0⟩
  | succ k =>
    cases hk
set_option maxRecDepth 1000000 in
theorem cells67 {H : Type} {enc : TypeId × Value → H} {v : Value} {w : World} {r : Reach} {b0 : Nat} {d : DataW H} {ps : List MemPlace} {sp : Nat → Bool} {held : Bool} (h : Value.okWide Try.prog w r b0 67 v) (hd : DataW.Trod enc Try.prog w 0 sp held 67 v d ps) : v.cells = #[v] := by
  exact Ev.cells_slice Try.underlying67 h
set_option maxRecDepth 100000 in
theorem lifted (os : Os) (started : os.Started) (H : Type) (enc : TypeId × Value → H) :
    ReturnsInHanded {} Try.checked os 7 .any (Rows.fnExactUsedLeavesSpec.pre6 enc Try.prog Try.f7 Rows.fnExactUsedLeavesRow.domain false) (Rows.fnExactUsedLeavesSpec.post enc Try.prog Try.f7 false true false false) := by
  refine returnsInHanded_of_change_sized (C := Try.checked) own started (by kernel_rfl) Try.func7
    (ChangeSpec.witness6 (enc := enc) (C := Try.checked) false ⟨#[], #[.slice none 0 0], []⟩ 8 (by kernel_rfl) (by kernel_rfl) (by kernel_rfl) (by kernel_rfl)) ?_
  intro W base args ds gs before hval0 hW hcnd hsz0 _
  have hval : ∀ (j : Nat) t v, Try.f7.params[j]? = some t → args[j]? = some v → Value.okWide Try.prog W .any base t v := hval0
  have hW' := hW
  obtain ⟨p, q, hA0, hV, rfl, hfz, hnd⟩ := hW
  have hA : DataW.TrodAll enc Try.prog W 0 (fun _ => true) true Try.f7.params.toList args.toList ds p := hA0
  rw [Try.params7] at hA hval
  obtain ⟨v0, vs0, d0, ds0, p0, q0, hargs, rfl, rfl, h0, r0⟩ := trodAll_cons hA
  obtain ⟨rfl, rfl, rfl⟩ := trodAll_nil r0
  obtain rfl : args = #[v0] := by cases args; simp_all
  obtain ⟨rfl, rfl⟩ := trodVars_none hV
  have k0 := h0
  have lt0 : ∀ x ∈ p0, x.block < W.heap.size := by obtain ⟨m, hm⟩ := k0; exact DataW.trod_lt m _ _ _ hm
  obtain ⟨y0, x0_1, x0_2, x0_3⟩ := Ev.open_one (G := gh) (t := 67) (by kernel_rfl) (hval 0 67 v0 rfl rfl) h0 (cells67 (hval 0 67 v0 rfl rfl) h0)
  clear hA0 hval0 hsz0
  obtain ⟨a0, h'0, w0⟩ := lv67 x0_1
  have con := (callOk 6 7 _ _ (r7 0 a0 w0.1 h'0)).2.2
  refine (Ev.Contract.walk (G := gh) (Ev.Tb.nil _ _) con (args ⟨x0_2, x0_3⟩)).mono fun e W' ⟨he, bel⟩ => ?_
  subst he
  exact ⟨_, rfl, _, _, _, [], _, [], hW', trodAll_mk1 (shut_bool Try.underlying4 _), (trodAll_cons_mk (Below.trod laidOut (by kernel_rfl) (of_decide_eq_true (by kernel_rfl)) k0 bel lt0) trodAll_mk0), rfl, bel.frame _, fun h => by cases h⟩
theorem named : Try.pinned.checked.prog.funcNamed Rows.fnExactUsedLeavesRow.func = some 7 := by kernel_rfl
set_option maxHeartbeats 40000000 in
theorem closed : joinedFacts Try.pinned.checked.prog 7 Try.f7 Rows.fnExactUsedLeavesSpec Rows.fnExactUsedLeavesRow = true := by
  simp only [joinedFacts, Bool.and_eq_true]
  and_intros <;> as_aux_lemma => kernel_rfl
theorem instOk : Try.f7.isInstance Try.pinned.checked.prog Rows.fnExactUsedLeavesRow.origin Rows.fnExactUsedLeavesRow.targs := of_decide_eq_true (by kernel_rfl)
theorem wrapOk : Try.f7.isWrapper Try.pinned.checked.prog Rows.fnExactUsedLeavesRow.wrapper Rows.fnExactUsedLeavesRow.mainSum := by
  unfold Func.isWrapper; first | (rw [if_pos (by decide +kernel)]; kernel_rfl) | (rw [if_neg (by decide +kernel)]; exact ⟨rfl, rfl⟩)
theorem over : Rows.fnExactUsedLeavesRow.holds Try.pinned (OpenSpec.ofChange Rows.fnExactUsedLeavesSpec) :=
  OpenClaim.holds_of_wide 7 Try.f7 rfl rfl rfl rfl rfl rfl rfl ⟨rfl, rfl, rfl, rfl, rfl⟩ rfl rfl rfl rfl rfl named Try.func7 closed instOk wrapOk
    (fun os started H enc _ => lifted os started H enc)
theorem proved : Rows.FnExactUsedLeavesSaid := over
#print axioms proved
end Go.Proofs.Ytejffoibihbnnaa.fnExactUsedLeaves
namespace Go.Proofs.Ytejffoibihbnnaa
/-- The row, under a short name, for the claim. -/
theorem fnExactUsedLeaves_holds : Rows.FnExactUsedLeavesSaid := fnExactUsedLeaves.proved
end Go.Proofs.Ytejffoibihbnnaa
