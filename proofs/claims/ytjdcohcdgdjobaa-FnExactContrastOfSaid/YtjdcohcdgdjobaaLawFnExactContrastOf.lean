/- The row of FnExactContrastOf: the program and the reference answer alike; no conditions. -/
import Derived.Test.YtjdcohcdgdjobaaRows
import Derived.Test.YtjdcohcdgdjobaaWalkV
import Derived.Test.YtjdcohcdgdjobaaEv2
import Derived.WalkKit
import Derived.ProofKit
import Derived.OpenShut
import Derived.ShutString
import Derived.ChangeOld
import Derived.Below
import Derived.SizedLaws
import Derived.Carry
namespace Go.Proofs.Ytjdcohcdgdjobaa.fnExactContrastOf
open Go.ChangeShapes Go.WideShapes Go.ChangeAt Go.RowKit
open Go.ChangeMaps (open_string shut_string)
open Go.Proofs.Ytjdcohcdgdjobaa.walkV Go.Proofs.Ytjdcohcdgdjobaa.Ev
set_option linter.unusedVariables false
theorem own : ownKnob Try.prog.godebug = none := by kernel_rfl
theorem laidOut : laidOutB Try.prog = true := by kernel_rfl
def gh : Ev.Gh := ⟨fun _ => 0, fun _ => 0, fun _ _ _ => 0, fun _ _ _ => 0⟩
theorem in64 {n : Int} (h : (Lit.int .i64 n).wf = true) : -9223372036854775808 ≤ n ∧ n ≤ 9223372036854775807 := by
  simpa [Lit.wf, IntKind.min, IntKind.max, IntKind.signed, IntKind.bits] using h
theorem all_to {α β : Type} {R : α → β → Prop} {x : α} {xs : List α} {ys : List β} (h : Ev.All2 R (x :: xs) ys) : ∃ y zs, ys = y :: zs ∧ R x y ∧ Ev.All2 R xs zs := by
  cases ys with
  | nil => exact h.elim
  | cons y zs => exact ⟨y, zs, rfl, h.1, h.2⟩
theorem all_nil {α β : Type} {R : α → β → Prop} {ys : List β} (h : Ev.All2 R [] ys) : ys = [] := by
  cases ys with
  | nil => rfl
  | cons y zs => exact h.elim
theorem lv9 {x : Ev.LV} (h : Ev.LvT Try.prog 9 x) : ∃ s, x = T s ∧ s.size ≤ maxLen := by
  unfold Ev.LvT Ev.IsT at h
  rw [Try.underlying9] at h
  obtain ⟨v, rfl, n, rfl, hw⟩ := h
  exact ⟨n, rfl, hw⟩
theorem lv2 {x : Ev.LV} (h : Ev.LvT Try.prog 2 x) : ∃ n, x = I n ∧ -9223372036854775808 ≤ n ∧ n ≤ 9223372036854775807 := by
  unfold Ev.LvT Ev.IsT at h
  rw [Try.underlying2] at h
  obtain ⟨v, rfl, n, rfl, hw⟩ := h
  exact ⟨n, rfl, in64 hw⟩
theorem lf0 : Ev.leafs Try.prog 8 49 = some [9, 2, 2] := by kernel_rfl
theorem lf1 : Ev.leafs Try.prog 8 49 = some [9, 2, 2] := by kernel_rfl
theorem args {x0 x1 : Ev.LV} {v0 v1 : Value} {w : World} (h0 : Ev.R gh (fun b => b < w.heap.size) Ev.noMem w x0 v0 ∧ Ev.wf Ev.noMem x0) (h1 : Ev.R gh (fun b => b < w.heap.size) Ev.noMem w x1 v1 ∧ Ev.wf Ev.noMem x1) : Ev.RL (fun x u => Ev.R gh (fun b => b < w.heap.size) Ev.noMem w x u ∧ Ev.wf Ev.noMem x) [x0, x1] #[v0, v1] := by
  refine ⟨rfl, fun k y hk => ?_⟩
  cases k with
  | zero => cases hk; exact ⟨v0, rfl, h0⟩
  | succ k =>
    cases k with
    | zero => cases hk; exact ⟨v1, rfl, h1⟩
    | succ k =>
      cases hk
set_option maxRecDepth 100000 in
theorem lifted (os : Os) (started : os.Started) (H : Type) (enc : TypeId × Value → H) :
    ReturnsInHanded {} Try.checked os 14 .any (Rows.fnExactContrastOfSpec.pre6 enc Try.prog Try.f14 Rows.fnExactContrastOfRow.domain false) (Rows.fnExactContrastOfSpec.post enc Try.prog Try.f14 false true false false) := by
  refine returnsInHanded_of_change_sized (C := Try.checked) own started (by kernel_rfl) Try.func14
    (ChangeSpec.witness6 (enc := enc) (C := Try.checked) false ⟨#[], #[.agg #[.string ByteArray.empty, .int .i64 0, .int .i64 0], .agg #[.string ByteArray.empty, .int .i64 0, .int .i64 0]], []⟩ 8 (by kernel_rfl) (by kernel_rfl) (by kernel_rfl) (by kernel_rfl)) ?_
  intro W base args ds gs before hval0 hW hcnd hsz0 _
  have hval : ∀ (j : Nat) t v, Try.f14.params[j]? = some t → args[j]? = some v → Value.okWide Try.prog W .any base t v := hval0
  have hW' := hW
  obtain ⟨p, q, hA0, hV, rfl, hfz, hnd⟩ := hW
  have hA : DataW.TrodAll enc Try.prog W 0 (fun _ => true) true Try.f14.params.toList args.toList ds p := hA0
  rw [Try.params14] at hA hval
  obtain ⟨v0, vs0, d0, ds0, p0, q0, hargs, rfl, rfl, h0, r0⟩ := trodAll_cons hA
  obtain ⟨v1, vs1, d1, ds1, p1, q1, rfl, rfl, rfl, h1, r1⟩ := trodAll_cons r0
  obtain ⟨rfl, rfl, rfl⟩ := trodAll_nil r1
  obtain rfl : args = #[v0, v1] := by cases args; simp_all
  obtain ⟨rfl, rfl⟩ := trodVars_none hV
  have k0 := h0
  have k1 := h1
  have lt0 : ∀ x ∈ p0, x.block < W.heap.size := by obtain ⟨m, hm⟩ := k0; exact DataW.trod_lt m _ _ _ hm
  have lt1 : ∀ x ∈ p1, x.block < W.heap.size := by obtain ⟨m, hm⟩ := k1; exact DataW.trod_lt m _ _ _ hm
  obtain ⟨xs0, x0_1, x0_2, x0_3⟩ := Ev.open_agg (G := gh) Try.underlying49 lf0 (by kernel_rfl) (hval 0 49 v0 rfl rfl) h0
  obtain ⟨xs1, x1_1, x1_2, x1_3⟩ := Ev.open_agg (G := gh) Try.underlying49 lf1 (by kernel_rfl) (hval 1 49 v1 rfl rfl) h1
  clear hA0 hval0 hsz0
  obtain ⟨y0_0, zs0_0, rfl, t0_0, s0_0⟩ := all_to x0_1
  obtain ⟨y0_1, zs0_1, rfl, t0_1, s0_1⟩ := all_to s0_0
  obtain ⟨y0_2, zs0_2, rfl, t0_2, s0_2⟩ := all_to s0_1
  obtain rfl := all_nil s0_2
  obtain ⟨a0, rfl, w0⟩ := lv9 t0_0
  obtain ⟨a1, rfl, w1⟩ := lv2 t0_1
  obtain ⟨a2, rfl, w2⟩ := lv2 t0_2
  obtain ⟨y1_0, zs1_0, rfl, t1_0, s1_0⟩ := all_to x1_1
  obtain ⟨y1_1, zs1_1, rfl, t1_1, s1_1⟩ := all_to s1_0
  obtain ⟨y1_2, zs1_2, rfl, t1_2, s1_2⟩ := all_to s1_1
  obtain rfl := all_nil s1_2
  obtain ⟨a3, rfl, w3⟩ := lv9 t1_0
  obtain ⟨a4, rfl, w4⟩ := lv2 t1_1
  obtain ⟨a5, rfl, w5⟩ := lv2 t1_2
  have con := (callOk 5 14 _ _ (r14 0 a0 a3 a1 a2 a4 a5)).2.2
  refine (Ev.Contract.walk (G := gh) con (args ⟨x0_2, x0_3⟩ ⟨x1_2, x1_3⟩)).mono fun e W' ⟨he, bel⟩ => ?_
  subst he
  exact ⟨_, rfl, _, _, _, [], _, [], hW', trodAll_mk1 (shut_bool Try.underlying4 _), (trodAll_cons_mk (Below.trod laidOut (by kernel_rfl) (of_decide_eq_true (by kernel_rfl)) k0 bel lt0) (trodAll_cons_mk (Below.trod laidOut (by kernel_rfl) (of_decide_eq_true (by kernel_rfl)) k1 bel lt1) trodAll_mk0)), rfl, bel.frame _, fun h => by cases h⟩
theorem over : Rows.fnExactContrastOfRow.holds Try.pinned (OpenSpec.ofChange Rows.fnExactContrastOfSpec) :=
  OpenClaim.holds_of_wide 14 Try.f14 rfl rfl rfl rfl rfl rfl rfl ⟨rfl, rfl, rfl, rfl, rfl⟩ rfl rfl rfl rfl rfl (by kernel_rfl) Try.func14 (by kernel_rfl)
    (of_decide_eq_true (by kernel_rfl)) (by unfold Func.isWrapper; first | (rw [if_pos (by decide +kernel)]; kernel_rfl) | (rw [if_neg (by decide +kernel)]; exact ⟨rfl, rfl⟩))
    (fun os started H enc _ => lifted os started H enc)
theorem proved : Rows.FnExactContrastOfSaid := over
#print axioms proved
end Go.Proofs.Ytjdcohcdgdjobaa.fnExactContrastOf
namespace Go.Proofs.Ytjdcohcdgdjobaa
/-- The row, under a short name, for the claim. -/
theorem fnExactContrastOf_holds : Rows.FnExactContrastOfSaid := fnExactContrastOf.proved
end Go.Proofs.Ytjdcohcdgdjobaa
