/- The statement FnExactValidRulesSaid is proved; no conditions. -/
import Derived.Test.YtjdcohcdgdjobaaRows
import Derived.Test.YtjdcohcdgdjobaaWalkFnExactValidRules
import Derived.Test.YtjdcohcdgdjobaaEv2
import Derived.WalkKit
import Derived.ProofKit
import Derived.OpenShut
import Derived.ShutString
import Derived.ChangeOld
import Derived.Below
import Derived.SizedLaws
import Derived.Carry
namespace Go.Proofs.Ytjdcohcdgdjobaa.fnExactValidRules
open Go.ChangeShapes Go.WideShapes Go.ChangeAt Go.RowKit
open Go.ChangeMaps (open_string shut_string)
set_option linter.unusedVariables false
theorem own : ownKnob Try.prog.godebug = none := by kernel_rfl
theorem laidOut : laidOutB Try.prog = true := by kernel_rfl
theorem G0 : True := trivial
def gh : Ev.Gh := ⟨fun _ => 0, fun _ => 0, fun _ _ _ => 0, fun _ _ _ => 0⟩
theorem lf : Ev.leafs Try.prog 8 23 = some [2, 2, 2, 2] := by kernel_rfl
theorem lvInt {x : Ev.LV} (h : Ev.LvT Try.prog 2 x) : ∃ n, x = I n ∧ (Lit.int .i64 n).wf = true := by
  unfold Ev.LvT Ev.IsT at h
  rw [Try.underlying2] at h
  obtain ⟨v, rfl, n, rfl, hw⟩ := h
  exact ⟨n, rfl, hw⟩
theorem all4 {R : TypeId → Ev.LV → Prop} {a b c e : TypeId} {xs : List Ev.LV} (h : Ev.All2 R [a, b, c, e] xs) : ∃ x y z u, xs = [x, y, z, u] ∧ R a x ∧ R b y ∧ R c z ∧ R e u := by
  match xs, h with
  | [y0, y1, y2, y3], ⟨t0, t1, t2, t3, _⟩ => exact ⟨_, _, _, _, rfl, t0, t1, t2, t3⟩
theorem lv4 {xs : List Ev.LV} (h : Ev.All2 (Ev.LvT Try.prog) [2, 2, 2, 2] xs) : ∃ a b c e, xs = [I a, I b, I c, I e] ∧ (Lit.int .i64 a).wf = true ∧ (Lit.int .i64 b).wf = true ∧ (Lit.int .i64 c).wf = true ∧ (Lit.int .i64 e).wf = true := by
  obtain ⟨y0, y1, y2, y3, rfl, t0, t1, t2, t3⟩ := all4 h
  obtain ⟨a0, rfl, w0⟩ := lvInt t0
  obtain ⟨a1, rfl, w1⟩ := lvInt t1
  obtain ⟨a2, rfl, w2⟩ := lvInt t2
  obtain ⟨a3, rfl, w3⟩ := lvInt t3
  exact ⟨a0, a1, a2, a3, rfl, w0, w1, w2, w3⟩
theorem args1 {x : Ev.LV} {v : Value} {w : World} (h1 : Ev.R gh (fun b => b < w.heap.size) Ev.noMem w x v) (h2 : Ev.wf Ev.noMem x) : Ev.RL (fun x u => Ev.R gh (fun b => b < w.heap.size) Ev.noMem w x u ∧ Ev.wf Ev.noMem x) [x] #[v] := by
  refine ⟨rfl, fun k y hk => ?_⟩
  cases k with
  | zero => cases hk; exact ⟨v, rfl, h1, h2⟩
  | succ k => cases hk
set_option maxRecDepth 100000 in
theorem lifted (os : Os) (started : os.Started) (H : Type) (enc : TypeId × Value → H) :
    ReturnsInHanded {} Try.checked os 3 .any (Rows.fnExactValidRulesSpec.pre6 enc Try.prog Try.f3 Rows.fnExactValidRulesRow.domain false) (Rows.fnExactValidRulesSpec.post enc Try.prog Try.f3 false true false false) := by
  refine returnsInHanded_of_change_sized (C := Try.checked) own started (by kernel_rfl) Try.func3
    (ChangeSpec.witness6 (enc := enc) (C := Try.checked) false ⟨#[], #[.agg #[.int .i64 0, .int .i64 0, .int .i64 0, .int .i64 0]], []⟩ 8 (by kernel_rfl) (by kernel_rfl) (by kernel_rfl) (by kernel_rfl)) ?_
  intro W base args ds gs before hval0 hW hcnd hsz0 _
  have hval : ∀ (j : Nat) t v, Try.f3.params[j]? = some t → args[j]? = some v → Value.okWide Try.prog W .any base t v := hval0
  have hW' := hW
  obtain ⟨p, q, hA0, hV, rfl, hfz, hnd⟩ := hW
  have hA : DataW.TrodAll enc Try.prog W 0 (fun _ => true) true Try.f3.params.toList args.toList ds p := hA0
  rw [Try.params3] at hA hval
  obtain ⟨v0, vs0, d0, ds0, p0, q0, hargs, rfl, rfl, h0, r0⟩ := trodAll_cons hA
  obtain ⟨rfl, rfl, rfl⟩ := trodAll_nil r0
  obtain rfl : args = #[v0] := by cases args; simp_all
  obtain ⟨rfl, rfl⟩ := trodVars_none hV
  have k0 := h0
  have lt0 : ∀ x ∈ p0, x.block < W.heap.size := by obtain ⟨m, hm⟩ := k0; exact DataW.trod_lt m _ _ _ hm
  obtain ⟨xs, x1, x2, x3⟩ := Ev.open_agg (G := gh) Try.underlying23 lf (by kernel_rfl) (hval 0 23 v0 rfl rfl) h0
  clear hA0 hval0 hsz0
  obtain ⟨a0, a1, a2, a3, rfl, w0, w1, w2, w3⟩ := lv4 x1
  have con := (callOk 4 3 _ _ (r3 0 a0 a1 a2 a3)).2.2
  refine (Ev.Contract.walk (G := gh) con (args1 x2 x3)).mono fun e W' ⟨he, bel⟩ => ?_
  subst he
  exact ⟨_, rfl, _, _, _, [], _, [], hW', trodAll_mk1 (shut_bool Try.underlying4 _), (trodAll_cons_mk (Below.trod laidOut (by kernel_rfl) (of_decide_eq_true (by kernel_rfl)) k0 bel lt0) trodAll_mk0), rfl, bel.frame _, fun h => by cases h⟩
theorem over : Rows.fnExactValidRulesRow.holds Try.pinned (OpenSpec.ofChange Rows.fnExactValidRulesSpec) :=
  OpenClaim.holds_of_wide 3 Try.f3 rfl rfl rfl rfl rfl rfl rfl ⟨rfl, rfl, rfl, rfl, rfl⟩ rfl rfl rfl rfl rfl (by kernel_rfl) Try.func3 (by kernel_rfl)
    (of_decide_eq_true (by kernel_rfl)) (by unfold Func.isWrapper; first | (rw [if_pos (by decide +kernel)]; kernel_rfl) | (rw [if_neg (by decide +kernel)]; exact ⟨rfl, rfl⟩))
    (fun os started H enc _ => lifted os started H enc)
theorem proved : Rows.FnExactValidRulesSaid := over
#print axioms proved
end Go.Proofs.Ytjdcohcdgdjobaa.fnExactValidRules
namespace Go.Proofs.Ytjdcohcdgdjobaa
/-- The row, under a short name, for the claim. -/
theorem fnExactValidRules_holds : Rows.FnExactValidRulesSaid := fnExactValidRules.proved
end Go.Proofs.Ytjdcohcdgdjobaa
