/- The row of FnExactNearestSpecies: the program and the reference answer alike; no conditions. -/
import Derived.Test.YtjdcohcdgdjobaaRows
import Derived.Test.YtjdcohcdgdjobaaWalkV
import Derived.Test.YtjdcohcdgdjobaaEv2
import Derived.WalkKit
import Derived.ProofKit
import Derived.OpenShut
import Derived.ShutString
import Derived.ChangeOld
import Derived.Below
import Derived.SizedLaws
import Derived.Carry
namespace Go.Proofs.Ytjdcohcdgdjobaa.fnExactNearestSpecies
open Go.ChangeShapes Go.WideShapes Go.ChangeAt Go.RowKit
open Go.ChangeMaps (open_string shut_string)
open Go.Proofs.Ytjdcohcdgdjobaa.walkV Go.Proofs.Ytjdcohcdgdjobaa.Ev
set_option linter.unusedVariables false
theorem own : ownKnob Try.prog.godebug = none := by kernel_rfl
theorem laidOut : laidOutB Try.prog = true := by kernel_rfl
def gh : Ev.Gh := ⟨fun _ => 0, fun _ => 0, fun _ _ _ => 0, fun _ _ _ => 0⟩
theorem in64 {n : Int} (h : (Lit.int .i64 n).wf = true) : -9223372036854775808 ≤ n ∧ n ≤ 9223372036854775807 := by
  simpa [Lit.wf, IntKind.min, IntKind.max, IntKind.signed, IntKind.bits] using h
theorem all_to {α β : Type} {R : α → β → Prop} {x : α} {xs : List α} {ys : List β} (h : Ev.All2 R (x :: xs) ys) : ∃ y zs, ys = y :: zs ∧ R x y ∧ Ev.All2 R xs zs := by
  cases ys with
  | nil => exact h.elim
  | cons y zs => exact ⟨y, zs, rfl, h.1, h.2⟩
theorem all_nil {α β : Type} {R : α → β → Prop} {ys : List β} (h : Ev.All2 R [] ys) : ys = [] := by
  cases ys with
  | nil => rfl
  | cons y zs => exact h.elim
theorem lv2 {x : Ev.LV} (h : Ev.LvT Try.prog 2 x) : ∃ n, x = I n ∧ -9223372036854775808 ≤ n ∧ n ≤ 9223372036854775807 := by
  unfold Ev.LvT Ev.IsT at h
  rw [Try.underlying2] at h
  obtain ⟨v, rfl, n, rfl, hw⟩ := h
  exact ⟨n, rfl, in64 hw⟩
theorem args {x0 : Ev.LV} {v0 : Value} {w : World} (h0 : Ev.R gh (fun b => b < w.heap.size) Ev.noMem w x0 v0 ∧ Ev.wf Ev.noMem x0) : Ev.RL (fun x u => Ev.R gh (fun b => b < w.heap.size) Ev.noMem w x u ∧ Ev.wf Ev.noMem x) [x0] #[v0] := by
  refine ⟨rfl, fun k y hk => ?_⟩
  cases k with
  | zero => cases hk; exact ⟨v0, rfl, h0⟩
  | succ k =>
    cases hk
theorem cells2 {H : Type} {enc : TypeId × Value → H} {v : Value} {w : World} {r : Reach} {b0 : Nat} {d : DataW H} {ps : List MemPlace} {sp : Nat → Bool} {held : Bool} (h : Value.okWide Try.prog w r b0 2 v) (hd : DataW.Trod enc Try.prog w 0 sp held 2 v d ps) : v.cells = #[v] := by
  obtain ⟨n, rfl, _⟩ := open_int Try.underlying2 h hd
  rfl
set_option maxRecDepth 100000 in
theorem lifted (os : Os) (started : os.Started) (H : Type) (enc : TypeId × Value → H) :
    ReturnsInHanded {} Try.checked os 9 .any (Rows.fnExactNearestSpeciesSpec.pre6 enc Try.prog Try.f9 Rows.fnExactNearestSpeciesRow.domain false) (Rows.fnExactNearestSpeciesSpec.post enc Try.prog Try.f9 false true false false) := by
  refine returnsInHanded_of_change_sized (C := Try.checked) own started (by kernel_rfl) Try.func9
    (ChangeSpec.witness6 (enc := enc) (C := Try.checked) false ⟨#[], #[.int .i64 0], []⟩ 8 (by kernel_rfl) (by kernel_rfl) (by kernel_rfl) (by kernel_rfl)) ?_
  intro W base args ds gs before hval0 hW hcnd hsz0 _
  have hval : ∀ (j : Nat) t v, Try.f9.params[j]? = some t → args[j]? = some v → Value.okWide Try.prog W .any base t v := hval0
  have hW' := hW
  obtain ⟨p, q, hA0, hV, rfl, hfz, hnd⟩ := hW
  have hA : DataW.TrodAll enc Try.prog W 0 (fun _ => true) true Try.f9.params.toList args.toList ds p := hA0
  rw [Try.params9] at hA hval
  obtain ⟨v0, vs0, d0, ds0, p0, q0, hargs, rfl, rfl, h0, r0⟩ := trodAll_cons hA
  obtain ⟨rfl, rfl, rfl⟩ := trodAll_nil r0
  obtain rfl : args = #[v0] := by cases args; simp_all
  obtain ⟨rfl, rfl⟩ := trodVars_none hV
  have k0 := h0
  have lt0 : ∀ x ∈ p0, x.block < W.heap.size := by obtain ⟨m, hm⟩ := k0; exact DataW.trod_lt m _ _ _ hm
  obtain ⟨y0, x0_1, x0_2, x0_3⟩ := Ev.open_one (G := gh) (t := 2) (by kernel_rfl) (hval 0 2 v0 rfl rfl) h0 (cells2 (hval 0 2 v0 rfl rfl) h0)
  clear hA0 hval0 hsz0
  obtain ⟨a0, rfl, w0⟩ := lv2 x0_1
  have con := (callOk 4 9 _ _ (r9 0 a0)).2.2
  refine (Ev.Contract.walk (G := gh) con (args ⟨x0_2, x0_3⟩)).mono fun e W' ⟨he, bel⟩ => ?_
  subst he
  exact ⟨_, rfl, _, _, _, [], _, [], hW', trodAll_mk1 (shut_bool Try.underlying4 _), (trodAll_cons_mk (Below.trod laidOut (by kernel_rfl) (of_decide_eq_true (by kernel_rfl)) k0 bel lt0) trodAll_mk0), rfl, bel.frame _, fun h => by cases h⟩
theorem over : Rows.fnExactNearestSpeciesRow.holds Try.pinned (OpenSpec.ofChange Rows.fnExactNearestSpeciesSpec) :=
  OpenClaim.holds_of_wide 9 Try.f9 rfl rfl rfl rfl rfl rfl rfl ⟨rfl, rfl, rfl, rfl, rfl⟩ rfl rfl rfl rfl rfl (by kernel_rfl) Try.func9 (by kernel_rfl)
    (of_decide_eq_true (by kernel_rfl)) (by unfold Func.isWrapper; first | (rw [if_pos (by decide +kernel)]; kernel_rfl) | (rw [if_neg (by decide +kernel)]; exact ⟨rfl, rfl⟩))
    (fun os started H enc _ => lifted os started H enc)
theorem proved : Rows.FnExactNearestSpeciesSaid := over
#print axioms proved
end Go.Proofs.Ytjdcohcdgdjobaa.fnExactNearestSpecies
namespace Go.Proofs.Ytjdcohcdgdjobaa
/-- The row, under a short name, for the claim. -/
theorem fnExactNearestSpecies_holds : Rows.FnExactNearestSpeciesSaid := fnExactNearestSpecies.proved
end Go.Proofs.Ytjdcohcdgdjobaa
