/- The row of FnExactLeafText: the program and the reference answer alike; no conditions. -/
import Derived.Test.YthnkioafikmmaaaDoorRows
import Derived.Test.YthnkioafikmmaaaDoorWTf
import Derived.Test.YthnkioafikmmaaaDoorEv4
import Derived.Test.YthnkioafikmmaaaDoorTie
import Derived.Test.YthnkioafikmmaaaDoorCards
import Derived.Lay
import Derived.SevenTiedAt
import Derived.Lib.LaidTab
import Derived.Stop.LaidErr
import Derived.MakeChecks
import Derived.WalkKit
import Derived.ProofKit
import Derived.OpenShut
import Derived.ShutString
import Derived.ChangeOld
import Derived.Below
import Derived.SizedLaws
import Derived.Carry
namespace Go.Proofs.YthnkioafikmmaaaDoor.fnExactLeafText
open Go.ChangeShapes Go.WideShapes Go.ChangeAt Go.RowKit
open Go.ChangeMaps (open_string shut_string)
open Go.Proofs.YthnkioafikmmaaaDoor.walkS Go.Proofs.YthnkioafikmmaaaDoor.Ev
set_option linter.unusedVariables false
attribute [local irreducible] Ev.LvT Ev.CellT Ev.IsT
theorem own : ownKnob Tryd.prog.godebug = none := by kernel_rfl
theorem laidOut : laidOutB Tryd.prog = true := by kernel_rfl
def gh : Ev.Gh := ⟨fun _ => 0, fun _ => 0, fun _ _ _ => 0, fun _ _ _ => 0⟩
theorem lv9 {x : Ev.LV} (h : Ev.LvT Tryd.prog 9 x) : ∃ s, x = T s ∧ s.size ≤ maxLen := by
  exact Ev.lv_string Tryd.underlying9 h
theorem lv2 {x : Ev.LV} (h : Ev.LvT Tryd.prog 2 x) : ∃ n, x = I n ∧ -9223372036854775808 ≤ n ∧ n ≤ 9223372036854775807 := by
  obtain ⟨n, rfl, hw⟩ := Ev.lv_int Tryd.underlying2 h
  exact ⟨n, rfl, Ev.in64 hw⟩
theorem lc2 {x : Ev.Cell} (h : Ev.CellT Tryd.prog 2 x) : ∃ n, x = .sc (.int .i64 n) ∧ -9223372036854775808 ≤ n ∧ n ≤ 9223372036854775807 := by
  obtain ⟨n, rfl, hw⟩ := Ev.cell_int Tryd.underlying2 h
  exact ⟨n, rfl, Ev.in64 hw⟩
theorem le35 : Ev.leafs Tryd.prog 8 98 = some [2, 2, 2, 2] := by kernel_rfl
def W35 (p : Int × Int × Int × Int) : Prop := (-9223372036854775808 ≤ p.1 ∧ p.1 ≤ 9223372036854775807) ∧ (-9223372036854775808 ≤ p.2.1 ∧ p.2.1 ≤ 9223372036854775807) ∧ (-9223372036854775808 ≤ p.2.2.1 ∧ p.2.2.1 ≤ 9223372036854775807) ∧ (-9223372036854775808 ≤ p.2.2.2 ∧ p.2.2.2 ≤ 9223372036854775807)
abbrev R35 (p : Int × Int × Int × Int) : List Ev.Cell := [.sc (.int .i64 p.1), .sc (.int .i64 p.2.1), .sc (.int .i64 p.2.2.1), .sc (.int .i64 p.2.2.2)]
theorem row35 {row : List Ev.Cell} (h : Ev.All2 (Ev.CellT Tryd.prog) [2, 2, 2, 2] row) : ∃ p : Int × Int × Int × Int, row = R35 p ∧ W35 p := by
  obtain ⟨y0, z0, rfl, t0, s0⟩ := Ev.all_to h
  obtain ⟨y1, z1, rfl, t1, s1⟩ := Ev.all_to s0
  obtain ⟨y2, z2, rfl, t2, s2⟩ := Ev.all_to s1
  obtain ⟨y3, z3, rfl, t3, s3⟩ := Ev.all_to s2
  obtain rfl := Ev.all_nil s3
  obtain ⟨a0, rfl, u0⟩ := lc2 t0
  obtain ⟨a1, rfl, u1⟩ := lc2 t1
  obtain ⟨a2, rfl, u2⟩ := lc2 t2
  obtain ⟨a3, rfl, u3⟩ := lc2 t3
  exact ⟨⟨a0, a1, a2, a3⟩, rfl, ⟨u0, u1, u2, u3⟩⟩
theorem lv35 {x : Ev.LV} (h : Ev.LvT Tryd.prog 35 x) : ∃ l : List (Int × Int × Int × Int), SV 4 (l.map R35) x ∧ l.length ≤ maxLen ∧ ∀ p ∈ l, W35 p := by
  rcases Ev.lv_slice Tryd.underlying35 le35 h with rfl | ⟨rows, rfl, hlen, hrows⟩
  · exact ⟨[], .inr ⟨rfl, rfl⟩, by simp, fun p hp => by simp at hp⟩
  · obtain ⟨l, rfl, hW⟩ := Ev.rows_of fun row hr => row35 (hrows row hr)
    exact ⟨l, .inl rfl, by simpa using hlen, hW⟩
theorem lf0 : Ev.leafs Tryd.prog 8 37 = some [9, 9, 2, 9, 2, 2, 2, 2, 35] := by kernel_rfl
theorem args {x0 : Ev.LV} {v0 : Value} {w : World} (h0 : Ev.R gh (fun b => b < w.heap.size) Ev.noMem w x0 v0 ∧ Ev.wf Ev.noMem x0) : Ev.RL (fun x u => Ev.R gh (fun b => b < w.heap.size) Ev.noMem w x u ∧ Ev.wf Ev.noMem x) [x0] #[v0] := by
  refine ⟨rfl, fun k y hk => ?_⟩
  cases k with
  | zero => cases hk; exact ⟨v0, rfl, h0⟩
  | succ k =>
    cases hk
/-- a call, with what lies in the library's variables and the world's shape -/
theorem handed {H : Type} {enc : TypeId × Value → H} {a : Assume} {C : Checked} {os : Os} {f : FuncId} {fn : Func} {s : ChangeSpec} {conds : List PathCond} {apart fresh handsOn again : Bool} {X : World → Array Value → Prop}
    (hX : ∀ (w w' : World) (args : Array Value), w.heap = w'.heap → X w args → X w' args)
    (own : ownKnob C.prog.godebug = none) (started : os.Started) (noInit : C.prog.inits.idxOf? f = none) (hfn : C.prog.funcs[f]? = some fn)
    (witness : ∃ (w : World) (tape : Tape) (i : Input), w.os = os ∧ (w.forCall tape i).Shaped C.prog ∧ i.vars = [] ∧ Input.okWide C.prog (w.forCall tape i) .any w.heap.size f i ∧
      ((s.pre enc C.prog fn conds apart (w.forCall tape i).memory i.args ∧ X (w.forCall tape i).memory i.args) ∧ sizedMet enc C.prog fn (OpenSpec.ofChange s) apart (w.forCall tape i).memory i.args) ∧ a.holds C.prog (lone (Frame.enter C.prog f i.args .normal) [] (w.forCall tape i)))
    (con : ∀ (W : World) (base : Nat) (args : Array Value) (ds gs : List (DataW H)) (before : List MemPlace), (∀ (j : Nat) t v, fn.params[j]? = some t → args[j]? = some v → Value.okWide C.prog W .any base t v) →
      DataW.Whole enc C.prog fn.params.toList s.vars apart W args.toList ds gs before → X W args → W.ShapedOpen C.prog →
      Calls C.prog f args W fun e W' => ∃ v, e = .returned v ∧ s.post enc C.prog fn apart fresh handsOn again W args v W') :
    ReturnsInHanded a C os f .any (fun w args => (s.pre enc C.prog fn conds apart w args ∧ X w args) ∧ sizedMet enc C.prog fn (OpenSpec.ofChange s) apart w args) (s.post enc C.prog fn apart fresh handsOn again) := by
  refine returnsInHanded_of_calls own started noInit witness ?_
  intro w tape i _ hsh _ hok hpre _
  obtain ⟨_, _, _, fn', hfn', _, _, _, _, hval⟩ := hok
  obtain rfl : fn' = fn := Option.some.inj (hfn'.symm.trans hfn)
  obtain ⟨⟨⟨ds, gs, before, hw, _⟩, hx⟩, _⟩ := hpre
  refine (con (w.forCall tape i) w.heap.size i.args ds gs before hval (DataW.Whole.of_heap (w' := w.forCall tape i) (by rfl) hw) (hX _ _ _ (by rfl) hx) hsh).mono fun e W' ⟨v, he, hp⟩ => ?_
  subst he
  exact ChangeSpec.post_blind hp
theorem powDatum : (Rows.laid_internal_strconv_uint64pow10 : DataW Unit) = Lib.tabData .u64 Lib.pow10Tab := by kernel_rfl
theorem tyPow : (Tryd.prog.globals[0]?).map (·.type) = some 141 := by kernel_rfl
theorem cPowE : Tryd.prog.cellsOf 128 = 1 := by kernel_rfl
theorem cPow : Tryd.prog.cellsOf 141 = 20 := by kernel_rfl
theorem tabOf {W : World} (h : laidMetH Tryd.prog Rows.fnExactLeafTextRow.laid W) : Lib.TabIs Tryd.prog W "internal/strconv.uint64pow10" .u64 Lib.pow10Tab := by
  rw [MakeChecks.laidMetH_plain _ _ _ (by kernel_rfl)] at h
  have h2 : laidMet Tryd.prog (("internal/strconv.uint64pow10", Lib.tabData .u64 Lib.pow10Tab) :: []) W := by
    rw [← powDatum]
    exact (laidMet.tail (laidMet.tail h))
  exact Lib.tabIs_of_head gpow tyPow Tryd.underlying141 Tryd.underlying128 cPowE cPow h2
theorem tbOf {W : World} (hL : laidMetH Tryd.prog Rows.fnExactLeafTextRow.laid W) (hsh : W.ShapedOpen Tryd.prog) : ∃ m, Ev.Tb (TT m) (fun b => W.heap.size ≤ b) W := by
  have m : Int := 0
  have h2 := tabOf hL
  unfold Lib.TabIs World.var? at h2
  rw [gpow] at h2
  simp only [Option.bind_some] at h2
  have h3 : ∃ e z, W.heap[(0 : Nat)]? = some (.cells (Lib.pow10Tab.map fun z => Value.int .u64 z).toArray e z) := by
    split at h2
    · rename_i cs e z hh
      cases h2
      exact ⟨e, z, hh⟩
    · cases h2
  obtain ⟨e2, z2, h3⟩ := h3
  refine ⟨m, fun p hp => ?_⟩
  simp only [TT, List.mem_cons, List.mem_nil_iff, or_false] at hp
  subst hp
  exact ⟨⟨_, _, h3⟩, fun q => by have := (Array.getElem?_eq_some_iff.1 h3).1; omega⟩
set_option maxRecDepth 100000 in
theorem lifted (os : Os) (started : os.Started) (H : Type) (enc : TypeId × Value → H) :
    ReturnsInHanded {} Tryd.checked os 5 .any (fun w args => (Rows.fnExactLeafTextSpec.pre enc Tryd.prog Tryd.f5 Rows.fnExactLeafTextRow.domain false w args ∧ laidMetH Tryd.prog Rows.fnExactLeafTextRow.laid w) ∧ sizedMet enc Tryd.prog Tryd.f5 (OpenSpec.ofChange Rows.fnExactLeafTextSpec) false w args) (Rows.fnExactLeafTextSpec.post enc Tryd.prog Tryd.f5 false true false false) := by
  refine handed (C := Tryd.checked) (X := (fun w _ => laidMetH Tryd.prog Rows.fnExactLeafTextRow.laid w)) (fun _ _ _ hh h => h.of_heap hh) own started (by kernel_rfl) Tryd.func5
    (ChangeSpec.witness_shaped (enc := enc) (C := Tryd.checked) (os := os) (X := (fun w _ => laidMetH Tryd.prog Rows.fnExactLeafTextRow.laid w)) false (World.laidAll Tryd.prog os Rows.fnExactLeafTextRow.laid) #[.agg #[.string ByteArray.empty, .string ByteArray.empty, .int .i64 0, .string ByteArray.empty, .int .i64 0, .int .i64 0, .int .i64 0, .int .i64 0, .slice none 0 0]] 8 (World.laidAll_os _ _ _) (World.shaped_of_ZipB (by kernel_rfl) (by kernel_rfl)) (by kernel_rfl) (by kernel_rfl) (by kernel_rfl)
      (by rw [MakeChecks.laidMetH_plain _ _ _ (by kernel_rfl)]; exact laidMet_laidAll _ (by kernel_rfl) (by kernel_rfl))) ?_
  intro W base args ds gs before hval0 hW hL hsh
  obtain ⟨tm, hTb⟩ := tbOf hL hsh
  have hval : ∀ (j : Nat) t v, Tryd.f5.params[j]? = some t → args[j]? = some v → Value.okWide Tryd.prog W .any base t v := hval0
  have hW' := hW
  obtain ⟨p, q, hA0, hV, rfl, hfz, hnd⟩ := hW
  have hA : DataW.TrodAll enc Tryd.prog W 0 (fun _ => true) true Tryd.f5.params.toList args.toList ds p := hA0
  rw [Tryd.params5] at hA hval
  obtain ⟨v0, vs0, d0, ds0, p0, q0, hargs, rfl, rfl, h0, r0⟩ := trodAll_cons hA
  obtain ⟨rfl, rfl, rfl⟩ := trodAll_nil r0
  obtain rfl : args = #[v0] := by cases args; simp_all
  obtain ⟨rfl, rfl⟩ := trodVars_none hV
  have k0 := h0
  have lt0 : ∀ x ∈ p0, x.block < W.heap.size := by obtain ⟨m, hm⟩ := k0; exact DataW.trod_lt m _ _ _ hm
  obtain ⟨xs0, x0_1, x0_2, x0_3⟩ := Ev.open_agg (G := gh) Tryd.underlying37 lf0 (by kernel_rfl) (hval 0 37 v0 rfl rfl) h0
  clear hA0 hval0
  obtain ⟨y0_0, zs0_0, rfl, t0_0, s0_0⟩ := Ev.all_to x0_1
  obtain ⟨y0_1, zs0_1, rfl, t0_1, s0_1⟩ := Ev.all_to s0_0
  obtain ⟨y0_2, zs0_2, rfl, t0_2, s0_2⟩ := Ev.all_to s0_1
  obtain ⟨y0_3, zs0_3, rfl, t0_3, s0_3⟩ := Ev.all_to s0_2
  obtain ⟨y0_4, zs0_4, rfl, t0_4, s0_4⟩ := Ev.all_to s0_3
  obtain ⟨y0_5, zs0_5, rfl, t0_5, s0_5⟩ := Ev.all_to s0_4
  obtain ⟨y0_6, zs0_6, rfl, t0_6, s0_6⟩ := Ev.all_to s0_5
  obtain ⟨y0_7, zs0_7, rfl, t0_7, s0_7⟩ := Ev.all_to s0_6
  obtain ⟨y0_8, zs0_8, rfl, t0_8, s0_8⟩ := Ev.all_to s0_7
  obtain rfl := Ev.all_nil s0_8
  obtain ⟨a0, rfl, w0⟩ := lv9 t0_0
  obtain ⟨a1, rfl, w1⟩ := lv9 t0_1
  obtain ⟨a2, rfl, w2⟩ := lv2 t0_2
  obtain ⟨a3, rfl, w3⟩ := lv9 t0_3
  obtain ⟨a4, rfl, w4⟩ := lv2 t0_4
  obtain ⟨a5, rfl, w5⟩ := lv2 t0_5
  obtain ⟨a6, rfl, w6⟩ := lv2 t0_6
  obtain ⟨a7, rfl, w7⟩ := lv2 t0_7
  obtain ⟨a8, h'8, w8⟩ := lv35 t0_8
  have con := (callOk tm 8 5 _ _ (r5 0 ⟨a0, a1, a2, a3, a4, a5, a6, a7, a8⟩ ⟨w0, w1, w3, w8.1⟩ h'8)).2.2
  refine (Ev.Contract.walk (G := gh) hTb con (args ⟨x0_2, x0_3⟩)).mono fun e W' ⟨he, bel⟩ => ?_
  subst he
  exact ⟨_, rfl, _, _, _, [], _, [], hW', trodAll_mk1 (shut_bool Tryd.underlying4 _), (trodAll_cons_mk (Below.trod laidOut (by kernel_rfl) (of_decide_eq_true (by kernel_rfl)) k0 bel lt0) trodAll_mk0), rfl, bel.frame _, fun h => by cases h⟩
theorem named : Tryd.pinned.checked.prog.funcNamed Rows.fnExactLeafTextRow.func = some 5 := by kernel_rfl
set_option maxHeartbeats 40000000 in
theorem closed : joinedFacts Tryd.pinned.checked.prog 5 Tryd.f5 Rows.fnExactLeafTextSpec Rows.fnExactLeafTextRow = true := by
  simp only [joinedFacts, Bool.and_eq_true]
  and_intros <;> as_aux_lemma => kernel_rfl
theorem instOk : Tryd.f5.isInstance Tryd.pinned.checked.prog Rows.fnExactLeafTextRow.origin Rows.fnExactLeafTextRow.targs := of_decide_eq_true (by kernel_rfl)
theorem wrapOk : Tryd.f5.isWrapper Tryd.pinned.checked.prog Rows.fnExactLeafTextRow.wrapper Rows.fnExactLeafTextRow.mainSum := by
  unfold Func.isWrapper; first | (rw [if_pos (by decide +kernel)]; kernel_rfl) | (rw [if_neg (by decide +kernel)]; exact ⟨rfl, rfl⟩)
theorem over : Rows.fnExactLeafTextRow.holds Tryd.pinned (OpenSpec.ofChange Rows.fnExactLeafTextSpec) :=
  OpenClaim.holds_of_wide 5 Tryd.f5 rfl rfl rfl rfl rfl rfl rfl ⟨rfl, rfl, rfl, rfl, rfl⟩ rfl rfl rfl rfl rfl named Tryd.func5 closed instOk wrapOk
    (fun os started H enc _ => lifted os started H enc)
theorem proved : Rows.FnExactLeafTextSaid := over
theorem card : Rows.FnExactLeafTextCardSaid := by
  refine Claim7.holds_tied_plain_at .later [] Rows.fnExactLeafTextCard.laidKinds true (Rows.fnExactLeafTextCard.stood.harness) false proved (fun _ h => by cases h) (by kernel_rfl) (fun _ h => by cases h) fnExactLeafText_row_tie rfl ⟨rfl, rfl⟩ (by kernel_rfl) rfl
    (fun g fn hf hfn => ?_) (by kernel_rfl)
  obtain rfl : g = 5 := (Option.some.inj (named.symm.trans hf)).symm
  obtain rfl : fn = Tryd.f5 := (Option.some.inj (Tryd.func5.symm.trans hfn)).symm
  refine ⟨by kernel_rfl, fun j t ht => ?_⟩
  rw [Tryd.params5] at ht
  have hm : t ∈ [37] := by simpa using Array.mem_of_getElem? ht
  have hall : ([37].all fun u => !Tryd.prog.wantsStandIn u) = true := by kernel_rfl
  exact (show Tryd.prog.wantsStandIn t = false by simpa using List.all_eq_true.1 hall t hm)
#print axioms card
end Go.Proofs.YthnkioafikmmaaaDoor.fnExactLeafText
namespace Go.Proofs.YthnkioafikmmaaaDoor
/-- The row, under a short name, for the claim. -/
theorem fnExactLeafText_holds : Rows.FnExactLeafTextCardSaid := fnExactLeafText.card
end Go.Proofs.YthnkioafikmmaaaDoor
