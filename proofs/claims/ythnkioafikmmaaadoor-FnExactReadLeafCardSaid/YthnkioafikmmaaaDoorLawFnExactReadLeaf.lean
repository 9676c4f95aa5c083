/- The row of FnExactReadLeaf: the program and the reference answer alike; no conditions. -/
import Derived.Test.YthnkioafikmmaaaDoorRows
import Derived.Test.YthnkioafikmmaaaDoorWTj
import Derived.Test.YthnkioafikmmaaaDoorEv4
import Derived.Test.YthnkioafikmmaaaDoorTie
import Derived.Test.YthnkioafikmmaaaDoorCards
import Derived.Lay
import Derived.SevenTiedAt
import Derived.Lib.LaidTab
import Derived.Stop.LaidErr
import Derived.MakeChecks
import Derived.WalkKit
import Derived.ProofKit
import Derived.OpenShut
import Derived.ShutString
import Derived.ChangeOld
import Derived.Below
import Derived.SizedLaws
import Derived.Carry
namespace Go.Proofs.YthnkioafikmmaaaDoor.fnExactReadLeaf
open Go.ChangeShapes Go.WideShapes Go.ChangeAt Go.RowKit
open Go.ChangeMaps (open_string shut_string)
open Go.Proofs.YthnkioafikmmaaaDoor.walkS Go.Proofs.YthnkioafikmmaaaDoor.Ev
set_option linter.unusedVariables false
attribute [local irreducible] Ev.LvT Ev.CellT Ev.IsT
theorem own : ownKnob Tryd.prog.godebug = none := by kernel_rfl
theorem laidOut : laidOutB Tryd.prog = true := by kernel_rfl
def gh : Ev.Gh := ⟨fun _ => 0, fun _ => 0, fun _ _ _ => 0, fun _ _ _ => 0⟩
theorem lv9 {x : Ev.LV} (h : Ev.LvT Tryd.prog 9 x) : ∃ s, x = T s ∧ s.size ≤ maxLen := by
  exact Ev.lv_string Tryd.underlying9 h
theorem args {x0 : Ev.LV} {v0 : Value} {w : World} (h0 : Ev.R gh (fun b => b < w.heap.size) Ev.noMem w x0 v0 ∧ Ev.wf Ev.noMem x0) : Ev.RL (fun x u => Ev.R gh (fun b => b < w.heap.size) Ev.noMem w x u ∧ Ev.wf Ev.noMem x) [x0] #[v0] := by
  refine ⟨rfl, fun k y hk => ?_⟩
  cases k with
  | zero => cases hk; exact ⟨v0, rfl, h0⟩
  | succ k =>
    cases hk
/-- a call, with what lies in the library's variables and the world's shape -/
theorem handed {H : Type} {enc : TypeId × Value → H} {a : Assume} {C : Checked} {os : Os} {f : FuncId} {fn : Func} {s : ChangeSpec} {conds : List PathCond} {apart fresh handsOn again : Bool} {X : World → Array Value → Prop}
    (hX : ∀ (w w' : World) (args : Array Value), w.heap = w'.heap → X w args → X w' args)
    (own : ownKnob C.prog.godebug = none) (started : os.Started) (noInit : C.prog.inits.idxOf? f = none) (hfn : C.prog.funcs[f]? = some fn)
    (witness : ∃ (w : World) (tape : Tape) (i : Input), w.os = os ∧ (w.forCall tape i).Shaped C.prog ∧ i.vars = [] ∧ Input.okWide C.prog (w.forCall tape i) .any w.heap.size f i ∧
      ((s.pre enc C.prog fn conds apart (w.forCall tape i).memory i.args ∧ X (w.forCall tape i).memory i.args) ∧ sizedMet enc C.prog fn (OpenSpec.ofChange s) apart (w.forCall tape i).memory i.args) ∧ a.holds C.prog (lone (Frame.enter C.prog f i.args .normal) [] (w.forCall tape i)))
    (con : ∀ (W : World) (base : Nat) (args : Array Value) (ds gs : List (DataW H)) (before : List MemPlace), (∀ (j : Nat) t v, fn.params[j]? = some t → args[j]? = some v → Value.okWide C.prog W .any base t v) →
      DataW.Whole enc C.prog fn.params.toList s.vars apart W args.toList ds gs before → X W args → W.ShapedOpen C.prog →
      Calls C.prog f args W fun e W' => ∃ v, e = .returned v ∧ s.post enc C.prog fn apart fresh handsOn again W args v W') :
    ReturnsInHanded a C os f .any (fun w args => (s.pre enc C.prog fn conds apart w args ∧ X w args) ∧ sizedMet enc C.prog fn (OpenSpec.ofChange s) apart w args) (s.post enc C.prog fn apart fresh handsOn again) := by
  refine returnsInHanded_of_calls own started noInit witness ?_
  intro w tape i _ hsh _ hok hpre _
  obtain ⟨_, _, _, fn', hfn', _, _, _, _, hval⟩ := hok
  obtain rfl : fn' = fn := Option.some.inj (hfn'.symm.trans hfn)
  obtain ⟨⟨⟨ds, gs, before, hw, _⟩, hx⟩, _⟩ := hpre
  refine (con (w.forCall tape i) w.heap.size i.args ds gs before hval (DataW.Whole.of_heap (w' := w.forCall tape i) (by rfl) hw) (hX _ _ _ (by rfl) hx) hsh).mono fun e W' ⟨v, he, hp⟩ => ?_
  subst he
  exact ChangeSpec.post_blind hp
theorem powDatum : (Rows.laid_internal_strconv_uint64pow10 : DataW Unit) = Lib.tabData .u64 Lib.pow10Tab := by kernel_rfl
theorem tyPow : (Tryd.prog.globals[0]?).map (·.type) = some 141 := by kernel_rfl
theorem cPowE : Tryd.prog.cellsOf 128 = 1 := by kernel_rfl
theorem cPow : Tryd.prog.cellsOf 141 = 20 := by kernel_rfl
theorem tabOf {W : World} (h : laidMetH Tryd.prog Rows.fnExactReadLeafRow.laid W) : Lib.TabIs Tryd.prog W "internal/strconv.uint64pow10" .u64 Lib.pow10Tab := by
  rw [MakeChecks.laidMetH_plain _ _ _ (by kernel_rfl)] at h
  have h2 : laidMet Tryd.prog (("internal/strconv.uint64pow10", Lib.tabData .u64 Lib.pow10Tab) :: [("unicode/utf8.acceptRanges", Rows.laid_unicode_utf8_acceptRanges), ("unicode/utf8.first", Rows.laid_unicode_utf8_first)]) W := by
    rw [← powDatum]
    exact (laidMet.tail (laidMet.tail h))
  exact Lib.tabIs_of_head gpow tyPow Tryd.underlying141 Tryd.underlying128 cPowE cPow h2
theorem lenOf {W : World} (h : W.ShapedOpen Tryd.prog) : ∃ (m : Int) (e : TypeId) (z : Nat × Nat), W.heap[(1 : Nat)]? = some (.cells #[.int .i64 m] e z) := by
  obtain ⟨m, hm⟩ := split.s1_3 W h
  have hm : W.cell? ⟨1, 0, none⟩ = some (.int .i64 m) := hm
  obtain ⟨cs, h1, h2, _⟩ := h.1 1 #[.int .i64 0] 3 (of_decide_eq_true (by kernel_rfl)) (by kernel_rfl)
  refine ⟨m, 3, (0, 0), ?_⟩
  rw [Go.Proofs.YthnkioafikmmaaaDoor.Ev.cell_lit h1] at hm
  have e : cs = #[.int .i64 m] := by
    have hs : cs.size = 1 := h2
    apply Array.ext'
    obtain ⟨l⟩ := cs
    match l, hs, hm with
    | [x], _, hm => have : x = .int .i64 m := by simpa using hm
                    rw [this]
  rw [← e]; exact h1
theorem tbOf {W : World} (hL : laidMetH Tryd.prog Rows.fnExactReadLeafRow.laid W) (hsh : W.ShapedOpen Tryd.prog) : ∃ m, Ev.Tb (TT m) (fun b => W.heap.size ≤ b) W := by
  obtain ⟨m, e1, z1, h1⟩ := lenOf hsh
  have h2 := tabOf hL
  unfold Lib.TabIs World.var? at h2
  rw [gpow] at h2
  simp only [Option.bind_some] at h2
  have h3 : ∃ e z, W.heap[(0 : Nat)]? = some (.cells (Lib.pow10Tab.map fun z => Value.int .u64 z).toArray e z) := by
    split at h2
    · rename_i cs e z hh
      cases h2
      exact ⟨e, z, hh⟩
    · cases h2
  obtain ⟨e2, z2, h3⟩ := h3
  refine ⟨m, fun p hp => ?_⟩
  simp only [TT, List.mem_cons, List.mem_nil_iff, or_false] at hp
  rcases hp with rfl | rfl
  · exact ⟨⟨_, _, h3⟩, fun q => by have := (Array.getElem?_eq_some_iff.1 h3).1; omega⟩
  · exact ⟨⟨_, _, h1⟩, fun q => by have := (Array.getElem?_eq_some_iff.1 h1).1; omega⟩
set_option maxRecDepth 1000000 in
theorem cells9 {H : Type} {enc : TypeId × Value → H} {v : Value} {w : World} {r : Reach} {b0 : Nat} {d : DataW H} {ps : List MemPlace} {sp : Nat → Bool} {held : Bool} (h : Value.okWide Tryd.prog w r b0 9 v) (hd : DataW.Trod enc Tryd.prog w 0 sp held 9 v d ps) : v.cells = #[v] := by
  obtain ⟨n, rfl, _⟩ := open_string Tryd.underlying9 h hd
  rfl
set_option maxRecDepth 100000 in
theorem lifted (os : Os) (started : os.Started) (H : Type) (enc : TypeId × Value → H) :
    ReturnsInHanded {} Tryd.checked os 8 .any (fun w args => (Rows.fnExactReadLeafSpec.pre enc Tryd.prog Tryd.f8 Rows.fnExactReadLeafRow.domain false w args ∧ laidMetH Tryd.prog Rows.fnExactReadLeafRow.laid w) ∧ sizedMet enc Tryd.prog Tryd.f8 (OpenSpec.ofChange Rows.fnExactReadLeafSpec) false w args) (Rows.fnExactReadLeafSpec.post enc Tryd.prog Tryd.f8 false true false false) := by
  refine handed (C := Tryd.checked) (X := (fun w _ => laidMetH Tryd.prog Rows.fnExactReadLeafRow.laid w)) (fun _ _ _ hh h => h.of_heap hh) own started (by kernel_rfl) Tryd.func8
    (ChangeSpec.witness_shaped (enc := enc) (C := Tryd.checked) (os := os) (X := (fun w _ => laidMetH Tryd.prog Rows.fnExactReadLeafRow.laid w)) false (World.laidAll Tryd.prog os Rows.fnExactReadLeafRow.laid) #[.string ByteArray.empty] 8 (World.laidAll_os _ _ _) (World.shaped_of_ZipB (by kernel_rfl) (by kernel_rfl)) (by kernel_rfl) (by kernel_rfl) (by kernel_rfl)
      (by rw [MakeChecks.laidMetH_plain _ _ _ (by kernel_rfl)]; exact laidMet_laidAll _ (by kernel_rfl) (by kernel_rfl))) ?_
  intro W base args ds gs before hval0 hW hL hsh
  obtain ⟨tm, hTb⟩ := tbOf hL hsh
  have hval : ∀ (j : Nat) t v, Tryd.f8.params[j]? = some t → args[j]? = some v → Value.okWide Tryd.prog W .any base t v := hval0
  have hW' := hW
  obtain ⟨p, q, hA0, hV, rfl, hfz, hnd⟩ := hW
  have hA : DataW.TrodAll enc Tryd.prog W 0 (fun _ => true) true Tryd.f8.params.toList args.toList ds p := hA0
  rw [Tryd.params8] at hA hval
  obtain ⟨v0, vs0, d0, ds0, p0, q0, hargs, rfl, rfl, h0, r0⟩ := trodAll_cons hA
  obtain ⟨rfl, rfl, rfl⟩ := trodAll_nil r0
  obtain rfl : args = #[v0] := by cases args; simp_all
  obtain ⟨rfl, rfl⟩ := trodVars_none hV
  have k0 := h0
  have lt0 : ∀ x ∈ p0, x.block < W.heap.size := by obtain ⟨m, hm⟩ := k0; exact DataW.trod_lt m _ _ _ hm
  obtain ⟨y0, x0_1, x0_2, x0_3⟩ := Ev.open_one (G := gh) (t := 9) (by kernel_rfl) (hval 0 9 v0 rfl rfl) h0 (cells9 (hval 0 9 v0 rfl rfl) h0)
  clear hA0 hval0
  obtain ⟨a0, rfl, w0⟩ := lv9 x0_1
  have con := (callOk tm 9 8 _ _ (r8 0 a0)).2.2
  refine (Ev.Contract.walk (G := gh) hTb con (args ⟨x0_2, x0_3⟩)).mono fun e W' ⟨he, bel⟩ => ?_
  subst he
  exact ⟨_, rfl, _, _, _, [], _, [], hW', trodAll_mk1 (shut_bool Tryd.underlying4 _), (trodAll_cons_mk (Below.trod laidOut (by kernel_rfl) (of_decide_eq_true (by kernel_rfl)) k0 bel lt0) trodAll_mk0), rfl, bel.frame _, fun h => by cases h⟩
theorem named : Tryd.pinned.checked.prog.funcNamed Rows.fnExactReadLeafRow.func = some 8 := by kernel_rfl
set_option maxHeartbeats 40000000 in
theorem closed : joinedFacts Tryd.pinned.checked.prog 8 Tryd.f8 Rows.fnExactReadLeafSpec Rows.fnExactReadLeafRow = true := by
  simp only [joinedFacts, Bool.and_eq_true]
  and_intros <;> as_aux_lemma => kernel_rfl
theorem instOk : Tryd.f8.isInstance Tryd.pinned.checked.prog Rows.fnExactReadLeafRow.origin Rows.fnExactReadLeafRow.targs := of_decide_eq_true (by kernel_rfl)
theorem wrapOk : Tryd.f8.isWrapper Tryd.pinned.checked.prog Rows.fnExactReadLeafRow.wrapper Rows.fnExactReadLeafRow.mainSum := by
  unfold Func.isWrapper; first | (rw [if_pos (by decide +kernel)]; kernel_rfl) | (rw [if_neg (by decide +kernel)]; exact ⟨rfl, rfl⟩)
theorem over : Rows.fnExactReadLeafRow.holds Tryd.pinned (OpenSpec.ofChange Rows.fnExactReadLeafSpec) :=
  OpenClaim.holds_of_wide 8 Tryd.f8 rfl rfl rfl rfl rfl rfl rfl ⟨rfl, rfl, rfl, rfl, rfl⟩ rfl rfl rfl rfl rfl named Tryd.func8 closed instOk wrapOk
    (fun os started H enc _ => lifted os started H enc)
theorem proved : Rows.FnExactReadLeafSaid := over
theorem card : Rows.FnExactReadLeafCardSaid := by
  refine Claim7.holds_tied_plain_at .later [] Rows.fnExactReadLeafCard.laidKinds true (Rows.fnExactReadLeafCard.stood.harness) false proved (fun _ h => by cases h) (by kernel_rfl) (fun _ h => by cases h) fnExactReadLeaf_row_tie rfl ⟨rfl, rfl⟩ (by kernel_rfl) rfl
    (fun g fn hf hfn => ?_) (by kernel_rfl)
  obtain rfl : g = 8 := (Option.some.inj (named.symm.trans hf)).symm
  obtain rfl : fn = Tryd.f8 := (Option.some.inj (Tryd.func8.symm.trans hfn)).symm
  refine ⟨by kernel_rfl, fun j t ht => ?_⟩
  rw [Tryd.params8] at ht
  have hm : t ∈ [9] := by simpa using Array.mem_of_getElem? ht
  have hall : ([9].all fun u => !Tryd.prog.wantsStandIn u) = true := by kernel_rfl
  exact (show Tryd.prog.wantsStandIn t = false by simpa using List.all_eq_true.1 hall t hm)
#print axioms card
end Go.Proofs.YthnkioafikmmaaaDoor.fnExactReadLeaf
namespace Go.Proofs.YthnkioafikmmaaaDoor
/-- The row, under a short name, for the claim. -/
theorem fnExactReadLeaf_holds : Rows.FnExactReadLeafCardSaid := fnExactReadLeaf.card
end Go.Proofs.YthnkioafikmmaaaDoor
