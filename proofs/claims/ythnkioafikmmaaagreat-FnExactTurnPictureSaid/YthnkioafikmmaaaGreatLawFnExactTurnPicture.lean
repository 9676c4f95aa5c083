/- The row of FnExactTurnPicture: the program and the reference answer alike; no conditions. -/
import Derived.Test.YthnkioafikmmaaaGreatRows
import Derived.Test.YthnkioafikmmaaaGreatWTpr
import Derived.Test.YthnkioafikmmaaaGreatEv4
import Derived.WalkKit
import Derived.ProofKit
import Derived.OpenShut
import Derived.ShutString
import Derived.ChangeOld
import Derived.Below
import Derived.SizedLaws
import Derived.Carry
namespace Go.Proofs.YthnkioafikmmaaaGreat.fnExactTurnPicture
open Go.ChangeShapes Go.WideShapes Go.ChangeAt Go.RowKit
open Go.ChangeMaps (open_string shut_string)
open Go.Proofs.YthnkioafikmmaaaGreat.walkS Go.Proofs.YthnkioafikmmaaaGreat.Ev
set_option linter.unusedVariables false
attribute [local irreducible] Ev.LvT Ev.CellT Ev.IsT
theorem own : ownKnob Tryz.prog.godebug = none := by kernel_rfl
theorem laidOut : laidOutB Tryz.prog = true := by kernel_rfl
def gh : Ev.Gh := ⟨fun _ => 0, fun _ => 0, fun _ _ _ => 0, fun _ _ _ => 0⟩
theorem lv2 {x : Ev.LV} (h : Ev.LvT Tryz.prog 2 x) : ∃ n, x = I n ∧ -9223372036854775808 ≤ n ∧ n ≤ 9223372036854775807 := by
  obtain ⟨n, rfl, hw⟩ := Ev.lv_int Tryz.underlying2 h
  exact ⟨n, rfl, Ev.in64 hw⟩
theorem lc2 {x : Ev.Cell} (h : Ev.CellT Tryz.prog 2 x) : ∃ n, x = .sc (.int .i64 n) ∧ -9223372036854775808 ≤ n ∧ n ≤ 9223372036854775807 := by
  obtain ⟨n, rfl, hw⟩ := Ev.cell_int Tryz.underlying2 h
  exact ⟨n, rfl, Ev.in64 hw⟩
theorem le22 : Ev.leafs Tryz.prog 8 110 = some [2, 2] := by kernel_rfl
def W22 (p : Int × Int) : Prop := (-9223372036854775808 ≤ p.1 ∧ p.1 ≤ 9223372036854775807) ∧ (-9223372036854775808 ≤ p.2 ∧ p.2 ≤ 9223372036854775807)
abbrev R22 (p : Int × Int) : List Ev.Cell := [.sc (.int .i64 p.1), .sc (.int .i64 p.2)]
theorem row22 {row : List Ev.Cell} (h : Ev.All2 (Ev.CellT Tryz.prog) [2, 2] row) : ∃ p : Int × Int, row = R22 p ∧ W22 p := by
  obtain ⟨y0, z0, rfl, t0, s0⟩ := Ev.all_to h
  obtain ⟨y1, z1, rfl, t1, s1⟩ := Ev.all_to s0
  obtain rfl := Ev.all_nil s1
  obtain ⟨a0, rfl, u0⟩ := lc2 t0
  obtain ⟨a1, rfl, u1⟩ := lc2 t1
  exact ⟨⟨a0, a1⟩, rfl, ⟨u0, u1⟩⟩
theorem lv22 {x : Ev.LV} (h : Ev.LvT Tryz.prog 22 x) : ∃ l : List (Int × Int), SV 2 (l.map R22) x ∧ l.length ≤ maxLen ∧ ∀ p ∈ l, W22 p := by
  rcases Ev.lv_slice Tryz.underlying22 le22 h with rfl | ⟨rows, rfl, hlen, hrows⟩
  · exact ⟨[], .inr ⟨rfl, rfl⟩, by simp, fun p hp => by simp at hp⟩
  · obtain ⟨l, rfl, hW⟩ := Ev.rows_of fun row hr => row22 (hrows row hr)
    exact ⟨l, .inl rfl, by simpa using hlen, hW⟩
theorem lc9 {x : Ev.Cell} (h : Ev.CellT Tryz.prog 9 x) : ∃ s, x = .sc (.string s) ∧ s.size ≤ maxLen := by
  exact Ev.cell_string Tryz.underlying9 h
theorem it2 {x : Value} (h : Ev.IsT Tryz.prog 2 x) : ∃ n, x = .int .i64 n ∧ -9223372036854775808 ≤ n ∧ n ≤ 9223372036854775807 := by
  obtain ⟨n, rfl, hw⟩ := Ev.isT_int Tryz.underlying2 h
  exact ⟨n, rfl, Ev.in64 hw⟩
theorem le75 : Ev.leafs Tryz.prog 8 2 = some [2] := by kernel_rfl
def W75 (p : Int) : Prop := (-9223372036854775808 ≤ p ∧ p ≤ 9223372036854775807)
abbrev RW75 (p : Int) : List Value := [.int .i64 p]
theorem rowV75 {row : List Value} (h : Ev.All2 (Ev.IsT Tryz.prog) [2] row) : ∃ p : Int, row = RW75 p ∧ W75 p := by
  obtain ⟨y0, z0, rfl, t0, s0⟩ := Ev.all_to h
  obtain rfl := Ev.all_nil s0
  obtain ⟨a0, rfl, u0⟩ := it2 t0
  exact ⟨a0, rfl, u0⟩
theorem lc75 {x : Ev.Cell} (h : Ev.CellT Tryz.prog 75 x) : ∃ p : List (Int) × Bool, x = ifb p.2 .nl (.sl false 0 1 (p.1.map RW75)) ∧ p.1.length ≤ maxLen ∧ (p.2 = true → p.1 = []) := by
  rcases Ev.cell_slice Tryz.underlying75 le75 h with rfl | ⟨rows, rfl, hlen, hrows⟩
  · exact ⟨([], true), rfl, by simp, fun _ => rfl⟩
  · obtain ⟨l, rfl, _⟩ := Ev.rows_of fun row hr => rowV75 (hrows row hr)
    exact ⟨(l, false), rfl, by simpa using hlen, fun h => by cases h⟩
theorem le23 : Ev.leafs Tryz.prog 8 108 = some [9, 75] := by kernel_rfl
def W23 (p : ByteArray × (List (Int) × Bool)) : Prop := p.1.size ≤ maxLen ∧ (p.2.1.length ≤ maxLen ∧ (p.2.2 = true → p.2.1 = []))
abbrev R23 (p : ByteArray × (List (Int) × Bool)) : List Ev.Cell := [.sc (.string p.1), (ifb p.2.2 .nl (.sl false 0 1 (p.2.1.map RW75)))]
theorem row23 {row : List Ev.Cell} (h : Ev.All2 (Ev.CellT Tryz.prog) [9, 75] row) : ∃ p : ByteArray × (List (Int) × Bool), row = R23 p ∧ W23 p := by
  obtain ⟨y0, z0, rfl, t0, s0⟩ := Ev.all_to h
  obtain ⟨y1, z1, rfl, t1, s1⟩ := Ev.all_to s0
  obtain rfl := Ev.all_nil s1
  obtain ⟨a0, rfl, u0⟩ := lc9 t0
  obtain ⟨a1, rfl, u1⟩ := lc75 t1
  exact ⟨⟨a0, a1⟩, rfl, ⟨u0, u1⟩⟩
theorem lv23 {x : Ev.LV} (h : Ev.LvT Tryz.prog 23 x) : ∃ l : List (ByteArray × (List (Int) × Bool)), SV 2 (l.map R23) x ∧ l.length ≤ maxLen ∧ ∀ p ∈ l, W23 p := by
  rcases Ev.lv_slice Tryz.underlying23 le23 h with rfl | ⟨rows, rfl, hlen, hrows⟩
  · exact ⟨[], .inr ⟨rfl, rfl⟩, by simp, fun p hp => by simp at hp⟩
  · obtain ⟨l, rfl, hW⟩ := Ev.rows_of fun row hr => row23 (hrows row hr)
    exact ⟨l, .inl rfl, by simpa using hlen, hW⟩
theorem le26 : Ev.leafs Tryz.prog 8 94 = some [9, 2, 2] := by kernel_rfl
def W26 (p : ByteArray × Int × Int) : Prop := p.1.size ≤ maxLen ∧ (-9223372036854775808 ≤ p.2.1 ∧ p.2.1 ≤ 9223372036854775807) ∧ (-9223372036854775808 ≤ p.2.2 ∧ p.2.2 ≤ 9223372036854775807)
abbrev R26 (p : ByteArray × Int × Int) : List Ev.Cell := [.sc (.string p.1), .sc (.int .i64 p.2.1), .sc (.int .i64 p.2.2)]
theorem row26 {row : List Ev.Cell} (h : Ev.All2 (Ev.CellT Tryz.prog) [9, 2, 2] row) : ∃ p : ByteArray × Int × Int, row = R26 p ∧ W26 p := by
  obtain ⟨y0, z0, rfl, t0, s0⟩ := Ev.all_to h
  obtain ⟨y1, z1, rfl, t1, s1⟩ := Ev.all_to s0
  obtain ⟨y2, z2, rfl, t2, s2⟩ := Ev.all_to s1
  obtain rfl := Ev.all_nil s2
  obtain ⟨a0, rfl, u0⟩ := lc9 t0
  obtain ⟨a1, rfl, u1⟩ := lc2 t1
  obtain ⟨a2, rfl, u2⟩ := lc2 t2
  exact ⟨⟨a0, a1, a2⟩, rfl, ⟨u0, u1, u2⟩⟩
theorem lv26 {x : Ev.LV} (h : Ev.LvT Tryz.prog 26 x) : ∃ l : List (ByteArray × Int × Int), SV 3 (l.map R26) x ∧ l.length ≤ maxLen ∧ ∀ p ∈ l, W26 p := by
  rcases Ev.lv_slice Tryz.underlying26 le26 h with rfl | ⟨rows, rfl, hlen, hrows⟩
  · exact ⟨[], .inr ⟨rfl, rfl⟩, by simp, fun p hp => by simp at hp⟩
  · obtain ⟨l, rfl, hW⟩ := Ev.rows_of fun row hr => row26 (hrows row hr)
    exact ⟨l, .inl rfl, by simpa using hlen, hW⟩
theorem lf0 : Ev.leafs Tryz.prog 8 28 = some [2, 2, 22, 23, 26] := by kernel_rfl
theorem args {x0 x1 : Ev.LV} {v0 v1 : Value} {w : World} (h0 : Ev.R gh (fun b => b < w.heap.size) Ev.noMem w x0 v0 ∧ Ev.wf Ev.noMem x0) (h1 : Ev.R gh (fun b => b < w.heap.size) Ev.noMem w x1 v1 ∧ Ev.wf Ev.noMem x1) : Ev.RL (fun x u => Ev.R gh (fun b => b < w.heap.size) Ev.noMem w x u ∧ Ev.wf Ev.noMem x) [x0, x1] #[v0, v1] := by
  refine ⟨rfl, fun k y hk => ?_⟩
  cases k with
  | zero => cases hk; exact ⟨v0, rfl, h0⟩
  | succ k =>
    cases k with
    | zero => cases hk; exact ⟨v1, rfl, h1⟩
    | succ k =>
      cases hk
set_option maxRecDepth 1000000 in
theorem cells2 {H : Type} {enc : TypeId × Value → H} {v : Value} {w : World} {r : Reach} {b0 : Nat} {d : DataW H} {ps : List MemPlace} {sp : Nat → Bool} {held : Bool} (h : Value.okWide Tryz.prog w r b0 2 v) (hd : DataW.Trod enc Tryz.prog w 0 sp held 2 v d ps) : v.cells = #[v] := by
  obtain ⟨n, rfl, _⟩ := open_int Tryz.underlying2 h hd
  rfl
set_option maxRecDepth 100000 in
theorem lifted (os : Os) (started : os.Started) (H : Type) (enc : TypeId × Value → H) :
    ReturnsInHanded {} Tryz.checked os 4 .any (Rows.fnExactTurnPictureSpec.pre6 enc Tryz.prog Tryz.f4 Rows.fnExactTurnPictureRow.domain false) (Rows.fnExactTurnPictureSpec.post enc Tryz.prog Tryz.f4 false true false false) := by
  refine returnsInHanded_of_change_sized (C := Tryz.checked) own started (by kernel_rfl) Tryz.func4
    (ChangeSpec.witness6 (enc := enc) (C := Tryz.checked) false ⟨#[], #[.agg #[.int .i64 0, .int .i64 0, .slice none 0 0, .slice none 0 0, .slice none 0 0], .int .i64 0], []⟩ 8 (by kernel_rfl) (by kernel_rfl) (by kernel_rfl) (by kernel_rfl)) ?_
  intro W base args ds gs before hval0 hW hcnd hsz0 _
  have hval : ∀ (j : Nat) t v, Tryz.f4.params[j]? = some t → args[j]? = some v → Value.okWide Tryz.prog W .any base t v := hval0
  have hW' := hW
  obtain ⟨p, q, hA0, hV, rfl, hfz, hnd⟩ := hW
  have hA : DataW.TrodAll enc Tryz.prog W 0 (fun _ => true) true Tryz.f4.params.toList args.toList ds p := hA0
  rw [Tryz.params4] at hA hval
  obtain ⟨v0, vs0, d0, ds0, p0, q0, hargs, rfl, rfl, h0, r0⟩ := trodAll_cons hA
  obtain ⟨v1, vs1, d1, ds1, p1, q1, rfl, rfl, rfl, h1, r1⟩ := trodAll_cons r0
  obtain ⟨rfl, rfl, rfl⟩ := trodAll_nil r1
  obtain rfl : args = #[v0, v1] := by cases args; simp_all
  obtain ⟨rfl, rfl⟩ := trodVars_none hV
  have k0 := h0
  have k1 := h1
  have lt0 : ∀ x ∈ p0, x.block < W.heap.size := by obtain ⟨m, hm⟩ := k0; exact DataW.trod_lt m _ _ _ hm
  have lt1 : ∀ x ∈ p1, x.block < W.heap.size := by obtain ⟨m, hm⟩ := k1; exact DataW.trod_lt m _ _ _ hm
  obtain ⟨xs0, x0_1, x0_2, x0_3⟩ := Ev.open_agg (G := gh) Tryz.underlying28 lf0 (by kernel_rfl) (hval 0 28 v0 rfl rfl) h0
  obtain ⟨y1, x1_1, x1_2, x1_3⟩ := Ev.open_one (G := gh) (t := 2) (by kernel_rfl) (hval 1 2 v1 rfl rfl) h1 (cells2 (hval 1 2 v1 rfl rfl) h1)
  clear hA0 hval0 hsz0
  obtain ⟨y0_0, zs0_0, rfl, t0_0, s0_0⟩ := Ev.all_to x0_1
  obtain ⟨y0_1, zs0_1, rfl, t0_1, s0_1⟩ := Ev.all_to s0_0
  obtain ⟨y0_2, zs0_2, rfl, t0_2, s0_2⟩ := Ev.all_to s0_1
  obtain ⟨y0_3, zs0_3, rfl, t0_3, s0_3⟩ := Ev.all_to s0_2
  obtain ⟨y0_4, zs0_4, rfl, t0_4, s0_4⟩ := Ev.all_to s0_3
  obtain rfl := Ev.all_nil s0_4
  obtain ⟨a0, rfl, w0⟩ := lv2 t0_0
  obtain ⟨a1, rfl, w1⟩ := lv2 t0_1
  obtain ⟨a2, h'2, w2⟩ := lv22 t0_2
  obtain ⟨a3, h'3, w3⟩ := lv23 t0_3
  obtain ⟨a4, h'4, w4⟩ := lv26 t0_4
  obtain ⟨a5, rfl, w5⟩ := lv2 x1_1
  have con := (callOk 10 4 _ _ (r4 0 ⟨a0, a1, a2, a3.map convF, a4⟩ ⟨w2.1, (by simpa using w3.1), convF_wf w3.2, w4.1, fun v hv => (w4.2 v hv).1, h'2, convF_sv (fun _ => rfl) h'3, h'4⟩ a5)).2.2
  refine (Ev.Contract.walk (G := gh) (Ev.Tb.nil _ _) con (args ⟨x0_2, x0_3⟩ ⟨x1_2, x1_3⟩)).mono fun e W' ⟨he, bel⟩ => ?_
  subst he
  exact ⟨_, rfl, _, _, _, [], _, [], hW', trodAll_mk1 (shut_bool Tryz.underlying4 _), (trodAll_cons_mk (Below.trod laidOut (by kernel_rfl) (of_decide_eq_true (by kernel_rfl)) k0 bel lt0) (trodAll_cons_mk (Below.trod laidOut (by kernel_rfl) (of_decide_eq_true (by kernel_rfl)) k1 bel lt1) trodAll_mk0)), rfl, bel.frame _, fun h => by cases h⟩
theorem named : Tryz.pinned.checked.prog.funcNamed Rows.fnExactTurnPictureRow.func = some 4 := by kernel_rfl
set_option maxHeartbeats 40000000 in
theorem closed : joinedFacts Tryz.pinned.checked.prog 4 Tryz.f4 Rows.fnExactTurnPictureSpec Rows.fnExactTurnPictureRow = true := by
  simp only [joinedFacts, Bool.and_eq_true]
  and_intros <;> as_aux_lemma => kernel_rfl
theorem instOk : Tryz.f4.isInstance Tryz.pinned.checked.prog Rows.fnExactTurnPictureRow.origin Rows.fnExactTurnPictureRow.targs := of_decide_eq_true (by kernel_rfl)
theorem wrapOk : Tryz.f4.isWrapper Tryz.pinned.checked.prog Rows.fnExactTurnPictureRow.wrapper Rows.fnExactTurnPictureRow.mainSum := by
  unfold Func.isWrapper; first | (rw [if_pos (by decide +kernel)]; kernel_rfl) | (rw [if_neg (by decide +kernel)]; exact ⟨rfl, rfl⟩)
theorem over : Rows.fnExactTurnPictureRow.holds Tryz.pinned (OpenSpec.ofChange Rows.fnExactTurnPictureSpec) :=
  OpenClaim.holds_of_wide 4 Tryz.f4 rfl rfl rfl rfl rfl rfl rfl ⟨rfl, rfl, rfl, rfl, rfl⟩ rfl rfl rfl rfl rfl named Tryz.func4 closed instOk wrapOk
    (fun os started H enc _ => lifted os started H enc)
theorem proved : Rows.FnExactTurnPictureSaid := over
#print axioms proved
end Go.Proofs.YthnkioafikmmaaaGreat.fnExactTurnPicture
namespace Go.Proofs.YthnkioafikmmaaaGreat
/-- The row, under a short name, for the claim. -/
theorem fnExactTurnPicture_holds : Rows.FnExactTurnPictureSaid := fnExactTurnPicture.proved
end Go.Proofs.YthnkioafikmmaaaGreat
