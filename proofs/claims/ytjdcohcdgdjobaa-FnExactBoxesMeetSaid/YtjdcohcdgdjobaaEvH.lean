/- Bytes, cuts, closures, values built. -/
import Derived.Test.YtjdcohcdgdjobaaEvG
namespace Go.Proofs.Ytjdcohcdgdjobaa.Ev
open Go
set_option linter.unusedVariables false
set_option linter.unusedSimpArgs false

section
variable {P : Program} {S N : Nat → Prop} {G : Gh} {m : Mem} {st : St} {a : Act} {w : World}

theorem do_ix (h : SR S N G st a w) {x i : Opd} {x' i' : Operand} {t : TypeId} {o : Oper} (hx : fO x x' = true) (hi : fO i i' = true) (ho : o.op = .index t x' i') (ht : P.underlying t = some .string)
    {b : ByteArray} {k : IntKind} {j : Int} {u : UInt8} (ex : opd st.s x = .sc (.string b)) (ej : opd st.s i = .sc (.int k j)) (h0 : 0 ≤ j) (hu : b.data.toList[j.toNat]? = some u) :
    Does P o a w (Next S N G st w (.sc (.int .u8 u.toNat)) st.m) := by
  have r1 := (h.opd hx).1
  have r2 := (h.opd hi).1
  rw [ex] at r1
  rw [ej] at r2
  have hb : b[j.toNat]? = some u := by
    rw [Array.getElem?_toList] at hu
    obtain ⟨h1, h2⟩ := Array.getElem?_eq_some_iff.1 hu
    exact getElem?_eq_some_iff.2 ⟨h1, h2⟩
  refine Does.same h (v' := .int .u8 u.toNat) ?_ ⟨rfl, rfl⟩ trivial
  simp [execOp, ho, Instr.index, r1.1, r2.1, asIntOf, run_underlying ht, h0, hb]

theorem nat_bound (h : SR S N G st a w) {x : Opd} {x' : Operand} (hx : fO x x' = true) {n y : Nat} (hn : natOf (opd st.s x) = some n) (hy : n ≤ y) (c : BoundsCode) :
    (Instr.sliceBound (a.eval x') y c).run P w = .ok n w := by
  have r := (h.opd hx).1
  unfold natOf at hn
  split at hn
  · rename_i j e
    rw [e] at r
    split at hn
    · rename_i h0
      cases hn
      have : j ≤ (y : Int) := by omega
      simp [Instr.sliceBound, r.1, asIntOf, h0, this]
    · cases hn
  · cases hn

def fO? : Option Opd → Option Operand → Bool
  | none, none => true
  | some x, some x' => fO x x'
  | _, _ => false

theorem run_bounds (h : SR S N G st a w) {lo hi : Option Opd} {lo' hi' : Option Operand} (hl : fO? lo lo' = true) (hh : fO? hi hi' = true) {b : Bool} {len cap l k : Nat}
    (h1 : natOr st.s 0 lo = some l) (h2 : natOr st.s len hi = some k) (h3 : l ≤ k) (h4 : k ≤ len) (h5 : len ≤ cap) :
    (Instr.sliceBounds b len cap (lo'.map a.eval) (hi'.map a.eval) none).run P w = .ok (l, k, cap) w := by
  unfold Instr.sliceBounds
  have e2 : ∀ c, (match hi'.map a.eval with | some v => Instr.sliceBound v cap c | none => pure len : Sem Nat).run P w = .ok k w := by
    intro c
    cases hi with
    | none => cases hi' with
      | none => simp only [natOr] at h2; cases h2; rfl
      | some _ => simp [fO?] at hh
    | some x => cases hi' with
      | none => simp [fO?] at hh
      | some x' => exact nat_bound h hh h2 (by omega) c
  have e1 : ∀ c, (match lo'.map a.eval with | some v => Instr.sliceBound v k c | none => pure 0 : Sem Nat).run P w = .ok l w := by
    intro c
    cases lo with
    | none => cases lo' with
      | none => simp only [natOr] at h1; cases h1; rfl
      | some _ => simp [fO?] at hl
    | some x => cases lo' with
      | none => simp [fO?] at hl
      | some x' => exact nat_bound h hl h1 h3 c
  have e1' := e1 .sliceB
  have e2' := e2 (if b = true then .sliceAcap else .sliceAlen)
  cases hq : hi'.map a.eval <;> cases hp : lo'.map a.eval <;> rw [hq] at e2' <;> rw [hp] at e1' <;> simp_all

theorem do_sls (h : SR S N G st a w) {x : Opd} {x' : Operand} {lo hi : Option Opd} {lo' hi' : Option Operand} {t : TypeId} {o : Oper} (hx : fO x x' = true) (hl : fO? lo lo' = true) (hh : fO? hi hi' = true)
    (ho : o.op = .slice t x' lo' hi' none) (ht : P.underlying t = some .string) {b : ByteArray} {l k : Nat} (ex : opd st.s x = .sc (.string b))
    (h1 : natOr st.s 0 lo = some l) (h2 : natOr st.s b.size hi = some k) (h3 : l ≤ k) (h4 : k ≤ b.size) : Does P o a w (Next S N G st w (.sc (.string (b.extract l k))) st.m) := by
  have r1 := (h.opd hx).1
  rw [ex] at r1
  refine Does.same h (v' := .string (b.extract l k)) ?_ ⟨rfl, rfl⟩ trivial
  have q := run_bounds (P := P) h hl hh (b := false) (len := b.size) (cap := b.size) h1 h2 h3 h4 (Nat.le_refl _)
  simp [execOp, ho, Instr.sliceAt, Instr.slice, r1.1, run_underlying ht, q]

theorem do_sl (h : SR S N G st a w) {x : Opd} {x' : Operand} {lo hi : Option Opd} {lo' hi' : Option Operand} {t el : TypeId} {n0 : Nat} {o : Oper} (hx : fO x x' = true) (hl : fO? lo lo' = true) (hh : fO? hi hi' = true)
    (ho : o.op = .slice t x' lo' hi' none) (ht : P.underlying t = some (.slice el)) (hz : sizeT P el = some n0) {v : LV} {l k : Nat} (h1 : natOr st.s 0 lo = some l) (h3 : l ≤ k)
    (hv : (∃ rows, opd st.s x = .ro n0 rows ∧ natOr st.s rows.length hi = some k ∧ k ≤ rows.length ∧ v = .ro n0 ((rows.take k).drop l)) ∨
      ∃ i ch q n e rows, opd st.s x = .rf i ch q n ∧ look st.m i ch = some (e, n0, rows) ∧ natOr st.s n hi = some k ∧ k ≤ n ∧ v = .rf i ch (q + l) (k - l)) :
    Does P o a w (Next S N G st w v st.m) := by
  obtain ⟨r1, r2⟩ := h.opd hx
  rcases hv with ⟨rows, ex, h2, h4, rfl⟩ | ⟨i, ch, q, n, e, rows, ex, hk, h2, h4, rfl⟩
  · rw [ex] at r1
    obtain ⟨A, c, e1, hc, hrow⟩ := r1
    have qq := run_bounds (P := P) h hl hh (b := true) (len := rows.length) (cap := c) h1 h2 h3 h4 hc
    refine Does.same h (v' := .slice (if c = l then A else A.map (·.add (l * n0))) (k - l) (c - l)) ?_ ?_ trivial
    · simp [execOp, ho, Instr.sliceAt, Instr.slice, e1, run_underlying ht, qq, sizeT_run hz]
    · have hlen : ((rows.take k).drop l).length = k - l := by simp; omega
      refine ⟨(if c = l then A else A.map (·.add (l * n0))), c - l, by rw [hlen], by rw [hlen]; omega, fun r row hr => ?_⟩
      rw [List.getElem?_drop, List.getElem?_take] at hr
      split at hr
      · rename_i hlk
        obtain ⟨g1, ad, rfl, g2, g3⟩ := hrow _ row hr
        have hne : ¬ c = l := by have := (List.getElem?_eq_some_iff.1 hr).1; omega
        refine ⟨g1, ad.add (l * n0), by simp [hne], ⟨?_, ?_⟩, fun k' y hy => ?_⟩
        · have : (ad.add (l * n0)).block = ad.block := by unfold Addr.add; split <;> rfl
          rw [this]; exact g2.1
        · unfold Addr.add; split
          · exact g2.2
          · rfl
        · obtain ⟨u, hu1, hu2⟩ := g3 k' y hy
          refine ⟨u, ?_, hu2⟩
          rw [add_add ad g2.2, ← Nat.add_assoc, ← Nat.add_mul]
          exact hu1
      · cases hr
  · rw [ex] at r1 r2
    simp only [R, R1, R0] at r1; rw [hk] at r1
    obtain ⟨A, c, e1, hnc, hcap, hA⟩ := r1
    have qq := run_bounds (P := P) h hl hh (b := true) (len := n) (cap := c) h1 h2 h3 h4 hnc
    refine Does.same h (v' := .slice (if c = l then A else A.map (·.add (l * n0))) (k - l) (c - l)) ?_ ?_ r2
    · simp [execOp, ho, Instr.sliceAt, Instr.slice, e1, run_underlying ht, qq, sizeT_run hz]
    · simp only [R, R1, R0]; rw [hk]
      refine ⟨_, _, rfl, by omega, by omega, fun hpos => ?_⟩
      by_cases hne : c = l
      · have hql : q = 0 ∧ l = 0 := by omega
        rw [if_pos hne, hA (.inr hql.1), hql.1, hql.2]
      · rw [if_neg hne, hA (by omega)]
        simp [add_lit, Nat.add_mul]

theorem plain_R0 {v : LV} {u : Value} (hp : plainB v = true) (h : R G S m w v u) : R0 G S m w v u := by
  cases v <;> first | exact h | cases hp
theorem plain_wf {v : LV} (hp : plainB v = true) (h : wf m v) : wf0 m v := by
  cases v <;> first | exact h | cases hp

def fOs : List Opd → List Operand → Bool
  | [], [] => true
  | x :: xs, x' :: xs' => fO x x' && fOs xs xs'
  | _, _ => false
theorem fOs_get {xs : List Opd} {xs' : List Operand} (h : fOs xs xs' = true) : xs.length = xs'.length ∧ ∀ (k : Nat) (x : Opd), xs[k]? = some x → ∃ x', xs'[k]? = some x' ∧ fO x x' = true := by
  induction xs generalizing xs' with
  | nil => cases xs' with
    | nil => exact ⟨rfl, fun k x hk => by simp at hk⟩
    | cons _ _ => simp [fOs] at h
  | cons y ys ih => cases xs' with
    | nil => simp [fOs] at h
    | cons z zs =>
      simp only [fOs, Bool.and_eq_true] at h
      obtain ⟨i1, i2⟩ := ih h.2
      refine ⟨by simp [i1], fun k x hk => ?_⟩
      cases k with
      | zero => simp at hk; subst hk; exact ⟨z, by simp, h.1⟩
      | succ k => simpa using i2 k x (by simpa using hk)

theorem do_mf (h : SR S N G st a w) {xs : List Opd} {xs' : Array Operand} {f : Nat} {o : Oper} (hx : fOs xs xs'.toList = true) (ho : o.op = .makeFunc (.func f) #[] xs')
    (hp : (xs.map (opd st.s)).all plainB = true) : Does P o a w (Next S N G st w (.cl f (xs.map (opd st.s))) st.m) := by
  obtain ⟨l1, l2⟩ := fOs_get hx
  have hall : ∀ (k : Nat) (v : LV), (xs.map (opd st.s))[k]? = some v → ∃ x x', xs[k]? = some x ∧ v = opd st.s x ∧ xs'.toList[k]? = some x' ∧ fO x x' = true ∧ plainB v = true := by
    intro k v hk
    have hpl := List.all_eq_true.1 hp v (List.mem_of_getElem? hk)
    simp only [List.getElem?_map, Option.map_eq_some_iff] at hk
    obtain ⟨x, hx1, rfl⟩ := hk
    obtain ⟨x', y1, y2⟩ := l2 k x hx1
    exact ⟨x, x', hx1, rfl, y1, y2, hpl⟩
  refine Does.same h (v' := .func (.func f) #[] (xs'.map a.eval)) (by simp [execOp, ho, Instr.makeFunc]) ⟨_, rfl, by simp [l1], fun k v hk => ?_⟩ (fun v hv => ?_)
  · obtain ⟨x, x', h1, rfl, h3, h4, h5⟩ := hall k v hk
    refine ⟨a.eval x', ?_, plain_R0 h5 (h.opd h4).1⟩
    rw [Array.getElem?_toList] at h3
    simp [h3]
  · obtain ⟨k, hk⟩ := List.getElem?_of_mem hv
    obtain ⟨x, x', h1, rfl, h3, h4, h5⟩ := hall k v hk
    exact plain_wf h5 (h.opd h4).2

theorem R0_one {v : LV} {V : Value} (h : R0 G S m w v V) (hn : v ≠ .un) : oneV V := by
  cases v <;> first | exact absurd rfl hn | exact h.elim | skip
  case sc u => obtain ⟨rfl, hs⟩ := h; cases V <;> first | rfl | cases hs
  case nl => cases h; rfl
  case ro n rows => obtain ⟨_, _, rfl, _⟩ := h; rfl
  case rf i ch lo n =>
    simp only [R0] at h
    split at h
    · obtain ⟨_, _, rfl, _⟩ := h; rfl
    · exact h
  case bp i off =>
    simp only [R0] at h
    split at h
    · subst h; rfl
    · exact h
  case ep i ch r c =>
    simp only [R0] at h
    split at h
    · subst h; rfl
    · exact h
  case rp vs => obtain ⟨_, rfl, _⟩ := h; rfl

theorem unpack_R {v : LV} {V : Value} {vs : List LV} (hu : unpack v = some vs) (h : R G S m w v V) (hw : wf m v) : RL (R0 G S m w) vs V.cells ∧ ∀ x ∈ vs, wf0 m x := by
  have one : ∀ x : LV, x ≠ .un → R0 G S m w x V → wf0 m x → RL (R0 G S m w) [x] V.cells ∧ ∀ y ∈ [x], wf0 m y := by
    intro x hne hx hwx
    have e : V.cells = #[V] := (R0_one hx hne).cells
    refine ⟨⟨by simp [e], fun k y hk => ?_⟩, fun y hy => by simp at hy; subst hy; exact hwx⟩
    cases k with
    | zero => simp at hk; subst hk; exact ⟨V, by simp [e], hx⟩
    | succ k => simp at hk
  cases v <;> simp only [unpack] at hu <;> cases hu
  case ag =>
    obtain ⟨cs, rfl, q⟩ := h
    exact ⟨q, hw⟩
  all_goals exact one _ (by simp) h hw
end
end Go.Proofs.Ytjdcohcdgdjobaa.Ev
