/- The operations that only compute: what the simpler machine says of them, the model does. -/
import Derived.Test.YtjdcohcdgdjobaaEvC
import Derived.Laws.StructEq
import Derived.ChangeKeysEq
import Derived.Laws.Cells
namespace Go.Proofs.Ytjdcohcdgdjobaa.Ev
open Go
set_option linter.unusedVariables false
set_option linter.unusedSimpArgs false

def vEq : Value → Value → Bool
  | .int k a, .int k' b => decide (k = k') && decide (a = b)
  | .bool a, .bool b => a == b
  | .string a, .string b => decide (a = b)
  | _, _ => false
theorem vEq_eq {u v : Value} (h : vEq u v = true) : v = u ∧ isSc u = true := by
  cases u <;> cases v <;> simp_all [vEq, isSc]
def fK : LV → Value → Bool
  | .sc u, v => vEq u v
  | .nl, .slice none 0 0 => true
  | _, _ => false
def fO : Opd → Operand → Bool
  | .t n, .tmp n' => n == n'
  | .k l, .const v => fK l v
  | .k (.cl g []), .func g' => g == g'
  | _, _ => false

structure SR (S N : Nat → Prop) (G : Gh) (st : St) (a : Act) (w : World) : Prop where
  inv : Inv S N G st.m w
  slot : ∀ t, R G S st.m w (st.s t) (a.tmps.getD t undef) ∧ wf st.m (st.s t)
  df : a.defers = []
  new : ∀ b, w.heap.size ≤ b → N b

section
variable {P : Program} {S N : Nat → Prop} {G : Gh} {st : St} {a : Act} {w : World}

theorem SR.opd (h : SR S N G st a w) {x : Opd} {x' : Operand} (hf : fO x x' = true) : R G S st.m w (opd st.s x) (a.eval x') ∧ wf st.m (opd st.s x) := by
  cases x with
  | t n =>
    cases x' <;> simp [fO] at hf
    subst hf
    exact h.slot n
  | k l =>
    cases x' with
    | const v =>
      simp only [Ev.opd, Act.eval]
      cases l with
      | sc u => exact ⟨vEq_eq (by simpa [fO, fK] using hf), trivial⟩
      | nl =>
        have : v = .slice none 0 0 := by
          simp only [fO, fK] at hf
          split at hf <;> simp_all
        subst this
        exact ⟨rfl, trivial⟩
      | _ => simp [fO, fK] at hf
    | func g' =>
      simp only [Ev.opd, Act.eval]
      cases l with
      | cl g vs =>
        cases vs with
        | nil =>
          have : g = g' := by simpa [fO] using hf
          subst this
          exact ⟨⟨#[], rfl, rfl, fun k x hk => by simp at hk⟩, fun x hx => by simp at hx⟩
        | cons v vs => simp [fO] at hf
      | _ => simp [fO] at hf
    | _ => cases l <;> simp [fO] at hf

/-- what is not one's own is as it was -/
structure FrN (N : Nat → Prop) (w w' : World) : Prop where
  os : w'.os = w.os
  tape : w'.tape = w.tape
  output : w'.output = w.output
  size : w.heap.size ≤ w'.heap.size
  block : ∀ b, b < w.heap.size → ¬ N b → w'.heap[b]? = w.heap[b]?
theorem FrN.refl (N : Nat → Prop) (w : World) : FrN N w w := ⟨rfl, rfl, rfl, Nat.le_refl _, fun _ _ _ => rfl⟩
theorem FrN.trans {N : Nat → Prop} {a b c : World} (h : FrN N a b) (k : FrN N b c) : FrN N a c :=
  ⟨k.os.trans h.os, k.tape.trans h.tape, k.output.trans h.output, Nat.le_trans h.size k.size, fun i hi hn => (k.block i (Nat.lt_of_lt_of_le hi h.size) hn).trans (h.block i hi hn)⟩

/-- what is behind an operation -/
def Next (S N : Nat → Prop) (G : Gh) (st : St) (w : World) (v : LV) (m' : Mem) (v' : Value) (w' : World) : Prop :=
  ∃ G', Ext G st.m w G' m' w' ∧ Inv S N G' m' w' ∧ R G' S m' w' v v' ∧ wf m' v ∧ FrN N w w'

def Does (P : Program) (o : Oper) (a : Act) (w : World) (Φ : Value → World → Prop) : Prop := ∃ v' w', (execOp a.eval o).run P w = .ok (.value v') w' ∧ Φ v' w'

theorem Does.same (h : SR S N G st a w) {o : Oper} {v : LV} {v' : Value} (hr : (execOp a.eval o).run P w = .ok (.value v') w) (hv : R G S st.m w v v') (hw : wf st.m v) :
    Does P o a w (Next S N G st w v st.m) := ⟨v', w, hr, G, Ext.refl _ _ _, h.inv, hv, hw, FrN.refl _ _⟩

theorem do_mv (h : SR S N G st a w) {x : Opd} {x' : Operand} {o : Oper} (hf : fO x x' = true) (ho : o.op = .move x' ∨ o.op = .assign x') : Does P o a w (Next S N G st w (opd st.s x) st.m) := by
  obtain ⟨h1, h2⟩ := h.opd hf
  refine Does.same h ?_ h1 h2
  rcases ho with ho | ho <;> simp [execOp, ho]

theorem do_pk (h : SR S N G st a w) {c x y : Opd} {c' x' y' : Operand} {o : Oper} (hc : fO c c' = true) (hx : fO x x' = true) (hy : fO y y' = true) (ho : o.op = .pick c' x' y') {t : Bool}
    (ht : opd st.s c = .sc (.bool t)) : Does P o a w (Next S N G st w (if t = true then opd st.s x else opd st.s y) st.m) := by
  have h1 := (h.opd hc).1
  rw [ht] at h1
  obtain ⟨e, -⟩ := h1
  obtain ⟨x1, x2⟩ := h.opd hx
  obtain ⟨y1, y2⟩ := h.opd hy
  cases t
  · exact Does.same h (v' := a.eval y') (by simp [execOp, ho, e, asBool]) y1 y2
  · exact Does.same h (v' := a.eval x') (by simp [execOp, ho, e, asBool]) x1 x2

theorem toList_beq (a b : ByteArray) : (a.toList == b.toList) = decide (a = b) := by
  rw [Bool.beq_eq_decide_eq]
  congr 1
  rw [ByteArray.toList_eq, ByteArray.toList_eq]
  obtain ⟨⟨x⟩⟩ := a
  obtain ⟨⟨y⟩⟩ := b
  simp
theorem bytes_total : ∀ a b : List UInt8, (Op.bytesLess a b || (a == b)) = !Op.bytesLess b a := by
  intro a
  induction a with
  | nil => intro b; cases b <;> simp [Op.bytesLess]
  | cons x xs ih =>
    intro b
    cases b with
    | nil => simp [Op.bytesLess]
    | cons y ys =>
      have := ih ys
      simp only [Op.bytesLess]
      rcases Nat.lt_trichotomy x.toNat y.toNat with h | h | h
      · have h1 : x < y := h
        have h2 : ¬ y < x := fun q => by have : y.toNat < x.toNat := q; omega
        have h3 : y ≠ x := fun e => by subst e; omega
        simp [h1, h2, h3]
      · have e : x = y := UInt8.toNat_inj.1 h
        subst e
        simp at this ⊢
        exact this
      · have h1 : y < x := h
        have h2 : ¬ x < y := fun q => by have : x.toNat < y.toNat := q; omega
        have h3 : x ≠ y := fun e => by subst e; omega
        simp [h1, h2, h3]

theorem arV_run {op : BinOp} {u v r : Value} {t : TypeId} (h : arV op u v = some r) (hb : ∀ b, u = .bool b → P.underlying t = some .bool) :
    (binOp op t u v).run P w = .ok r w ∧ isSc r = true := by
  cases u <;> cases v <;> simp only [arV] at h <;> try cases h
  case int.int k x k' y =>
    split at h
    case isFalse => cases h
    case isTrue e =>
      subst e
      cases op <;> simp only [] at h <;> first | (split at h <;> cases h) | cases h
      all_goals simp_all [binOp, Op.intArith, Op.intCmp, Op.intDiv, isSc, Bool.beq_eq_decide_eq, bne]
  case string.string x y =>
    cases op <;> simp only [] at h <;> first | (split at h <;> cases h) | cases h
    case add.isTrue.refl hz =>
      have hq : ¬ (((x.size + y.size : Nat) : Int) > IntKind.i64.max) := by
        have : IntKind.i64.max = 9223372036854775807 := by decide
        omega
      simp only [binOp, Op.stringOp, if_neg hq, isSc]
      exact ⟨rfl, trivial⟩
    case eql.refl => exact ⟨by simp only [binOp, Op.stringOp, Sem.run_pure, toList_beq], rfl⟩
    case neq.refl => exact ⟨by simp only [binOp, Op.stringOp, Sem.run_pure, toList_beq], rfl⟩
    case lss.refl => exact ⟨rfl, rfl⟩
    case leq.refl => exact ⟨by simp only [binOp, Op.stringOp, Sem.run_pure, bytes_total], rfl⟩
    case gtr.refl => exact ⟨by simp only [binOp, Op.stringOp, Sem.run_pure, bytes_total, Bool.not_not], rfl⟩
    case geq.refl => exact ⟨rfl, rfl⟩
  case bool.bool x y =>
    have hu := hb x rfl
    cases op <;> simp only [] at h <;> cases h
    all_goals
      have q := run_equalIn_bool (P := P) w 9999 t x y hu
      simp [binOp, Op.equal, Op.maxDepth, q, isSc, Bool.beq_eq_decide_eq]

theorem eqGuard_sc (op : BinOp) (t : TypeId) (x y : Operand) {u v : Value} (hu : isSc u = true) : (eqGuard op t x y u v).run P w = .ok () w := by
  cases u <;> simp [isSc] at hu <;> cases op <;> simp [eqGuard]

theorem do_ar (h : SR S N G st a w) {op : BinOp} {x y : Opd} {x' y' : Operand} {t t2 : TypeId} {o : Oper} (hx : fO x x' = true) (hy : fO y y' = true) (ho : o.op = .binOp op t x' y' t2)
    (hb : ∀ b, opd st.s x = .sc (.bool b) → P.underlying t = some .bool) {v : LV} (hv : arL op (opd st.s x) (opd st.s y) = some v) : Does P o a w (Next S N G st w v st.m) := by
  have h1 := (h.opd hx).1
  have h2 := (h.opd hy).1
  generalize opd st.s x = X at *
  generalize opd st.s y = Y at *
  cases X <;> cases Y <;> simp only [arL] at hv <;> try cases hv
  case sc.sc u1 u2 =>
    obtain ⟨e1, s1⟩ := h1
    obtain ⟨e2, s2⟩ := h2
    cases hr : arV op u1 u2 with
    | none => rw [hr] at hv; cases hv
    | some r =>
      rw [hr] at hv
      cases hv
      obtain ⟨k1, k2⟩ := arV_run (P := P) (w := w) (t := t) hr (fun b hb' => hb b (by rw [hb']))
      refine Does.same h (v' := r) ?_ ⟨rfl, k2⟩ trivial
      simp [execOp, ho, e1, e2, eqGuard_sc op t x' y' s1, k1]

theorem do_ng (h : SR S N G st a w) {x : Opd} {x' : Operand} {t : TypeId} {o : Oper} (hx : fO x x' = true) (ho : o.op = .unOp .neg t x') {k : IntKind} {n : Int}
    (hv : opd st.s x = .sc (.int k n)) : Does P o a w (Next S N G st w (.sc (.int k (k.wrap (0 - n)))) st.m) := by
  have h1 := (h.opd hx).1
  rw [hv] at h1
  obtain ⟨e1, s1⟩ := h1
  exact Does.same h (v' := .int k (k.wrap (0 - n))) (by simp [execOp, ho, e1, Op.unary, Op.intArith]) ⟨rfl, rfl⟩ trivial

theorem do_nt (h : SR S N G st a w) {x : Opd} {x' : Operand} {t : TypeId} {o : Oper} (hx : fO x x' = true) (ho : o.op = .unOp .not t x') {b : Bool}
    (hv : opd st.s x = .sc (.bool b)) : Does P o a w (Next S N G st w (.sc (.bool (!b))) st.m) := by
  have h1 := (h.opd hx).1
  rw [hv] at h1
  obtain ⟨e1, s1⟩ := h1
  exact Does.same h (v' := .bool (!b)) (by simp [execOp, ho, e1, Op.unary]) ⟨rfl, rfl⟩ trivial

theorem do_cv (h : SR S N G st a w) {x : Opd} {x' : Operand} {t u : TypeId} {o : Oper} {k k' : IntKind} {n : Int} (hx : fO x x' = true) (ho : o.op = .convert t u x')
    (ht : ∃ d, P.underlying t = some d) (hu : P.underlying u = some (.int k)) (hv : opd st.s x = .sc (.int k' n)) : Does P o a w (Next S N G st w (.sc (.int k (k.wrap n))) st.m) := by
  have h1 := (h.opd hx).1
  rw [hv] at h1
  obtain ⟨e1, s1⟩ := h1
  obtain ⟨d, hd⟩ := ht
  refine Does.same h (v' := .int k (k.wrap n)) ?_ ⟨rfl, rfl⟩ trivial
  cases d <;> simp [execOp, ho, e1, convert, run_underlying hd, run_underlying hu, Conv.intToInt]

theorem do_xt (h : SR S N G st a w) {x : Opd} {x' : Operand} {k : Nat} {o : Oper} (hx : fO x x' = true) (ho : o.op = .extract x' k) {vs : List LV} {v : LV}
    (hv : opd st.s x = .tu vs) (hk : vs[k]? = some v) : Does P o a w (Next S N G st w v st.m) := by
  obtain ⟨h1, h2⟩ := h.opd hx
  rw [hv] at h1 h2
  obtain ⟨cs, e1, q1, q2⟩ := h1
  obtain ⟨u, hu, hr⟩ := q2 k v hk
  have hw := h2 v (List.mem_of_getElem? hk)
  have hnt : ∀ z, v ≠ .tu z := fun z hz => by subst hz; exact hr
  refine Does.same h (v' := u) (by simp [execOp, ho, e1, Instr.extract, hu]) ?_ ?_
  · cases v <;> first | exact hr | exact absurd rfl (hnt _)
  · cases v <;> first | exact hw | exact absurd rfl (hnt _)

theorem do_mx (h : SR S N G st a w) {x y : Opd} {x' y' : Operand} {o : Oper} {ts : Array TypeId} (hx : fO x x' = true) (hy : fO y y' = true) (ho : o.op = .call ⟨.builtin .max, #[x', y'], ts⟩) {k : IntKind} {p q : Int}
    (h1 : opd st.s x = .sc (.int k p)) (h2 : opd st.s y = .sc (.int k q)) : Does P o a w (Next S N G st w (.sc (.int k (if p < q then q else p))) st.m) := by
  have r1 := (h.opd hx).1
  have r2 := (h.opd hy).1
  rw [h1] at r1
  rw [h2] at r2
  refine Does.same h (v' := .int k (if p < q then q else p)) ?_ ⟨rfl, rfl⟩ trivial
  simp [execOp, ho, resolve, invoke, builtin, Builtin.max_, Builtin.max2, r1.1, r2.1]

theorem do_mn (h : SR S N G st a w) {x y : Opd} {x' y' : Operand} {o : Oper} {ts : Array TypeId} (hx : fO x x' = true) (hy : fO y y' = true) (ho : o.op = .call ⟨.builtin .min, #[x', y'], ts⟩) {k : IntKind} {p q : Int}
    (h1 : opd st.s x = .sc (.int k p)) (h2 : opd st.s y = .sc (.int k q)) : Does P o a w (Next S N G st w (.sc (.int k (if q < p then q else p))) st.m) := by
  have r1 := (h.opd hx).1
  have r2 := (h.opd hy).1
  rw [h1] at r1
  rw [h2] at r2
  refine Does.same h (v' := .int k (if q < p then q else p)) ?_ ⟨rfl, rfl⟩ trivial
  simp [execOp, ho, resolve, invoke, builtin, Builtin.min_, Builtin.min2, r1.1, r2.1]

theorem do_ln (h : SR S N G st a w) {x : Opd} {x' : Operand} {o : Oper} {t : TypeId} (hx : fO x x' = true) (ho : o.op = .call ⟨.builtin .len, #[x'], #[t]⟩)
    {n : Nat}
    (hn : (∃ b, opd st.s x = .sc (.string b) ∧ n = b.size ∧ P.underlying t = some .string) ∨ ((∃ e, P.underlying t = some (.slice e)) ∧
      ((opd st.s x = .nl ∧ n = 0) ∨ (∃ k rows, opd st.s x = .ro k rows ∧ n = rows.length) ∨ ∃ i ch lo, opd st.s x = .rf i ch lo n ∧ look st.m i ch ≠ none))) :
    Does P o a w (Next S N G st w (.sc (.int .i64 n)) st.m) := by
  have r1 := (h.opd hx).1
  refine Does.same h (v' := .int .i64 n) ?_ ⟨rfl, rfl⟩ trivial
  rcases hn with ⟨b, e, rfl, hs⟩ | ⟨⟨e', hs⟩, ⟨e, rfl⟩ | ⟨k, rows, e, rfl⟩ | ⟨i, ch, lo, e, hl⟩⟩
  · rw [e] at r1
    simp [execOp, ho, resolve, invoke, builtin, Builtin.len_, r1.1, run_underlying hs, goInt]
  · rw [e] at r1
    have r2 : a.eval x' = .slice none 0 0 := r1
    simp [execOp, ho, resolve, invoke, builtin, Builtin.len_, r2, run_underlying hs, goInt]
  · rw [e] at r1
    obtain ⟨A, c, r2, -⟩ := r1
    simp [execOp, ho, resolve, invoke, builtin, Builtin.len_, r2, run_underlying hs, goInt]
  · rw [e] at r1
    simp only [R, R1, R0] at r1
    cases hk : look st.m i ch with
    | none => exact absurd hk hl
    | some q =>
      obtain ⟨q1, q2, q3⟩ := q
      rw [hk] at r1
      obtain ⟨A, c, r2, -⟩ := r1
      simp [execOp, ho, resolve, invoke, builtin, Builtin.len_, r2, run_underlying hs, goInt]
end
end Go.Proofs.Ytjdcohcdgdjobaa.Ev
