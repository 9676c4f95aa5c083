/- How the simpler machine's state stands for a world of the model. -/
import Derived.Test.YthnkioafikmmaaaDoorEvA
import Derived.Laws.StructEq
import Derived.ChangeKeysEq
import Derived.Laws.Cells
namespace Go.Proofs.YthnkioafikmmaaaDoor.Ev
open Go
set_option linter.unusedVariables false
set_option linter.unusedSimpArgs false

/-- where the pieces of own memory lie -/
structure Gh where
  blk : Id → Nat
  cap : Id → Nat
  cblk : Id → Nat → Nat → Nat
  ccap : Id → Nat → Nat → Nat

/-- a slice that reads as rows of things -/
def RdG {α : Type} (R : α → Value → Prop) (S : Nat → Prop) (w : World) (st : Nat) (rows : List (List α)) (v : Value) : Prop :=
  ∃ (A : Addr) (c : Nat), v = .slice (some A) rows.length c ∧ rows.length ≤ c ∧ ∀ (r : Nat) (row : List α), rows[r]? = some row → row.length = st ∧ ∃ a : Addr, a = A ∧ (S a.block ∧ a.spot = none) ∧
    ∀ (k : Nat) (x : α), row[k]? = some x → ∃ u, w.cell? (a.add (r * st + k)) = some u ∧ R x u
def ScR (u v : Value) : Prop := v = u ∧ isSc u = true
def RdC (S : Nat → Prop) (w : World) : Cell → Value → Prop
  | .un, _ => True
  | .sc u, v => ScR u v
  | .nl, v => v = .slice none 0 0
  | .sl _ _ st rows, v => RdG ScR S w st rows v
/-- own memory: a block of rows -/
def OwG {α : Type} (R : Nat → Nat → α → Value → Prop) (w : World) (b e cap st : Nat) (rows : List (List α)) : Prop :=
  ∃ cs : Array Value, w.heap[b]? = some (.cells cs e (0, 0)) ∧ cs.size = cap * st ∧ rows.length ≤ cap ∧ cap ≤ maxLen ∧
    ∀ (r : Nat) (row : List α), rows[r]? = some row → row.length = st ∧ ∀ (k : Nat) (x : α), row[k]? = some x → ∃ u, cs[r * st + k]? = some u ∧ R r k x u
def OwC (G : Gh) (S : Nat → Prop) (w : World) (i : Id) (r c : Nat) : Cell → Value → Prop
  | .un, _ => True
  | .sc u, v => ScR u v
  | .nl, v => v = .slice none 0 0
  | .sl false _ st rows, v => RdG ScR S w st rows v
  | .sl true e st rows, v => v = .slice (some ⟨G.cblk i r c, 0, none⟩) rows.length (G.ccap i r c) ∧ OwG (fun _ _ => ScR) w (G.cblk i r c) e (G.ccap i r c) st rows

def Gh.blkOf (G : Gh) (i : Id) : Option (Nat × Nat) → Nat
  | none => G.blk i | some (r, c) => G.cblk i r c
def Gh.capOf (G : Gh) (i : Id) : Option (Nat × Nat) → Nat
  | none => G.cap i | some (r, c) => G.ccap i r c

/-- a cell of what a pointer leads to that is read alone -/
def RpC (S : Nat → Prop) (w : World) : LV → Value → Prop
  | .un, _ => True
  | .sc u, v => ScR u v
  | .nl, v => v = .slice none 0 0
  | .ro st rows, v => RdG (RdC S w) S w st rows v
  | _, _ => False

/-- a value that is one cell -/
def oneV (v : Value) : Prop := v.oneCell' = true
theorem oneV.cells {v : Value} (h : oneV v) : v.cells = #[v] := by cases v <;> first | rfl | cases h
/-- one cell's worth -/
def R0 (G : Gh) (S : Nat → Prop) (m : Mem) (w : World) : LV → Value → Prop
  | .sc u, v => ScR u v
  | .nl, v => v = .slice none 0 0
  | .ro st rows, v => RdG (RdC S w) S w st rows v
  | .rf i ch lo n, v =>
    match look m i ch with
    | some (_, st, _) => ∃ (A : Addr) (c : Nat), v = .slice (some A) n c ∧ n ≤ c ∧ lo + c = G.capOf i ch ∧ (0 < c ∨ lo = 0 → A = ⟨G.blkOf i ch, lo * st, none⟩)
    | none => oneV v
  | .bp i off, v => match m i with | some (.box _) => v = .pointer (some ⟨G.blk i, off, none⟩) | _ => oneV v
  | .ep i ch r c, v => match look m i ch with | some (_, st, _) => v = .pointer (some ⟨G.blkOf i ch, r * st + c, none⟩) | none => oneV v
  | .rp vs, v => ∃ a : Addr, v = .pointer (some a) ∧ ∀ (k : Nat) (x : LV), vs[k]? = some x → S a.block ∧ ∃ u, w.cell? (a.add k) = some u ∧ RpC S w x u
  | .un, _ => True
  | _, _ => False
def One (v : Value) : Prop := v.oneCell' = true
/-- several cells -/
def RL (R : LV → Value → Prop) (vs : List LV) (cs : Array Value) : Prop := cs.size = vs.length ∧ ∀ (k : Nat) (x : LV), vs[k]? = some x → ∃ u, cs[k]? = some u ∧ R x u
def R1 (G : Gh) (S : Nat → Prop) (m : Mem) (w : World) : LV → Value → Prop
  | .ag vs, v => ∃ cs, v = .agg cs ∧ RL (R0 G S m w) vs cs
  | .cl f vs, v => ∃ cs, v = .func (.func f) #[] cs ∧ RL (R0 G S m w) vs cs
  | x, v => R0 G S m w x v
def R (G : Gh) (S : Nat → Prop) (m : Mem) (w : World) : LV → Value → Prop
  | .tu vs, v => ∃ cs, v = .tuple cs ∧ RL (R1 G S m w) vs cs
  | x, v => R1 G S m w x v

/-- the pieces of own memory -/
inductive Res where
  | root (i : Id) | chld (i : Id) (r c : Nat)
  deriving DecidableEq
def live (m : Mem) : Res → Prop
  | .root i => (∃ cells, m i = some (.box cells)) ∨ ∃ e st rows, m i = some (.arr e st rows)
  | .chld i r c => ∃ e st rows row e' st' rows', m i = some (.arr e st rows) ∧ rows[r]? = some row ∧ row[c]? = some (.sl true e' st' rows')
def Gh.at (G : Gh) : Res → Nat
  | .root i => G.blk i | .chld i r c => G.cblk i r c

/-- no value leads to a name that isn't given yet -/
def wf0 (m : Mem) : LV → Prop
  | .rf i _ _ _ | .bp i _ | .ep i _ _ _ => m i ≠ none
  | _ => True
def wf1 (m : Mem) : LV → Prop
  | .ag vs | .cl _ vs => ∀ x ∈ vs, wf0 m x
  | x => wf0 m x
def wf (m : Mem) : LV → Prop
  | .tu vs => ∀ x ∈ vs, wf1 m x
  | x => wf1 m x

structure Inv (S : Nat → Prop) (N : Nat → Prop) (G : Gh) (m : Mem) (w : World) : Prop where
  arr : ∀ i e st rows, m i = some (.arr e st rows) → OwG (OwC G S w i) w (G.blk i) e (G.cap i) st rows
  box : ∀ i cells, m i = some (.box cells) → ∃ cs e, w.heap[G.blk i]? = some (.cells cs e (0, 0)) ∧ RL (fun x u => R0 G S m w x u ∧ plainB x = true ∧ wf0 m x) cells cs
  inj : ∀ p q, live m p → live m q → G.at p = G.at q → p = q
  sep : ∀ p, live m p → ¬ S (G.at p) ∧ N (G.at p)
  old : ∀ b, S b → b < w.heap.size

end Go.Proofs.YthnkioafikmmaaaDoor.Ev

namespace Go.Proofs.YthnkioafikmmaaaDoor.Ev
open Go
set_option linter.unusedVariables false
set_option linter.unusedSimpArgs false

theorem cell_same {w w' : World} {a : Addr} (h : w'.heap[a.block]? = w.heap[a.block]?) : w'.cell? a = w.cell? a := World.cell?_of_block h

theorem RdG.mono {α : Type} {R R' : α → Value → Prop} {S S' : Nat → Prop} {w w' : World} {st : Nat} {rows : List (List α)} {v : Value}
    (h : RdG R S w st rows v) (hR : ∀ x u, R x u → R' x u) (hS : ∀ b, S b → S' b) (hw : ∀ b, S b → w'.heap[b]? = w.heap[b]?) : RdG R' S' w' st rows v := by
  obtain ⟨A, c, rfl, hc, h⟩ := h
  refine ⟨A, c, rfl, hc, fun r row hr => ?_⟩
  obtain ⟨h1, a, rfl, h2, h3⟩ := h r row hr
  refine ⟨h1, a, rfl, ⟨hS _ h2.1, h2.2⟩, fun k x hk => ?_⟩
  obtain ⟨u, hu, hx⟩ := h3 k x hk
  refine ⟨u, ?_, hR _ _ hx⟩
  rw [cell_same (hw _ ?_), hu]
  have : (a.add (r * st + k)).block = a.block := by unfold Addr.add; split <;> rfl
  rw [this]; exact h2.1

theorem RdC.mono {S S' : Nat → Prop} {w w' : World} {x : Cell} {v : Value} (h : RdC S w x v) (hS : ∀ b, S b → S' b) (hw : ∀ b, S b → w'.heap[b]? = w.heap[b]?) : RdC S' w' x v := by
  cases x with
  | un => trivial
  | sc u => exact h
  | nl => exact h
  | sl o e st rows => exact RdG.mono h (fun _ _ h => h) hS hw

theorem RpC.mono {S S' : Nat → Prop} {w w' : World} {x : LV} {v : Value} (h : RpC S w x v) (hS : ∀ b, S b → S' b) (hw : ∀ b, S b → w'.heap[b]? = w.heap[b]?) : RpC S' w' x v := by
  cases x <;> first | exact h | exact h.elim | skip
  case ro st rows => exact RdG.mono h (fun _ _ h => h.mono hS hw) hS hw

/-- memory is only added to -/
structure Ext (G : Gh) (m : Mem) (w : World) (G' : Gh) (m' : Mem) (w' : World) : Prop where
  mem : ∀ i, m i ≠ none → m' i = m i
  blk : ∀ i, m i ≠ none → G'.blk i = G.blk i ∧ G'.cap i = G.cap i ∧ G'.cblk i = G.cblk i ∧ G'.ccap i = G.ccap i
  heap : ∀ b, b < w.heap.size → w'.heap[b]? = w.heap[b]?
  size : w.heap.size ≤ w'.heap.size

theorem Ext.refl (G : Gh) (m : Mem) (w : World) : Ext G m w G m w := ⟨fun _ _ => rfl, fun _ _ => ⟨rfl, rfl, rfl, rfl⟩, fun _ _ => rfl, Nat.le_refl _⟩
theorem Ext.trans {G : Gh} {m : Mem} {w : World} {G' : Gh} {m' : Mem} {w' : World} {G2 : Gh} {m2 : Mem} {w2 : World} (h : Ext G m w G' m' w') (k : Ext G' m' w' G2 m2 w2) : Ext G m w G2 m2 w2 := by
  have hm : ∀ i, m i ≠ none → m' i ≠ none := fun i hi => by rw [h.mem i hi]; exact hi
  refine ⟨fun i hi => (k.mem i (hm i hi)).trans (h.mem i hi), fun i hi => ?_, fun b hb => (k.heap b (Nat.lt_of_lt_of_le hb h.size)).trans (h.heap b hb), Nat.le_trans h.size k.size⟩
  obtain ⟨a1, a2, a3, a4⟩ := h.blk i hi
  obtain ⟨b1, b2, b3, b4⟩ := k.blk i (hm i hi)
  exact ⟨b1.trans a1, b2.trans a2, b3.trans a3, b4.trans a4⟩

theorem look_ext {m m' : Mem} {i : Id} {ch : Option (Nat × Nat)} (h : m' i = m i) : look m' i ch = look m i ch := by unfold look; rw [h]

section
variable {G : Gh} {m : Mem} {w : World} {G' : Gh} {m' : Mem} {w' : World} {S : Nat → Prop}

theorem Ext.blkOf (h : Ext G m w G' m' w') {i : Id} (hi : m i ≠ none) (ch : Option (Nat × Nat)) : G'.blkOf i ch = G.blkOf i ch ∧ G'.capOf i ch = G.capOf i ch := by
  obtain ⟨a1, a2, a3, a4⟩ := h.blk i hi
  cases ch with
  | none => exact ⟨a1, a2⟩
  | some rc => exact ⟨by simp only [Gh.blkOf, a3], by simp only [Gh.capOf, a4]⟩

theorem R0.ext (hS : ∀ b, S b → b < w.heap.size) (h : Ext G m w G' m' w') {x : LV} {v : Value} (hx : wf0 m x) (r : R0 G S m w x v) : R0 G' S m' w' x v := by
  have hw : ∀ b, S b → w'.heap[b]? = w.heap[b]? := fun b hb => h.heap b (hS b hb)
  cases x <;> try exact r
  case ro st rows => exact RdG.mono r (fun _ _ q => RdC.mono q (fun _ h => h) hw) (fun _ h => h) hw
  case rf i ch lo n =>
    have hi : m i ≠ none := hx
    simp only [R0] at r ⊢
    rw [look_ext (h.mem i hi), (h.blkOf hi ch).1, (h.blkOf hi ch).2]
    exact r
  case bp i off =>
    have hi : m i ≠ none := hx
    simp only [R0] at r ⊢
    rw [h.mem i hi, (h.blk i hi).1]
    exact r
  case ep i ch r' c =>
    have hi : m i ≠ none := hx
    simp only [R0] at r ⊢
    rw [look_ext (h.mem i hi), (h.blkOf hi ch).1]
    exact r
  case rp vs =>
    obtain ⟨a, rfl, q⟩ := r
    refine ⟨a, rfl, fun k x hk => ?_⟩
    obtain ⟨h1, u, h2, h3⟩ := q k x hk
    refine ⟨h1, u, ?_, h3.mono (fun _ h => h) hw⟩
    have e : (a.add k).block = a.block := by unfold Addr.add; split <;> rfl
    rw [cell_same (hw _ (by rw [e]; exact h1)), h2]

theorem RL.mono {R R' : LV → Value → Prop} {vs : List LV} {cs : Array Value} (h : RL R vs cs) (hR : ∀ x u, x ∈ vs → R x u → R' x u) : RL R' vs cs :=
  ⟨h.1, fun k x hk => let ⟨u, hu, hx⟩ := h.2 k x hk; ⟨u, hu, hR x u (List.mem_of_getElem? hk) hx⟩⟩

theorem R1.ext (hS : ∀ b, S b → b < w.heap.size) (h : Ext G m w G' m' w') {x : LV} {v : Value} (hx : wf1 m x) (r : R1 G S m w x v) : R1 G' S m' w' x v := by
  cases x
  case ag vs => obtain ⟨cs, rfl, q⟩ := r; exact ⟨cs, rfl, q.mono fun x u hm hr => R0.ext hS h (hx x hm) hr⟩
  case cl f vs => obtain ⟨cs, rfl, q⟩ := r; exact ⟨cs, rfl, q.mono fun x u hm hr => R0.ext hS h (hx x hm) hr⟩
  all_goals (simp only [R1, wf1] at hx r ⊢; exact R0.ext hS h hx r)

theorem R.ext (hS : ∀ b, S b → b < w.heap.size) (h : Ext G m w G' m' w') {x : LV} {v : Value} (hx : wf m x) (r : R G S m w x v) : R G' S m' w' x v := by
  cases x
  case tu vs => obtain ⟨cs, rfl, q⟩ := r; exact ⟨cs, rfl, q.mono fun x u hm hr => R1.ext hS h (hx x hm) hr⟩
  all_goals (simp only [R, wf] at hx r ⊢; exact R1.ext hS h hx r)

theorem wf0.ext (h : ∀ i, m i ≠ none → m' i ≠ none) {x : LV} (hx : wf0 m x) : wf0 m' x := by
  cases x <;> first | exact h _ hx | trivial
theorem wf1.ext (h : ∀ i, m i ≠ none → m' i ≠ none) {x : LV} (hx : wf1 m x) : wf1 m' x := by
  cases x
  case ag vs => exact fun x hm => wf0.ext h (hx x hm)
  case cl f vs => exact fun x hm => wf0.ext h (hx x hm)
  all_goals (simp only [wf1] at hx ⊢; exact wf0.ext h hx)
theorem wf.ext (h : ∀ i, m i ≠ none → m' i ≠ none) {x : LV} (hx : wf m x) : wf m' x := by
  cases x
  case tu vs => exact fun x hm => wf1.ext h (hx x hm)
  all_goals (simp only [wf] at hx ⊢; exact wf1.ext h hx)
theorem Ext.ne (h : Ext G m w G' m' w') : ∀ i, m i ≠ none → m' i ≠ none := fun i hi => by rw [h.mem i hi]; exact hi

theorem OwG.mono {α : Type} {R R' : Nat → Nat → α → Value → Prop} {w w' : World} {b e cap st : Nat} {rows : List (List α)} (h : OwG R w b e cap st rows)
    (hw : w'.heap[b]? = w.heap[b]?) (hR : ∀ r c row x u, rows[r]? = some row → row[c]? = some x → R r c x u → R' r c x u) : OwG R' w' b e cap st rows := by
  obtain ⟨cs, h1, h2, h3, h4, h5⟩ := h
  refine ⟨cs, hw.trans h1, h2, h3, h4, fun r row hr => ?_⟩
  obtain ⟨k1, k2⟩ := h5 r row hr
  exact ⟨k1, fun k x hk => let ⟨u, hu, hx⟩ := k2 k x hk; ⟨u, hu, hR r k row x u hr hk hx⟩⟩

theorem OwG.lt {α : Type} {R : Nat → Nat → α → Value → Prop} {w : World} {b e cap st : Nat} {rows : List (List α)} (h : OwG R w b e cap st rows) : b < w.heap.size := by
  obtain ⟨cs, h1, _⟩ := h
  exact (Array.getElem?_eq_some_iff.1 h1).1

/-- a cell of own memory, where its own block and what is read alone are as they were -/
theorem OwC.mono {i : Id} {r c : Nat} {x : Cell} {v : Value} (h : OwC G S w i r c x v) (hG : G'.cblk i r c = G.cblk i r c ∧ G'.ccap i r c = G.ccap i r c)
    (hS : ∀ b, S b → w'.heap[b]? = w.heap[b]?) (hc : ∀ e st rows, x = .sl true e st rows → w'.heap[G.cblk i r c]? = w.heap[G.cblk i r c]?) : OwC G' S w' i r c x v := by
  cases x with
  | un => trivial
  | sc u => exact h
  | nl => exact h
  | sl o e st rows =>
    cases o with
    | false => exact RdG.mono h (fun _ _ h => h) (fun _ h => h) hS
    | true =>
      obtain ⟨h1, h2⟩ := h
      refine ⟨by rw [hG.1, hG.2]; exact h1, ?_⟩
      rw [hG.1, hG.2]
      exact OwG.mono h2 (hc e st rows rfl) (fun _ _ _ _ _ _ _ h => h)

theorem Inv.lt {N : Nat → Prop} (h : Inv S N G m w) {p : Res} (hp : live m p) : G.at p < w.heap.size := by
  cases p with
  | root i =>
    rcases hp with ⟨cells, hc⟩ | ⟨e, st, rows, hc⟩
    · obtain ⟨cs, e, h1, _⟩ := h.box i cells hc
      exact (Array.getElem?_eq_some_iff.1 h1).1
    · exact (h.arr i e st rows hc).lt
  | chld i r c =>
    obtain ⟨e, st, rows, row, e', st', rows', h1, h2, h3⟩ := hp
    obtain ⟨cs, _, _, _, _, k⟩ := h.arr i e st rows h1
    obtain ⟨u, _, hu⟩ := (k r row h2).2 c _ h3
    exact hu.2.lt

theorem Inv.ext {N : Nat → Prop} (h : Inv S N G m w) (hw : ∀ b, b < w.heap.size → w'.heap[b]? = w.heap[b]?) (hz : w.heap.size ≤ w'.heap.size) : Inv S N G m w' := by
  have hS : ∀ b, S b → w'.heap[b]? = w.heap[b]? := fun b hb => hw b (h.old b hb)
  refine ⟨fun i e st rows hi => ?_, fun i cells hi => ?_, h.inj, h.sep, fun b hb => Nat.lt_of_lt_of_le (h.old b hb) hz⟩
  · refine OwG.mono (h.arr i e st rows hi) (hw _ (h.arr i e st rows hi).lt) fun r c row x u hr hc ho => OwC.mono ho ⟨rfl, rfl⟩ hS fun e' st' rows' hx => ?_
    subst hx
    exact hw _ (h.lt (p := .chld i r c) ⟨e, st, rows, row, e', st', rows', hi, hr, hc⟩)
  · obtain ⟨cs, e, h1, h2⟩ := h.box i cells hi
    refine ⟨cs, e, (hw _ (Array.getElem?_eq_some_iff.1 h1).1).trans h1, h2.mono fun x u _ hx => ⟨R0.ext h.old (⟨fun _ _ => rfl, fun _ _ => ⟨rfl, rfl, rfl, rfl⟩, hw, hz⟩ : Ext G m w G m w') hx.2.2 hx.1, hx.2⟩⟩
end
end Go.Proofs.YthnkioafikmmaaaDoor.Ev

namespace Go.Proofs.YthnkioafikmmaaaDoor.Ev
open Go
set_option linter.unusedVariables false
set_option linter.unusedSimpArgs false

def vEq : Value → Value → Bool
  | .int k a, .int k' b => decide (k = k') && decide (a = b)
  | .bool a, .bool b => a == b
  | .string a, .string b => decide (a = b)
  | _, _ => false
theorem vEq_eq {u v : Value} (h : vEq u v = true) : v = u ∧ isSc u = true := by
  cases u <;> cases v <;> simp_all [vEq, isSc]
def fK : LV → Value → Bool
  | .sc u, v => vEq u v
  | .nl, .slice none 0 0 => true
  | _, _ => false
def fO : Opd → Operand → Bool
  | .t n, .tmp n' => n == n' && decide (n < 100000)
  | .k l, .const v => fK l v
  | .k (.cl g []), .func g' => g == g'
  | _, _ => false

/-- tables beside all that a call turns: blocks of the world, with their cells -/
abbrev Tab := List (Nat × Array Value)
def Tb (T : Tab) (N : Nat → Prop) (w : World) : Prop := ∀ p ∈ T, (∃ e z, w.heap[p.1]? = some (.cells p.2 e z)) ∧ ¬ N p.1
theorem Tb.nil (N : Nat → Prop) (w : World) : Tb [] N w := fun p hp => by cases hp
theorem Tb.sub {T : Tab} {N N' : Nat → Prop} {w : World} (h : Tb T N w) (hn : ∀ b, N' b → N b) : Tb T N' w := fun p hp => ⟨(h p hp).1, fun q => (h p hp).2 (hn _ q)⟩
structure Ov where
  v : Nat → Value
  tb : Tab
/-- what a slot holds in the model; from a hundred thousand on: values beside the frame -/
def slotV (ov : Ov) (a : Act) (t : Nat) : Value := if t < 100000 then a.tmps.getD t undef else ov.v t
theorem slotV_lt {ov : Ov} {a : Act} {t : Nat} (h : t < 100000) : slotV ov a t = a.tmps.getD t undef := if_pos h
structure SR (ov : Ov) (S N : Nat → Prop) (G : Gh) (st : St) (a : Act) (w : World) : Prop where
  inv : Inv S N G st.m w
  slot : ∀ t, R G S st.m w (st.s t) (slotV ov a t) ∧ wf st.m (st.s t)
  df : a.defers = []
  new : ∀ b, w.heap.size ≤ b → N b
  tb : Tb ov.tb N w

section
variable {P : Program} {ov : Ov} {S N : Nat → Prop} {G : Gh} {st : St} {a : Act} {w : World}

theorem SR.opd (h : SR ov S N G st a w) {x : Opd} {x' : Operand} (hf : fO x x' = true) : R G S st.m w (opd st.s x) (a.eval x') ∧ wf st.m (opd st.s x) := by
  cases x with
  | t n =>
    cases x' <;> simp [fO] at hf
    obtain ⟨rfl, hn⟩ := hf
    have := h.slot n
    rw [slotV_lt hn] at this
    exact this
  | k l =>
    cases x' with
    | const v =>
      simp only [Ev.opd, Act.eval]
      cases l with
      | sc u => exact ⟨vEq_eq (by simpa [fO, fK] using hf), trivial⟩
      | nl =>
        have : v = .slice none 0 0 := by
          simp only [fO, fK] at hf
          split at hf <;> simp_all
        subst this
        exact ⟨rfl, trivial⟩
      | _ => simp [fO, fK] at hf
    | func g' =>
      simp only [Ev.opd, Act.eval]
      cases l with
      | cl g vs =>
        cases vs with
        | nil =>
          have : g = g' := by simpa [fO] using hf
          subst this
          exact ⟨⟨#[], rfl, rfl, fun k x hk => by simp at hk⟩, fun x hx => by simp at hx⟩
        | cons v vs => simp [fO] at hf
      | _ => simp [fO] at hf
    | _ => cases l <;> simp [fO] at hf

/-- what is not one's own is as it was -/
structure FrN (N : Nat → Prop) (w w' : World) : Prop where
  os : w'.os = w.os
  tape : w'.tape = w.tape
  output : w'.output = w.output
  size : w.heap.size ≤ w'.heap.size
  block : ∀ b, b < w.heap.size → ¬ N b → w'.heap[b]? = w.heap[b]?
theorem FrN.refl (N : Nat → Prop) (w : World) : FrN N w w := ⟨rfl, rfl, rfl, Nat.le_refl _, fun _ _ _ => rfl⟩
theorem Tb.fr {T : Tab} {N : Nat → Prop} {w w' : World} (h : Tb T N w) (f : FrN N w w') : Tb T N w' := fun p hp => by
  obtain ⟨⟨t, z, h1⟩, h2⟩ := h p hp
  exact ⟨⟨t, z, by rw [f.block p.1 (Array.getElem?_eq_some_iff.1 h1).1 h2]; exact h1⟩, h2⟩
theorem FrN.trans {N : Nat → Prop} {a b c : World} (h : FrN N a b) (k : FrN N b c) : FrN N a c :=
  ⟨k.os.trans h.os, k.tape.trans h.tape, k.output.trans h.output, Nat.le_trans h.size k.size, fun i hi hn => (k.block i (Nat.lt_of_lt_of_le hi h.size) hn).trans (h.block i hi hn)⟩

/-- what is behind an operation -/
def Next (S N : Nat → Prop) (G : Gh) (st : St) (w : World) (v : LV) (m' : Mem) (v' : Value) (w' : World) : Prop :=
  ∃ G', Ext G st.m w G' m' w' ∧ Inv S N G' m' w' ∧ R G' S m' w' v v' ∧ wf m' v ∧ FrN N w w'

def Does (P : Program) (o : Oper) (a : Act) (w : World) (Φ : Value → World → Prop) : Prop := ∃ v' w', (execOp a.eval o).run P w = .ok (.value v') w' ∧ Φ v' w'

theorem Does.same (h : SR ov S N G st a w) {o : Oper} {v : LV} {v' : Value} (hr : (execOp a.eval o).run P w = .ok (.value v') w) (hv : R G S st.m w v v') (hw : wf st.m v) :
    Does P o a w (Next S N G st w v st.m) := ⟨v', w, hr, G, Ext.refl _ _ _, h.inv, hv, hw, FrN.refl _ _⟩

theorem do_mv (h : SR ov S N G st a w) {x : Opd} {x' : Operand} {o : Oper} (hf : fO x x' = true) (ho : o.op = .move x' ∨ o.op = .assign x') : Does P o a w (Next S N G st w (opd st.s x) st.m) := by
  obtain ⟨h1, h2⟩ := h.opd hf
  refine Does.same h ?_ h1 h2
  rcases ho with ho | ho <;> simp [execOp, ho]

theorem do_pk (h : SR ov S N G st a w) {c x y : Opd} {c' x' y' : Operand} {o : Oper} (hc : fO c c' = true) (hx : fO x x' = true) (hy : fO y y' = true) (ho : o.op = .pick c' x' y') {t : Bool}
    (ht : opd st.s c = .sc (.bool t)) : Does P o a w (Next S N G st w (if t = true then opd st.s x else opd st.s y) st.m) := by
  have h1 := (h.opd hc).1
  rw [ht] at h1
  obtain ⟨e, -⟩ := h1
  obtain ⟨x1, x2⟩ := h.opd hx
  obtain ⟨y1, y2⟩ := h.opd hy
  cases t
  · exact Does.same h (v' := a.eval y') (by simp [execOp, ho, e, asBool]) y1 y2
  · exact Does.same h (v' := a.eval x') (by simp [execOp, ho, e, asBool]) x1 x2

theorem toList_beq (a b : ByteArray) : (a.toList == b.toList) = decide (a = b) := by
  rw [Bool.beq_eq_decide_eq]
  congr 1
  rw [ByteArray.toList_eq, ByteArray.toList_eq]
  obtain ⟨⟨x⟩⟩ := a
  obtain ⟨⟨y⟩⟩ := b
  simp
theorem bytes_total : ∀ a b : List UInt8, (Op.bytesLess a b || (a == b)) = !Op.bytesLess b a := by
  intro a
  induction a with
  | nil => intro b; cases b <;> simp [Op.bytesLess]
  | cons x xs ih =>
    intro b
    cases b with
    | nil => simp [Op.bytesLess]
    | cons y ys =>
      have := ih ys
      simp only [Op.bytesLess]
      rcases Nat.lt_trichotomy x.toNat y.toNat with h | h | h
      · have h1 : x < y := h
        have h2 : ¬ y < x := fun q => by have : y.toNat < x.toNat := q; omega
        have h3 : y ≠ x := fun e => by subst e; omega
        simp [h1, h2, h3]
      · have e : x = y := UInt8.toNat_inj.1 h
        subst e
        simp at this ⊢
        exact this
      · have h1 : y < x := h
        have h2 : ¬ x < y := fun q => by have : x.toNat < y.toNat := q; omega
        have h3 : x ≠ y := fun e => by subst e; omega
        simp [h1, h2, h3]

theorem arV_run {op : BinOp} {u v r : Value} {t : TypeId} (h : arV op u v = some r) (hb : ∀ b, u = .bool b → P.underlying t = some .bool) :
    (binOp op t u v).run P w = .ok r w ∧ isSc r = true := by
  cases u <;> cases v <;> simp only [arV] at h <;> try cases h
  case int.int k x k' y =>
    split at h
    case isFalse => cases h
    case isTrue e =>
      subst e
      cases op <;> simp only [] at h <;> first | (split at h <;> cases h) | cases h
      case shr.isTrue.refl hz => subst hz; cases k <;> exact ⟨rfl, rfl⟩
      all_goals simp_all [binOp, Op.intArith, Op.intCmp, Op.intDiv, isSc, Bool.beq_eq_decide_eq, bne]
  case string.string x y =>
    cases op <;> simp only [] at h <;> first | (split at h <;> cases h) | cases h
    case add.isTrue.refl hz =>
      have hq : ¬ (((x.size + y.size : Nat) : Int) > IntKind.i64.max) := by
        have : IntKind.i64.max = 9223372036854775807 := by decide
        omega
      simp only [binOp, Op.stringOp, if_neg hq, isSc]
      exact ⟨rfl, trivial⟩
    case eql.refl => exact ⟨by simp only [binOp, Op.stringOp, Sem.run_pure, toList_beq], rfl⟩
    case neq.refl => exact ⟨by simp only [binOp, Op.stringOp, Sem.run_pure, toList_beq], rfl⟩
    case lss.refl => exact ⟨rfl, rfl⟩
    case leq.refl => exact ⟨by simp only [binOp, Op.stringOp, Sem.run_pure, bytes_total], rfl⟩
    case gtr.refl => exact ⟨by simp only [binOp, Op.stringOp, Sem.run_pure, bytes_total, Bool.not_not], rfl⟩
    case geq.refl => exact ⟨rfl, rfl⟩
  case bool.bool x y =>
    have hu := hb x rfl
    cases op <;> simp only [] at h <;> cases h
    all_goals
      have q := run_equalIn_bool (P := P) w 9999 t x y hu
      simp [binOp, Op.equal, Op.maxDepth, q, isSc, Bool.beq_eq_decide_eq]

theorem eqGuard_sc (op : BinOp) (t : TypeId) (x y : Operand) {u v : Value} (hu : isSc u = true) : (eqGuard op t x y u v).run P w = .ok () w := by
  cases u <;> simp [isSc] at hu <;> cases op <;> simp [eqGuard]

theorem do_ar (h : SR ov S N G st a w) {op : BinOp} {x y : Opd} {x' y' : Operand} {t t2 : TypeId} {o : Oper} (hx : fO x x' = true) (hy : fO y y' = true) (ho : o.op = .binOp op t x' y' t2)
    (hb : ∀ b, opd st.s x = .sc (.bool b) → P.underlying t = some .bool) {v : LV} (hv : arL op (opd st.s x) (opd st.s y) = some v) : Does P o a w (Next S N G st w v st.m) := by
  have h1 := (h.opd hx).1
  have h2 := (h.opd hy).1
  generalize opd st.s x = X at *
  generalize opd st.s y = Y at *
  cases X <;> cases Y <;> simp only [arL] at hv <;> try cases hv
  case sc.sc u1 u2 =>
    obtain ⟨e1, s1⟩ := h1
    obtain ⟨e2, s2⟩ := h2
    cases hr : arV op u1 u2 with
    | none => rw [hr] at hv; cases hv
    | some r =>
      rw [hr] at hv
      cases hv
      obtain ⟨k1, k2⟩ := arV_run (P := P) (w := w) (t := t) hr (fun b hb' => hb b (by rw [hb']))
      refine Does.same h (v' := r) ?_ ⟨rfl, k2⟩ trivial
      simp [execOp, ho, e1, e2, eqGuard_sc op t x' y' s1, k1]

theorem do_ng (h : SR ov S N G st a w) {x : Opd} {x' : Operand} {t : TypeId} {o : Oper} (hx : fO x x' = true) (ho : o.op = .unOp .neg t x') {k : IntKind} {n : Int}
    (hv : opd st.s x = .sc (.int k n)) : Does P o a w (Next S N G st w (.sc (.int k (k.wrap (0 - n)))) st.m) := by
  have h1 := (h.opd hx).1
  rw [hv] at h1
  obtain ⟨e1, s1⟩ := h1
  exact Does.same h (v' := .int k (k.wrap (0 - n))) (by simp [execOp, ho, e1, Op.unary, Op.intArith]) ⟨rfl, rfl⟩ trivial

theorem do_nt (h : SR ov S N G st a w) {x : Opd} {x' : Operand} {t : TypeId} {o : Oper} (hx : fO x x' = true) (ho : o.op = .unOp .not t x') {b : Bool}
    (hv : opd st.s x = .sc (.bool b)) : Does P o a w (Next S N G st w (.sc (.bool (!b))) st.m) := by
  have h1 := (h.opd hx).1
  rw [hv] at h1
  obtain ⟨e1, s1⟩ := h1
  exact Does.same h (v' := .bool (!b)) (by simp [execOp, ho, e1, Op.unary]) ⟨rfl, rfl⟩ trivial

theorem do_cv (h : SR ov S N G st a w) {x : Opd} {x' : Operand} {t u : TypeId} {o : Oper} {k k' : IntKind} {n : Int} (hx : fO x x' = true) (ho : o.op = .convert t u x')
    (ht : ∃ d, P.underlying t = some d) (hu : P.underlying u = some (.int k)) (hv : opd st.s x = .sc (.int k' n)) : Does P o a w (Next S N G st w (.sc (.int k (k.wrap n))) st.m) := by
  have h1 := (h.opd hx).1
  rw [hv] at h1
  obtain ⟨e1, s1⟩ := h1
  obtain ⟨d, hd⟩ := ht
  refine Does.same h (v' := .int k (k.wrap n)) ?_ ⟨rfl, rfl⟩ trivial
  cases d <;> simp [execOp, ho, e1, convert, run_underlying hd, run_underlying hu, Conv.intToInt]

theorem do_xt (h : SR ov S N G st a w) {x : Opd} {x' : Operand} {k : Nat} {o : Oper} (hx : fO x x' = true) (ho : o.op = .extract x' k) {vs : List LV} {v : LV}
    (hv : opd st.s x = .tu vs) (hk : vs[k]? = some v) : Does P o a w (Next S N G st w v st.m) := by
  obtain ⟨h1, h2⟩ := h.opd hx
  rw [hv] at h1 h2
  obtain ⟨cs, e1, q1, q2⟩ := h1
  obtain ⟨u, hu, hr⟩ := q2 k v hk
  have hw := h2 v (List.mem_of_getElem? hk)
  have hnt : ∀ z, v ≠ .tu z := fun z hz => by subst hz; exact hr
  refine Does.same h (v' := u) (by simp [execOp, ho, e1, Instr.extract, hu]) ?_ ?_
  · cases v <;> first | exact hr | exact absurd rfl (hnt _)
  · cases v <;> first | exact hw | exact absurd rfl (hnt _)

theorem do_mx (h : SR ov S N G st a w) {x y : Opd} {x' y' : Operand} {o : Oper} {ts : Array TypeId} (hx : fO x x' = true) (hy : fO y y' = true) (ho : o.op = .call ⟨.builtin .max, #[x', y'], ts⟩) {k : IntKind} {p q : Int}
    (h1 : opd st.s x = .sc (.int k p)) (h2 : opd st.s y = .sc (.int k q)) : Does P o a w (Next S N G st w (.sc (.int k (if p < q then q else p))) st.m) := by
  have r1 := (h.opd hx).1
  have r2 := (h.opd hy).1
  rw [h1] at r1
  rw [h2] at r2
  refine Does.same h (v' := .int k (if p < q then q else p)) ?_ ⟨rfl, rfl⟩ trivial
  simp [execOp, ho, resolve, invoke, builtin, Builtin.max_, Builtin.max2, r1.1, r2.1]

theorem do_mn (h : SR ov S N G st a w) {x y : Opd} {x' y' : Operand} {o : Oper} {ts : Array TypeId} (hx : fO x x' = true) (hy : fO y y' = true) (ho : o.op = .call ⟨.builtin .min, #[x', y'], ts⟩) {k : IntKind} {p q : Int}
    (h1 : opd st.s x = .sc (.int k p)) (h2 : opd st.s y = .sc (.int k q)) : Does P o a w (Next S N G st w (.sc (.int k (if q < p then q else p))) st.m) := by
  have r1 := (h.opd hx).1
  have r2 := (h.opd hy).1
  rw [h1] at r1
  rw [h2] at r2
  refine Does.same h (v' := .int k (if q < p then q else p)) ?_ ⟨rfl, rfl⟩ trivial
  simp [execOp, ho, resolve, invoke, builtin, Builtin.min_, Builtin.min2, r1.1, r2.1]

theorem do_ln (h : SR ov S N G st a w) {x : Opd} {x' : Operand} {o : Oper} {t : TypeId} (hx : fO x x' = true) (ho : o.op = .call ⟨.builtin .len, #[x'], #[t]⟩)
    {n : Nat}
    (hn : (∃ b, opd st.s x = .sc (.string b) ∧ n = b.size ∧ P.underlying t = some .string) ∨ ((∃ e, P.underlying t = some (.slice e)) ∧
      ((opd st.s x = .nl ∧ n = 0) ∨ (∃ k rows, opd st.s x = .ro k rows ∧ n = rows.length) ∨ ∃ i ch lo, opd st.s x = .rf i ch lo n ∧ look st.m i ch ≠ none))) :
    Does P o a w (Next S N G st w (.sc (.int .i64 n)) st.m) := by
  have r1 := (h.opd hx).1
  refine Does.same h (v' := .int .i64 n) ?_ ⟨rfl, rfl⟩ trivial
  rcases hn with ⟨b, e, rfl, hs⟩ | ⟨⟨e', hs⟩, ⟨e, rfl⟩ | ⟨k, rows, e, rfl⟩ | ⟨i, ch, lo, e, hl⟩⟩
  · rw [e] at r1
    simp [execOp, ho, resolve, invoke, builtin, Builtin.len_, r1.1, run_underlying hs, goInt]
  · rw [e] at r1
    have r2 : a.eval x' = .slice none 0 0 := r1
    simp [execOp, ho, resolve, invoke, builtin, Builtin.len_, r2, run_underlying hs, goInt]
  · rw [e] at r1
    obtain ⟨A, c, r2, -⟩ := r1
    simp [execOp, ho, resolve, invoke, builtin, Builtin.len_, r2, run_underlying hs, goInt]
  · rw [e] at r1
    simp only [R, R1, R0] at r1
    cases hk : look st.m i ch with
    | none => exact absurd hk hl
    | some q =>
      obtain ⟨q1, q2, q3⟩ := q
      rw [hk] at r1
      obtain ⟨A, c, r2, -⟩ := r1
      simp [execOp, ho, resolve, invoke, builtin, Builtin.len_, r2, run_underlying hs, goInt]
end
end Go.Proofs.YthnkioafikmmaaaDoor.Ev
