/- How the simpler machine's state stands for a world of the model. -/
import Derived.Test.YtjdcohcdgdjobaaEvA
namespace Go.Proofs.Ytjdcohcdgdjobaa.Ev
open Go
set_option linter.unusedVariables false
set_option linter.unusedSimpArgs false

/-- where the pieces of own memory lie -/
structure Gh where
  blk : Id → Nat
  cap : Id → Nat
  cblk : Id → Nat → Nat → Nat
  ccap : Id → Nat → Nat → Nat

/-- a slice that reads as rows of things -/
def RdG {α : Type} (R : α → Value → Prop) (S : Nat → Prop) (w : World) (st : Nat) (rows : List (List α)) (v : Value) : Prop :=
  ∃ A c, v = .slice A rows.length c ∧ rows.length ≤ c ∧ ∀ (r : Nat) (row : List α), rows[r]? = some row → row.length = st ∧ ∃ a : Addr, A = some a ∧ (S a.block ∧ a.spot = none) ∧
    ∀ (k : Nat) (x : α), row[k]? = some x → ∃ u, w.cell? (a.add (r * st + k)) = some u ∧ R x u
def ScR (u v : Value) : Prop := v = u ∧ isSc u = true
def RdC (S : Nat → Prop) (w : World) : Cell → Value → Prop
  | .un, _ => True
  | .sc u, v => ScR u v
  | .nl, v => v = .slice none 0 0
  | .sl _ _ st rows, v => RdG ScR S w st rows v
/-- own memory: a block of rows -/
def OwG {α : Type} (R : Nat → Nat → α → Value → Prop) (w : World) (b e cap st : Nat) (rows : List (List α)) : Prop :=
  ∃ cs : Array Value, w.heap[b]? = some (.cells cs e (0, 0)) ∧ cs.size = cap * st ∧ rows.length ≤ cap ∧ cap ≤ maxLen ∧
    ∀ (r : Nat) (row : List α), rows[r]? = some row → row.length = st ∧ ∀ (k : Nat) (x : α), row[k]? = some x → ∃ u, cs[r * st + k]? = some u ∧ R r k x u
def OwC (G : Gh) (S : Nat → Prop) (w : World) (i : Id) (r c : Nat) : Cell → Value → Prop
  | .un, _ => True
  | .sc u, v => ScR u v
  | .nl, v => v = .slice none 0 0
  | .sl false _ st rows, v => RdG ScR S w st rows v
  | .sl true e st rows, v => v = .slice (some ⟨G.cblk i r c, 0, none⟩) rows.length (G.ccap i r c) ∧ OwG (fun _ _ => ScR) w (G.cblk i r c) e (G.ccap i r c) st rows

def Gh.blkOf (G : Gh) (i : Id) : Option (Nat × Nat) → Nat
  | none => G.blk i | some (r, c) => G.cblk i r c
def Gh.capOf (G : Gh) (i : Id) : Option (Nat × Nat) → Nat
  | none => G.cap i | some (r, c) => G.ccap i r c

/-- a cell of what a pointer leads to that is read alone -/
def RpC (S : Nat → Prop) (w : World) : LV → Value → Prop
  | .un, _ => True
  | .sc u, v => ScR u v
  | .nl, v => v = .slice none 0 0
  | .ro st rows, v => RdG (RdC S w) S w st rows v
  | _, _ => False

/-- a value that is one cell -/
def oneV (v : Value) : Prop := v.oneCell' = true
theorem oneV.cells {v : Value} (h : oneV v) : v.cells = #[v] := by cases v <;> first | rfl | cases h
/-- one cell's worth -/
def R0 (G : Gh) (S : Nat → Prop) (m : Mem) (w : World) : LV → Value → Prop
  | .sc u, v => ScR u v
  | .nl, v => v = .slice none 0 0
  | .ro st rows, v => RdG (RdC S w) S w st rows v
  | .rf i ch lo n, v =>
    match look m i ch with
    | some (_, st, _) => ∃ A c, v = .slice A n c ∧ n ≤ c ∧ lo + c = G.capOf i ch ∧ (0 < c ∨ lo = 0 → A = some ⟨G.blkOf i ch, lo * st, none⟩)
    | none => oneV v
  | .bp i off, v => match m i with | some (.box _) => v = .pointer (some ⟨G.blk i, off, none⟩) | _ => oneV v
  | .ep i ch r c, v => match look m i ch with | some (_, st, _) => v = .pointer (some ⟨G.blkOf i ch, r * st + c, none⟩) | none => oneV v
  | .rp vs, v => ∃ a : Addr, v = .pointer (some a) ∧ ∀ (k : Nat) (x : LV), vs[k]? = some x → S a.block ∧ ∃ u, w.cell? (a.add k) = some u ∧ RpC S w x u
  | .un, _ => True
  | _, _ => False
def One (v : Value) : Prop := v.oneCell' = true
/-- several cells -/
def RL (R : LV → Value → Prop) (vs : List LV) (cs : Array Value) : Prop := cs.size = vs.length ∧ ∀ (k : Nat) (x : LV), vs[k]? = some x → ∃ u, cs[k]? = some u ∧ R x u
def R1 (G : Gh) (S : Nat → Prop) (m : Mem) (w : World) : LV → Value → Prop
  | .ag vs, v => ∃ cs, v = .agg cs ∧ RL (R0 G S m w) vs cs
  | .cl f vs, v => ∃ cs, v = .func (.func f) #[] cs ∧ RL (R0 G S m w) vs cs
  | x, v => R0 G S m w x v
def R (G : Gh) (S : Nat → Prop) (m : Mem) (w : World) : LV → Value → Prop
  | .tu vs, v => ∃ cs, v = .tuple cs ∧ RL (R1 G S m w) vs cs
  | x, v => R1 G S m w x v

/-- the pieces of own memory -/
inductive Res where
  | root (i : Id) | chld (i : Id) (r c : Nat)
  deriving DecidableEq
def live (m : Mem) : Res → Prop
  | .root i => (∃ cells, m i = some (.box cells)) ∨ ∃ e st rows, m i = some (.arr e st rows)
  | .chld i r c => ∃ e st rows row e' st' rows', m i = some (.arr e st rows) ∧ rows[r]? = some row ∧ row[c]? = some (.sl true e' st' rows')
def Gh.at (G : Gh) : Res → Nat
  | .root i => G.blk i | .chld i r c => G.cblk i r c

/-- no value leads to a name that isn't given yet -/
def wf0 (m : Mem) : LV → Prop
  | .rf i _ _ _ | .bp i _ | .ep i _ _ _ => m i ≠ none
  | _ => True
def wf1 (m : Mem) : LV → Prop
  | .ag vs | .cl _ vs => ∀ x ∈ vs, wf0 m x
  | x => wf0 m x
def wf (m : Mem) : LV → Prop
  | .tu vs => ∀ x ∈ vs, wf1 m x
  | x => wf1 m x

structure Inv (S : Nat → Prop) (N : Nat → Prop) (G : Gh) (m : Mem) (w : World) : Prop where
  arr : ∀ i e st rows, m i = some (.arr e st rows) → OwG (OwC G S w i) w (G.blk i) e (G.cap i) st rows
  box : ∀ i cells, m i = some (.box cells) → ∃ cs e, w.heap[G.blk i]? = some (.cells cs e (0, 0)) ∧ RL (fun x u => R0 G S m w x u ∧ plainB x = true ∧ wf0 m x) cells cs
  inj : ∀ p q, live m p → live m q → G.at p = G.at q → p = q
  sep : ∀ p, live m p → ¬ S (G.at p) ∧ N (G.at p)
  old : ∀ b, S b → b < w.heap.size

end Go.Proofs.Ytjdcohcdgdjobaa.Ev
