/- A second, simpler machine for the program's own code: values that are read alone are trees, memory of the call's own is kept by name. This text holds its words; its laws are in the texts behind it. -/
import Derived.Below
import Derived.Orders
import Derived.Laws.BytesArg
namespace Go.Proofs.YthnkioafikmmaaaDoor.Ev
open Go
set_option linter.unusedVariables false
set_option linter.unusedSimpArgs false

/-- the name of a piece of memory: by the operation that made it, a call's result, a parameter, a slot, a cell of a slot's variable -/
inductive Id where
  | op (d : Nat) | rs (d k : Nat) | pr (j k : Nat) | sl (t : Nat) | ce (t k : Nat) | ex (d : Nat)
  deriving DecidableEq

/-- a cell of a slice's row -/
inductive Cell where
  | un | sc (v : Value) | nl | sl (o : Bool) (e st : Nat) (rows : List (List Value))

/-- what a slot holds -/
inductive LV where
  | un | sc (v : Value) | nl
  | ro (st : Nat) (rows : List (List Cell))
  | rf (i : Id) (ch : Option (Nat × Nat)) (lo n : Nat)
  | bp (i : Id) (off : Nat)
  | ep (i : Id) (ch : Option (Nat × Nat)) (r c : Nat)
  | rp (vs : List LV)
  | ow (e st : Nat) (rows : List (List Cell))
  | ag (vs : List LV) | tu (vs : List LV) | cl (f : Nat) (vs : List LV)

inductive Thing where
  | box (cells : List LV) | arr (e st : Nat) (rows : List (List Cell)) | dead

abbrev Mem := Id → Option Thing
structure St where
  s : Nat → LV
  m : Mem

def isSc : Value → Bool
  | .int _ _ => true | .bool _ => true | .string _ => true | _ => false

def updS (s : Nat → LV) (d : Nat) (v : LV) : Nat → LV := fun t => if t = d then v else s t
def updM (m : Mem) (i : Id) (x : Option Thing) : Mem := fun j => if j = i then x else m j

def lift (rows : List (List Value)) : List (List Cell) := rows.map (·.map Cell.sc)
def lowC : Cell → Option Value | .sc v => some v | _ => none
def low (rows : List (List Cell)) : Option (List (List Value)) := rows.mapM (·.mapM lowC)

/-- the rows of a slice of own memory -/
def look (m : Mem) (i : Id) (ch : Option (Nat × Nat)) : Option (Nat × Nat × List (List Cell)) :=
  match m i with
  | some (.arr e st rows) =>
    match ch with
    | none => some (e, st, rows)
    | some (r, c) =>
      match (rows[r]?).bind (·[c]?) with
      | some (.sl true e' st' rows') => some (e', st', lift rows')
      | _ => none
  | _ => none

/-- a cell that is read alone, as a value -/
def roC : Cell → LV
  | .un => .un | .sc v => .sc v | .nl => .nl | .sl _ _ st rows => .ro st (lift rows)
/-- a cell of own memory, as a value -/
def ownC (i : Id) (ch : Option (Nat × Nat)) (r c : Nat) : Cell → LV
  | .un => .un | .sc v => .sc v | .nl => .nl
  | .sl false _ st rows => .ro st (lift rows)
  | .sl true _ _ rows => match ch with | none => .rf i (some (r, c)) 0 rows.length | some _ => .un
def ownRow (i : Id) (ch : Option (Nat × Nat)) (r : Nat) : Nat → List Cell → List LV
  | _, [] => []
  | c, x :: xs => ownC i ch r c x :: ownRow i ch r (c + 1) xs

/-- what is seen of own memory by who reads alone -/
def shutC : Cell → Cell
  | .sl _ e st rows => .sl false e st rows | x => x
def shut (rows : List (List Cell)) : List (List Cell) := rows.map (·.map shutC)

/-- some cells as one value -/
def pack (agg : Bool) (vs : List LV) : Option LV :=
  match agg with
  | true => some (.ag vs)
  | false => match vs with | [v] => some v | _ => none
/-- one value as cells -/
def unpack : LV → Option (List LV)
  | .ag vs => some vs
  | .sc v => some [.sc v] | .nl => some [.nl] | .ro n r => some [.ro n r] | .rf i ch lo n => some [.rf i ch lo n]
  | .bp i o => some [.bp i o] | .ep i ch r c => some [.ep i ch r c] | .rp vs => some [.rp vs]
  | _ => none
/-- a value that a variable in memory may hold -/
def plainB : LV → Bool
  | .sc _ | .nl | .ro _ _ | .rf .. | .bp .. | .ep .. | .rp _ => true
  | _ => false

def loadAt (m : Mem) (n : Nat) (agg : Bool) : LV → Option LV
  | .bp i off =>
    match m i with
    | some (.box cells) => if off + n ≤ cells.length then pack agg ((cells.drop off).take n) else none
    | _ => none
  | .ep i ch r c =>
    match look m i ch with
    | some (_, _, rows) =>
      match rows[r]? with
      | some row => if c + n ≤ row.length then pack agg (((ownRow i ch r 0 row).drop c).take n) else none
      | none => none
    | none => none
  | .rp vs => if n ≤ vs.length then pack agg (vs.take n) else none
  | _ => none

/-- what a call that reads alone gets of a value -/
def snap0 (m : Mem) : LV → Option LV
  | .sc v => some (.sc v) | .nl => some .nl | .ro st r => some (.ro st r)
  | .rf i ch lo n =>
    match look m i ch with
    | some (_, st, rows) => if lo + n ≤ rows.length then some (.ro st (shut ((rows.drop lo).take n))) else none
    | none => none
  | _ => none
def snap1 (m : Mem) : LV → Option LV
  | .bp i off =>
    match m i with
    | some (.box cells) => if off ≤ cells.length then ((cells.drop off).mapM (snap0 m)).map .rp else none
    | _ => none
  | .ep i ch r c =>
    match look m i ch with
    | some (_, _, rows) =>
      match rows[r]? with
      | some row => if c ≤ row.length then some (.rp ((row.drop c).map fun x => roC x)) else none
      | none => none
    | none => none
  | .rp vs => some (.rp vs)
  | v => snap0 m v
def snap (m : Mem) : LV → Option LV
  | .ag vs => (vs.mapM (snap0 m)).map .ag
  | .cl f vs => (vs.mapM (snap1 m)).map (.cl f)
  | v => snap1 m v

/-- does a value lead to own memory? -/
def ownB0 : LV → Bool
  | .rf .. | .bp .. | .ep .. => true | _ => false
def ownB : LV → Bool
  | .ag vs | .cl _ vs => vs.any ownB0
  | v => ownB0 v
/-! a value's parts, each with a number -/
def travL (f : Nat → LV → LV) : Nat → List LV → List LV
  | _, [] => []
  | k, x :: xs => f k x :: travL f (k + 1) xs
def trav1 (f : Nat → LV → LV) (k : Nat) : LV → LV
  | .ag vs => .ag (travL f k vs)
  | v => f k v
def travT (f : Nat → LV → LV) : Nat → List LV → List LV
  | _, [] => []
  | k, x :: xs => trav1 f k x :: travT f (k + 100) xs
def trav (f : Nat → LV → LV) : LV → LV
  | .tu vs => .tu (travT f 0 vs)
  | v => trav1 f 0 v
def partsL : Nat → List LV → List (Nat × LV)
  | _, [] => []
  | k, x :: xs => (k, x) :: partsL (k + 1) xs
def parts1 (k : Nat) : LV → List (Nat × LV)
  | .ag vs => partsL k vs
  | v => [(k, v)]
def partsT : Nat → List LV → List (Nat × LV)
  | _, [] => []
  | k, x :: xs => parts1 k x ++ partsT (k + 100) xs
def parts : LV → List (Nat × LV)
  | .tu vs => partsT 0 vs
  | v => parts1 0 v
/-- no struct has more than a hundred cells -/
def small1 : LV → Bool
  | .ag vs => decide (vs.length ≤ 100) | .tu _ => false | _ => true
def small : LV → Bool
  | .tu vs => vs.all small1 | v => small1 v

/-- does a result lead to what is read alone? -/
def roCell : Cell → Bool
  | .sl false _ _ _ => true | _ => false
def roB0 : LV → Bool
  | .ro _ _ | .rp _ | .un | .cl _ _ => true
  | .ow _ _ rows => rows.any (·.any roCell)
  | _ => false
def roB (r : LV) : Bool := (parts r).any fun p => roB0 p.2

/-- a result's slices get names -/
def opn (mk : Nat → Id) (k : Nat) : LV → LV
  | .ow _ _ rows => .rf (mk k) none 0 rows.length
  | v => v
def thing (mk : Nat → Id) : Nat × LV → Option (Id × Thing)
  | (k, .ow e st rows) => some (mk k, .arr e st rows)
  | _ => none
def openV (mk : Nat → Id) (r : LV) : LV × List (Id × Thing) := (trav (opn mk) r, (parts r).filterMap (thing mk))

/-- what a call hands back -/
def close0 (m : Mem) : LV → Option LV
  | .sc v => some (.sc v) | .nl => some .nl | .ro st rows => some (.ro st rows)
  | .rf i ch lo n =>
    match look m i ch with
    | some (e, st, rows) => if lo = 0 ∧ n = rows.length then some (.ow e st rows) else none
    | none => none
  | _ => none
def rootOf : Nat × LV → Option Id
  | (_, .rf i _ _ _) => some i
  | _ => none
def noDup : List Id → Bool
  | [] => true
  | i :: l => l.all (fun j => decide (j ≠ i)) && noDup l
def closeV (m : Mem) (r : LV) : Option LV :=
  if small r = true ∧ (parts r).all (fun x => (close0 m x.2).isSome) = true ∧ noDup ((parts r).filterMap rootOf) = true then some (trav (fun _ x => (close0 m x).getD .un) r) else none

def adds (m : Mem) : List (Id × Thing) → Option Mem
  | [] => some m
  | (i, x) :: l => match m i with | none => adds (updM m i (some x)) l | some _ => none

/-! ### operations -/

inductive Opd where
  | t (n : Nat) | k (v : LV)

def opd (s : Nat → LV) : Opd → LV
  | .t n => s n | .k v => v

inductive IOp where
  | mv (x : Opd)
  | pk (c a b : Opd)
  | bx (x : Opd)
  | al (z : List LV)
  | bd (z : List LV) (ps : List (Nat × Nat × Opd))
  | bs (e st : Nat) (z : List Cell) (len : Nat) (ps : List (Nat × Opd))
  | bw (e st : Nat) (z : List Cell) (len : Nat) (ps : List (Nat × Opd))
  | ld (n : Nat) (agg : Bool) (x : Opd)
  | nc (x : Opd)
  | fa (off : Nat) (x : Opd)
  | fd (off n : Nat) (agg : Bool) (x : Opd)
  | ia (st : Nat) (x i : Opd)
  | ix (x i : Opd)
  | ar (op : BinOp) (b : Bool) (x y : Opd)
  | eq (neg : Bool) (ks : List Nat) (x y : Opd)
  | ng (x : Opd)
  | nt (x : Opd)
  | cv (k : IntKind) (x : Opd)
  | by (x : Opd)
  | xt (x : Opd) (k : Nat)
  | ln (str : Bool) (x : Opd)
  | mx (x y : Opd)
  | mn (x y : Opd)
  | mf (f : Nat) (xs : List Opd)
  | sl (st : Nat) (x : Opd) (lo hi : Option Opd)
  | s3 (x : Opd) (lo : Option Opd) (hi mx : Opd)
  | isn (neg : Bool) (x : Opd)
  | ms (e st : Nat) (z : List Cell) (n : Opd)
  | mz (e st : Nat) (n : Opd)
  | ca (f : Opd) (xs : List Opd)
  | so (n : Nat) (x v : Opd)
  | ap (e st : Nat) (str : Bool) (x y : Opd)
  | cw (f : Nat) (md : List Bool) (xs : List Opd)

structure OpI where
  d : Nat
  op : IOp
  g : Option (Nat × Bool)
  w : Bool

/-- the judge's word for the number of bytes that no slice reaches -/
def big : Nat := 1000000000

def scO : Option Value → Option LV
  | some v => some (.sc v) | none => none

def arV (op : BinOp) : Value → Value → Option Value
  | .int k a, .int k' b =>
    if k = k' then
      match op with
      | .add => some (.int k (k.wrap (a + b)))
      | .sub => some (.int k (k.wrap (a - b)))
      | .mul => some (.int k (k.wrap (a * b)))
      | .quo => if b = 0 then none else some (.int k (k.wrap (a.tdiv b)))
      | .rem => if b = 0 then none else some (.int k (a.tmod b))
      | .eql => some (.bool (decide (a = b)))
      | .neq => some (.bool (!decide (a = b)))
      | .lss => some (.bool (decide (a < b)))
      | .leq => some (.bool (decide (a ≤ b)))
      | .gtr => some (.bool (decide (b < a)))
      | .geq => some (.bool (decide (b ≤ a)))
      | .shr => if b = 1 then some (.int k (a.fdiv 2)) else none
      | _ => none
    else none
  | .string a, .string b =>
    match op with
    | .add => if a.size + b.size ≤ 9000000000000000000 then some (.string (a ++ b)) else none
    | .eql => some (.bool (decide (a = b)))
    | .neq => some (.bool (!decide (a = b)))
    | .lss => some (.bool (Op.bytesLess a.toList b.toList))
    | .leq => some (.bool (!Op.bytesLess b.toList a.toList))
    | .gtr => some (.bool (Op.bytesLess b.toList a.toList))
    | .geq => some (.bool (!Op.bytesLess a.toList b.toList))
    | _ => none
  | .bool a, .bool b =>
    match op with
    | .eql => some (.bool (decide (a = b)))
    | .neq => some (.bool (!decide (a = b)))
    | _ => none
  | _, _ => none
def arL (op : BinOp) : LV → LV → Option LV
  | .sc a, .sc b => scO (arV op a b)
  | _, _ => none

def eqV : LV → LV → Option Bool
  | .sc (.int k a), .sc (.int k' b) => if k = k' then some (decide (a = b)) else none
  | .sc (.string a), .sc (.string b) => some (decide (a = b))
  | .sc (.bool a), .sc (.bool b) => some (decide (a = b))
  | _, _ => none
def eqL : List LV → List LV → Option Bool
  | [], [] => some true
  | x :: xs, y :: ys =>
    match eqV x y, eqL xs ys with
    | some a, some b => some (a && b)
    | _, _ => none
  | _, _ => none

def isBool : LV → Bool
  | .sc (.bool _) => true | _ => false
/-- 0 a bool, 1 a number, 2 a string -/
def kindsOk : List Nat → List LV → Bool
  | [], [] => true
  | 0 :: ks, .sc (.bool _) :: xs => kindsOk ks xs
  | 1 :: ks, .sc (.int _ _) :: xs => kindsOk ks xs
  | 2 :: ks, .sc (.string _) :: xs => kindsOk ks xs
  | _, _ => false

def putL (cells : List LV) (off : Nat) (vs : List LV) : Option (List LV) :=
  if off + vs.length ≤ cells.length then some (cells.take off ++ vs ++ cells.drop (off + vs.length)) else none

def fillL (s : Nat → LV) : List LV → List (Nat × Nat × Opd) → Option (List LV)
  | cells, [] => some cells
  | cells, (off, n, x) :: l =>
    match unpack (opd s x) with
    | some vs => if vs.length = n then (match putL cells off vs with | some c => fillL s c l | none => none) else none
    | none => none

/-- a value as a cell of a row, if it leads to nothing of the call's own -/
def toCell : LV → Option Cell
  | .sc v => some (.sc v) | .nl => some .nl
  | .ro st rows => (match low rows with | some r => some (.sl false 0 st r) | none => none)
  | _ => none
/-- a value as a cell of a row; its memory goes with it -/
def toCellW (m : Mem) : LV → Option (Cell × Mem)
  | .rf i none lo n =>
    match m i with
    | some (.arr e st rows) =>
      if lo = 0 ∧ n = rows.length then
          (match low rows with | some r => some (.sl true e st r, updM m i (some .dead)) | none => none)
      else none
    | _ => none
  | v => match toCell v with | some c => some (c, m) | none => none
def toCellsW : Mem → List LV → Option (List Cell × Mem)
  | m, [] => some ([], m)
  | m, x :: xs =>
    match toCellW m x with
    | some (c, m1) => (match toCellsW m1 xs with | some (cs, m2) => some (c :: cs, m2) | none => none)
    | none => none

def setRow (rows : List (List Cell)) (i : Nat) (row : List Cell) : List (List Cell) := rows.set i row

def fillR (s : Nat → LV) (st : Nat) : List (List Cell) → List (Nat × Opd) → Option (List (List Cell))
  | rows, [] => some rows
  | rows, (i, x) :: l =>
    match unpack (opd s x) with
    | some vs =>
      match vs.mapM toCell with
      | some row => if row.length = st ∧ i < rows.length then fillR s st (rows.set i row) l else none
      | none => none
    | none => none
def fillW (s : Nat → LV) (st : Nat) : Mem → List (List Cell) → List (Nat × Opd) → Option (List (List Cell) × Mem)
  | m, rows, [] => some (rows, m)
  | m, rows, (i, x) :: l =>
    match unpack (opd s x) with
    | some vs =>
      match toCellsW m vs with
      | some (row, m1) => if row.length = st ∧ i < rows.length then fillW s st m1 (rows.set i row) l else none
      | none => none
    | none => none

def natOf : LV → Option Nat
  | .sc (.int .i64 n) => if 0 ≤ n then some n.toNat else none
  | _ => none
def natOr (s : Nat → LV) (dft : Nat) : Option Opd → Option Nat
  | none => some dft
  | some x => natOf (opd s x)

def sliceV (m : Mem) (s : Nat → LV) (n0 : Nat) (x : LV) (lo hi : Option Opd) : Option LV :=
  match x with
  | .sc (.string b) =>
    (match natOr s 0 lo, natOr s b.size hi with
    | some l, some h => if n0 = 0 ∧ l ≤ h ∧ h ≤ b.size then some (.sc (.string (b.extract l h))) else none
    | _, _ => none)
  | .ro st rows =>
    (match natOr s 0 lo, natOr s rows.length hi with
    | some l, some h => if st = n0 ∧ 0 < n0 ∧ l ≤ h ∧ h ≤ rows.length then some (.ro st ((rows.take h).drop l)) else none
    | _, _ => none)
  | .rf i ch a n =>
    (match look m i ch with
    | some (_, st, _) =>
      (match natOr s 0 lo, natOr s n hi with
      | some l, some h => if st = n0 ∧ 0 < n0 ∧ l ≤ h ∧ h ≤ n then some (.rf i ch (a + l) (h - l)) else none
      | _, _ => none)
    | none => none)
  | _ => none

/-- a slice's length -/
def lenV (m : Mem) : LV → Option Nat
  | .nl => some 0
  | .ro _ rows => some rows.length
  | .rf i ch _ n => (match look m i ch with | some _ => some n | none => none)
  | _ => none
/-- a cut with a bound on what may be reached: it is looked at, what comes of it is not known -/
def s3V (m : Mem) (s : Nat → LV) (x : LV) (lo : Option Opd) (hi mx : LV) : Option LV :=
  match lenV m x, natOr s 0 lo, natOf hi, natOf mx with
  | some n, some l, some h, some k => if l ≤ h ∧ h ≤ k ∧ k ≤ n then some .un else none
  | _, _, _, _ => none

/-- is a slice nil? -/
def nilV (m : Mem) : LV → Option Bool
  | .nl => some true
  | .ro _ _ => some false
  | .rf i ch _ _ => (match look m i ch with | some _ => some false | none => none)
  | _ => none
def isnV (m : Mem) (neg : Bool) (x : LV) : Option LV := match nilV m x with | some b => some (.sc (.bool (if neg = true then !b else b))) | none => none

def numsOf : List (List Cell) → Option (List Int)
  | [] => some []
  | [.sc (.int .u8 n)] :: l => match numsOf l with | some r => some (n :: r) | none => none
  | _ => none

abbrev CallF := Nat → List LV → Option (LV × List LV)

def callR (call : CallF) (m : Mem) (d : Nat) (f : Nat) (xs : List LV) : Option (LV × List (Id × Thing)) :=
  match xs.mapM (snap m) with
  | some ys =>
    match call f ys with
    | some (r, []) => if roB r && xs.any ownB then none else some (openV (.rs d) r)
    | _ => none
  | none => none

def noAdd : Option LV → Option (LV × List (Id × Thing))
  | some v => some (v, []) | none => none

/-- an operation that turns nothing that is there -/
def evR (call : CallF) (d : Nat) (st : St) : IOp → Option (LV × List (Id × Thing))
  | .mv x => some (opd st.s x, [])
  | .pk c a b => match opd st.s c with | .sc (.bool t) => some (if t = true then opd st.s a else opd st.s b, []) | _ => none
  | .bx x =>
    match unpack (opd st.s x) with
    | some vs => if vs.all plainB then some (.bp (.op d) 0, [(.op d, .box vs)]) else none
    | none => none
  | .al z => some (.bp (.op d) 0, [(.op d, .box z)])
  | .bd z ps => match fillL st.s z ps with | some vs => some (.ag vs, []) | none => none
  | .bs e n z len ps =>
    match fillR st.s n (List.replicate len z) ps with
    | some rows => some (.rf (.op d) none 0 len, [(.op d, .arr e n rows)])
    | none => none
  | .ld n agg x => noAdd (loadAt st.m n agg (opd st.s x))
  | .nc x =>
    match opd st.s x with
    | .bp i o => (match st.m i with | some (.box _) => some (.bp i o, []) | _ => none)
    | .ep i ch r c => (match look st.m i ch with | some _ => some (.ep i ch r c, []) | none => none)
    | .rp vs => some (.rp vs, []) | .cl f vs => some (.cl f vs, []) | _ => none
  | .fa off x =>
    match opd st.s x with
    | .bp i o => (match st.m i with | some (.box _) => some (.bp i (o + off), []) | _ => none)
    | .ep i ch r c => (match look st.m i ch with | some _ => some (.ep i ch r (c + off), []) | none => none)
    | .rp vs => if off < vs.length then some (.rp (vs.drop off), []) else none
    | _ => none
  | .fd off n agg x => match opd st.s x with | .ag vs => if off + n ≤ vs.length then noAdd (pack agg ((vs.drop off).take n)) else none | _ => none
  | .ia n0 x i =>
    match opd st.s x, opd st.s i with
    | .rf j ch lo n, .sc (.int _ k) =>
      (match look st.m j ch with
      | some (_, n1, _) => if n1 = n0 ∧ 0 ≤ k ∧ k < (n : Int) then some (.ep j ch (lo + k.toNat) 0, []) else none
      | none => none)
    | .ro n1 rows, .sc (.int _ k) => if n1 = n0 ∧ 0 ≤ k then (match rows[k.toNat]? with | some row => some (.rp (row.map roC), []) | none => none) else none
    | _, _ => none
  | .ix x i =>
    match opd st.s x, opd st.s i with
    | .sc (.string b), .sc (.int _ k) => if 0 ≤ k then (match b.data.toList[k.toNat]? with | some u => some (.sc (.int .u8 u.toNat), []) | none => none) else none
    | _, _ => none
  | .ar op b x y => if isBool (opd st.s x) = b then noAdd (arL op (opd st.s x) (opd st.s y)) else none
  | .eq neg ks x y =>
    match opd st.s x, opd st.s y with
    | .ag xs, .ag ys => (match (if kindsOk ks xs = true then eqL xs ys else none) with | some b => some (.sc (.bool (if neg = true then !b else b)), []) | none => none)
    | _, _ => none
  | .ng x => match opd st.s x with | .sc (.int k n) => some (.sc (.int k (k.wrap (0 - n))), []) | _ => none
  | .nt x => match opd st.s x with | .sc (.bool b) => some (.sc (.bool (!b)), []) | _ => none
  | .cv k x => match opd st.s x with | .sc (.int _ n) => some (.sc (.int k (k.wrap n)), []) | _ => none
  | .by x =>
    match snap0 st.m (opd st.s x) with
    | some (.ro 1 rows) => (match numsOf rows with | some l => some (.sc (.string (strOfNums l)), []) | none => none)
    | some .nl => some (.sc (.string .empty), [])
    | _ => none
  | .xt x k => match opd st.s x with | .tu vs => (match vs[k]? with | some v => some (v, []) | none => none) | _ => none
  | .ln true x => match opd st.s x with | .sc (.string b) => some (.sc (.int .i64 b.size), []) | _ => none
  | .ln false x =>
    match opd st.s x with
    | .nl => some (.sc (.int .i64 0), [])
    | .ro _ rows => some (.sc (.int .i64 rows.length), [])
    | .rf i ch _ n => (match look st.m i ch with | some _ => some (.sc (.int .i64 n), []) | none => none)
    | _ => none
  | .mx x y => match opd st.s x, opd st.s y with | .sc (.int k a), .sc (.int k' b) => if k = k' then some (.sc (.int k (if a < b then b else a)), []) else none | _, _ => none
  | .mn x y => match opd st.s x, opd st.s y with | .sc (.int k a), .sc (.int k' b) => if k = k' then some (.sc (.int k (if b < a then b else a)), []) else none | _, _ => none
  | .mf f xs => if (xs.map (opd st.s)).all plainB then some (.cl f (xs.map (opd st.s)), []) else none
  | .sl n0 x lo hi => noAdd (sliceV st.m st.s n0 (opd st.s x) lo hi)
  | .s3 x lo hi mx => noAdd (s3V st.m st.s (opd st.s x) lo (opd st.s hi) (opd st.s mx))
  | .isn neg x => noAdd (isnV st.m neg (opd st.s x))
  | .ms e n z len =>
    match natOf (opd st.s len) with
    | some k => if k ≤ big then some (.rf (.op d) none 0 k, [(.op d, .arr e n (List.replicate k z))]) else none
    | none => none
  | .mz e n c =>
    match natOf (opd st.s c) with
    | some k => if k ≤ big then some (.rf (.op d) none 0 0, [(.op d, .arr e n [])]) else none
    | none => none
  | .ca f xs =>
    match opd st.s f with
    | .cl g caps => callR call st.m d g (xs.map (opd st.s) ++ caps)
    | _ => none
  | _ => none

/-- every way into an element's own memory of i is forgotten -/
def fgt0 (i : Id) : LV → LV
  | .rf j ch lo n => if j = i ∧ ch.isSome = true then .un else .rf j ch lo n
  | .ep j ch r c => if j = i ∧ ch.isSome = true then .un else .ep j ch r c
  | v => v
def fgt (i : Id) : LV → LV
  | .ag vs => .ag (vs.map (fgt0 i))
  | v => fgt0 i v

end Go.Proofs.YthnkioafikmmaaaDoor.Ev
