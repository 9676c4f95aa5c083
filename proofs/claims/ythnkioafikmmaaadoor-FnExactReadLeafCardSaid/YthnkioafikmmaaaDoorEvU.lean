/- The program's operations, turned into the simpler machine's; each does what it says. -/
import Derived.Test.YthnkioafikmmaaaDoorEv9
namespace Go.Proofs.YthnkioafikmmaaaDoor.Ev
open Go
set_option linter.unusedVariables false
set_option linter.unusedSimpArgs false

/-! ### turning operations -/
def cO : Operand → Option Opd
  | .tmp n => if n < 100000 then some (.t n) else none
  | .const (.int k n) => some (.k (.sc (.int k n)))
  | .const (.bool b) => some (.k (.sc (.bool b)))
  | .const (.string b) => some (.k (.sc (.string b)))
  | .const (.slice none 0 0) => some (.k .nl)
  | .func g => some (.k (.cl g []))
  | _ => none
theorem cO_fO {x' : Operand} {x : Opd} (h : cO x' = some x) : fO x x' = true := by
  unfold cO at h
  split at h
  · split at h
    · rename_i hn; cases h; simp [fO, hn]
    · cases h
  all_goals first | (cases h; done) | (cases h; simp [fO, fK, vEq])
def cOs : List Operand → Option (List Opd)
  | [] => some []
  | x :: xs => match cO x, cOs xs with | some y, some ys => some (y :: ys) | _, _ => none
theorem cOs_fOs : ∀ {xs' : List Operand} {xs : List Opd}, cOs xs' = some xs → fOs xs xs' = true := by
  intro xs'
  induction xs' with
  | nil => intro xs h; cases h; rfl
  | cons x' xs' ih =>
    intro xs h
    simp only [cOs] at h
    split at h
    · rename_i y ys h1 h2
      cases h
      simp [fOs, cO_fO h1, ih h2]
    · cases h
def cO? : Option Operand → Option (Option Opd)
  | none => some none
  | some x => match cO x with | some y => some (some y) | none => none
theorem cO?_fO? {x' : Option Operand} {x : Option Opd} (h : cO? x' = some x) : fO? x x' = true := by
  cases x' with
  | none => cases h; rfl
  | some x' =>
    simp only [cO?] at h
    split at h
    · rename_i y h1
      cases h
      exact cO_fO h1
    · cases h

def zLV : Value → Option LV
  | .int k n => some (.sc (.int k n)) | .bool b => some (.sc (.bool b)) | .string b => some (.sc (.string b)) | .slice none 0 0 => some .nl | _ => none
def zL : List Value → Option (List LV)
  | [] => some []
  | v :: vs => match zLV v, zL vs with | some x, some xs => some (x :: xs) | _, _ => none
theorem zL_fZ : ∀ {vs : List Value} {z : List LV}, zL vs = some z → fZ z vs = true := by
  intro vs
  induction vs with
  | nil => intro z h; cases h; rfl
  | cons v vs ih =>
    intro z h
    simp only [zL] at h
    split at h
    · rename_i y ys h1 h2
      cases h
      have : fK y v = true := by
        unfold zLV at h1
        split at h1 <;> cases h1 <;> simp [fK, vEq]
      simp [fZ, this, ih h2]
    · cases h
def zCV : Value → Option Cell
  | .int k n => some (.sc (.int k n)) | .bool b => some (.sc (.bool b)) | .string b => some (.sc (.string b)) | .slice none 0 0 => some .nl | _ => none
def zC : List Value → Option (List Cell)
  | [] => some []
  | v :: vs => match zCV v, zC vs with | some x, some xs => some (x :: xs) | _, _ => none
theorem zC_fZC : ∀ {vs : List Value} {z : List Cell}, zC vs = some z → fZC z vs = true ∧ z.length = vs.length := by
  intro vs
  induction vs with
  | nil => intro z h; cases h; exact ⟨rfl, rfl⟩
  | cons v vs ih =>
    intro z h
    simp only [zC] at h
    split at h
    · rename_i y ys h1 h2
      cases h
      obtain ⟨i1, i2⟩ := ih h2
      refine ⟨?_, by simp [i2]⟩
      unfold zCV at h1
      split at h1 <;> cases h1 <;> simp [fZC, vEq, i1]
    · cases h

def cParts (P : Program) (t : TypeId) : List (Nat × Operand) → Option (List (Nat × Nat × Opd))
  | [] => some []
  | (i, x) :: l => match placeT P t i, cO x, cParts P t l with | some (off, n), some y, some r => some ((off, n, y) :: r) | _, _, _ => none
theorem cParts_fParts {P : Program} {t : TypeId} : ∀ {l : List (Nat × Operand)} {r : List (Nat × Nat × Opd)}, cParts P t l = some r → fParts P t r l = true := by
  intro l
  induction l with
  | nil => intro r h; cases h; rfl
  | cons p l ih =>
    intro r h
    obtain ⟨i, x⟩ := p
    simp only [cParts] at h
    split at h
    · rename_i off n y r' h1 h2 h3
      cases h
      simp [fParts, h1, cO_fO h2, ih h3]
    · cases h
def cPs : List (Nat × Operand) → Option (List (Nat × Opd))
  | [] => some []
  | (i, x) :: l => match cO x, cPs l with | some y, some r => some ((i, y) :: r) | _, _ => none
theorem cPs_fPs : ∀ {l : List (Nat × Operand)} {r : List (Nat × Opd)}, cPs l = some r → fPs r l = true := by
  intro l
  induction l with
  | nil => intro r h; cases h; rfl
  | cons p l ih =>
    intro r h
    obtain ⟨i, x⟩ := p
    simp only [cPs] at h
    split at h
    · rename_i y r' h1 h2
      cases h
      simp [fPs, cO_fO h1, ih h2]
    · cases h

def bdOk (P : Program) (t : TypeId) : Bool :=
  match P.underlying t with
  | some (.struct fs) => (fs.toList.mapM (fun f => (P.info? f.type).map fun i => (f.offset, i.size))).isSome
  | some (.array _ e) => (sizeT P e).isSome
  | _ => false

def kindT (P : Program) (t : TypeId) : Option Nat :=
  match P.underlying t with
  | some .bool => some 0 | some (.int _) => some 1 | some .string => some 2 | _ => none
def kindsT (P : Program) : List Field → Option (List Nat)
  | [] => some []
  | f :: fs => match kindT P f.type, kindsT P fs with | some k, some ks => some (k :: ks) | _, _ => none
theorem kinds_fit {P : Program} : ∀ {fs : List Field} {ks : List Nat} {xs : List LV}, kindsT P fs = some ks → kindsOk ks xs = true → fitT P fs xs = true := by
  intro fs
  induction fs with
  | nil => intro ks xs h hk; cases h; cases xs <;> first | rfl | (simp [kindsOk] at hk)
  | cons f fs ih =>
    intro ks xs h hk
    simp only [kindsT] at h
    split at h
    · rename_i k ks' h1 h2
      cases h
      cases xs with
      | nil => cases k <;> simp [kindsOk] at hk
      | cons x xs =>
        have key : kindsOk ks' xs = true ∧ ((∃ b, x = .sc (.bool b)) ∧ k = 0 ∨ (∃ i n, x = .sc (.int i n)) ∧ k = 1 ∨ (∃ b, x = .sc (.string b)) ∧ k = 2) := by
          unfold kindsOk at hk
          split at hk
          case h_1 => rename_i e _; cases e
          case h_2 => rename_i e1 e2; cases e1; cases e2; exact ⟨hk, .inl ⟨⟨_, rfl⟩, rfl⟩⟩
          case h_3 => rename_i e1 e2; cases e1; cases e2; exact ⟨hk, .inr (.inl ⟨⟨_, _, rfl⟩, rfl⟩)⟩
          case h_4 => rename_i e1 e2; cases e1; cases e2; exact ⟨hk, .inr (.inr ⟨⟨_, rfl⟩, rfl⟩)⟩
          case h_5 => cases hk
        have ih' := ih h2 key.1
        unfold kindT at h1
        rcases key.2 with ⟨⟨b, rfl⟩, rfl⟩ | ⟨⟨i, n, rfl⟩, rfl⟩ | ⟨⟨b, rfl⟩, rfl⟩ <;> split at h1 <;> cases h1 <;> rename_i hu <;> simp [fitT, hu, ih']
    · cases h

theorem kinds_fit1 {P : Program} {e : TypeId} {k : Nat} (hk : kindT P e = some k) : ∀ {n : Nat} {xs : List LV}, kindsOk (List.replicate n k) xs = true → xs.length = n ∧ xs.all (fit1 P e) = true := by
  intro n
  induction n with
  | zero => intro xs h; cases xs with
    | nil => exact ⟨rfl, rfl⟩
    | cons _ _ => simp [kindsOk] at h
  | succ n ih =>
    intro xs h
    rw [List.replicate_succ] at h
    cases xs with
    | nil => cases k <;> simp [kindsOk] at h
    | cons x xs =>
      have key : kindsOk (List.replicate n k) xs = true ∧ fit1 P e x = true := by
        unfold kindsOk at h
        unfold kindT at hk
        split at h
        case h_1 => rename_i q _; cases q
        case h_2 => rename_i e1 e2; cases e1; cases e2; refine ⟨h, ?_⟩; split at hk <;> cases hk; rename_i hu; simp [fit1, hu]
        case h_3 => rename_i e1 e2; cases e1; cases e2; refine ⟨h, ?_⟩; split at hk <;> cases hk; rename_i hu; simp [fit1, hu]
        case h_4 => rename_i e1 e2; cases e1; cases e2; refine ⟨h, ?_⟩; split at hk <;> cases hk; rename_i hu; simp [fit1, hu]
        case h_5 => cases h
      obtain ⟨i1, i2⟩ := ih key.1
      exact ⟨by simp [i1], by simp [key.2, i2]⟩

def tyOf (P : Program) (t : TypeId) : Option (Bool × TypeId) :=
  match P.underlying t with
  | some .string => some (true, 0)
  | some (.slice e) => some (false, e)
  | _ => none

def sameO : Operand → Operand → Bool
  | .tmp a, .tmp b => a == b
  | .const (.int k a), .const (.int k' b) => decide (k = k') && decide (a = b)
  | _, _ => false
theorem sameO_eq {x y : Operand} (h : sameO x y = true) : x = y := by
  unfold sameO at h
  split at h
  · simp at h; rw [h]
  · simp at h; rw [h.1, h.2]
  · cases h
def isZero : Operand → Bool
  | .const (.int .i64 0) => true | _ => false

/-- the elements of a slice type that may be made and grown: e, its cells, its zero value -/
def elT (P : Program) (t : TypeId) : Option (TypeId × Nat × List Cell) :=
  match P.underlying t with
  | some (.slice e) =>
    match sizeT P e, bytesT P e, (zeroT P e).bind zC with
    | some n, some b, some z => if 0 < n ∧ b ≤ 100000 ∧ z.length = n then some (e, n, z) else none
    | _, _, _ => none
  | _ => none

def cBin (P : Program) (op : BinOp) (t : TypeId) (x y : Opd) : Option IOp :=
  match P.underlying t with
  | some (.struct fs) =>
    match kindsT P fs.toList with
    | some ks =>
      if P.stoodInHeld t = false ∧ P.eqGuardType P.depth t = false ∧ flatT P 0 fs.toList = true then
        (match op with | .eql => some (.eq false ks x y) | .neq => some (.eq true ks x y) | _ => none)
      else none
    | none => none
  | some (.array n e) =>
    match kindT P e with
    | some k =>
      if P.eqGuardType P.depth t = false ∧ P.cellsOf e = 1 ∧ scT P e = true then
        (match op with | .eql => some (.eq false (List.replicate n k) x y) | .neq => some (.eq true (List.replicate n k) x y) | _ => none)
      else none
    | none => none
  | some .bool => some (.ar op true x y)
  | some (.int _) | some .string => some (.ar op false x y)
  | some (.slice _) => (match y, op with | .k .nl, .eql => some (.isn false x) | .k .nl, .neq => some (.isn true x) | _, _ => none)
  | _ => none

def cCall (P : Program) (c : Call) : Option IOp :=
  match c.callee, c.args.toList, c.argTypes.toList with
  | .builtin .len, [x], [t] => (match tyOf P t, cO x with | some (s, _), some y => some (.ln s y) | _, _ => none)
  | .builtin .max, [x, y], _ => (match cO x, cO y with | some x, some y => some (.mx x y) | _, _ => none)
  | .builtin .min, [x, y], _ => (match cO x, cO y with | some x, some y => some (.mn x y) | _, _ => none)
  | .builtin .append, [x, y], [t, u] => (match elT P t, tyOf P u, cO x, cO y with | some (e, n, _), some (s, e'), some x, some y => if s = true ∨ e' = e then some (.ap e n s x y) else none | _, _, _, _ => none)
  | .value f, xs, _ => (match cO f, cOs xs with | some f, some ys => some (.ca f ys) | _, _ => none)
  | _, _, _ => none

def isU8 : Option TypeDesc → Bool
  | some (.int .u8) => true | _ => false

def isNl : Cell → Bool
  | .nl => true | _ => false

def cOp (P : Program) : Op → Option IOp
  | .move x | .assign x => (cO x).map .mv
  | .pick c a b => match cO c, cO a, cO b with | some c, some a, some b => some (.pk c a b) | _, _, _ => none
  | .alloc t => ((zeroT P t).bind zL).map .al
  | .box _ x => (cO x).map .bx
  | .build t ps => if bdOk P t = true then (match (zeroT P t).bind zL, cParts P t ps.toList with | some z, some l => some (.bd z l) | _, _ => none) else none
  | .buildSlice t len ps => match elT P t, cPs ps.toList with | some (e, n, z), some l => (if len * n ≤ 16777216 then (if z.any isNl = true then some (.bw e n z len l) else some (.bs e n z len l)) else none) | _, _ => none
  | .load t x => match sizeT P t, aggT P t, cO x with | some n, some g, some x => some (.ld n g x) | _, _, _ => none
  | .store t x v => match sizeT P t, cO x, cO v with | some n, some x, some v => some (.so n x v) | _, _, _ => none
  | .nilCheck x => (cO x).map .nc
  | .binOp op t x y _ => match cO x, cO y with | some x, some y => cBin P op t x y | _, _ => none
  | .unOp .neg _ x => (cO x).map .ng
  | .unOp .not _ x => (cO x).map .nt
  | .convert t u x =>
    match P.underlying t, P.underlying u, cO x with
    | some _, some (.int k), some x => some (.cv k x)
    | some (.slice e), some .string, some x => if isU8 (P.underlying e) = true then some (.by x) else none
    | _, _, _ => none
  | .makeFunc (.func f) first caps => if first.size = 0 then (match cOs caps.toList with | some l => some (.mf f l) | none => none) else none
  | .makeSlice t l c =>
    match elT P t, cO c with
    | some (e, n, z), some x => if sameO l c = true then some (.ms e n z x) else if isZero l = true then some (.mz e n x) else none
    | _, _ => none
  | .slice t x lo hi none =>
    match P.underlying t, cO x, cO? lo, cO? hi with
    | some .string, some x, some lo, some hi => some (.sl 0 x lo hi)
    | some (.slice e), some x, some lo, some hi => (match sizeT P e with | some n => if 0 < n then some (.sl n x lo hi) else none | none => none)
    | _, _, _, _ => none
  | .fieldAddr t x f => match fieldT P t f, cO x with | some (off, n, _), some x => (if n ≠ 0 then some (.fa off x) else none) | _, _ => none
  | .field t x f => match fieldT P t f, cO x with | some (off, n, g), some x => some (.fd off n g x) | _, _ => none
  | .indexAddr t x i =>
    match P.underlying t, cO x, cO i with
    | some (.slice e), some x, some i => (match sizeT P e with | some n => some (.ia n x i) | none => none)
    | _, _, _ => none
  | .index t x i => match P.underlying t, cO x, cO i with | some .string, some x, some i => some (.ix x i) | _, _, _ => none
  | .extract x k => (cO x).map (.xt · k)
  | .call c => cCall P c
  | .slice t x lo (some hi) (some mx) =>
    match P.underlying t, cO x, cO? lo, cO hi, cO mx with
    | some (.slice e), some x, some lo, some hi, some mx => if (sizeT P e).isSome = true then some (.s3 x lo hi mx) else none
    | _, _, _, _, _ => none
  | _ => none

/-! ### running one -/
/-- an append whose rows go over from one array to another -/
def apT (m : Mem) (d e n : Nat) (X Y : LV) : Option (LV × Mem) :=
  match Y with
  | .rf j none lo cnt =>
    (match m j with
    | some (.arr e2 n2 rowsj) =>
      if e2 = e ∧ n2 = n ∧ lo + cnt ≤ rowsj.length ∧ 0 < cnt ∧ ((rowsj.drop lo).take cnt).all (·.all okT) = true ∧ m (.op d) = none then
        (match X with
        | .nl => if cnt ≤ big then some (.rf (.op d) none 0 cnt, updM (updM m j (some (goneT e n lo cnt rowsj))) (.op d) (some (.arr e n ((rowsj.drop lo).take cnt)))) else none
        | .rf i none lo2 k =>
          (match m i with
          | some (.arr e' n' rows) =>
            if e' = e ∧ n' = n ∧ lo2 = 0 ∧ k = rows.length ∧ rows.length + cnt ≤ big ∧ i ≠ j then
              some (.rf (.op d) none 0 (rows.length + cnt), updM (updM (updM m j (some (goneT e n lo cnt rowsj))) i (some .dead)) (.op d) (some (.arr e n (rows ++ (rowsj.drop lo).take cnt))))
            else none
          | _ => none)
        | _ => none)
      else none
    | _ => none)
  | _ => none
def apW (m : Mem) (d e n : Nat) (str : Bool) (X Y : LV) : Option (LV × Mem) :=
  match srcRows m n Y, (match Y with | .sc _ => str | _ => !str) with
  | some more, true =>
    (match X with
    | .nl => if more.length ≤ big ∧ m (.op d) = none then (if more.length = 0 then some (.nl, m) else some (.rf (.op d) none 0 more.length, updM m (.op d) (some (.arr e n more)))) else none
    | .rf i none lo k =>
      (match m i with
      | some (.arr e' n' rows) =>
        if e' = e ∧ n' = n ∧ lo = 0 ∧ k = rows.length ∧ rows.length + more.length ≤ big ∧ m (.op d) = none then
          some (.rf (.op d) none 0 (rows ++ more).length, updM (updM m i (some .dead)) (.op d) (some (.arr e n (rows ++ more))))
        else none
      | _ => none)
    | _ => none)
  | _, _ => if str = true then none else apT m d e n X Y
/-- an operation that writes -/
def evW (d : Nat) (st : St) : IOp → Option (LV × Mem)
  | .so n x v =>
    match unpack (opd st.s v) with
    | some vs =>
      if vs.length = n ∧ vs.all plainB = true then
        match opd st.s x with
        | .bp i off => (match st.m i with | some (.box cells) => (match putL cells off vs with | some c => some (.un, updM st.m i (some (.box c))) | none => none) | _ => none)
        | .ep i none r c =>
          (match st.m i, vs.mapM toCell with
          | some (.arr e n0 rows), some xs => (match rows[r]? with | some row => if c + n ≤ row.length then some (.un, updM st.m i (some (.arr e n0 (rows.set r (row.take c ++ xs ++ row.drop (c + n)))))) else none | none => none)
          | _, _ => none)
        | _ => none
      else none
    | none => none
  | .bw e n z len ps =>
    match fillU st.m st.s n (List.replicate len z) ps with
    | some rows =>
      if (ps.map (·.1)).Nodup ∧ st.m (.op d) = none then
        (match adoptAll (updM st.m (.op d) (some (.arr e n rows))) (.op d) (adsOf st.s ps) with | some m' => some (.rf (.op d) none 0 len, m') | none => none)
      else none
    | none => none
  | .ap e n str x y => apW (exSt d x st).m d e n str (opd (exSt d x st).s x) (opd (exSt d x st).s y)
  | _ => none

/-- a store into an element that moves slices of one's own into it -/
def evSM (st : St) : IOp → Option St
  | .so n x v =>
    match unpack (opd st.s v), opd st.s x with
    | some vs, .ep i none r c =>
      if vs.length = n ∧ vs.all plainB = true then
        (match st.m i, vs.mapM (toCellU st.m) with
        | some (.arr e n0 rows), some xs =>
          (match rows[r]? with
          | some row =>
            if c + n ≤ row.length then
              (match adoptAll (fgtM i (updM st.m i (some (.arr e n0 (rows.set r (row.take c ++ xs ++ row.drop (c + n))))))) i (adsV r c vs) with
              | some m' => some ⟨fun t => fgt2 i (st.s t), m'⟩
              | none => none)
            else none
          | none => none)
        | _, _ => none)
      else none
    | _, _ => none
  | _ => none

def isW : IOp → Bool
  | .so .. | .ap .. | .bw .. => true | _ => false

section
variable {P : Program} {ov : Ov} {S N : Nat → Prop} {G G0 : Gh} {m : Mem} {st : St} {a : Act} {w : World}

theorem do_mz (h : SR ov S N G st a w) {x : Opd} {x' l' : Operand} {t el : TypeId} {n by_ : Nat} {zv : List Value} {o : Oper} (hx : fO x x' = true) (hl : isZero l' = true) (ho : o.op = .makeSlice t l' x')
    (ht : P.underlying t = some (.slice el)) (hs : sizeT P el = some n) (hbt : bytesT P el = some by_) (hby : by_ ≤ 100000) (hz : zeroT P el = some zv) {k : Nat} (hk : natOf (opd st.s x) = some k) (hkb : k ≤ big)
    {i : Id} (hi : st.m i = none) : Does P o a w (Next S N G st w (.rf i none 0 0) (updM st.m i (some (.arr el n [])))) := by
  obtain ⟨v0, e1, e2⟩ := zeroT_run (P := P) (w := w) hz
  have ek := nat_of h hx hk
  have el0 : a.eval l' = .int .i64 0 := by
    unfold isZero at hl
    split at hl
    · rfl
    · cases hl
  cases hinfo : P.info? el with
  | none => simp [bytesT, hinfo] at hbt
  | some inf =>
    have hb : inf.bytes = by_ := by simpa [bytesT, hinfo] using hbt
    have hsz : inf.size = n := by simpa [sizeT, hinfo] using hs
    have hzr : inf.zero = some v0 := by
      cases hq : inf.zero with
      | none => simp [zeroValue, typeInfo, hinfo, hq] at e1
      | some v1 =>
        simp [zeroValue, typeInfo, hinfo, hq] at e1
        rw [e1]
    have hsmall : by_ * k ≤ 100000 * 1000000000 := Nat.mul_le_mul hby hkb
    have hlarge : (inf.bytes : Int) * (k : Int) ≤ 281474976710656 := by
      have : ((by_ * k : Nat) : Int) ≤ 281474976710656 := by omega
      rw [Int.natCast_mul] at this
      rw [hb]; exact this
    have main := run_make (P := P) w t el inf v0 ht hinfo hzr .i64 .i64 0 k (by omega) (by omega) hlarge (by unfold big at hkb; omega)
    rw [Int.toNat_natCast, hsz, e2] at main
    refine Does.more h (c := k) hi (ob := .cells (madeCells zv.toArray (k * n)) el) (v' := .slice (some ⟨w.heap.size, 0, none⟩) 0 k) ?_ (fun e' n' rows' q => by cases q; simp) (fun e' n' rows' q => ?_) (fun _ q => by cases q) ?_ ?_
    · simp only [execOp, ho, ek, el0, Sem.run_bind, main, Result.andThen_ok, Sem.run_pure]
      rfl
    · cases q
      exact ⟨_, heap_alloc_new w _, size_madeCells _ _, Nat.zero_le _, by unfold big at hkb; simp only [maxLen]; omega, fun r row hr => by simp at hr⟩
    · simp only [R, R1, R0, look_none updM_eq, Gh.capOf, Gh.blkOf]
      exact ⟨_, k, rfl, Nat.zero_le _, by simp [Gh.put], fun _ => by simp [Gh.put]⟩
    · simp [wf, wf1, wf0, updM_eq]

theorem elT_inv {t : TypeId} {e n : Nat} {z : List Cell} (h : elT P t = some (e, n, z)) : ∃ b zv, P.underlying t = some (.slice e) ∧ sizeT P e = some n ∧ bytesT P e = some b ∧ b ≤ 100000 ∧ zeroT P e = some zv ∧ fZC z zv = true ∧ z.length = n ∧ zv.length = n ∧ 0 < n := by
  unfold elT at h
  split at h
  · rename_i e' hu
    split at h
    · rename_i n' b z' h1 h2 h3
      split at h
      · rename_i hc
        cases h
        rw [Option.bind_eq_some_iff] at h3
        obtain ⟨zv, k1, k2⟩ := h3
        obtain ⟨q1, q2⟩ := zC_fZC k2
        exact ⟨b, zv, hu, h1, h2, hc.2.1, k1, q1, hc.2.2, by rw [← q2]; exact hc.2.2, hc.1⟩
      · cases h
    · cases h
  · cases h
theorem tyOf_inv {t : TypeId} {s : Bool} {e : TypeId} (h : tyOf P t = some (s, e)) : (s = true ∧ P.underlying t = some .string) ∨ (s = false ∧ P.underlying t = some (.slice e)) := by
  unfold tyOf at h
  split at h <;> cases h
  · exact .inl ⟨rfl, by assumption⟩
  · exact .inr ⟨rfl, by assumption⟩

theorem adds_nil {m' : Mem} (h : adds m [] = some m') : m' = m := by cases h; rfl
theorem adds_one {i : Id} {x : Thing} {m' : Mem} (h : adds m [(i, x)] = some m') : m i = none ∧ m' = updM m i (some x) := by
  simp only [adds] at h
  split at h
  · rename_i hi; cases h; exact ⟨hi, rfl⟩
  · cases h
theorem noAdd_inv {x : Option LV} {v : LV} {l : List (Id × Thing)} (h : noAdd x = some (v, l)) : x = some v ∧ l = [] := by
  cases x with
  | none => cases h
  | some y => cases h; exact ⟨rfl, rfl⟩

theorem evR_sound (h : SR ov S N G st a w) {call : CallF} (hcall : ∀ g args r, call g args = some (r, []) → enterOk P g = true ∧ small r = true ∧ Contract ov.tb P g args r)
    {o : Oper} {io : IOp} (hc : cOp P o.op = some io) (hw : isW io = false) {d : Nat} {v : LV} {l : List (Id × Thing)} {m' : Mem} (hv : evR call d st io = some (v, l)) (hm : adds st.m l = some m') : Op1 P o a w (Next S N G st w v m') := by
  unfold cOp at hc
  split at hc
  case h_1 x ho =>
    rw [Option.map_eq_some_iff] at hc
    obtain ⟨y, hy, rfl⟩ := hc
    cases hv
    rw [adds_nil hm]
    exact .inl (do_mv h (cO_fO hy) (.inl ho))
  case h_2 x ho =>
    rw [Option.map_eq_some_iff] at hc
    obtain ⟨y, hy, rfl⟩ := hc
    cases hv
    rw [adds_nil hm]
    exact .inl (do_mv h (cO_fO hy) (.inr ho))
  case h_3 c x y ho =>
    split at hc
    · rename_i c1 x1 y1 e1 e2 e3
      cases hc
      simp only [evR] at hv
      split at hv
      · rename_i t ht
        cases hv
        rw [adds_nil hm]
        exact .inl (do_pk h (cO_fO e1) (cO_fO e2) (cO_fO e3) ho ht)
      · cases hv
    · cases hc
  case h_4 t ho =>
    rw [Option.map_eq_some_iff] at hc
    obtain ⟨z, hz, rfl⟩ := hc
    rw [Option.bind_eq_some_iff] at hz
    obtain ⟨zv, k1, k2⟩ := hz
    cases hv
    obtain ⟨g1, rfl⟩ := adds_one hm
    exact .inl (do_al h ho k1 (zL_fZ k2) g1)
  case h_5 t x ho =>
    rw [Option.map_eq_some_iff] at hc
    obtain ⟨y, hy, rfl⟩ := hc
    simp only [evR] at hv
    split at hv
    · rename_i vs hu
      split at hv
      · rename_i hp
        cases hv
        obtain ⟨g1, rfl⟩ := adds_one hm
        exact .inl (do_bx h (cO_fO hy) ho hu hp g1)
      · cases hv
    · cases hv
  case h_6 t ps ho =>
    split at hc
    case isFalse => cases hc
    rename_i hbd
    split at hc
    · rename_i z l' h1 h2
      cases hc
      rw [Option.bind_eq_some_iff] at h1
      obtain ⟨zv, k1, k2⟩ := h1
      simp only [evR] at hv
      split at hv
      · rename_i vs hf
        cases hv
        rw [adds_nil hm]
        refine .inl (do_bd h ho k1 (zL_fZ k2) (cParts_fParts h2) ?_ hf)
        unfold bdOk at hbd
        split at hbd
        · rename_i fs hu
          obtain ⟨places, hpl⟩ := Option.isSome_iff_exists.1 hbd
          exact .inl ⟨fs, places, hu, hpl⟩
        · rename_i n e hu
          obtain ⟨s, hs⟩ := Option.isSome_iff_exists.1 hbd
          exact .inr ⟨n, e, s, hu, hs⟩
        · cases hbd
      · cases hv
    · cases hc
  case h_7 t len ps ho =>
    split at hc
    · rename_i e n z l' h1 h2
      split at hc
      case isFalse => cases hc
      rename_i hlen
      split at hc
      · cases hc; cases hw
      cases hc
      obtain ⟨b, zv, q1, q2, q3, q4, q5, q6, q7, q8, q9⟩ := elT_inv h1
      simp only [evR] at hv
      split at hv
      · rename_i rows hf
        cases hv
        obtain ⟨g1, rfl⟩ := adds_one hm
        exact .inl (do_bs h ho q1 q2 q5 q6 q7 (cPs_fPs h2) hlen q9 hf g1)
      · cases hv
    · cases hc
  case h_8 t x ho =>
    split at hc
    · rename_i n g y h1 h2 h3
      cases hc
      obtain ⟨k1, rfl⟩ := noAdd_inv hv
      rw [adds_nil hm]
      exact .inl (do_ld h (cO_fO h3) ho h2 h1 k1)
    · cases hc
  case h_9 t x y ho =>
    split at hc
    · cases hc; cases hw
    · cases hc
  case h_10 x ho =>
    rw [Option.map_eq_some_iff] at hc
    obtain ⟨y, hy, rfl⟩ := hc
    simp only [evR] at hv
    split at hv
    · rename_i i off e
      split at hv
      · rename_i c hi
        cases hv
        rw [adds_nil hm]
        exact .inl (do_nc h (cO_fO hy) ho e (.inl ⟨i, off, rfl, c, hi⟩))
      · cases hv
    · rename_i i ch r c e
      split at hv
      · rename_i q hi
        cases hv
        rw [adds_nil hm]
        exact .inl (do_nc h (cO_fO hy) ho e (.inr (.inl ⟨i, ch, r, c, rfl, by rw [hi]; simp⟩)))
      · cases hv
    · rename_i vs e
      cases hv
      rw [adds_nil hm]
      exact .inl (do_nc h (cO_fO hy) ho e (.inr (.inr (.inl ⟨vs, rfl⟩))))
    · rename_i f vs e
      cases hv
      rw [adds_nil hm]
      exact .inl (do_nc h (cO_fO hy) ho e (.inr (.inr (.inr ⟨f, vs, rfl⟩))))
    · cases hv
  case h_11 op t x y t2 ho =>
    split at hc
    case h_2 => cases hc
    rename_i x1 y1 e1 e2
    have arith : ∀ b, io = .ar op b x1 y1 → (b = true → P.underlying t = some .bool) → Op1 P o a w (Next S N G st w v m') := by
      intro b hio hbt
      subst hio
      simp only [evR] at hv
      split at hv
      · rename_i hb
        obtain ⟨k1, rfl⟩ := noAdd_inv hv
        rw [adds_nil hm]
        refine .inl (do_ar h (cO_fO e1) (cO_fO e2) ho (fun b' e' => hbt ?_) k1)
        rw [← hb, e']; rfl
      · cases hv
    unfold cBin at hc
    split at hc
    · rename_i fs hu
      split at hc
      case h_2 => cases hc
      rename_i ks hks
      split at hc
      case isFalse => cases hc
      rename_i hcond
      have go : ∀ neg : Bool, io = .eq neg ks x1 y1 → op = (if neg = true then .neq else .eql) → Op1 P o a w (Next S N G st w v m') := by
        intro neg hio hop
        subst hio
        simp only [evR] at hv
        split at hv
        · rename_i xs ys ex ey
          split at hv
          · rename_i b hb
            cases hv
            rw [adds_nil hm]
            split at hb
            · rename_i hk
              rw [hop] at ho
              exact .inl (do_eq h (cO_fO e1) (cO_fO e2) ho hu hcond.1 hcond.2.1 hcond.2.2 ex ey (kinds_fit hks hk) hb)
            · cases hb
          · cases hv
        · cases hv
      split at hc
      · cases hc; exact go false rfl rfl
      · cases hc; exact go true rfl rfl
      · cases hc
    · rename_i na ea hu
      split at hc
      case h_2 => cases hc
      rename_i k hks
      split at hc
      case isFalse => cases hc
      rename_i hcond
      have go : ∀ neg : Bool, io = .eq neg (List.replicate na k) x1 y1 → op = (if neg = true then .neq else .eql) → Op1 P o a w (Next S N G st w v m') := by
        intro neg hio hop
        subst hio
        simp only [evR] at hv
        split at hv
        · rename_i xs ys ex ey
          split at hv
          · rename_i b hb
            cases hv
            rw [adds_nil hm]
            split at hb
            · rename_i hk
              rw [hop] at ho
              obtain ⟨f1, f2⟩ := kinds_fit1 hks hk
              exact .inl (do_eqA h (cO_fO e1) (cO_fO e2) ho hu hcond.1 hcond.2.2 hcond.2.1 ex ey f1 f2 hb)
            · cases hb
          · cases hv
        · cases hv
      split at hc
      · cases hc; exact go false rfl rfl
      · cases hc; exact go true rfl rfl
      · cases hc
    · rename_i hu; cases hc; exact arith true rfl fun _ => hu
    · cases hc; exact arith false rfl (fun e => by cases e)
    · cases hc; exact arith false rfl (fun e => by cases e)
    · rename_i es hu
      split at hc
      · cases hc
        obtain ⟨k1, rfl⟩ := noAdd_inv hv
        rw [adds_nil hm]
        exact .inl (do_isn h (neg := false) (cO_fO e1) (cO_fO e2) rfl ho hu k1)
      · cases hc
        obtain ⟨k1, rfl⟩ := noAdd_inv hv
        rw [adds_nil hm]
        exact .inl (do_isn h (neg := true) (cO_fO e1) (cO_fO e2) rfl ho hu k1)
      · cases hc
    · cases hc
  case h_12 t x ho =>
    rw [Option.map_eq_some_iff] at hc
    obtain ⟨y, hy, rfl⟩ := hc
    simp only [evR] at hv
    split at hv
    · rename_i k n e
      cases hv
      rw [adds_nil hm]
      exact .inl (do_ng h (cO_fO hy) ho e)
    · cases hv
  case h_13 t x ho =>
    rw [Option.map_eq_some_iff] at hc
    obtain ⟨y, hy, rfl⟩ := hc
    simp only [evR] at hv
    split at hv
    · rename_i b e
      cases hv
      rw [adds_nil hm]
      exact .inl (do_nt h (cO_fO hy) ho e)
    · cases hv
  case h_14 t u x ho =>
    split at hc
    · rename_i d k y h1 h2 h3
      cases hc
      simp only [evR] at hv
      split at hv
      · rename_i k' n e
        cases hv
        rw [adds_nil hm]
        exact .inl (do_cv h (cO_fO h3) ho ⟨_, h1⟩ h2 e)
      · cases hv
    · rename_i e y h1 h2 h3
      split at hc
      case isFalse => cases hc
      rename_i hu8
      have hu8' : P.underlying e = some (.int .u8) := by
        unfold isU8 at hu8
        split at hu8
        · assumption
        · cases hu8
      cases hc
      simp only [evR] at hv
      split at hv
      · rename_i rows hs
        split at hv
        · rename_i l' hl
          cases hv
          rw [adds_nil hm]
          refine .inl (do_by h (cO_fO h3) ho h1 hu8' h2 ?_)
          generalize opd st.s y = Y at hs
          cases Y <;> simp only [snap0] at hs <;> try (cases hs; done)
          · cases hs; exact .inl ⟨_, rfl, hl⟩
          · rename_i i ch lo n
            split at hs
            · rename_i e' n' rows' hlk
              split at hs
              · rename_i hle
                cases hs
                exact .inr (.inl ⟨i, ch, lo, n, e', rows', rfl, hlk, hle, hl⟩)
              · cases hs
            · cases hs
        · cases hv
      · rename_i hs
        cases hv
        rw [adds_nil hm]
        refine .inl ?_
        have := do_by h (cO_fO h3) ho h1 hu8' h2 (l := []) (.inr (.inr ⟨?_, rfl⟩))
        · exact this
        · generalize opd st.s y = Y at hs
          cases Y <;> simp only [snap0] at hs <;> try (cases hs; done)
          · rfl
          · split at hs
            · split at hs <;> cases hs
            · cases hs
      · cases hv
    · cases hc
  case h_15 f first caps ho =>
    split at hc
    case isFalse => cases hc
    rename_i hfirst
    split at hc
    · rename_i l' hl
      cases hc
      simp only [evR] at hv
      split at hv
      · rename_i hp
        cases hv
        rw [adds_nil hm]
        have : first = #[] := Array.size_eq_zero_iff.1 hfirst
        subst this
        exact .inl (do_mf h (cOs_fOs hl) ho hp)
      · cases hv
    · cases hc
  case h_16 t x y ho =>
    split at hc
    case h_2 => cases hc
    rename_i e n z x1 h1 h2
    obtain ⟨b, zv, q1, q2, q3, q4, q5, q6, q7, q8, q9⟩ := elT_inv h1
    split at hc
    · rename_i hsame
      cases hc
      have := sameO_eq hsame
      subst this
      simp only [evR] at hv
      split at hv
      · rename_i k hk
        split at hv
        · rename_i hkb
          cases hv
          obtain ⟨g1, rfl⟩ := adds_one hm
          exact .inl (do_ms h (cO_fO h2) ho q1 q2 q3 q4 q5 q6 q7 hk hkb g1)
        · cases hv
      · cases hv
    · split at hc
      · rename_i hz0
        cases hc
        simp only [evR] at hv
        split at hv
        · rename_i k hk
          split at hv
          · rename_i hkb
            cases hv
            obtain ⟨g1, rfl⟩ := adds_one hm
            exact .inl (do_mz h (cO_fO h2) hz0 ho q1 q2 q3 q4 q5 hk hkb g1)
          · cases hv
        · cases hv
      · cases hc
  case h_17 t x lo hi ho =>
    split at hc
    · rename_i x1 lo1 hi1 h1 h2 h3 h4
      cases hc
      obtain ⟨k1, rfl⟩ := noAdd_inv hv
      rw [adds_nil hm]
      unfold sliceV at k1
      split at k1
      · rename_i b ex
        split at k1
        · rename_i l k e1 e2
          split at k1
          · rename_i hcond
            cases k1
            exact .inl (do_sls h (cO_fO h2) (cO?_fO? h3) (cO?_fO? h4) ho h1 ex e1 e2 hcond.2.1 hcond.2.2)
          · cases k1
        · cases k1
      · rename_i n rows ex
        split at k1
        · split at k1
          · rename_i hcond; have := hcond.2.1; omega
          · cases k1
        · cases k1
      · split at k1
        · split at k1
          · split at k1
            · rename_i hcond; have := hcond.2.1; omega
            · cases k1
          · cases k1
        · cases k1
      · cases k1
    · rename_i e x1 lo1 hi1 h1 h2 h3 h4
      split at hc
      case h_2 => cases hc
      rename_i n hn
      split at hc
      case isFalse => cases hc
      rename_i hn0
      cases hc
      obtain ⟨k1, rfl⟩ := noAdd_inv hv
      rw [adds_nil hm]
      unfold sliceV at k1
      split at k1
      · split at k1
        · split at k1
          · rename_i hcond; have := hcond.1; omega
          · cases k1
        · cases k1
      · rename_i st0 rows ex
        split at k1
        · rename_i l k e1 e2
          split at k1
          · rename_i hcond
            cases k1
            obtain ⟨rfl, _, c1, c2⟩ := hcond
            exact .inl (do_sl h (cO_fO h2) (cO?_fO? h3) (cO?_fO? h4) ho h1 hn e1 c1 (.inl ⟨rows, ex, e2, c2, rfl⟩))
          · cases k1
        · cases k1
      · rename_i i ch q n1 ex
        split at k1
        · rename_i e0 st0 rows hlk
          split at k1
          · rename_i l k e1 e2
            split at k1
            · rename_i hcond
              cases k1
              obtain ⟨rfl, _, c1, c2⟩ := hcond
              exact .inl (do_sl h (cO_fO h2) (cO?_fO? h3) (cO?_fO? h4) ho h1 hn e1 c1 (.inr ⟨i, ch, q, n1, e0, rows, ex, hlk, e2, c2, rfl⟩))
            · cases k1
          · cases k1
        · cases k1
      · cases k1
    · cases hc
  case h_18 t x f ho =>
    split at hc
    · rename_i off n b y h1 h2
      split at hc
      case isFalse => cases hc
      rename_i hn
      cases hc
      simp only [evR] at hv
      split at hv
      · rename_i i q ex
        split at hv
        · rename_i c hi
          cases hv
          rw [adds_nil hm]
          exact .inl (do_fa h (cO_fO h2) ho h1 hn (.inl ⟨i, q, c, ex, hi, rfl⟩))
        · cases hv
      · rename_i i ch r c ex
        split at hv
        · rename_i q hi
          cases hv
          rw [adds_nil hm]
          exact .inl (do_fa h (cO_fO h2) ho h1 hn (.inr (.inl ⟨i, ch, r, c, ex, by rw [hi]; simp, rfl⟩)))
        · cases hv
      · rename_i vs ex
        split at hv
        · rename_i hlt
          cases hv
          rw [adds_nil hm]
          exact .inl (do_fa h (cO_fO h2) ho h1 hn (.inr (.inr ⟨vs, ex, hlt, rfl⟩)))
        · cases hv
      · cases hv
    · cases hc
  case h_19 t x f ho =>
    split at hc
    · rename_i off n g y h1 h2
      cases hc
      simp only [evR] at hv
      split at hv
      · rename_i vs ex
        split at hv
        · rename_i hle
          obtain ⟨k1, rfl⟩ := noAdd_inv hv
          rw [adds_nil hm]
          exact .inl (do_fd h (cO_fO h2) ho h1 ex hle k1)
        · cases hv
      · cases hv
    · cases hc
  case h_20 t x i ho =>
    split at hc
    case h_2 => cases hc
    rename_i e x1 i1 h1 h2 h3
    split at hc
    case h_2 => cases hc
    rename_i n hn
    cases hc
    simp only [evR] at hv
    split at hv
    · rename_i j ch lo n1 k q ex ei
      split at hv
      · rename_i e0 n2 rows hlk
        split at hv
        · rename_i hcond
          cases hv
          obtain ⟨rfl, c1, c2⟩ := hcond
          rw [adds_nil hm]
          exact .inl (do_ia h (cO_fO h2) (cO_fO h3) ho h1 hn ei c1 (.inl ⟨j, ch, lo, n1, e0, rows, ex, hlk, c2, rfl⟩))
        · cases hv
      · cases hv
    · rename_i n1 rows k q ex ei
      split at hv
      · rename_i hcond
        obtain ⟨rfl, c1⟩ := hcond
        split at hv
        · rename_i row hrow
          cases hv
          rw [adds_nil hm]
          exact .inl (do_ia h (cO_fO h2) (cO_fO h3) ho h1 hn ei c1 (.inr ⟨rows, row, ex, hrow, rfl⟩))
        · cases hv
      · cases hv
    · cases hv
  case h_21 t x i ho =>
    split at hc
    case h_2 => cases hc
    rename_i x1 i1 h1 h2 h3
    cases hc
    simp only [evR] at hv
    split at hv
    · rename_i b k q ex ei
      split at hv
      · rename_i c1
        split at hv
        · rename_i u hu
          cases hv
          rw [adds_nil hm]
          exact .inl (do_ix h (cO_fO h2) (cO_fO h3) ho h1 ex ei c1 hu)
        · cases hv
      · cases hv
    · cases hv
  case h_22 x k ho =>
    rw [Option.map_eq_some_iff] at hc
    obtain ⟨y, hy, rfl⟩ := hc
    simp only [evR] at hv
    split at hv
    · rename_i vs ex
      split at hv
      · rename_i v1 hk
        cases hv
        rw [adds_nil hm]
        exact .inl (do_xt h (cO_fO hy) ho ex hk)
      · cases hv
    · cases hv
  case h_23 c ho =>
    obtain ⟨callee, args, ts⟩ := c
    unfold cCall at hc
    simp only at hc
    split at hc
    · rename_i x t e1 e2
      have ea : args = #[x] := by rw [← Array.toList_inj]; simpa using e1
      have et : ts = #[t] := by rw [← Array.toList_inj]; simpa using e2
      subst ea et
      split at hc
      case h_2 => cases hc
      rename_i s e' y h1 h2
      cases hc
      rcases tyOf_inv h1 with ⟨rfl, hu⟩ | ⟨rfl, hu⟩
      · simp only [evR] at hv
        split at hv
        · rename_i b ex
          cases hv
          rw [adds_nil hm]
          exact .inl (do_ln h (cO_fO h2) ho (n := b.size) (.inl ⟨b, ex, rfl, hu⟩))
        · cases hv
      · simp only [evR] at hv
        split at hv
        · rename_i ex
          cases hv
          rw [adds_nil hm]
          exact .inl (do_ln h (cO_fO h2) ho (n := 0) (.inr ⟨⟨_, hu⟩, .inl ⟨ex, rfl⟩⟩))
        · rename_i n rows ex
          cases hv
          rw [adds_nil hm]
          exact .inl (do_ln h (cO_fO h2) ho (n := rows.length) (.inr ⟨⟨_, hu⟩, .inr (.inl ⟨n, rows, ex, rfl⟩)⟩))
        · rename_i i ch lo n ex
          split at hv
          · rename_i q hlk
            cases hv
            rw [adds_nil hm]
            exact .inl (do_ln h (cO_fO h2) ho (n := n) (.inr ⟨⟨_, hu⟩, .inr (.inr ⟨i, ch, lo, ex, by rw [hlk]; simp⟩)⟩))
          · cases hv
        · cases hv
    · rename_i x y e1
      have ea : args = #[x, y] := by rw [← Array.toList_inj]; simpa using e1
      subst ea
      split at hc
      case h_2 => cases hc
      rename_i x1 y1 h1 h2
      cases hc
      simp only [evR] at hv
      split at hv
      · rename_i k p k' q ex ey
        split at hv
        · rename_i hk
          subst hk
          cases hv
          rw [adds_nil hm]
          exact .inl (do_mx h (cO_fO h1) (cO_fO h2) ho ex ey)
        · cases hv
      · cases hv
    · rename_i x y e1
      have ea : args = #[x, y] := by rw [← Array.toList_inj]; simpa using e1
      subst ea
      split at hc
      case h_2 => cases hc
      rename_i x1 y1 h1 h2
      cases hc
      simp only [evR] at hv
      split at hv
      · rename_i k p k' q ex ey
        split at hv
        · rename_i hk
          subst hk
          cases hv
          rw [adds_nil hm]
          exact .inl (do_mn h (cO_fO h1) (cO_fO h2) ho ex ey)
        · cases hv
      · cases hv
    · split at hc
      · split at hc
        · cases hc; cases hw
        · cases hc
      · cases hc
    · rename_i f
      split at hc
      case h_2 => cases hc
      rename_i f1 ys h1 h2
      cases hc
      simp only [evR] at hv
      split at hv
      · rename_i g caps ef
        exact do_ca h hcall (cO_fO h1) (cOs_fOs h2) ho ef hv hm
      · cases hv
    · cases hc
  case h_24 t x lo hi mx ho =>
    split at hc
    case h_2 => cases hc
    rename_i e x1 lo1 hi1 mx1 h1 h2 h3 h4 h5
    split at hc
    case isFalse => cases hc
    rename_i hz
    cases hc
    obtain ⟨n, hn⟩ := Option.isSome_iff_exists.1 hz
    obtain ⟨k1, rfl⟩ := noAdd_inv hv
    rw [adds_nil hm]
    exact .inl (do_s3 h (cO_fO h2) (cO?_fO? h3) (cO_fO h4) (cO_fO h5) ho h1 hn k1)
  case h_25 => cases hc
end
end Go.Proofs.YthnkioafikmmaaaDoor.Ev

namespace Go.Proofs.YthnkioafikmmaaaDoor.Ev
open Go
set_option linter.unusedVariables false
set_option linter.unusedSimpArgs false

def isSo : IOp → Bool
  | .so .. => true | _ => false

section
variable {P : Program} {ov : Ov} {S N : Nat → Prop} {G G0 : Gh} {m : Mem} {st : St} {a : Act} {w : World}

/-- what an operation that writes does -/
def Op2 (P : Program) (o : Oper) (a : Act) (w : World) (Φ : Option Value → World → Prop) : Prop :=
  ∃ w', ((execOp a.eval o).run P w = .ok .skip w' ∧ Φ none w') ∨ ∃ v, (execOp a.eval o).run P w = .ok (.value v) w' ∧ Φ (some v) w'

theorem evW_sound (h : SR ov S N G st a w) {o : Oper} {io : IOp} (hc : cOp P o.op = some io) {d : Nat} {v : LV} {m' : Mem} (hv : evW d st io = some (v, m')) :
    (∃ n x y, io = .so n x y) ∧ Writes P o a w (fun w' => NextW S N G st w .un m' undef w') ∨ isSo io = false ∧ Does P o a w (NextW S N G st w v m') := by
  unfold cOp at hc
  split at hc
  case h_9 t x y ho =>
    split at hc
    case h_2 => cases hc
    rename_i n x1 y1 h1 h2 h3
    cases hc
    refine .inl ⟨⟨_, _, _, rfl⟩, ?_⟩
    simp only [evW] at hv
    split at hv
    case h_2 => cases hv
    rename_i vs hu
    split at hv
    case isFalse => cases hv
    rename_i hcond
    split at hv
    · rename_i i off ex
      split at hv
      · rename_i cells hi
        split at hv
        · rename_i c hp
          cases hv
          exact do_so h (cO_fO h2) (cO_fO h3) ho h1 ex hi hu hcond.1 hcond.2 hp
        · cases hv
      · cases hv
    · rename_i i r c ex
      split at hv
      · rename_i e n0 rows xs hi hcells
        split at hv
        · rename_i row hrow
          split at hv
          · rename_i hle
            cases hv
            exact do_se h (cO_fO h2) (cO_fO h3) ho h1 ex hi hu hcond.1 hcond.2 hcells hrow hle
          · cases hv
        · cases hv
      · cases hv
    · cases hv
  case h_23 c ho =>
    obtain ⟨callee, args, ts⟩ := c
    unfold cCall at hc
    simp only at hc
    split at hc
    · split at hc
      · cases hc; cases hv
      · cases hc
    · split at hc
      · cases hc; cases hv
      · cases hc
    · split at hc
      · cases hc; cases hv
      · cases hc
    · rename_i x y t u e1 e2
      have ea : args = #[x, y] := by rw [← Array.toList_inj]; simpa using e1
      have et : ts = #[t, u] := by rw [← Array.toList_inj]; simpa using e2
      subst ea et
      split at hc
      case h_2 => cases hc
      rename_i e n z s e' x1 y1 h1 h2 h3 h4
      split at hc
      case isFalse => cases hc
      rename_i hse
      cases hc
      refine .inr ⟨rfl, ?_⟩
      obtain ⟨b, zv, q1, q2, q3, q4, q5, q6, q7, q8, q9⟩ := elT_inv h1
      obtain ⟨G2, h2', hall⟩ := exSt_SR h d x1
      suffices main : Does P o a w (NextW S N G2 (exSt d x1 st) w v m') by
        obtain ⟨v2, w2, r1, r2⟩ := main
        exact ⟨v2, w2, r1, r2.told hall⟩
      simp only [evW] at hv
      clear hall h
      generalize exSt d x1 st = st at hv h2' ⊢
      have h := h2'
      clear h2'
      simp only [apW] at hv
      split at hv
      case h_2 =>
        split at hv
        · cases hv
        rename_i hstr
        unfold apT at hv
        split at hv
        case h_2 => cases hv
        rename_i j lo cnt ey
        split at hv
        case h_2 => cases hv
        rename_i e2 n2 rowsj hj
        split at hv
        case isFalse => cases hv
        rename_i hcond
        obtain ⟨rfl, rfl, c1, c2, c3, c4⟩ := hcond
        have htx : P.underlying u = some (.slice e2) := by
          rcases tyOf_inv h2 with ⟨rfl, hu⟩ | ⟨rfl, hu⟩
          · exact absurd rfl hstr
          · have he : e' = e2 := by simpa using hse
            subst he; exact hu
        split at hv
        · rename_i ex
          split at hv
          case isFalse => cases hv
          rename_i hbig
          cases hv
          have := do_apT (P := P) h (cO_fO h3) (cO_fO h4) ho q1 htx q2 q3 q4 q5 q8 q9 (oi := none) (rows := []) (.inr ⟨rfl, ex, rfl⟩) ey hj c1 c2 c3 (by simpa using hbig) c4 rfl
          simpa using this
        · rename_i i lo2 k ex
          split at hv
          case h_2 => cases hv
          rename_i e3 n3 rows hi
          split at hv
          case isFalse => cases hv
          rename_i hcond
          obtain ⟨rfl, rfl, rfl, rfl, hbig, hij⟩ := hcond
          cases hv
          exact do_apT (P := P) h (cO_fO h3) (cO_fO h4) ho q1 htx q2 q3 q4 q5 q8 q9 (oi := some i) (.inl ⟨i, rfl, ex, hi, hij⟩) ey hj c1 c2 c3 hbig c4 rfl
        · cases hv
      rename_i more hsr hstr
      have htx : P.underlying u = some (srcT e (opd st.s y1)) := by
        rcases tyOf_inv h2 with ⟨rfl, hu⟩ | ⟨rfl, hu⟩
        · generalize opd st.s y1 = Y at hstr
          cases Y <;> simp at hstr
          simpa [srcT] using hu
        · have he : e' = e := by simpa using hse
          subst he
          generalize opd st.s y1 = Y at hstr
          cases Y <;> simp at hstr <;> simpa [srcT] using hu
      split at hv
      · rename_i ex
        split at hv
        case isFalse => cases hv
        rename_i hcond
        have main := do_ap_nil (P := P) h (cO_fO h3) (cO_fO h4) ho q1 htx q2 q3 q4 q5 q8 q9 ex hsr hcond.1 hcond.2
        obtain ⟨v1, w1, g1, g2⟩ := main
        split at hv <;> rename_i h0 <;> cases hv
        · simp only [h0, if_true] at g2
          exact ⟨v1, w1, g1, g2.toW h⟩
        · simp only [h0, if_false] at g2
          exact ⟨v1, w1, g1, g2.toW h⟩
      · rename_i i lo k ex
        split at hv
        case h_2 => cases hv
        rename_i e2 n2 rows hi
        split at hv
        case isFalse => cases hv
        rename_i hcond
        obtain ⟨rfl, rfl, rfl, rfl, c1, c2⟩ := hcond
        cases hv
        exact do_ap (P := P) h (cO_fO h3) (cO_fO h4) ho q1 htx q2 q3 q4 q5 q8 q9 ex hi hsr c1 c2
      · cases hv
    · split at hc
      · cases hc; cases hv
      · cases hc
    · cases hc
  all_goals first
    | (cases hc; done)
    | (rw [Option.map_eq_some_iff] at hc; obtain ⟨y, hy, rfl⟩ := hc; cases hv; done)
    | skip
  case h_7 t len ps ho =>
    split at hc
    case h_2 => cases hc
    rename_i e n z l' h1 h2
    split at hc
    case isFalse => cases hc
    rename_i hlen
    split at hc
    case isFalse => cases hc; cases hv
    cases hc
    obtain ⟨b, zv, q1, q2, q3, q4, q5, q6, q7, q8, q9⟩ := elT_inv h1
    simp only [evW] at hv
    split at hv
    case h_2 => cases hv
    rename_i rows hfl
    split at hv
    case isFalse => cases hv
    rename_i hcond
    split at hv
    case h_2 => cases hv
    rename_i m2 had
    cases hv
    exact .inr ⟨rfl, do_bsU h ho q1 q2 q5 q6 q7 (cPs_fPs h2) hlen q9 hcond.1 hfl hcond.2 had⟩
  case h_11 =>
    unfold cBin at hc
    repeat' split at hc
    all_goals (cases hc; try cases hv)
  all_goals (repeat' split at hc)
  all_goals (cases hc; try cases hv)
end

/-! ### one operation -/
section
variable {P : Program} {ov : Ov} {S N : Nat → Prop} {G G0 : Gh} {m : Mem} {st : St} {a : Act} {w : World}
theorem evSM_sound (h : SR ov S N G st a w) {o : Oper} {io : IOp} (hc : cOp P o.op = some io) {st' : St} (hv : evSM st io = some st') :
    Writes P o a w (fun w' => (∃ G', Inv S N G' st'.m w' ∧ ∀ t, R G' S st'.m w' (st'.s t) (slotV ov a t) ∧ wf st'.m (st'.s t)) ∧ FrN N w w') := by
  unfold cOp at hc
  split at hc
  case h_9 t x y ho =>
    split at hc
    case h_2 => cases hc
    rename_i n x1 y1 h1 h2 h3
    cases hc
    simp only [evSM] at hv
    split at hv
    case h_2 => cases hv
    rename_i vs i r c hu ex
    split at hv
    case isFalse => cases hv
    rename_i hcond
    split at hv
    case h_2 => cases hv
    rename_i e n0 rows xs hi hcells
    split at hv
    case h_2 => cases hv
    rename_i row hrow
    split at hv
    case isFalse => cases hv
    rename_i hle
    split at hv
    case h_2 => cases hv
    rename_i m' ha
    cases hv
    obtain ⟨w', hr, ⟨G', g1, g2⟩, g3⟩ := do_sm (P := P) h (cO_fO h2) (cO_fO h3) ho h1 ex hi hu hcond.1 hcond.2 hcells hrow hle ha
    exact ⟨w', hr, ⟨G', g1, fun t => g2 _ _ (h.slot t).1 (h.slot t).2⟩, g3⟩
  case h_23 c ho =>
    obtain ⟨callee, args, ts⟩ := c
    unfold cCall at hc
    simp only at hc
    repeat' split at hc
    all_goals (cases hc; try cases hv)
  all_goals first
    | (cases hc; done)
    | (rw [Option.map_eq_some_iff] at hc; obtain ⟨y, hy, rfl⟩ := hc; cases hv; done)
    | skip
  case h_11 =>
    unfold cBin at hc
    repeat' split at hc
    all_goals (cases hc; try cases hv)
  all_goals (repeat' split at hc)
  all_goals (cases hc; try cases hv)

end
def dstOf (ops : Array Oper) (g : Nat) : Option Nat := (ops[g]?).bind (·.dst)
def cGuard (ops : Array Oper) : Option (Nat × Bool) → Option (Option (Nat × Bool))
  | none => some none
  | some (g, want) => match dstOf ops g with | some t => if t < 100000 then some (some (t, want)) else none | none => none
def cIO (P : Program) (nt : Nat) (ops : Array Oper) (o : Oper) : Option OpI :=
  match cOp P o.op, cGuard ops o.guard with
  | some io, some g =>
    match o.dst with
    | some d => if d < nt ∧ isSo io = false then some ⟨d, io, g, false⟩ else none
    | none => if isSo io = true then some ⟨1, io, g, true⟩ else none
  | _, _ => none

def evD (call : CallF) (io : OpI) (st : St) : Option St :=
  match io.w with
  | true => match evW io.d st io.op with | some (_, m') => some ⟨st.s, m'⟩ | none => if io.d = 1 then evSM st io.op else none
  | false =>
    match isW io.op with
    | true => (match evW io.d st io.op with | some (v, m') => some ⟨updS st.s io.d v, m'⟩ | none => none)
    | false =>
      match evR call io.d st io.op with
      | some (v, l) => (match adds st.m l with | some m' => some ⟨updS st.s io.d v, m'⟩ | none => none)
      | none => none
def evSkip (io : OpI) (st : St) : St := match io.w with | true => st | false => ⟨updS st.s io.d (.tu []), st.m⟩
def evO (call : CallF) (io : OpI) (st : St) : Option St :=
  match io.g with
  | none => evD call io st
  | some (t, want) =>
    match st.s t with
    | .sc (.bool b) => if b = want then evD call io st else some (evSkip io st)
    | .tu [] => some (evSkip io st)
    | _ => none
def evL (call : CallF) : List OpI → St → Option St
  | [], st => some st
  | x :: l, st => match evO call x st with | some st' => evL call l st' | none => none

/-- what is known of the functions that are called -/
def CallOk (T : Tab) (P : Program) (call : CallF) : Prop := ∀ g args r, call g args = some (r, []) → enterOk P g = true ∧ small r = true ∧ Contract T P g args r

structure SA (nt : Nat) (ov : Ov) (S N : Nat → Prop) (G : Gh) (st : St) (a : Act) (w : World) : Prop extends SR ov S N G st a w where
  size : a.tmps.size = nt
  few : nt ≤ 100000

section
variable {P : Program} {ov : Ov} {S N : Nat → Prop} {G G0 : Gh} {m : Mem} {st st' : St} {a : Act} {w : World} {nt : Nat} {ops : Array Oper}

theorem SA.put (h : SA nt ov S N G st a w) {G' : Gh} {m' : Mem} {w' : World} {d : Nat} {v : LV} {v' : Value} (hd : d < nt) (h1 : Inv S N G' m' w') (h2 : ∀ x u, R G S st.m w x u → wf st.m x → R G' S m' w' x u ∧ wf m' x)
    (h3 : R G' S m' w' v v') (h4 : wf m' v) (h5 : FrN N w w') : SA nt ov S N G' ⟨updS st.s d v, m'⟩ (a.put (some d) v') w' := by
  refine ⟨⟨h1, fun t => ?_, h.df, fun b hb => h.new b (Nat.le_trans h5.size hb), h.tb.fr h5⟩, by simp [Act.put, h.size], h.few⟩
  by_cases ht : t = d
  · subst ht
    have : slotV ov (a.put (some t) v') t = v' := by
      have hlt : t < a.tmps.size := by rw [h.size]; exact hd
      rw [slotV_lt (by have := h.few; omega)]
      simp [Act.put, hlt]
    rw [this]
    simp only [updS, if_true]
    exact ⟨h3, h4⟩
  · have : slotV ov (a.put (some d) v') t = slotV ov a t := by
      simp [slotV, Act.put, Array.getElem?_setIfInBounds_ne (Ne.symm ht)]
    rw [this]
    simp only [updS, if_neg ht]
    obtain ⟨q1, q2⟩ := h.slot t
    exact h2 _ _ q1 q2

theorem SA.undef (h : SA nt ov S N G st a w) {d : Nat} (hd : d < nt) : SA nt ov S N G ⟨updS st.s d (.tu []), st.m⟩ (a.put (some d) undef) w :=
  h.put hd h.inv (fun x u hx hw => ⟨hx, hw⟩) ⟨#[], rfl, rfl, fun k x hk => by simp at hk⟩ (fun x hx => by simp at hx) (FrN.refl _ _)

theorem SA.mem (h : SA nt ov S N G st a w) {G' : Gh} {m' : Mem} {w' : World} (h1 : Inv S N G' m' w') (h2 : ∀ x u, R G S st.m w x u → wf st.m x → R G' S m' w' x u ∧ wf m' x) (h5 : FrN N w w') : SA nt ov S N G' ⟨st.s, m'⟩ a w' :=
  ⟨⟨h1, fun t => let ⟨q1, q2⟩ := h.slot t; h2 _ _ q1 q2, h.df, fun b hb => h.new b (Nat.le_trans h5.size hb), h.tb.fr h5⟩, h.size, h.few⟩

/-- an operation that runs: what is behind it -/
theorem evD_does (h : SA nt ov S N G st a w) {call : CallF} (hcall : CallOk ov.tb P call) {o : Oper} {io : OpI} (hc : cIO P nt ops o = some io) (hv : evD call io st = some st') :
    (∃ w', (execOp a.eval o).run P w = .ok .skip w' ∧ (∃ G', SA nt ov S N G' st' (a.put o.dst undef) w') ∧ FrN N w w') ∨
    Op1 P o a w (fun v w' => (∃ G', SA nt ov S N G' st' (a.put o.dst v) w') ∧ FrN N w w') := by
  unfold cIO at hc
  split at hc
  case h_2 => cases hc
  rename_i iop g h1 h2
  split at hc
  · rename_i d hd
    split at hc
    case isFalse => cases hc
    rename_i hcond
    cases hc
    simp only [evD] at hv
    rw [hd]
    split at hv
    · rename_i hw
      split at hv
      case h_2 => cases hv
      rename_i v m' he
      cases hv
      rcases evW_sound h.toSR h1 he with ⟨⟨n, x, y, hio⟩, _⟩ | ⟨_, v', w', hr, G', g1, g2, g3, g4, g5⟩
      · rw [hio] at hcond; cases hcond.2
      · exact .inr (.inl ⟨v', w', hr, ⟨G', h.put hcond.1 g1 g2 g3 g4 g5⟩, g5⟩)
    · rename_i hw
      split at hv
      case h_2 => cases hv
      rename_i v l he
      split at hv
      case h_2 => cases hv
      rename_i m' ha
      cases hv
      rcases evR_sound h.toSR hcall h1 hw he ha with ⟨v', w', hr, hn⟩ | ⟨f, vals, hr, hcl⟩
      · obtain ⟨G', g1, g2, g3, g4, g5⟩ := hn.toW h.toSR
        exact .inr (.inl ⟨v', w', hr, ⟨G', h.put hcond.1 g1 g2 g3 g4 g5⟩, g5⟩)
      · refine .inr (.inr ⟨f, vals, hr, Calls.mono hcl fun e w' => ?_⟩)
        rintro ⟨v', rfl, hn⟩
        obtain ⟨G', g1, g2, g3, g4, g5⟩ := Next.toW h.toSR hn
        exact ⟨v', rfl, ⟨G', h.put hcond.1 g1 g2 g3 g4 g5⟩, g5⟩
  · rename_i hd
    split at hc
    case isFalse => cases hc
    rename_i hso
    cases hc
    simp only [evD] at hv
    rw [hd]
    split at hv
    · rename_i v m' he
      cases hv
      rcases evW_sound h.toSR h1 he with ⟨_, w', hr, G', g1, g2, g3, g4, g5⟩ | ⟨hns, _⟩
      · exact .inl ⟨w', hr, ⟨G', h.mem g1 g2 g5⟩, g5⟩
      · rw [hns] at hso; cases hso
    · simp only [if_true] at hv
      obtain ⟨w', hr, ⟨G', g1, g2⟩, g3⟩ := evSM_sound h.toSR h1 hv
      exact .inl ⟨w', hr, ⟨G', ⟨⟨g1, g2, h.df, fun b hb => h.new b (Nat.le_trans g3.size hb), h.tb.fr g3⟩, h.size, h.few⟩⟩, g3⟩

theorem yielded_of {g t : Nat} (h : dstOf ops g = some t) (tmps : Array Value) : yielded ops tmps g = match tmps[t]? with | some (.bool b) => some b | _ => none := by
  unfold dstOf at h
  unfold yielded
  rw [h]
  rfl

/-- an operation, run or passed over -/
theorem evO_cases (h : SA nt ov S N G st a w) {call : CallF} {o : Oper} {io : OpI} (hc : cIO P nt ops o = some io) (hv : evO call io st = some st') :
    (Region.wanted o (yielded ops a.tmps) = true ∧ evD call io st = some st') ∨ (Region.wanted o (yielded ops a.tmps) = false ∧ SA nt ov S N G st' (a.put o.dst undef) w) := by
  have hc' := hc
  unfold cIO at hc
  split at hc
  case h_2 => cases hc
  rename_i iop g h1 h2
  have hg : io.g = g := by
    split at hc <;> split at hc <;> cases hc <;> rfl
  have hskip : SA nt ov S N G (evSkip io st) (a.put o.dst undef) w := by
    split at hc
    · rename_i d hd
      split at hc
      case isFalse => cases hc
      rename_i hcond
      cases hc
      rw [hd]
      exact h.undef hcond.1
    · rename_i hd
      split at hc
      case isFalse => cases hc
      cases hc
      rw [hd]
      exact h
  unfold evO at hv
  rw [hg] at hv
  unfold cGuard at h2
  split at h2
  · rename_i hgn
    cases h2
    exact .inl ⟨by simp [Region.wanted, hgn], hv⟩
  · rename_i j want hgs
    split at h2
    case h_2 => cases h2
    rename_i t ht
    split at h2
    case isFalse => cases h2
    rename_i htn
    cases h2
    simp only at hv
    obtain ⟨q1, q2⟩ := h.slot t
    rw [slotV_lt htn] at q1
    have hy := yielded_of ht a.tmps
    split at hv
    · rename_i b hb
      rw [hb] at q1
      have e1 : a.tmps[t]? = some (.bool b) := by
        simp only [R, R1, R0, ScR] at q1
        cases hq : a.tmps[t]? with
        | none => simp [hq, undef] at q1
        | some z => simp [hq] at q1; rw [q1.1]
      rw [e1] at hy
      simp only at hy
      split at hv
      · rename_i hbw
        exact .inl ⟨by simp [Region.wanted, hgs, hy, hbw], hv⟩
      · rename_i hbw
        cases hv
        refine .inr ⟨?_, hskip⟩
        simp [Region.wanted, hgs, hy, hbw]
    · rename_i hb
      cases hv
      rw [hb] at q1
      obtain ⟨cs, e1, q3, _⟩ := q1
      refine .inr ⟨?_, hskip⟩
      have : yielded ops a.tmps j = none := by
        rw [hy]
        cases hq : a.tmps[t]? with
        | none => rfl
        | some z => simp [hq] at e1; subst e1; rfl
      simp [Region.wanted, hgs, this]
    · cases hv

theorem evO_wpOp (h : SA nt ov S N G st a w) {call : CallF} (hcall : CallOk ov.tb P call) {i : Nat} {o : Oper} (hi : ops[i]? = some o) {io : OpI} (hc : cIO P nt ops o = some io) (hv : evO call io st = some st')
    {K : Act → World → Prop} {Q : Exit → Act → World → Prop} (hK : ∀ G' a' w', SA nt ov S N G' st' a' w' → FrN N w w' → K a' w') : wpOp P ops Q i K a w := by
  unfold wpOp
  simp only [hi]
  rcases evO_cases h hc hv with ⟨hw, hd⟩ | ⟨hw, hs⟩
  · rw [if_pos hw]
    left
    rcases evD_does h hcall hc hd with ⟨w', hr, ⟨G', hs⟩, hf⟩ | hop
    · unfold Oper.wp; rw [hr]; exact hK G' _ w' hs hf
    · exact hop.wp fun v w' ⟨⟨G', hs⟩, hf⟩ => hK G' _ w' hs hf
  · rw [if_neg (by simp [hw])]
    exact hK G _ w hs (FrN.refl _ _)

/-- the state behind an operation stands for something -/
theorem evO_ok (h : SA nt ov S N G st a w) {call : CallF} (hcall : CallOk ov.tb P call) {o : Oper} {io : OpI} (hc : cIO P nt ops o = some io) (hv : evO call io st = some st') : ∃ G' a' w', SA nt ov S N G' st' a' w' := by
  rcases evO_cases h hc hv with ⟨hw, hd⟩ | ⟨hw, hs⟩
  · rcases evD_does h hcall hc hd with ⟨w', hr, ⟨G', hs⟩, hf⟩ | ⟨v, w', hr, ⟨G', hs⟩, hf⟩ | ⟨f, vals, hr, hcl⟩
    · exact ⟨G', _, w', hs⟩
    · exact ⟨G', _, w', hs⟩
    · obtain ⟨e, w', fr, hR, _⟩ := hcl []
      obtain ⟨v, rfl, ⟨G', hs⟩, hf⟩ := hR
      exact ⟨G', _, w', hs⟩
  · exact ⟨G, _, w, hs⟩
end
end Go.Proofs.YthnkioafikmmaaaDoor.Ev
