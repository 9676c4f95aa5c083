/- Steps of the simpler machine, as equations. -/
import Derived.Test.YthnkioafikmmaaaDoorEvZ
namespace Go.Proofs.YthnkioafikmmaaaDoor.Ev
open Go
set_option linter.unusedVariables false
set_option linter.unusedSimpArgs false

def arX (op : BinOp) (b : Bool) (X Y : LV) : Option LV := if isBool X = b then arL op X Y else none
def eqX (neg : Bool) (ks : List Nat) : LV → LV → Option LV
  | .ag xs, .ag ys => match (if kindsOk ks xs = true then eqL xs ys else none) with | some b => some (.sc (.bool (if neg = true then !b else b))) | none => none
  | _, _ => none
def ngX : LV → Option LV
  | .sc (.int k n) => some (.sc (.int k (k.wrap (0 - n)))) | _ => none
def ntX : LV → Option LV
  | .sc (.bool b) => some (.sc (.bool (!b))) | _ => none
def cvX (k : IntKind) : LV → Option LV
  | .sc (.int _ n) => some (.sc (.int k (k.wrap n))) | _ => none
def ncX (m : Mem) : LV → Option LV
  | .bp i o => (match m i with | some (.box _) => some (.bp i o) | _ => none)
  | .ep i ch r c => (match look m i ch with | some _ => some (.ep i ch r c) | none => none)
  | .rp vs => some (.rp vs) | .cl f vs => some (.cl f vs) | _ => none
def faX (m : Mem) (off : Nat) : LV → Option LV
  | .bp i o => (match m i with | some (.box _) => some (.bp i (o + off)) | _ => none)
  | .ep i ch r c => (match look m i ch with | some _ => some (.ep i ch r (c + off)) | none => none)
  | .rp vs => if off < vs.length then some (.rp (vs.drop off)) else none
  | _ => none
def fdX (off n : Nat) (g : Bool) : LV → Option LV
  | .ag vs => if off + n ≤ vs.length then pack g ((vs.drop off).take n) else none | _ => none
def iaX (m : Mem) (n0 : Nat) : LV → LV → Option LV
  | .rf j ch lo n, .sc (.int _ k) =>
    (match look m j ch with
    | some (_, n1, _) => if n1 = n0 ∧ 0 ≤ k ∧ k < (n : Int) then some (.ep j ch (lo + k.toNat) 0) else none
    | none => none)
  | .ro n1 rows, .sc (.int _ k) => if n1 = n0 ∧ 0 ≤ k then (match rows[k.toNat]? with | some row => some (.rp (row.map roC)) | none => none) else none
  | _, _ => none
def xtX (k : Nat) : LV → Option LV
  | .tu vs => vs[k]? | _ => none
def lnX (m : Mem) (str : Bool) (X : LV) : Option LV :=
  match str with
  | true => (match X with | .sc (.string b) => some (.sc (.int .i64 b.size)) | _ => none)
  | false =>
    match X with
    | .nl => some (.sc (.int .i64 0))
    | .ro _ rows => some (.sc (.int .i64 rows.length))
    | .rf i ch _ n => (match look m i ch with | some _ => some (.sc (.int .i64 n)) | none => none)
    | _ => none
def mxX : LV → LV → Option LV
  | .sc (.int k a), .sc (.int k' b) => if k = k' then some (.sc (.int k (if a < b then b else a))) else none | _, _ => none
def mnX : LV → LV → Option LV
  | .sc (.int k a), .sc (.int k' b) => if k = k' then some (.sc (.int k (if b < a then b else a))) else none | _, _ => none
def ixX : LV → LV → Option LV
  | .sc (.string b), .sc (.int _ k) => if 0 ≤ k then (match b.data.toList[k.toNat]? with | some u => some (.sc (.int .u8 u.toNat)) | none => none) else none
  | _, _ => none
def mfX (f : Nat) (vs : List LV) : Option LV := if vs.all plainB = true then some (.cl f vs) else none
def bxX (X : LV) : Option (List LV) := match unpack X with | some vs => if vs.all plainB = true then some vs else none | none => none
def byX (m : Mem) (X : LV) : Option LV :=
  match snap0 m X with
  | some (.ro 1 rows) => (match numsOf rows with | some l => some (.sc (.string (strOfNums l))) | none => none)
  | some .nl => some (.sc (.string .empty))
  | _ => none
def natX (X : LV) : Option Nat := match natOf X with | some k => if k ≤ big then some k else none | none => none
def snapL (m : Mem) : List LV → Option (List LV)
  | [] => some []
  | x :: xs => match snap m x, snapL m xs with | some y, some ys => some (y :: ys) | _, _ => none
theorem snapL_eq (m : Mem) : ∀ l : List LV, l.mapM (snap m) = snapL m l := by
  intro l
  induction l with
  | nil => rfl
  | cons x xs ih =>
    simp only [List.mapM_cons, snapL, ih]
    cases snap m x <;> cases snapL m xs <;> rfl
def retX (d : Nat) (m : Mem) (own : Bool) : Option (LV × List LV) → Option (LV × Mem)
  | some (r, []) => if (roB r && own) = true then none else match adds m (openV (.rs d) r).2 with | some m' => some ((openV (.rs d) r).1, m') | none => none
  | _ => none
def caX (call : CallF) (m : Mem) (d : Nat) : LV → List LV → Option (LV × Mem)
  | .cl g caps, xs => match snapL m (xs ++ caps) with | some ys => retX d m ((xs ++ caps).any ownB) (call g ys) | none => none
  | _, _ => none
theorem caX_eq {call : CallF} {m : Mem} {d g : Nat} {caps xs : List LV} : caX call m d (.cl g caps) xs = match callR call m d g (xs ++ caps) with | some (v, l) => (match adds m l with | some m' => some (v, m') | none => none) | none => none := by
  simp only [caX, callR, snapL_eq]
  cases snapL m (xs ++ caps) with
  | none => rfl
  | some ys =>
    simp only []
    cases call g ys with
    | none => rfl
    | some p =>
      obtain ⟨r, outs⟩ := p
      cases outs with
      | cons _ _ => rfl
      | nil =>
        simp only [retX]
        by_cases hc : (roB r && (xs ++ caps).any ownB) = true
        · rw [if_pos hc, if_pos hc]
        · rw [if_neg hc, if_neg hc]
theorem retX_sc {d : Nat} {m : Mem} {own : Bool} {v : Value} : retX d m own (some (.sc v, [])) = some (.sc v, m) := rfl
theorem retX_flat {d : Nat} {m : Mem} {own : Bool} {r : LV} (h1 : roB r = false) (h2 : (openV (.rs d) r).2 = []) : retX d m own (some (r, [])) = some ((openV (.rs d) r).1, m) := by
  simp only [retX, h1, h2, Bool.false_and]; rfl
theorem retX_nl {d : Nat} {m : Mem} {own : Bool} : retX d m own (some (.nl, [])) = some (.nl, m) := rfl
def soX (m : Mem) (n : Nat) (X : LV) (vs : List LV) : Option Mem :=
  if vs.length = n ∧ vs.all plainB = true then
    match X with
    | .bp i off => (match m i with | some (.box cells) => (match putL cells off vs with | some c => some (updM m i (some (.box c))) | none => none) | _ => none)
    | .ep i none r c =>
      (match m i, vs.mapM toCell with
      | some (.arr e n0 rows), some xs => (match rows[r]? with | some row => if c + n ≤ row.length then some (updM m i (some (.arr e n0 (rows.set r (row.take c ++ xs ++ row.drop (c + n)))))) else none | none => none)
      | _, _ => none)
    | _ => none
  else none

def bwX (m : Mem) (s : Nat → LV) (d e n : Nat) (z : List Cell) (len : Nat) (ps : List (Nat × Opd)) : Option Mem :=
  match fillU m s n (List.replicate len z) ps with
  | some rows => if (ps.map (·.1)).Nodup ∧ m (.op d) = none then adoptAll (updM m (.op d) (some (.arr e n rows))) (.op d) (adsOf s ps) else none
  | none => none
section
variable {call : CallF} {d t : Nat} {s : Nat → LV} {m : Mem} {l : List OpI} {x y : Opd}
theorem st_bw {e n len : Nat} {z : List Cell} {ps : List (Nat × Opd)} (h : (bwX m s d e n z len ps).isSome = true) :
    evL call (⟨d, .bw e n z len ps, none, false⟩ :: l) ⟨s, m⟩ = evL call l ⟨updS s d (.rf (.op d) none 0 len), (bwX m s d e n z len ps).getD m⟩ := by
  have key : evW d ⟨s, m⟩ (.bw e n z len ps) = match bwX m s d e n z len ps with | some m' => some (.rf (.op d) none 0 len, m') | none => none := by
    simp only [evW, bwX]
    cases fillU m s n (List.replicate len z) ps with
    | none => rfl
    | some rows =>
      simp only []
      split <;> rfl
  simp only [evL, evO, evD, isW, key]
  cases hb : bwX m s d e n z len ps with
  | none => rw [hb] at h; cases h
  | some m' => rfl
theorem st_ap {e n : Nat} {str : Bool} (h : (apW (exSt d x ⟨s, m⟩).m d e n str (Ev.opd (exSt d x ⟨s, m⟩).s x) (Ev.opd (exSt d x ⟨s, m⟩).s y)).isSome = true) :
    evL call (⟨d, .ap e n str x y, none, false⟩ :: l) ⟨s, m⟩ = evL call l ⟨updS s d ((apW (exSt d x ⟨s, m⟩).m d e n str (Ev.opd (exSt d x ⟨s, m⟩).s x) (Ev.opd (exSt d x ⟨s, m⟩).s y)).getD (.un, m)).1, ((apW (exSt d x ⟨s, m⟩).m d e n str (Ev.opd (exSt d x ⟨s, m⟩).s x) (Ev.opd (exSt d x ⟨s, m⟩).s y)).getD (.un, m)).2⟩ := by
  have key : evW d ⟨s, m⟩ (.ap e n str x y) = apW (exSt d x ⟨s, m⟩).m d e n str (Ev.opd (exSt d x ⟨s, m⟩).s x) (Ev.opd (exSt d x ⟨s, m⟩).s y) := rfl
  simp only [evL, evO, evD, isW, key]
  cases hb : apW (exSt d x ⟨s, m⟩).m d e n str (Ev.opd (exSt d x ⟨s, m⟩).s x) (Ev.opd (exSt d x ⟨s, m⟩).s y) with
  | none => rw [hb] at h; cases h
  | some p => rfl

theorem st_nil {st : St} : evL call [] st = some st := rfl
theorem gd_run {op : IOp} {w want : Bool} (h : s t = .sc (.bool want)) : evL call (⟨d, op, some (t, want), w⟩ :: l) ⟨s, m⟩ = evL call (⟨d, op, none, w⟩ :: l) ⟨s, m⟩ := by
  simp only [evL, evO, h, if_true]; rfl
theorem gd_not {op : IOp} {want : Bool} (h : s t = .sc (.bool (!want))) : evL call (⟨d, op, some (t, want), false⟩ :: l) ⟨s, m⟩ = evL call l ⟨updS s d (.tu []), m⟩ := by
  simp only [evL, evO, h]; cases want <;> rfl
theorem gd_un {op : IOp} {want : Bool} (h : s t = .tu []) : evL call (⟨d, op, some (t, want), false⟩ :: l) ⟨s, m⟩ = evL call l ⟨updS s d (.tu []), m⟩ := by
  simp only [evL, evO, h]; rfl
theorem gd_notW {op : IOp} {want : Bool} (h : s t = .sc (.bool (!want))) : evL call (⟨d, op, some (t, want), true⟩ :: l) ⟨s, m⟩ = evL call l ⟨s, m⟩ := by
  simp only [evL, evO, h]; cases want <;> rfl
theorem gd_unW {op : IOp} {want : Bool} (h : s t = .tu []) : evL call (⟨d, op, some (t, want), true⟩ :: l) ⟨s, m⟩ = evL call l ⟨s, m⟩ := by
  simp only [evL, evO, h]; rfl

theorem st_mv : evL call (⟨d, .mv x, none, false⟩ :: l) ⟨s, m⟩ = evL call l ⟨updS s d (Ev.opd s x), m⟩ := rfl
theorem pk_t {a b : Opd} (h : Ev.opd s x = .sc (.bool true)) : evL call (⟨d, .pk x a b, none, false⟩ :: l) ⟨s, m⟩ = evL call l ⟨updS s d (Ev.opd s a), m⟩ := by
  simp only [evL, evO, evD, isW, evR, h, if_true]; rfl
theorem pk_f {a b : Opd} (h : Ev.opd s x = .sc (.bool false)) : evL call (⟨d, .pk x a b, none, false⟩ :: l) ⟨s, m⟩ = evL call l ⟨updS s d (Ev.opd s b), m⟩ := by
  simp only [evL, evO, evD, isW, evR, h]; rfl

/-- a value that comes of slots and memory alone -/
theorem st_one {op : IOp} {r : Option LV} (hw : isW op = false) (hr : evR call d ⟨s, m⟩ op = noAdd r) (h : r.isSome = true) : evL call (⟨d, op, none, false⟩ :: l) ⟨s, m⟩ = evL call l ⟨updS s d (r.getD .un), m⟩ := by
  cases r with
  | none => cases h
  | some v => simp only [evL, evO, evD, hw, hr, noAdd, adds]; rfl
theorem st_ar {op : BinOp} {b : Bool} (h : (arX op b (Ev.opd s x) (Ev.opd s y)).isSome = true) : evL call (⟨d, .ar op b x y, none, false⟩ :: l) ⟨s, m⟩ = evL call l ⟨updS s d ((arX op b (Ev.opd s x) (Ev.opd s y)).getD .un), m⟩ :=
  st_one rfl (by simp only [evR, arX]; (split <;> simp_all [noAdd])) h
theorem st_eq {neg : Bool} {ks : List Nat} (h : (eqX neg ks (Ev.opd s x) (Ev.opd s y)).isSome = true) : evL call (⟨d, .eq neg ks x y, none, false⟩ :: l) ⟨s, m⟩ = evL call l ⟨updS s d ((eqX neg ks (Ev.opd s x) (Ev.opd s y)).getD .un), m⟩ :=
  st_one rfl (by
    simp only [evR]
    generalize Ev.opd s x = X
    generalize Ev.opd s y = Y
    cases X <;> cases Y <;> try rfl
    rename_i xs ys
    simp only [eqX]
    cases (if kindsOk ks xs = true then eqL xs ys else none) <;> rfl) h
theorem st_ng (h : (ngX (Ev.opd s x)).isSome = true) : evL call (⟨d, .ng x, none, false⟩ :: l) ⟨s, m⟩ = evL call l ⟨updS s d ((ngX (Ev.opd s x)).getD .un), m⟩ :=
  st_one rfl (by
    simp only [evR]
    generalize Ev.opd s x = X
    cases X <;> try rfl
    rename_i v; cases v <;> rfl) h
theorem st_nt (h : (ntX (Ev.opd s x)).isSome = true) : evL call (⟨d, .nt x, none, false⟩ :: l) ⟨s, m⟩ = evL call l ⟨updS s d ((ntX (Ev.opd s x)).getD .un), m⟩ :=
  st_one rfl (by
    simp only [evR]
    generalize Ev.opd s x = X
    cases X <;> try rfl
    rename_i v; cases v <;> rfl) h
theorem st_cv {k : IntKind} (h : (cvX k (Ev.opd s x)).isSome = true) : evL call (⟨d, .cv k x, none, false⟩ :: l) ⟨s, m⟩ = evL call l ⟨updS s d ((cvX k (Ev.opd s x)).getD .un), m⟩ :=
  st_one rfl (by
    simp only [evR]
    generalize Ev.opd s x = X
    cases X <;> try rfl
    rename_i v; cases v <;> rfl) h
theorem st_ld {n : Nat} {g : Bool} (h : (loadAt m n g (Ev.opd s x)).isSome = true) : evL call (⟨d, .ld n g x, none, false⟩ :: l) ⟨s, m⟩ = evL call l ⟨updS s d ((loadAt m n g (Ev.opd s x)).getD .un), m⟩ :=
  st_one rfl rfl h
theorem st_nc (h : (ncX m (Ev.opd s x)).isSome = true) : evL call (⟨d, .nc x, none, false⟩ :: l) ⟨s, m⟩ = evL call l ⟨updS s d ((ncX m (Ev.opd s x)).getD .un), m⟩ :=
  st_one rfl (by
    simp only [evR]
    generalize Ev.opd s x = X
    cases X <;> try rfl
    · simp only [ncX]; (split <;> simp_all [noAdd])
    · simp only [ncX]; (split <;> simp_all [noAdd])) h
theorem st_fa {off : Nat} (h : (faX m off (Ev.opd s x)).isSome = true) : evL call (⟨d, .fa off x, none, false⟩ :: l) ⟨s, m⟩ = evL call l ⟨updS s d ((faX m off (Ev.opd s x)).getD .un), m⟩ :=
  st_one rfl (by
    simp only [evR]
    generalize Ev.opd s x = X
    cases X <;> try rfl
    · simp only [faX]; (split <;> simp_all [noAdd])
    · simp only [faX]; (split <;> simp_all [noAdd])
    · simp only [faX]; (split <;> simp_all [noAdd])) h
theorem st_fd {off n : Nat} {g : Bool} (h : (fdX off n g (Ev.opd s x)).isSome = true) : evL call (⟨d, .fd off n g x, none, false⟩ :: l) ⟨s, m⟩ = evL call l ⟨updS s d ((fdX off n g (Ev.opd s x)).getD .un), m⟩ :=
  st_one rfl (by
    simp only [evR]
    generalize Ev.opd s x = X
    cases X <;> try rfl
    simp only [fdX]; (split <;> simp_all [noAdd])) h
theorem st_ia {n0 : Nat} (h : (iaX m n0 (Ev.opd s x) (Ev.opd s y)).isSome = true) : evL call (⟨d, .ia n0 x y, none, false⟩ :: l) ⟨s, m⟩ = evL call l ⟨updS s d ((iaX m n0 (Ev.opd s x) (Ev.opd s y)).getD .un), m⟩ :=
  st_one rfl (by
    simp only [evR]
    generalize Ev.opd s x = X
    generalize Ev.opd s y = Y
    cases X <;> cases Y <;> try rfl
    · rename_i n1 rows v; cases v <;> try rfl
      rename_i kk k
      simp only [iaX]
      by_cases hc : n1 = n0 ∧ 0 ≤ k
      · rw [if_pos hc, if_pos hc]; cases rows[k.toNat]? <;> rfl
      · rw [if_neg hc, if_neg hc]; rfl
    · rename_i j ch lo n v; cases v <;> try rfl
      rename_i kk k
      simp only [iaX]
      cases look m j ch with
      | none => rfl
      | some q =>
        obtain ⟨e, n1, rows⟩ := q
        simp only []
        by_cases hc : n1 = n0 ∧ 0 ≤ k ∧ k < (n : Int)
        · rw [if_pos hc, if_pos hc]; rfl
        · rw [if_neg hc, if_neg hc]; rfl) h
theorem st_ix (h : (ixX (Ev.opd s x) (Ev.opd s y)).isSome = true) : evL call (⟨d, .ix x y, none, false⟩ :: l) ⟨s, m⟩ = evL call l ⟨updS s d ((ixX (Ev.opd s x) (Ev.opd s y)).getD .un), m⟩ :=
  st_one rfl (by
    simp only [evR]
    generalize Ev.opd s x = X
    generalize Ev.opd s y = Y
    cases X <;> try rfl
    rename_i u
    cases u <;> cases Y <;> try rfl
    all_goals (rename_i v; cases v <;> try rfl)
    rename_i b kk k
    simp only [ixX]
    by_cases hc : 0 ≤ k
    · rw [if_pos hc, if_pos hc]; cases b.data.toList[k.toNat]? <;> rfl
    · rw [if_neg hc, if_neg hc]; rfl) h
theorem st_xt {k : Nat} (h : (xtX k (Ev.opd s x)).isSome = true) : evL call (⟨d, .xt x k, none, false⟩ :: l) ⟨s, m⟩ = evL call l ⟨updS s d ((xtX k (Ev.opd s x)).getD .un), m⟩ :=
  st_one rfl (by
    simp only [evR]
    generalize Ev.opd s x = X
    cases X <;> rfl) h
theorem st_ln {str : Bool} (h : (lnX m str (Ev.opd s x)).isSome = true) : evL call (⟨d, .ln str x, none, false⟩ :: l) ⟨s, m⟩ = evL call l ⟨updS s d ((lnX m str (Ev.opd s x)).getD .un), m⟩ :=
  st_one rfl (by
    cases str <;> simp only [evR] <;> generalize Ev.opd s x = X <;> cases X <;> try rfl
    · simp only [lnX]; (split <;> simp_all [noAdd])
    · rename_i v; cases v <;> rfl) h
theorem st_mx (h : (mxX (Ev.opd s x) (Ev.opd s y)).isSome = true) : evL call (⟨d, .mx x y, none, false⟩ :: l) ⟨s, m⟩ = evL call l ⟨updS s d ((mxX (Ev.opd s x) (Ev.opd s y)).getD .un), m⟩ :=
  st_one rfl (by
    simp only [evR]
    generalize Ev.opd s x = X
    generalize Ev.opd s y = Y
    cases X <;> try rfl
    rename_i u
    cases u <;> cases Y <;> try rfl
    all_goals (rename_i v; cases v <;> try rfl)
    rename_i k a k' b
    simp only [mxX]
    by_cases hc : k = k'
    · rw [if_pos hc, if_pos hc]; rfl
    · rw [if_neg hc, if_neg hc]; rfl) h
theorem st_mn (h : (mnX (Ev.opd s x) (Ev.opd s y)).isSome = true) : evL call (⟨d, .mn x y, none, false⟩ :: l) ⟨s, m⟩ = evL call l ⟨updS s d ((mnX (Ev.opd s x) (Ev.opd s y)).getD .un), m⟩ :=
  st_one rfl (by
    simp only [evR]
    generalize Ev.opd s x = X
    generalize Ev.opd s y = Y
    cases X <;> try rfl
    rename_i u
    cases u <;> cases Y <;> try rfl
    all_goals (rename_i v; cases v <;> try rfl)
    rename_i k a k' b
    simp only [mnX]
    by_cases hc : k = k'
    · rw [if_pos hc, if_pos hc]; rfl
    · rw [if_neg hc, if_neg hc]; rfl) h
theorem st_sl {n : Nat} {lo hi : Option Opd} (h : (sliceV m s n (Ev.opd s x) lo hi).isSome = true) : evL call (⟨d, .sl n x lo hi, none, false⟩ :: l) ⟨s, m⟩ = evL call l ⟨updS s d ((sliceV m s n (Ev.opd s x) lo hi).getD .un), m⟩ :=
  st_one rfl rfl h
theorem st_isn {neg : Bool} (h : (isnV m neg (Ev.opd s x)).isSome = true) : evL call (⟨d, .isn neg x, none, false⟩ :: l) ⟨s, m⟩ = evL call l ⟨updS s d ((isnV m neg (Ev.opd s x)).getD .un), m⟩ :=
  st_one rfl rfl h
theorem st_s3 {lo : Option Opd} {hi mx : Opd} (h : (s3V m s (Ev.opd s x) lo (Ev.opd s hi) (Ev.opd s mx)).isSome = true) : evL call (⟨d, .s3 x lo hi mx, none, false⟩ :: l) ⟨s, m⟩ = evL call l ⟨updS s d ((s3V m s (Ev.opd s x) lo (Ev.opd s hi) (Ev.opd s mx)).getD .un), m⟩ :=
  st_one rfl rfl h
theorem st_mf {f : Nat} {xs : List Opd} (h : (mfX f (xs.map (Ev.opd s))).isSome = true) : evL call (⟨d, .mf f xs, none, false⟩ :: l) ⟨s, m⟩ = evL call l ⟨updS s d ((mfX f (xs.map (Ev.opd s))).getD .un), m⟩ :=
  st_one rfl (by simp only [evR, mfX]; (split <;> simp_all [noAdd])) h
theorem st_by (h : (byX m (Ev.opd s x)).isSome = true) : evL call (⟨d, .by x, none, false⟩ :: l) ⟨s, m⟩ = evL call l ⟨updS s d ((byX m (Ev.opd s x)).getD .un), m⟩ :=
  st_one rfl (by
    simp only [evR, byX]
    cases snap0 m (Ev.opd s x) with
    | none => rfl
    | some v =>
      cases v <;> try rfl
      rename_i n rows
      match n with
      | 1 => simp only []; cases numsOf rows <;> rfl
      | 0 => rfl
      | n + 2 => rfl) h
theorem st_bd {z : List LV} {ps : List (Nat × Nat × Opd)} (h : (fillL s z ps).isSome = true) : evL call (⟨d, .bd z ps, none, false⟩ :: l) ⟨s, m⟩ = evL call l ⟨updS s d (.ag ((fillL s z ps).getD [])), m⟩ := by
  cases hf : fillL s z ps with
  | none => rw [hf] at h; cases h
  | some v => simp only [evL, evO, evD, isW, evR, hf, adds]; rfl

/-- a value, and memory more -/
theorem st_add {op : IOp} {i : Id} {v : LV} {x : Thing} (hw : isW op = false) (hr : evR call d ⟨s, m⟩ op = some (v, [(i, x)])) (h : m i = none) : evL call (⟨d, op, none, false⟩ :: l) ⟨s, m⟩ = evL call l ⟨updS s d v, updM m i (some x)⟩ := by
  simp only [evL, evO, evD, hw, hr, adds, h]
theorem st_bx (h : (bxX (Ev.opd s x)).isSome = true) (h2 : m (.op d) = none) : evL call (⟨d, .bx x, none, false⟩ :: l) ⟨s, m⟩ = evL call l ⟨updS s d (.bp (.op d) 0), updM m (.op d) (some (.box ((bxX (Ev.opd s x)).getD [])))⟩ := by
  refine st_add rfl ?_ h2
  simp only [evR]
  unfold bxX at h ⊢
  cases hu : unpack (Ev.opd s x) with
  | none => rw [hu] at h; cases h
  | some vs =>
    rw [hu] at h
    simp only [] at h ⊢
    split at h
    · rename_i hp; simp only [hp, if_true]; rfl
    · cases h
theorem st_al {z : List LV} (h2 : m (.op d) = none) : evL call (⟨d, .al z, none, false⟩ :: l) ⟨s, m⟩ = evL call l ⟨updS s d (.bp (.op d) 0), updM m (.op d) (some (.box z))⟩ := st_add rfl rfl h2
theorem st_bs {e n len : Nat} {z : List Cell} {ps : List (Nat × Opd)} (h : (fillR s n (List.replicate len z) ps).isSome = true) (h2 : m (.op d) = none) :
    evL call (⟨d, .bs e n z len ps, none, false⟩ :: l) ⟨s, m⟩ = evL call l ⟨updS s d (.rf (.op d) none 0 len), updM m (.op d) (some (.arr e n ((fillR s n (List.replicate len z) ps).getD [])))⟩ := by
  refine st_add rfl ?_ h2
  cases hf : fillR s n (List.replicate len z) ps with
  | none => rw [hf] at h; cases h
  | some v => simp only [evR, hf]; rfl
theorem st_ms {e n : Nat} {z : List Cell} (h : (natX (Ev.opd s x)).isSome = true) (h2 : m (.op d) = none) :
    evL call (⟨d, .ms e n z x, none, false⟩ :: l) ⟨s, m⟩ = evL call l ⟨updS s d (.rf (.op d) none 0 ((natX (Ev.opd s x)).getD 0)), updM m (.op d) (some (.arr e n (List.replicate ((natX (Ev.opd s x)).getD 0) z)))⟩ := by
  refine st_add rfl ?_ h2
  unfold natX at h ⊢
  simp only [evR]
  cases hn : natOf (Ev.opd s x) with
  | none => rw [hn] at h; cases h
  | some k =>
    rw [hn] at h
    simp only [] at h ⊢
    split at h
    · rename_i hk; simp only [hk, if_true]; rfl
    · cases h
theorem st_mz {e n : Nat} (h : (natX (Ev.opd s x)).isSome = true) (h2 : m (.op d) = none) :
    evL call (⟨d, .mz e n x, none, false⟩ :: l) ⟨s, m⟩ = evL call l ⟨updS s d (.rf (.op d) none 0 0), updM m (.op d) (some (.arr e n []))⟩ := by
  refine st_add rfl ?_ h2
  unfold natX at h
  simp only [evR]
  cases hn : natOf (Ev.opd s x) with
  | none => rw [hn] at h; cases h
  | some k =>
    rw [hn] at h
    simp only [] at h ⊢
    split at h
    · rename_i hk; simp only [hk, if_true]
    · cases h
theorem st_ca {xs : List Opd} (h : (caX call m d (Ev.opd s x) (xs.map (Ev.opd s))).isSome = true) :
    evL call (⟨d, .ca x xs, none, false⟩ :: l) ⟨s, m⟩ = evL call l ⟨updS s d ((caX call m d (Ev.opd s x) (xs.map (Ev.opd s))).getD (.un, m)).1, ((caX call m d (Ev.opd s x) (xs.map (Ev.opd s))).getD (.un, m)).2⟩ := by
  generalize hF : Ev.opd s x = F at h ⊢
  cases F <;> try (cases h; done)
  rename_i g caps
  rw [caX_eq] at h ⊢
  simp only [evL, evO, evD, isW, evR, hF]
  cases hc : callR call m d g (xs.map (Ev.opd s) ++ caps) with
  | none => rw [hc] at h; cases h
  | some p =>
    obtain ⟨v, l'⟩ := p
    rw [hc] at h
    simp only [] at h ⊢
    cases ha : adds m l' with
    | none => rw [ha] at h; cases h
    | some m' => rfl
theorem st_so {n : Nat} (h0 : (unpack (Ev.opd s y)).isSome = true) (h : (soX m n (Ev.opd s x) ((unpack (Ev.opd s y)).getD [])).isSome = true) : evL call (⟨d, .so n x y, none, true⟩ :: l) ⟨s, m⟩ = evL call l ⟨s, (soX m n (Ev.opd s x) ((unpack (Ev.opd s y)).getD [])).getD m⟩ := by
  cases hu : unpack (Ev.opd s y) with
  | none => rw [hu] at h0; cases h0
  | some vs =>
    rw [hu] at h
    simp only [Option.getD_some] at h ⊢
    have key : evW d ⟨s, m⟩ (.so n x y) = match soX m n (Ev.opd s x) vs with | some m' => some (.un, m') | none => none := by
      simp only [evW, hu, soX]
      split
      · generalize Ev.opd s x = X
        cases X <;> try rfl
        · rename_i i off
          simp only []
          cases m i with
          | none => rfl
          | some t =>
            cases t <;> try rfl
            simp only []
            cases putL _ off vs <;> rfl
        · rename_i i ch r c
          cases ch with
          | some _ => rfl
          | none =>
            simp only []
            cases m i with
            | none => rfl
            | some t =>
              cases t <;> try rfl
              cases vs.mapM toCell with
              | none => rfl
              | some xs =>
                simp only []
                rename_i rows
                cases rows[r]? with
                | none => rfl
                | some row =>
                  simp only []
                  by_cases hc : c + n ≤ row.length
                  · rw [if_pos hc, if_pos hc]
                  · rw [if_neg hc, if_neg hc]
      · rfl
    simp only [evL, evO, evD, key]
    cases hs : soX m n (Ev.opd s x) vs with
    | none => rw [hs] at h; cases h
    | some m' => rfl
end

/-! ### a store that moves slices into an element -/
def smX (m : Mem) (n : Nat) (X : LV) (vs : List LV) : Option (Id × Mem) :=
  match X with
  | .ep i none r c =>
    if vs.length = n ∧ vs.all plainB = true then
      (match m i, vs.mapM (toCellU m) with
      | some (.arr e n0 rows), some xs =>
        (match rows[r]? with
        | some row =>
          if c + n ≤ row.length then
            (match adoptAll (fgtM i (updM m i (some (.arr e n0 (rows.set r (row.take c ++ xs ++ row.drop (c + n))))))) i (adsV r c vs) with
            | some m' => some (i, m')
            | none => none)
          else none
        | none => none)
      | _, _ => none)
    else none
  | _ => none
def fgtS (i : Id) (s : Nat → LV) : Nat → LV := fun t => fgt2 i (s t)
theorem fgtS_at (i : Id) (s : Nat → LV) (t : Nat) : fgtS i s t = fgt2 i (s t) := rfl
theorem fgtM_at (i : Id) (m : Mem) (k : Id) : fgtM i m k = fgtT i (m k) := rfl
theorem evSM_smX {s : Nat → LV} {m : Mem} {n : Nat} {x y : Opd} {vs : List LV} (hu : unpack (Ev.opd s y) = some vs) : evSM ⟨s, m⟩ (.so n x y) = match smX m n (Ev.opd s x) vs with | some p => some ⟨fgtS p.1 s, p.2⟩ | none => none := by
  simp only [evSM, hu, smX]
  cases hX : Ev.opd s x <;> try rfl
  case ep i ch r c =>
    cases ch with
    | some _ => rfl
    | none =>
      simp only []
      by_cases hc : vs.length = n ∧ vs.all plainB = true
      · rw [if_pos hc, if_pos hc]
        cases hm : m i with
        | none => rfl
        | some t =>
          cases t with
          | arr e n0 rows =>
            cases hcl : vs.mapM (toCellU m) with
            | none => rfl
            | some xs =>
              simp only []
              cases hr : rows[r]? with
              | none => rfl
              | some row =>
                simp only []
                by_cases hb : c + n ≤ row.length
                · rw [if_pos hb, if_pos hb]
                  cases adoptAll (fgtM i (updM m i (some (.arr e n0 (rows.set r (row.take c ++ xs ++ row.drop (c + n))))))) i (adsV r c vs) <;> rfl
                · rw [if_neg hb, if_neg hb]
          | _ => rfl
      · rw [if_neg hc, if_neg hc]
theorem st_sm {call : CallF} {s : Nat → LV} {m : Mem} {l : List OpI} {x y : Opd} {n : Nat} (h0 : (unpack (Ev.opd s y)).isSome = true) (hn : (soX m n (Ev.opd s x) ((unpack (Ev.opd s y)).getD [])).isNone = true) (h : (smX m n (Ev.opd s x) ((unpack (Ev.opd s y)).getD [])).isSome = true) :
    evL call (⟨1, .so n x y, none, true⟩ :: l) ⟨s, m⟩ = evL call l ⟨fgtS ((smX m n (Ev.opd s x) ((unpack (Ev.opd s y)).getD [])).getD (.op 0, m)).1 s, ((smX m n (Ev.opd s x) ((unpack (Ev.opd s y)).getD [])).getD (.op 0, m)).2⟩ := by
  cases hu : unpack (Ev.opd s y) with
  | none => rw [hu] at h0; cases h0
  | some vs =>
    rw [hu] at hn h
    simp only [Option.getD_some] at hn h ⊢
    have key : evW 1 ⟨s, m⟩ (.so n x y) = match soX m n (Ev.opd s x) vs with | some m' => some (.un, m') | none => none := by
      simp only [evW, hu, soX]
      by_cases hc : vs.length = n ∧ vs.all plainB = true
      · rw [if_pos hc, if_pos hc]
        cases Ev.opd s x <;> try rfl
        case bp i off =>
          simp only []
          cases m i with
          | none => rfl
          | some t =>
            cases t with
            | box cells => simp only []; cases putL cells off vs <;> rfl
            | _ => rfl
        case ep i ch r c =>
          cases ch with
          | some _ => rfl
          | none =>
            simp only []
            cases m i with
            | none => rfl
            | some t =>
              cases t with
              | arr e n0 rows =>
                cases vs.mapM toCell with
                | none => rfl
                | some xs =>
                  simp only []
                  cases rows[r]? with
                  | none => rfl
                  | some row =>
                    simp only []
                    split <;> rfl
              | _ => cases vs.mapM toCell <;> rfl
      · rw [if_neg hc, if_neg hc]
    have key2 := evSM_smX (s := s) (m := m) (n := n) (x := x) hu
    cases hs : soX m n (Ev.opd s x) vs with
    | some _ => rw [hs] at hn; cases hn
    | none =>
      rw [hs] at key
      simp only [evL, evO, evD, key, key2, if_true]
      cases hq : smX m n (Ev.opd s x) vs with
      | none => rw [hq] at h; cases h
      | some p => rfl

/-! ### code -/
noncomputable def andC (call : CallF) : Option (Ex × St) → IC → Option (Ex × St)
  | some (.nm, st), b => evC call b st | r, _ => r
def toNm : Option St → Option (Ex × St)
  | some st => some (.nm, st) | none => none
def blk (id : Nat) : Option (Ex × St) → Option (Ex × St)
  | some (.ex i, st) => if i = id then some (.nm, st) else some (.ex i, st) | r => r
noncomputable def lpC (call : CallF) (keep : List Nat) (c : IC) : Option St → Option (Ex × St)
  | some st => lp (evC call c) (clean keep) st | none => none
section
variable {call : CallF} {st : St} {a b c : IC}
theorem c_skip : evC call .skip st = some (.nm, st) := rfl
theorem c_ret : evC call .ret st = some (.rt, st) := rfl
theorem c_exit {i : Nat} : evC call (.exit i) st = some (.ex i, st) := rfl
theorem c_reg {d : Bool} {l : List OpI} : evC call (.reg d l) st = toNm (evL call l st) := by
  simp only [evC]; cases evL call l st <;> rfl
def ckC (cs : List Ck) : Option St → Option (Ex × St)
  | some st => if cs.all (ckB st.s) = true then some (.nm, st) else none
  | none => none
theorem c_rgc {cs : List Ck} {l : List OpI} : evC call (.rgc cs l) st = ckC cs (evL call l st) := by
  simp only [evC]; cases evL call l st <;> rfl
theorem ckC_some {cs : List Ck} {st : St} (h : cs.all (ckB st.s) = true) : ckC cs (some st) = some (.nm, st) := by
  simp only [ckC, h, if_true]
theorem c_seq : evC call (.seq a b) st = andC call (evC call a st) b := by
  simp only [evC]
  cases evC call a st with
  | none => rfl
  | some p => obtain ⟨e, st1⟩ := p; cases e <;> rfl
theorem c_true {x : Opd} (h : Ev.opd st.s x = .sc (.bool true)) : evC call (.ite x a b) st = evC call a st := by
  simp only [evC, h, if_true]
theorem c_false {x : Opd} (h : Ev.opd st.s x = .sc (.bool false)) : evC call (.ite x a b) st = evC call b st := by
  simp only [evC, h]; rfl
theorem c_block {i : Nat} : evC call (.block i c) st = blk i (evC call c st) := by
  simp only [evC]
  cases evC call c st with
  | none => rfl
  | some p => obtain ⟨e, st1⟩ := p; cases e <;> rfl
theorem c_loop {k : List Nat} : evC call (.loop k c) st = lpC call k c (clean k st) := by
  simp only [evC]; cases clean k st <;> rfl
theorem and_nm : andC call (some (.nm, st)) b = evC call b st := rfl
theorem and_ex {i : Nat} : andC call (some (.ex i, st)) b = some (.ex i, st) := rfl
theorem and_rt : andC call (some (.rt, st)) b = some (.rt, st) := rfl
theorem nm_some : toNm (some st) = some (.nm, st) := rfl
theorem blk_nm {i : Nat} : blk i (some (.nm, st)) = some (.nm, st) := rfl
theorem blk_rt {i : Nat} : blk i (some (.rt, st)) = some (.rt, st) := rfl
theorem blk_ex {i j : Nat} : blk i (some (.ex j, st)) = if j = i then some (.nm, st) else some (.ex j, st) := rfl
theorem lpC_some {k : List Nat} : lpC call k c (some st) = lp (evC call c) (clean k) st := rfl
end
theorem close_sc (m : Mem) (v : Value) : closeV m (.sc v) = some (.sc v) := rfl
theorem close_nl (m : Mem) : closeV m .nl = some .nl := rfl
theorem noMem_at (i : Id) : noMem i = none := by
  cases hq : noMem i with
  | none => rfl
  | some x => cases hq
theorem opd_t (s : Nat → LV) (n : Nat) : Ev.opd s (.t n) = s n := rfl
theorem opd_k (s : Nat → LV) (v : LV) : Ev.opd s (.k v) = v := rfl
theorem updS_at (s : Nat → LV) (d : Nat) (v : LV) (t : Nat) : updS s d v t = if t = d then v else s t := rfl
theorem updM_at (m : Mem) (i : Id) (x : Option Thing) (j : Id) : updM m i x j = if j = i then x else m j := rfl

/-! ### loops: the state at a loop's head as a table -/
def lookS (l : List (Nat × LV)) (t : Nat) : LV :=
  match l with | [] => .un | p :: l => if t = p.1 then p.2 else lookS l t
def lookM (l : List (Id × Option Thing)) (i : Id) : Option Thing :=
  match l with | [] => none | p :: l => if i = p.1 then p.2 else lookM l i
def tabS (lk : List (Id × Id)) (s : Nat → LV) : List Nat → List (Nat × LV)
  | [] => []
  | t :: ts => (t, renV lk (s t)) :: tabS lk s ts
def bindT (lk : List (Id × Id)) : Option Thing → Option Thing
  | some t => renT lk t | none => none
def tabM (lk : List (Id × Id)) (m : Mem) : List (Id × Id) → List (Id × Option Thing)
  | [] => []
  | p :: l => (p.2, bindT lk (m p.1)) :: tabM lk m l
theorem tabS_look (lk : List (Id × Id)) (s : Nat → LV) (t : Nat) : ∀ keep : List Nat, lookS (tabS lk s keep) t = if has keep t = true then renV lk (s t) else .un := by
  intro keep
  induction keep with
  | nil => rfl
  | cons k ks ih =>
    simp only [tabS, lookS]
    by_cases h : t = k
    · subst h
      rw [if_pos rfl]
      have : has (t :: ks) t = true := by simp only [has, if_true]
      rw [if_pos this]
    · rw [if_neg h, ih]
      have : has (k :: ks) t = has ks t := by simp only [has, if_neg (Ne.symm h)]
      rw [this]
theorem tabM_look (lk : List (Id × Id)) (m : Mem) (j : Id) : ∀ l : List (Id × Id), lookM (tabM lk m l) j = match toO l j with | some i => bindT lk (m i) | none => none := by
  intro l
  induction l with
  | nil => rfl
  | cons p l ih =>
    simp only [tabM, lookM, toO]
    by_cases h : j = p.2
    · subst h
      rw [if_pos rfl, if_pos rfl]
    · rw [if_neg h, if_neg (Ne.symm h), ih]
theorem clean_tab (lk : List (Id × Id)) (keep : List Nat) (st : St) : cleanBy lk keep st = if (noDup (lk.map (·.2)) && thOk lk st.m lk) = true then some ⟨lookS (tabS lk st.s keep), lookM (tabM lk st.m lk)⟩ else none := by
  unfold cleanBy
  have h1 : (fun t => if has keep t = true then renV lk (st.s t) else LV.un) = lookS (tabS lk st.s keep) := by
    funext t; rw [tabS_look]
  have h2 : newM lk st.m = lookM (tabM lk st.m lk) := by
    funext j
    rw [tabM_look]
    unfold newM
    cases toO lk j with
    | none => rfl
    | some i =>
      simp only []
      cases st.m i <;> rfl
  rw [h1, h2]
theorem clean_eq (keep : List Nat) (st : St) : clean keep st = cleanBy (ded (gath st.s keep ++ gathM st.m (gath st.s keep))) keep st := rfl
/-- a clean state, all at once -/
theorem clean_st {keep : List Nat} {s : Nat → LV} {m : Mem} {lk : List (Id × Id)} (hl : ded (gath s keep ++ gathM m (gath s keep)) = lk) (h : (noDup (lk.map (·.2)) && thOk lk m lk) = true) :
    clean keep ⟨s, m⟩ = some ⟨lookS (tabS lk s keep), lookM (tabM lk m lk)⟩ := by
  rw [clean_eq]
  simp only [] at hl ⊢
  rw [hl, clean_tab, if_pos h]
noncomputable def nextL (call : CallF) (keep : List Nat) (c : IC) : Option (Ex × St) → Option (Ex × St)
  | some (.nm, st) => lpC call keep c (clean keep st)
  | r => r
theorem lp_step {call : CallF} {keep : List Nat} {c : IC} {st : St} : lp (evC call c) (clean keep) st = nextL call keep c (evC call c st) := by
  rw [lp_eq]
  cases evC call c st with
  | none => rfl
  | some p =>
    obtain ⟨e, st1⟩ := p
    cases e with
    | nm =>
      simp only [nextL]
      cases clean keep st1 <;> rfl
    | ex i => rfl
    | rt => rfl
section
variable {call : CallF} {keep : List Nat} {c : IC} {st : St}
theorem next_nm : nextL call keep c (some (.nm, st)) = lpC call keep c (clean keep st) := rfl
theorem next_ex {i : Nat} : nextL call keep c (some (.ex i, st)) = some (.ex i, st) := rfl
theorem next_rt : nextL call keep c (some (.rt, st)) = some (.rt, st) := rfl
end
def toR : Option St → Option (Ex × St)
  | some st => some (.rt, st) | none => none
noncomputable def clC (k kr : List Nat) : Option (Ex × St) → Option (Ex × St)
  | some (.nm, st) => toNm (clean k st)
  | some (.rt, st) => toR (clean kr st)
  | r => r
theorem c_cln {call : CallF} {k kr : List Nat} {c : IC} {st : St} : evC call (.cln k kr c) st = clC k kr (evC call c st) := by
  simp only [evC]
  cases evC call c st with
  | none => rfl
  | some p =>
    obtain ⟨e, st1⟩ := p
    cases e with
    | nm => simp only [clC]; cases clean k st1 <;> rfl
    | ex i => rfl
    | rt => simp only [clC]; cases clean kr st1 <;> rfl
theorem cl_nm {k kr : List Nat} {st : St} : clC k kr (some (.nm, st)) = toNm (clean k st) := rfl
theorem cl_rt {k kr : List Nat} {st : St} : clC k kr (some (.rt, st)) = toR (clean kr st) := rfl
theorem cl_ex {k kr : List Nat} {i : Nat} {st : St} : clC k kr (some (.ex i, st)) = some (.ex i, st) := rfl
theorem r_some {st : St} : toR (some st) = some (.rt, st) := rfl
theorem cond_nm {p : Prop} [Decidable p] {st1 st2 : St} : (if p then some (Ex.nm, st1) else some (Ex.nm, st2)) = some (Ex.nm, if p then st1 else st2) := by split <;> rfl

/-! ### calls that are lent slices -/
def isCwI (x : OpI) : Bool := match x.op with | .cw _ _ _ => true | _ => strictB x
def preW : List OpI → List OpI
  | [] => []
  | x :: l => match isCwI x with | true => [] | false => x :: preW l
def postW : List OpI → List OpI
  | [] => []
  | x :: l => match isCwI x with | true => x :: l | false => postW l
noncomputable def cwN (call : CallF) : List OpI → Option St → Option St
  | [], r => r
  | _ :: _, none => none
  | x :: l, some st => match evOw call x st with | some st' => evLw call l st' | none => none
theorem evLw_eq {call : CallF} : ∀ (l : List OpI) (st : St), evLw call l st = cwN call (postW l) (evL call (preW l) st) := by
  intro l
  induction l with
  | nil => intro st; rfl
  | cons x l ih =>
    intro st
    cases hx : isCwI x with
    | true =>
      simp only [preW, postW, hx, evL, cwN, evLw]
      cases evOw call x st <;> rfl
    | false =>
      simp only [preW, postW, hx, evL, evLw]
      have : evOw call x st = evO call x st := by
        unfold isCwI at hx
        unfold evOw
        split at hx
        · cases hx
        · rename_i hne
          rw [if_neg (by rw [hx]; decide)]
          split <;> first | rfl | exact (hne _ _ _ ‹x.op = IOp.cw _ _ _›).elim
      rw [this]
      cases evO call x st with
      | none => simp only []; cases postW l <;> rfl
      | some st' => exact ih st'
theorem c_trm {call : CallF} {t : Nat} {s : Nat → LV} {m : Mem} : evC call (.trm t) ⟨s, m⟩ = some (.nm, trmX s m (s t)) := rfl
theorem c_rgw {call : CallF} {l : List OpI} {st : St} : evC call (.rgw l) st = toNm (evLw call l st) := by
  simp only [evC]; cases evLw call l st <;> rfl
def fglS (l : List Id) (s : Nat → LV) : Nat → LV := fun t => fgl2 l (s t)
theorem fglS_at (l : List Id) (s : Nat → LV) (t : Nat) : fglS l s t = fgl2 l (s t) := rfl
noncomputable def cwF (call : CallF) (l : List OpI) : Option St → Option St
  | some st => evLw call l st | none => none
def cwD (d : Nat) (r : LV) (L : List Id) (s : Nat → LV) : Option Mem → Option St
  | some m1 => some ⟨updS (fglS L s) d r, m1⟩ | none => none
def cwB (d g : Nat) (zs : List LV) (ps : List (Nat × LV)) (s : Nat → LV) (m : Mem) : Option (LV × List LV) → Option St
  | some (r, y :: ys) => if g < wrN ∧ isRV r = true ∧ (zs.isEmpty || !roB (.tu (y :: ys))) = true then cwD d r (rootL ps) s (backs ps (parts (.tu (y :: ys))) (fgtMs (rootL ps) m)) else none
  | _ => none
def cwA (call : CallF) (d g : Nat) (ps : List (Nat × LV)) (s : Nat → LV) (m : Mem) : Option LV → Option (List LV) → Option St
  | some (.tu ys), some zs => cwB d g zs ps s m (call (wrN + g) (ys ++ zs)) | _, _ => none
theorem evCW_eq {call : CallF} {d g : Nat} {xs : List Opd} {s : Nat → LV} {m : Mem} : evCW call d g xs ⟨s, m⟩ = cwA call d g (parts (.tu (preA (xs.map (Ev.opd s))))) s m (closeV m (.tu (preA (xs.map (Ev.opd s))))) (shotA m (postA (xs.map (Ev.opd s)))) := by
  unfold evCW
  simp only []
  generalize closeV m (.tu (preA (xs.map (Ev.opd s)))) = A
  generalize shotA m (postA (xs.map (Ev.opd s))) = B
  rcases A with _ | A
  · rfl
  cases A with
  | tu ys =>
    rcases B with _ | zs
    · rfl
    simp only [cwA]
    generalize call (wrN + g) (ys ++ zs) = R
    rcases R with _ | ⟨r, os⟩
    · rfl
    cases os with
    | nil => rfl
    | cons y' ys' =>
      simp only [cwB]
      split <;> rfl
  | _ => cases B <;> rfl
theorem cwN_nil {call : CallF} {r : Option St} : cwN call [] r = r := rfl
theorem cwN_cw {call : CallF} {d g : Nat} {xs : List Opd} {l : List OpI} {s : Nat → LV} {m : Mem} :
    cwN call (⟨d, .cw g [] xs, none, false⟩ :: l) (some ⟨s, m⟩) = cwF call l (cwA call d g (parts (.tu (preA (xs.map (Ev.opd s))))) s m (closeV m (.tu (preA (xs.map (Ev.opd s))))) (shotA m (postA (xs.map (Ev.opd s))))) := by
  rw [← evCW_eq]
  simp only [cwN, evOw]
  cases evCW call d g xs ⟨s, m⟩ <;> rfl
def thN (mk : Nat → Id) : List (Nat × LV) → List (Id × Thing)
  | [] => []
  | p :: l => match thing mk p with | some x => x :: thN mk l | none => thN mk l
theorem thN_eq (mk : Nat → Id) : ∀ l : List (Nat × LV), l.filterMap (thing mk) = thN mk l := by
  intro l
  induction l with
  | nil => rfl
  | cons p l ih =>
    simp only [List.filterMap_cons, thN, ih]
    cases thing mk p <;> rfl
def cmD (d : Nat) (s : Nat → LV) (v : LV) : Option Mem → Option St
  | some m1 => some ⟨updS s d v, m1⟩ | none => none
def cmB (d g : Nat) (ps : List (Nat × LV)) (s : Nat → LV) (m : Mem) : Option (LV × List LV) → Option St
  | some (r, [.un]) => if g < wrN then cmD d s (trav (opn (.rs d)) r) (adds (takeP m ps) (thN (.rs d) (parts r))) else none
  | _ => none
def cmA (call : CallF) (d g : Nat) (ps : List (Nat × LV)) (s : Nat → LV) (m : Mem) : Option LV → Option St
  | some (.tu ys) => cmB d g ps s m (call (mvN + g) ys) | _ => none
theorem evCM_eq {call : CallF} {d g : Nat} {xs : List Opd} {s : Nat → LV} {m : Mem} : evCM call d g xs ⟨s, m⟩ = cmA call d g (parts (.tu (xs.map (Ev.opd s)))) s m (closeV m (.tu (xs.map (Ev.opd s)))) := by
  unfold evCM
  simp only []
  generalize closeV m (.tu (xs.map (Ev.opd s))) = A
  rcases A with _ | A
  · rfl
  cases A with
  | tu ys =>
    simp only [cmA]
    generalize call (mvN + g) ys = R
    unfold cmB
    split
    · rename_i r
      simp only [openV, thN_eq]
      split
      · generalize adds (takeP m (parts (.tu (xs.map (Ev.opd s))))) (thN (.rs d) (parts r)) = Z
        cases Z <;> rfl
      · rfl
    · rename_i hne
      split
      · rename_i r; exact absurd rfl (hne r)
      · rfl
  | _ => rfl
theorem cwN_cm {call : CallF} {d g : Nat} {xs : List Opd} {l : List OpI} {s : Nat → LV} {m : Mem} :
    cwN call (⟨d, .cw g [true] xs, none, false⟩ :: l) (some ⟨s, m⟩) = cwF call l (cmA call d g (parts (.tu (xs.map (Ev.opd s)))) s m (closeV m (.tu (xs.map (Ev.opd s))))) := by
  rw [← evCM_eq]
  simp only [cwN, evOw]
  cases evCM call d g xs ⟨s, m⟩ <;> rfl
def wholeX (i : Id) (ch : Option (Nat × Nat)) (n : Nat) : Option (Nat × Nat × List (List Cell)) → Option (LV × Nat)
  | some (_, _, rows) => if 1 + n = rows.length then some (.rf i ch 0 rows.length, 1) else none | none => none
theorem whole_one {m : Mem} {i : Id} {ch : Option (Nat × Nat)} {n : Nat} : wholeV m (.rf i ch 1 n) = wholeX i ch n (look m i ch) := by
  show (match look m i ch with | some (_, _, rows) => if 0 + 1 + n = rows.length then some (LV.rf i ch 0 rows.length, 0 + 1) else none | none => none) = _
  rw [Nat.zero_add]
  cases look m i ch <;> rfl
theorem wholeX_some {i : Id} {ch : Option (Nat × Nat)} {n e st : Nat} {rows : List (List Cell)} (h : 1 + n = rows.length) : wholeX i ch n (some (e, st, rows)) = some (.rf i ch 0 rows.length, 1) := if_pos h
def cpB (call : CallF) (d g : Nat) (lo : Nat) (ps : List (Nat × LV)) (s : Nat → LV) (m : Mem) : Option LV → Option St
  | some (.tu ys) => cwB d g [] ps s m (call (puN + g) (.sc (.int .i64 (lo : Nat)) :: ys)) | _ => none
def cpA (call : CallF) (d g : Nat) (s : Nat → LV) (m : Mem) : Option (LV × Nat) → Option St
  | some (v0, lo) => cpB call d g lo (parts (.tu [v0])) s m (closeV m (.tu [v0])) | none => none
theorem cpA_some {call : CallF} {d g lo : Nat} {s : Nat → LV} {m : Mem} {v0 : LV} : cpA call d g s m (some (v0, lo)) = cpB call d g lo (parts (.tu [v0])) s m (closeV m (.tu [v0])) := rfl
theorem cpB_some {call : CallF} {d g lo : Nat} {ps : List (Nat × LV)} {s : Nat → LV} {m : Mem} {ys : List LV} : cpB call d g lo ps s m (some (.tu ys)) = cwB d g [] ps s m (call (puN + g) (.sc (.int .i64 (lo : Nat)) :: ys)) := rfl
theorem evCP_eq {call : CallF} {d g : Nat} {x : Opd} {s : Nat → LV} {m : Mem} : evCP call d g [x] ⟨s, m⟩ = cpA call d g s m (wholeV m (Ev.opd s x)) := by
  unfold evCP
  simp only [List.map_cons, List.map_nil]
  rcases wholeV m (Ev.opd s x) with _ | ⟨v0, lo⟩
  · rfl
  simp only [cpA]
  generalize closeV m (.tu [v0]) = A
  rcases A with _ | A
  · rfl
  cases A with
  | tu ys =>
    simp only [cpB]
    generalize call (puN + g) (.sc (.int .i64 (lo : Nat)) :: ys) = R
    rcases R with _ | ⟨r, os⟩
    · rfl
    cases os with
    | nil => rfl
    | cons y' ys' =>
      simp only [cwB, List.isEmpty_nil, Bool.true_or, and_true]
      split <;> rfl
  | _ => rfl
def stQ (call : CallF) : Bool → OpI → St → Option St
  | true, x, st => evL call [x] st | false, _, _ => none
theorem stQ_t {call : CallF} {x : OpI} {st : St} : stQ call true x st = evL call [x] st := rfl
theorem cwN_stq {call : CallF} {d : Nat} {op : IOp} {l : List OpI} {s : Nat → LV} {m : Mem} (h : needS op = true) :
    cwN call (⟨d, op, none, true⟩ :: l) (some ⟨s, m⟩) = cwF call l (stQ call (calmV s op) ⟨d, op, none, false⟩ ⟨s, m⟩) := by
  simp only [cwN]
  rw [evOw_st (x := ⟨d, op, none, true⟩) (by simp [strictB, h])]
  cases hq : calmV s op with
  | false => rw [if_neg (by simp)]; rfl
  | true =>
    rw [if_pos rfl]
    simp only [stQ, evL, unS]
    cases evO call ⟨d, op, none, false⟩ ⟨s, m⟩ <;> rfl
theorem cwN_fa {call : CallF} {d k : Nat} {x : Opd} {l : List OpI} {s : Nat → LV} {m : Mem} : cwN call (⟨d, .fa k x, none, true⟩ :: l) (some ⟨s, m⟩) = cwF call l (stQ call (isBR (opd s x)) ⟨d, .fa k x, none, false⟩ ⟨s, m⟩) := cwN_stq rfl
theorem cwN_ld {call : CallF} {d k : Nat} {b : Bool} {x : Opd} {l : List OpI} {s : Nat → LV} {m : Mem} : cwN call (⟨d, .ld k b x, none, true⟩ :: l) (some ⟨s, m⟩) = cwF call l (stQ call (isBR (opd s x)) ⟨d, .ld k b x, none, false⟩ ⟨s, m⟩) := cwN_stq rfl
theorem cwN_ia {call : CallF} {d k : Nat} {x i : Opd} {l : List OpI} {s : Nat → LV} {m : Mem} : cwN call (⟨d, .ia k x i, none, true⟩ :: l) (some ⟨s, m⟩) = cwF call l (stQ call (isRO (opd s x)) ⟨d, .ia k x i, none, false⟩ ⟨s, m⟩) := cwN_stq rfl
theorem cwN_cp {call : CallF} {d g : Nat} {x : Opd} {l : List OpI} {s : Nat → LV} {m : Mem} :
    cwN call (⟨d, .cw g [false] [x], none, false⟩ :: l) (some ⟨s, m⟩) = cwF call l (cpA call d g s m (wholeV m (Ev.opd s x))) := by
  rw [← evCP_eq]
  simp only [cwN, evOw]
  cases evCP call d g [x] ⟨s, m⟩ <;> rfl
def finM1 : Option (LV × List LV) → Option (LV × List LV)
  | some (v, []) => some (v, [.un]) | _ => none
theorem finM_eq {r : List RV} {o : Option (Ex × St)} : finishM r o = finM1 (Ev.finish r o) := by
  unfold finishM finM1
  generalize Ev.finish r o = A
  rcases A with _ | ⟨v, os⟩
  · rfl
  · cases os <;> rfl
theorem finM1_some {v : LV} : finM1 (some (v, [])) = some (v, [.un]) := rfl
section
variable {call : CallF} {d g : Nat} {ps : List (Nat × LV)} {s : Nat → LV} {m m1 : Mem} {ys zs : List LV} {y r : LV} {L : List Id} {l : List OpI} {st : St}
theorem cwA_some : cwA call d g ps s m (some (.tu ys)) (some zs) = cwB d g zs ps s m (call (wrN + g) (ys ++ zs)) := rfl
theorem cwB_some (h : (decide (g < wrN) && isRV r && (zs.isEmpty || !roB (.tu (y :: ys)))) = true) : cwB d g zs ps s m (some (r, y :: ys)) = cwD d r (rootL ps) s (backs ps (parts (.tu (y :: ys))) (fgtMs (rootL ps) m)) := by
  simp only [Bool.and_eq_true, decide_eq_true_eq] at h
  simp only [cwB, h.1.1, h.1.2, h.2, and_self, if_true]
theorem cmA_some : cmA call d g ps s m (some (.tu ys)) = cmB d g ps s m (call (mvN + g) ys) := rfl
theorem cmB_some (h : decide (g < wrN) = true) : cmB d g ps s m (some (r, [.un])) = cmD d s (trav (opn (.rs d)) r) (adds (takeP m ps) (thN (.rs d) (parts r))) := by
  simp only [cmB, of_decide_eq_true h, if_true]
theorem cmD_some {v : LV} : cmD d s v (some m1) = some ⟨updS s d v, m1⟩ := rfl
theorem cwD_some : cwD d r L s (some m1) = some ⟨updS (fglS L s) d r, m1⟩ := rfl
theorem cwF_some : cwF call l (some st) = evLw call l st := rfl
end
def bkR (i : Id) (e n : Nat) (rows : List (List Cell)) (m : Mem) : Option Thing → Option Mem
  | some (.arr e0 n0 rows0) => if e0 = e ∧ n0 = n ∧ rows0.length = rows.length then some (updM m i (some (.arr e n rows))) else none
  | _ => none
theorem back1_r {m : Mem} {i : Id} {lo k e n : Nat} {rows : List (List Cell)} : back1 m (.rf i none lo k) (.ow e n rows) = bkR i e n rows m (m i) := by
  simp only [back1]
  cases hm : m i with
  | none => rfl
  | some t => cases t <;> rfl
theorem bkR_some {m : Mem} {i : Id} {e n : Nat} {rows rows0 : List (List Cell)} (h : rows0.length = rows.length) : bkR i e n rows m (some (.arr e n rows0)) = some (updM m i (some (.arr e n rows))) := by
  simp only [bkR, h, and_self, if_true]
def bkC (i : Id) (r c e n : Nat) (rows : List (List Cell)) (m : Mem) : Option Thing → Option Mem
  | some (.arr e0 n0 rows0) =>
    (match rows0[r]?, low rows with
    | some row, some rv =>
      match row[c]? with
      | some (.sl true e1 n1 rv0) => if e1 = e ∧ n1 = n ∧ rv0.length = rv.length then some (updM m i (some (.arr e0 n0 (rows0.set r (row.set c (.sl true e n rv)))))) else none
      | _ => none
    | _, _ => none)
  | _ => none
theorem back1_c {m : Mem} {i : Id} {r c lo k e n : Nat} {rows : List (List Cell)} : back1 m (.rf i (some (r, c)) lo k) (.ow e n rows) = bkC i r c e n rows m (m i) := by
  simp only [back1]
  cases hm : m i with
  | none => rfl
  | some t => cases t <;> rfl
theorem bkC_some {m : Mem} {i : Id} {r c e n e0 n0 : Nat} {rows rows0 : List (List Cell)} {row : List Cell} {rv rv0 : List (List Value)} (h1 : rows0[r]? = some row) (h2 : low rows = some rv) (h3 : row[c]? = some (.sl true e n rv0)) (h4 : rv0.length = rv.length) :
    bkC i r c e n rows m (some (.arr e0 n0 rows0)) = some (updM m i (some (.arr e0 n0 (rows0.set r (row.set c (.sl true e n rv)))))) := by
  simp only [bkC, h1, h2, h3, h4, and_self, if_true]
theorem back1_sc {m : Mem} {v : Value} {y : LV} : back1 m (.sc v) y = some m := rfl
theorem back1_nl {m : Mem} {y : LV} : back1 m .nl y = some m := rfl
theorem back1_ro {m : Mem} {n : Nat} {rows : List (List Cell)} {y : LV} : back1 m (.ro n rows) y = some m := rfl
def backN (l l' : List (Nat × LV)) : Option Mem → Option Mem
  | some m1 => backs l l' m1 | none => none
theorem backs_n {m : Mem} : backs [] [] m = some m := rfl
theorem backs_c {m : Mem} {k : Nat} {x y : LV} {l l' : List (Nat × LV)} : backs ((k, x) :: l) ((k, y) :: l') m = backN l l' (back1 m x y) := by
  simp only [backs, if_true]
  cases back1 m x y <;> rfl
theorem backN_some {m : Mem} {l l' : List (Nat × LV)} : backN l l' (some m) = backs l l' m := rfl

/-! ### functions that are lent slices -/
def startS (as : List LV) : Nat → LV := fun t => if t < 100000 then argS as t else outS (partsT 0 as) (t - 100000)
theorem startS_at (as : List LV) (t : Nat) : startS as t = if t < 100000 then argS as t else outS (partsT 0 as) (t - 100000) := rfl
def startT (as : List LV) : Option Mem → Option (List LV × St)
  | some m => if small (.tu as) = true then some (as, ⟨startS as, m⟩) else none | none => none
theorem startW_eq {args as : List LV} {l : List (Id × Thing)} (h : openV mk0 (.tu args) = (.tu as, l)) : startW args = startT as (adds noMem l) := by
  unfold startW
  rw [h]
  simp only []
  cases adds noMem l <;> rfl
def startQ (bs as : List LV) : Nat → LV := fun t => if t < 100000 then argS bs t else outS (partsT 0 as) (t - 100000)
theorem startQ_at (bs as : List LV) (t : Nat) : startQ bs as t = if t < 100000 then argS bs t else outS (partsT 0 as) (t - 100000) := rfl
theorem startV_one {e n : Nat} {rows : List (List Cell)} : startV 1 [.ow e n rows] = some ([.rf (mk0 0) none 0 rows.length], ⟨startQ [.rf (mk0 0) none 1 (rows.length - 1)] [.rf (mk0 0) none 0 rows.length], updM noMem (mk0 0) (some (.arr e n rows))⟩) := rfl
def finW2 : Option LV → Option LV → Option (LV × List LV)
  | some v, some (.tu (y :: ys)) => if isRV v = true then some (v, y :: ys) else none | _, _ => none
theorem finW2_some {v : Value} {y : LV} {ys : List LV} : finW2 (some (.sc v)) (some (.tu (y :: ys))) = some (.sc v, y :: ys) := rfl
theorem finW2_void {y : LV} {ys : List LV} : finW2 (some (.tu [])) (some (.tu (y :: ys))) = some (.tu [], y :: ys) := rfl
theorem finW_rt {as : List LV} {r : List RV} {st : St} : finishW as r (some (.rt, st)) = finW2 (resV st r) (closeV st.m (trav (backV st.s) (.tu (preA as)))) := by
  simp only [finishW]
  generalize resV st r = A
  generalize closeV st.m (trav (backV st.s) (.tu (preA as))) = B
  rcases A with _ | A
  · rfl
  rcases B with _ | B
  · rfl
  cases B <;> first | rfl | (rename_i vs; cases vs <;> rfl)
theorem finW_nm {as : List LV} {r : List RV} {st : St} : finishW as r (some (.nm, st)) = finW2 (resV st r) (closeV st.m (trav (backV st.s) (.tu (preA as)))) := by
  simp only [finishW]
  generalize resV st r = A
  generalize closeV st.m (trav (backV st.s) (.tu (preA as))) = B
  rcases A with _ | A
  · rfl
  rcases B with _ | B
  · rfl
  cases B <;> first | rfl | (rename_i vs; cases vs <;> rfl)
def backR : LV → LV
  | .rf i ch lo n => .rf i ch lo n | _ => .un
theorem backV_rf {s : Nat → LV} {k n : Nat} : backV s k (.rf (.pr 0 k) none 0 n) = backR (s (100000 + k)) := by
  simp only [backV, mk0, if_true, backR]
  cases s (100000 + k) <;> rfl
theorem backV_sc {s : Nat → LV} {k : Nat} {v : Value} : backV s k (.sc v) = .sc v := rfl
theorem backV_nl {s : Nat → LV} {k : Nat} : backV s k .nl = .nl := rfl
theorem backV_ro {s : Nat → LV} {k n : Nat} {r : List (List Cell)} : backV s k (.ro n r) = .ro n r := rfl
theorem backR_rf {i : Id} {ch : Option (Nat × Nat)} {lo n : Nat} : backR (.rf i ch lo n) = .rf i ch lo n := rfl
theorem outS_n (t : Nat) : outS [] t = .un := rfl
theorem outS_c (k : Nat) (x : LV) (l : List (Nat × LV)) (t : Nat) : outS ((k, x) :: l) t = if t = k then outV k x else outS l t := rfl
theorem outV_rf {k n : Nat} : outV k (.rf (.pr 0 k) none 0 n) = .rf (.pr 0 k) none 0 n := by simp [outV, mk0]
theorem outV_sc {k : Nat} {v : Value} : outV k (.sc v) = .un := rfl
theorem outV_nl {k : Nat} : outV k .nl = .un := rfl
theorem outV_ro {k n : Nat} {r : List (List Cell)} : outV k (.ro n r) = .un := rfl
end Go.Proofs.YthnkioafikmmaaaDoor.Ev
