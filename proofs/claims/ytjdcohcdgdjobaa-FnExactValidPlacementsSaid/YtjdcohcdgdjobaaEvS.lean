/- Slices made, and grown. -/
import Derived.Test.YtjdcohcdgdjobaaEvR
import Derived.Laws.MakeOwn
import Derived.Deep.Upon
import Derived.Laws.BitsLemmas
import Derived.Deep.AppendSrc
namespace Go.Proofs.Ytjdcohcdgdjobaa.Ev
open Go
set_option linter.unusedVariables false
set_option linter.unusedSimpArgs false

section
variable {P : Program} {S N : Nat → Prop} {G G0 : Gh} {m : Mem} {st : St} {a : Act} {w : World}

def bytesT (P : Program) (t : TypeId) : Option Nat := (P.info? t).map (·.bytes)

theorem nat_of (h : SR S N G st a w) {x : Opd} {x' : Operand} (hx : fO x x' = true) {k : Nat} (hk : natOf (opd st.s x) = some k) : a.eval x' = .int .i64 k := by
  have r1 := (h.opd hx).1
  unfold natOf at hk
  split at hk
  · rename_i n e
    rw [e] at r1
    split at hk
    · rename_i h0
      cases hk
      rw [r1.1]; congr 1; omega
    · cases hk
  · cases hk

theorem do_ms (h : SR S N G st a w) {x : Opd} {x' : Operand} {t el : TypeId} {n by_ : Nat} {z : List Cell} {zv : List Value} {o : Oper} (hx : fO x x' = true) (ho : o.op = .makeSlice t x' x')
    (ht : P.underlying t = some (.slice el)) (hs : sizeT P el = some n) (hbt : bytesT P el = some by_) (hby : by_ ≤ 100000) (hz : zeroT P el = some zv) (hzz : fZC z zv = true) (hn : z.length = n) {k : Nat} (hk : natOf (opd st.s x) = some k) (hkb : k ≤ big)
    {i : Id} (hi : st.m i = none) : Does P o a w (Next S N G st w (.rf i none 0 k) (updM st.m i (some (.arr el n (List.replicate k z))))) := by
  obtain ⟨v0, e1, e2⟩ := zeroT_run (P := P) (w := w) hz
  subst hn
  have ek := nat_of h hx hk
  have hflat := Flat.zero (S := S) (w := w) hzz k
  have res := Does.rows (P := P) (o := o) h hi (e := el) hflat (by simp only [List.length_replicate, maxLen]; unfold big at hkb; omega)
  rw [List.length_replicate] at res
  refine res ?_
  cases hinfo : P.info? el with
  | none => simp [bytesT, hinfo] at hbt
  | some inf =>
    have hb : inf.bytes = by_ := by simpa [bytesT, hinfo] using hbt
    have hsz : inf.size = z.length := by simpa [sizeT, hinfo] using hs
    have hzr : inf.zero = some v0 := by
      cases hq : inf.zero with
      | none => simp [zeroValue, typeInfo, hinfo, hq] at e1
      | some v1 =>
        simp [zeroValue, typeInfo, hinfo, hq] at e1
        rw [e1]
    have hsmall : by_ * k ≤ 100000 * 1000000000 := Nat.mul_le_mul hby hkb
    have hlarge : (inf.bytes : Int) * (k : Int) ≤ 281474976710656 := by
      have : ((by_ * k : Nat) : Int) ≤ 281474976710656 := by omega
      rw [Int.natCast_mul] at this
      rw [hb]; exact this
    have main := run_make (P := P) w t el inf v0 ht hinfo hzr .i64 .i64 k k (by omega) (Int.le_refl _) hlarge (by unfold big at hkb; omega)
    rw [Int.toNat_natCast, hsz, e2] at main
    simp only [execOp, ho, ek, Sem.run_bind, main, Result.andThen_ok, Sem.run_pure, madeCells]

/-! ### append -/
def okC : Cell → Bool
  | .un | .sl true _ _ _ => false | _ => true
theorem okC_own {x : Cell} (h : okC x = true) : noOwn x = true := by
  cases x with
  | sl o _ _ _ => cases o <;> first | rfl | cases h
  | _ => rfl
theorem okC_one {x : Cell} {u : Value} (h : okC x = true) (r : RdC S w x u) : u.oneCell' = true := by
  cases x with
  | un => cases h
  | sc v => obtain ⟨rfl, hs⟩ := r; cases u <;> first | rfl | cases hs
  | nl => cases r; rfl
  | sl o e st rows => obtain ⟨_, _, rfl, _⟩ := r; rfl
def bytesRows (b : ByteArray) : List (List Cell) := b.data.toList.map fun u => [.sc (.int .u8 u.toNat)]

/-- the rows that an append takes -/
def srcRows (m : Mem) (n : Nat) : LV → Option (List (List Cell))
  | .nl => some []
  | .ro st rows => if st = n ∧ rows.all (·.all okC) = true then some rows else none
  | .rf j ch lo k =>
    match look m j ch with
    | some (_, st, rows) => if st = n ∧ lo + k ≤ rows.length ∧ ((rows.drop lo).take k).all (·.all okC) = true then some ((rows.drop lo).take k) else none
    | none => none
  | .sc (.string b) => if n = 1 then some (bytesRows b) else none
  | _ => none

theorem own_ok (h : Inv S N G m w) {i : Id} {ch : Option (Nat × Nat)} {e n : Nat} {rows : List (List Cell)} (hl : look m i ch = some (e, n, rows)) :
    OwG (fun _ _ x u => okC x = true → RdC S w x u) w (G.blkOf i ch) e (G.capOf i ch) n rows := by
  rcases look_inv hl with ⟨rfl, hm⟩ | ⟨r, c, e0, n0, rows0, row0, rows', rfl, hm, hr, hc, rfl⟩
  · refine OwG.mono (h.arr i e n rows hm) rfl fun r c row x u hr hc ho => ?_
    cases x with
    | un => exact fun q => by cases q
    | sc v => exact fun _ => ho
    | nl => exact fun _ => ho
    | sl o e' n' l =>
      cases o with
      | true => exact fun q => by cases q
      | false => exact fun _ => ho
  · obtain ⟨cs, _, _, _, _, k⟩ := h.arr i e0 n0 rows0 hm
    obtain ⟨u, _, hu⟩ := (k r row0 hr).2 c _ hc
    obtain ⟨cs2, q1, q2, q3, q4, q5⟩ := hu.2
    refine ⟨cs2, q1, q2, by simpa [Ev.lift, Gh.capOf] using q3, q4, fun r2 row2 hr2 => ?_⟩
    simp only [Ev.lift, List.getElem?_map, Option.map_eq_some_iff] at hr2
    obtain ⟨row3, hr3, rfl⟩ := hr2
    obtain ⟨g1, g2⟩ := q5 r2 row3 hr3
    refine ⟨by simpa using g1, fun k2 x hk2 => ?_⟩
    simp only [List.getElem?_map, Option.map_eq_some_iff] at hk2
    obtain ⟨y, hy, rfl⟩ := hk2
    obtain ⟨u2, t1, t2⟩ := g2 k2 y hy
    exact ⟨u2, t1, fun _ => t2⟩

/-- rows that lie behind an address, as cells -/
theorem flat_of {n : Nat} {rows : List (List Cell)} {A : Addr} (hn : 0 < n) (hok : rows.all (·.all okC) = true)
    (hc : ∀ (r : Nat) (row : List Cell), rows[r]? = some row → row.length = n ∧ ∀ (k : Nat) (x : Cell), row[k]? = some x → ∃ u, w.cell? (A.add (r * n + k)) = some u ∧ RdC S w x u) :
    ∃ news : List Value, news.length = rows.length * n ∧ (∀ j u, news[j]? = some u → w.cell? (A.add j) = some u) ∧ (∀ u ∈ news, u.oneCell' = true) ∧ Flat S w n rows news.toArray := by
  have hok' : ∀ (r : Nat) (row : List Cell) (k : Nat) (x : Cell), rows[r]? = some row → row[k]? = some x → okC x = true := fun r row k x h1 h2 =>
    List.all_eq_true.1 (List.all_eq_true.1 hok row (List.mem_of_getElem? h1)) x (List.mem_of_getElem? h2)
  have split : ∀ j, j < rows.length * n → ∃ row x u, rows[j / n]? = some row ∧ row[j % n]? = some x ∧ w.cell? (A.add j) = some u ∧ RdC S w x u ∧ okC x = true := by
    intro j hj
    have h1 : j / n < rows.length := Nat.div_lt_of_lt_mul (by rw [Nat.mul_comm]; exact hj)
    have h2 : j % n < n := Nat.mod_lt _ hn
    obtain ⟨g1, g2⟩ := hc (j / n) rows[j / n] (List.getElem?_eq_getElem h1)
    have h3 : (rows[j / n])[j % n]? = some (rows[j / n])[j % n] := List.getElem?_eq_getElem (by omega)
    obtain ⟨u, u1, u2⟩ := g2 (j % n) _ h3
    rw [show j / n * n + j % n = j from by rw [Nat.mul_comm]; exact Nat.div_add_mod j n] at u1
    exact ⟨_, _, u, List.getElem?_eq_getElem h1, h3, u1, u2, hok' _ _ _ _ (List.getElem?_eq_getElem h1) h3⟩
  refine ⟨(List.range (rows.length * n)).map fun j => (w.cell? (A.add j)).getD undef, by simp, fun j u hj => ?_, fun u hu => ?_, by simp, fun r row hr => ?_⟩
  · simp only [List.getElem?_map, Option.map_eq_some_iff] at hj
    obtain ⟨j', h1, h2⟩ := hj
    obtain ⟨h0, rfl⟩ := List.getElem?_eq_some_iff.1 h1
    simp only [List.length_range] at h0
    simp only [List.getElem_range] at h2
    obtain ⟨_, _, u', _, _, q1, _⟩ := split j h0
    rw [q1] at h2 ⊢
    simpa using h2
  · simp only [List.mem_map, List.mem_range] at hu
    obtain ⟨j, h0, rfl⟩ := hu
    obtain ⟨_, x, u', _, _, q1, q2, q3⟩ := split j h0
    rw [q1]
    exact okC_one q3 q2
  · obtain ⟨g1, g2⟩ := hc r row hr
    refine ⟨g1, fun k x hk => ?_⟩
    obtain ⟨u, u1, u2⟩ := g2 k x hk
    refine ⟨okC_own (hok' r row k x hr hk), u, ?_, u2⟩
    have h1 := (List.getElem?_eq_some_iff.1 hr).1
    have h2 := (List.getElem?_eq_some_iff.1 hk).1
    have hb : r * n + k < rows.length * n := by
      have : (r + 1) * n ≤ rows.length * n := Nat.mul_le_mul_right _ h1
      rw [Nat.add_mul, Nat.one_mul] at this; omega
    simp [List.getElem?_map, List.getElem?_range, hb, u1]

def srcT (el : TypeId) : LV → TypeDesc
  | .sc _ => .string | _ => .slice el

theorem src_R (h : SR S N G st a w) {n : Nat} (hn : 0 < n) {x : LV} {v : Value} {rows : List (List Cell)} (hs : srcRows st.m n x = some rows) (r : R G S st.m w x v) {tx el : TypeId}
    (hk : P.underlying tx = some (srcT el x)) :
    ∃ news, Go.Src P n tx v rows.length news w ∧ Flat S w n rows news.toArray := by
  have nilF : Flat S w n [] (([] : List Value).toArray) := ⟨by simp, fun r row hr => by simp at hr⟩
  cases x <;> simp only [srcRows] at hs <;> try (cases hs; done)
  case nl =>
    cases hs
    simp only [R, R1, R0] at r
    subst r
    exact ⟨[], Go.Src.ofNil w hk 0, nilF⟩
  case sc u =>
    cases u <;> simp only at hs <;> try (cases hs; done)
    rename_i b
    split at hs
    case isFalse => cases hs
    rename_i hn1
    subst hn1
    cases hs
    simp only [R, R1, R0] at r
    obtain ⟨rfl, _⟩ := r
    have hl : (bytesRows b).length = b.size := by unfold bytesRows; rw [List.length_map, Array.length_toList]; rfl
    refine ⟨byteCells b, by rw [hl]; exact Go.Src.ofString w hk b, by simp [byteCells, bytesRows], fun r row hr => ?_⟩
    simp only [bytesRows, List.getElem?_map, Option.map_eq_some_iff] at hr
    obtain ⟨u, hu, rfl⟩ := hr
    refine ⟨rfl, fun k x hk => ?_⟩
    cases k with
    | succ k => simp at hk
    | zero =>
      simp at hk
      subst hk
      exact ⟨rfl, .int .u8 u.toNat, by simp [byteCells, hu], rfl, rfl⟩
  case ro st0 rows0 =>
    split at hs
    case isFalse => cases hs
    rename_i hc
    obtain ⟨rfl, hok⟩ := hc
    cases hs
    simp only [R, R1, R0] at r
    obtain ⟨A, c, rfl, hle, q⟩ := r
    cases hrows : rows with
    | nil =>
      cases A with
      | none => exact ⟨[], Go.Src.ofNil w hk c, nilF⟩
      | some A => exact ⟨[], Go.Src.ofSlice w hk A 0 c [] (by simp) (fun _ _ h => by simp at h) (fun _ h => by cases h), nilF⟩
    | cons row0 rest =>
      obtain ⟨_, A', hA, _⟩ := q 0 row0 (by rw [hrows]; rfl)
      subst hA
      rw [← hrows]
      obtain ⟨news, n1, n2, n3, n4⟩ := flat_of (S := S) (w := w) (A := A') hn hok (fun r row hr => by
        obtain ⟨g1, A2, g2, _, g3⟩ := q r row hr
        cases g2
        exact ⟨g1, g3⟩)
      exact ⟨news, Go.Src.ofSlice w hk A' _ c news n1 n2 n3, n4⟩
  case rf j ch lo k =>
    cases hl : look st.m j ch with
    | none => rw [hl] at hs; cases hs
    | some q =>
      obtain ⟨e0, st0, rows0⟩ := q
      rw [hl] at hs
      simp only at hs
      split at hs
      case isFalse => cases hs
      rename_i hc
      obtain ⟨rfl, hle, hok⟩ := hc
      cases hs
      simp only [R, R1, R0, hl] at r
      obtain ⟨A, c, rfl, hkc, hcap, hA⟩ := r
      have hlen : ((rows0.drop lo).take k).length = k := by simp; omega
      rcases Nat.eq_zero_or_pos k with h0 | h0
      · subst h0
        simp only [List.take_zero, List.length_nil]
        cases A with
        | none => exact ⟨[], Go.Src.ofNil w hk c, nilF⟩
        | some A => exact ⟨[], Go.Src.ofSlice w hk A 0 c [] (by simp) (fun _ _ h => by simp at h) (fun _ h => by cases h), nilF⟩
      · have hA' := hA (by omega)
        subst hA'
        obtain ⟨cs, b1, b2, b3, b4, b5⟩ := own_ok h.inv hl
        obtain ⟨news, n1, n2, n3, n4⟩ := flat_of (S := S) (w := w) (A := ⟨G.blkOf j ch, lo * st0, none⟩) hn hok (fun r row hr => by
          rw [List.getElem?_take] at hr
          split at hr
          case isFalse => cases hr
          rw [List.getElem?_drop] at hr
          obtain ⟨g1, g2⟩ := b5 (lo + r) row hr
          refine ⟨g1, fun k2 x hk2 => ?_⟩
          obtain ⟨u, u1, u2⟩ := g2 k2 x hk2
          refine ⟨u, ?_, u2 ?_⟩
          · rw [Addr.add_lit, cell_of_row w _ _ cs e0 (0, 0) b1]
            rw [show lo * st0 + (r * st0 + k2) = (lo + r) * st0 + k2 from by rw [Nat.add_mul]; omega]
            exact u1
          · refine List.all_eq_true.1 (List.all_eq_true.1 hok row ?_) x (List.mem_of_getElem? hk2)
            refine List.mem_of_getElem? (i := r) ?_
            rw [List.getElem?_take, if_pos (by assumption), List.getElem?_drop]
            exact hr)
        rw [hlen] at n1 ⊢
        exact ⟨news, Go.Src.ofSlice w hk _ k c news n1 n2 n3, n4⟩

theorem room_src (w : World) (t tx ty e : TypeId) (i : TypeInfo) (ht : P.underlying t = some (.slice e)) (hi : P.info? e = some i) (g sLen sCap : Nat) (cur : Array Value) (hg : w.heap[g]? = some (.cells cur e (0, 0))) (x : Value) (n : Nat) (news : List Value)
    (hs : Go.Src P i.size tx x n news w) (hroom : sLen + n ≤ sCap) (hfit : sLen * i.size + news.length ≤ cur.size) :
    (Builtin.append_ #[t, tx] ty #[.slice (some ⟨g, 0, none⟩) sLen sCap, x]).run P w =
      .ok (.slice (some ⟨g, 0, none⟩) (sLen + n) sCap) (w.setRow g (cur.toList.take (sLen * i.size) ++ news ++ cur.toList.drop (sLen * i.size + news.length)).toArray) := by
  have hst := run_storeCells_at P g (sLen * i.size) e news 0 cur w hg (by simpa using hfit) hs.one
  simp only [Nat.add_zero] at hst
  rcases hs.kind with ⟨e', hk⟩ | hk <;> simp [Builtin.append_, run_underlying ht, run_underlying hk, sizeOf, typeInfo, hi, hs.len, hroom, hs.cells, Addr.add_lit, hst]

/-- i's memory goes over to k, with rows more -/
def Gh.move (G : Gh) (i k : Id) (b c : Nat) : Gh :=
  { blk := fun j => if j = k then b else G.blk j, cap := fun j => if j = k then c else G.cap j, cblk := fun j => if j = k then G.cblk i else G.cblk j, ccap := fun j => if j = k then G.ccap i else G.ccap j }

theorem renew (h : Inv S N G m w) (hn : ∀ b, w.heap.size ≤ b → N b) {i k : Id} {e n : Nat} {rows more : List (List Cell)} (hi : m i = some (.arr e n rows)) (hk : m k = none) {w' : World} {B C : Nat} {cs : Array Value}
    (hB : B = G.blk i ∨ B = w.heap.size) (hheap : ∀ b, b < w.heap.size → b ≠ B → w'.heap[b]? = w.heap[b]?) (hsz : w.heap.size ≤ w'.heap.size)
    (hcs : w'.heap[B]? = some (.cells cs e (0, 0))) (hsize : cs.size = C * n) (hlen : rows.length + more.length ≤ C) (hC : C ≤ maxLen)
    (hold : ∀ (r : Nat) (row : List Cell), rows[r]? = some row → row.length = n ∧ ∀ (c : Nat) (x : Cell), row[c]? = some x → ∃ u, cs[r * n + c]? = some u ∧ OwC G S w i r c x u)
    (hnew : ∀ (r : Nat) (row : List Cell), more[r]? = some row → row.length = n ∧ ∀ (c : Nat) (x : Cell), row[c]? = some x → noOwn x = true ∧ ∃ u, cs[(rows.length + r) * n + c]? = some u ∧ RdC S w x u) :
    Keep G m (G.move i k B C) (updM (updM m i (some .dead)) k (some (.arr e n (rows ++ more)))) ∧ (∀ b, S b → w'.heap[b]? = w.heap[b]?) ∧ Inv S N (G.move i k B C) (updM (updM m i (some .dead)) k (some (.arr e n (rows ++ more)))) w' := by
  have hik : i ≠ k := fun e => by subst e; rw [hi] at hk; cases hk
  have live_i : live m (.root i) := .inr ⟨e, n, rows, hi⟩
  have hBS : ¬ S B ∧ N B := by
    rcases hB with rfl | rfl
    · exact h.sep _ live_i
    · exact ⟨fun hs => by have := h.old _ hs; omega, hn _ (Nat.le_refl _)⟩
  have hS : ∀ b, S b → w'.heap[b]? = w.heap[b]? := fun b hb => hheap b (h.old b hb) (fun e => hBS.1 (e ▸ hb))
  have mk : (updM (updM m i (some .dead)) k (some (.arr e n (rows ++ more)))) k = some (.arr e n (rows ++ more)) := updM_eq
  have mi : (updM (updM m i (some .dead)) k (some (.arr e n (rows ++ more)))) i = some .dead := by rw [updM_ne hik, updM_eq]
  have mo : ∀ j, j ≠ i → j ≠ k → (updM (updM m i (some .dead)) k (some (.arr e n (rows ++ more)))) j = m j := fun j h1 h2 => by rw [updM_ne h2, updM_ne h1]
  have gk : (G.move i k B C).blk k = B ∧ (G.move i k B C).cap k = C ∧ (G.move i k B C).cblk k = G.cblk i ∧ (G.move i k B C).ccap k = G.ccap i := by simp [Gh.move]
  have go : ∀ j, j ≠ k → (G.move i k B C).blk j = G.blk j ∧ (G.move i k B C).cap j = G.cap j ∧ (G.move i k B C).cblk j = G.cblk j ∧ (G.move i k B C).ccap j = G.ccap j := fun j hj => by simp [Gh.move, hj]
  generalize hm' : updM (updM m i (some .dead)) k (some (.arr e n (rows ++ more))) = m' at mk mi mo ⊢
  generalize hG' : G.move i k B C = G' at gk go ⊢
  have keep : Keep G m G' m' := by
    refine ⟨fun j hj => ?_, fun j ch q' hj hq => ?_, fun j c' hj hq => ?_⟩
    · by_cases h1 : j = i
      · subst h1; rw [mi]; simp
      · by_cases h2 : j = k
        · subst h2; exact absurd hk hj
        · rw [mo j h1 h2]; exact hj
    · have h2 : j ≠ k := fun e => by subst e; exact hj hk
      by_cases h1 : j = i
      · subst h1; simp [look, mi] at hq
      · have hlk : look m' j ch = look m j ch := by simp [look, mo j h1 h2]
        rw [hlk] at hq
        obtain ⟨g1, g2, g3, g4⟩ := go j h2
        refine ⟨q', hq, rfl, ?_, ?_⟩ <;> cases ch <;> simp [Gh.blkOf, Gh.capOf, g1, g2, g3, g4]
    · have h2 : j ≠ k := fun e => by subst e; exact hj hk
      by_cases h1 : j = i
      · subst h1; rw [mi] at hq; cases hq
      · rw [mo j h1 h2] at hq; exact ⟨⟨c', hq⟩, (go j h2).1⟩
  -- what lives there, lived here
  have cellNew : ∀ r c e' n' l, cellAt (rows ++ more) r c = some (.sl true e' n' l) → cellAt rows r c = some (.sl true e' n' l) := by
    intro r c e' n' l hc
    simp only [cellAt, Option.bind_eq_some_iff] at hc ⊢
    obtain ⟨row, t1, t2⟩ := hc
    by_cases hr : r < rows.length
    · rw [List.getElem?_append_left hr] at t1; exact ⟨row, t1, t2⟩
    · rw [List.getElem?_append_right (by omega)] at t1
      have := ((hnew _ row t1).2 c _ t2).1
      cases this
  have back : ∀ p, live m' p → p = .root k ∨ (∃ q, live m q ∧ G'.at p = G.at q ∧ q ≠ .root i ∧ ((∃ r c, p = .chld k r c ∧ q = .chld i r c) ∨ (p = q ∧ (∀ r c, q ≠ .chld i r c)))) := by
    intro p hp
    cases p with
    | root j =>
      by_cases h2 : j = k
      · exact .inl (by rw [h2])
      · have h1 : j ≠ i := fun e => by subst e; rcases hp with ⟨_, q⟩ | ⟨_, _, _, q⟩ <;> rw [mi] at q <;> cases q
        refine .inr ⟨.root j, ?_, (go j h2).1, fun e => by cases e; exact h1 rfl, .inr ⟨rfl, fun _ _ e => by cases e⟩⟩
        simp only [live] at hp ⊢
        rw [mo j h1 h2] at hp
        exact hp
    | chld j r c =>
      obtain ⟨e0, n0, rows0, row0, e', n', l, q1, q2, q3⟩ := hp
      by_cases h2 : j = k
      · subst h2
        rw [mk] at q1
        cases q1
        have := cellNew r c e' n' l (by simp [cellAt, q2, q3])
        simp only [cellAt, Option.bind_eq_some_iff] at this
        obtain ⟨row', t1, t2⟩ := this
        exact .inr ⟨.chld i r c, ⟨_, _, rows, row', e', n', l, hi, t1, t2⟩, by simp only [Gh.at, gk.2.2.1], fun e => (by cases e), .inl ⟨r, c, rfl, rfl⟩⟩
      · have h1 : j ≠ i := fun e => by subst e; rw [mi] at q1; cases q1
        rw [mo j h1 h2] at q1
        exact .inr ⟨.chld j r c, ⟨e0, n0, rows0, row0, e', n', l, q1, q2, q3⟩, by simp only [Gh.at, (go j h2).2.2.1], fun e => (by cases e), .inr ⟨rfl, fun r' c' e => by cases e; exact h1 rfl⟩⟩
  have atB : ∀ q, live m q → q ≠ .root i → G.at q ≠ B := by
    intro q hq hne e
    rcases hB with rfl | rfl
    · exact hne (h.inj q (.root i) hq live_i e)
    · have := h.lt hq; omega
  have heapq : ∀ q, live m q → q ≠ .root i → w'.heap[G.at q]? = w.heap[G.at q]? := fun q hq hne => hheap _ (h.lt hq) (atB q hq hne)
  refine ⟨keep, hS, fun j e2 n2 rows2 hj => ?_, fun j c hj => ?_, fun p q hp hq he => ?_, fun p hp => ?_, fun b hb => Nat.lt_of_lt_of_le (h.old b hb) hsz⟩
  · by_cases h2 : j = k
    · subst h2
      rw [mk] at hj
      cases hj
      rw [gk.1, gk.2.1]
      refine ⟨cs, hcs, hsize, by simpa using hlen, hC, fun r row hr => ?_⟩
      by_cases hrl : r < rows.length
      · rw [List.getElem?_append_left hrl] at hr
        obtain ⟨g1, g2⟩ := hold r row hr
        refine ⟨g1, fun c x hx => ?_⟩
        obtain ⟨u, u1, u2⟩ := g2 c x hx
        refine ⟨u, u1, ?_⟩
        cases x with
        | un => trivial
        | sc v => exact u2
        | nl => exact u2
        | sl o e' n' l =>
          cases o with
          | false => exact RdG.mono u2 (fun _ _ h => h) (fun _ h => h) hS
          | true =>
            obtain ⟨t1, t2⟩ := u2
            refine ⟨by rw [gk.2.2.1, gk.2.2.2]; exact t1, ?_⟩
            rw [gk.2.2.1, gk.2.2.2]
            exact OwG.mono t2 (heapq (.chld i r c) ⟨_, _, rows, row, e', n', l, hi, hr, hx⟩ (fun e => by cases e)) (fun _ _ _ _ _ _ _ h => h)
      · rw [List.getElem?_append_right (by omega)] at hr
        obtain ⟨g1, g2⟩ := hnew _ row hr
        refine ⟨g1, fun c x hx => ?_⟩
        obtain ⟨t1, u, u1, u2⟩ := g2 c x hx
        refine ⟨u, by rw [← u1, show rows.length + (r - rows.length) = r from by omega], ?_⟩
        exact noOwn_OwC t1 (RdC.mono u2 (fun _ h => h) hS)
    · have h1 : j ≠ i := fun e => by subst e; rw [mi] at hj; cases hj
      rw [mo j h1 h2] at hj
      obtain ⟨g1, g2, g3, g4⟩ := go j h2
      rw [g1, g2]
      refine OwG.mono (h.arr j e2 n2 rows2 hj) (heapq (.root j) (.inr ⟨e2, n2, rows2, hj⟩) (fun e => by cases e; exact h1 rfl)) fun r c row x u hr hc ho => OwC.mono ho ⟨by rw [g3], by rw [g4]⟩ hS fun e' n' l hx => ?_
      subst hx
      exact heapq (.chld j r c) ⟨e2, n2, rows2, row, e', n', l, hj, hr, hc⟩ (fun e => by cases e)
  · have h2 : j ≠ k := fun e => by subst e; rw [mk] at hj; cases hj
    have h1 : j ≠ i := fun e => by subst e; rw [mi] at hj; cases hj
    rw [mo j h1 h2] at hj
    obtain ⟨cs0, e0, k1, k2⟩ := h.box j c hj
    exact ⟨cs0, e0, by rw [(go j h2).1]; exact (heapq (.root j) (.inl ⟨c, hj⟩) (fun e => by cases e; exact h1 rfl)).trans k1, k2.mono fun x u _ hx => ⟨R0.write hS keep hx.2.2 hx.1, hx.2.1, wf0.ext keep.ne hx.2.2⟩⟩
  · rcases back p hp with rfl | ⟨p', p1, p2, p3, p4⟩ <;> rcases back q hq with rfl | ⟨q', q1, q2, q3, q4⟩
    · rfl
    · exact absurd (by rw [← q2, ← he]; exact gk.1) (atB q' q1 q3)
    · exact absurd (by rw [← p2, he]; exact gk.1) (atB p' p1 p3)
    · have := h.inj p' q' p1 q1 (by rw [← p2, ← q2, he])
      subst this
      rcases p4 with ⟨r, c, rfl, rfl⟩ | ⟨rfl, p5⟩ <;> rcases q4 with ⟨r', c', rfl, e'⟩ | ⟨rfl, q5⟩
      · cases e'; rfl
      · exact absurd rfl (q5 r c)
      · exact absurd e' (p5 r' c')
      · rfl
  · rcases back p hp with rfl | ⟨p', p1, p2, _⟩
    · simp only [Gh.at, gk.1]; exact hBS
    · rw [p2]; exact h.sep p' p1

theorem Flat.get {n : Nat} {rows : List (List Cell)} {news : List Value} (h : Flat S w n rows news.toArray) (r : Nat) (row : List Cell) (hr : rows[r]? = some row) : row.length = n ∧ ∀ (k : Nat) (x : Cell), row[k]? = some x → Ev.noOwn x = true ∧ ∃ u, news[r * n + k]? = some u ∧ RdC S w x u := by
  obtain ⟨g1, g2⟩ := h.2 r row hr
  refine ⟨g1, fun k x hk => ?_⟩
  obtain ⟨t1, u, t2, t3⟩ := g2 k x hk
  exact ⟨t1, u, by simpa using t2, t3⟩

/-- APPEND to a slice of one's own -/
theorem do_ap (h : SR S N G st a w) {x y : Opd} {x' y' : Operand} {t tx el : TypeId} {n by_ : Nat} {zv : List Value} {o : Oper} (hx : fO x x' = true) (hy : fO y y' = true)
    (ho : o.op = .call { callee := .builtin .append, args := #[x', y'], argTypes := #[t, tx] }) (ht : P.underlying t = some (.slice el)) (htx : P.underlying tx = some (srcT el (opd st.s y)))
    (hs : sizeT P el = some n) (hbt : bytesT P el = some by_) (hby : by_ ≤ 100000) (hz : zeroT P el = some zv) (hzn : zv.length = n) (hn : 0 < n)
    {i k : Id} {rows more : List (List Cell)} (ex : opd st.s x = .rf i none 0 rows.length) (hi : st.m i = some (.arr el n rows)) (hsr : srcRows st.m n (opd st.s y) = some more) (hb : rows.length + more.length ≤ big) (hk : st.m k = none) :
    Does P o a w (NextW S N G st w (.rf k none 0 (rows ++ more).length) (updM (updM st.m i (some .dead)) k (some (.arr el n (rows ++ more))))) := by
  obtain ⟨x1, x2⟩ := h.opd hx
  obtain ⟨y1, y2⟩ := h.opd hy
  obtain ⟨news, s1, s2⟩ := src_R (P := P) h hn hsr y1 htx
  rw [ex] at x1
  simp only [R, R1, R0, look_none hi, Gh.capOf, Gh.blkOf] at x1
  obtain ⟨A, c, ev, hnc, hcap, hA⟩ := x1
  have hA0 := hA (.inr trivial)
  simp only [Nat.zero_mul] at hA0
  subst hA0
  obtain ⟨cs, k1, k2, k3, k4, k5⟩ := h.inv.arr i el n rows hi
  have hcc : c = G.cap i := by omega
  subst hcc
  obtain ⟨v0, e1, e2⟩ := zeroT_run (P := P) (w := w) hz
  cases hinfo : P.info? el with
  | none => simp [bytesT, hinfo] at hbt
  | some inf =>
    have hbb : inf.bytes = by_ := by simpa [bytesT, hinfo] using hbt
    have hsz : inf.size = n := by simpa [sizeT, hinfo] using hs
    have hzr : inf.zero = some v0 := by
      cases hq : inf.zero with
      | none => simp [zeroValue, typeInfo, hinfo, hq] at e1
      | some v1 =>
        simp [zeroValue, typeInfo, hinfo, hq] at e1
        rw [e1]
    have hzs : v0.cells.size = n := by rw [e2]; simpa using hzn
    have hsmall : (rows.length + more.length) * by_ ≤ 1000000000 * 100000 := Nat.mul_le_mul hb hby
    have hnl : news.length = more.length * n := s1.newsLen
    have hcs : cs.size = G.cap i * n := k2
    have blk_lt : G.blk i < w.heap.size := (Array.getElem?_eq_some_iff.1 k1).1
    have fin : ∀ (v' : Value) (w' : World) (B C : Nat) (cs' : Array Value), (execOp a.eval o).run P w = .ok (.value v') w' →
        (B = G.blk i ∨ B = w.heap.size) → (∀ b, b < w.heap.size → b ≠ B → w'.heap[b]? = w.heap[b]?) → w.heap.size ≤ w'.heap.size → w'.heap[B]? = some (.cells cs' el (0, 0)) → cs'.size = C * n → rows.length + more.length ≤ C → C ≤ maxLen →
        (∀ j, j < rows.length * n → cs'[j]? = cs[j]?) → (∀ j, j < more.length * n → cs'[rows.length * n + j]? = news[j]?) → w'.os = w.os → w'.tape = w.tape → w'.output = w.output →
        v' = .slice (some ⟨B, 0, none⟩) (rows.length + more.length) C →
        Does P o a w (NextW S N G st w (.rf k none 0 (rows ++ more).length) (updM (updM st.m i (some .dead)) k (some (.arr el n (rows ++ more))))) := by
      intro v' w' B C cs' hrun hB hheap hsize hcs' hC1 hC2 hC3 ho1 ho2 f1 f2 f3 hv
      have hA1 : ∀ (r : Nat) (row : List Cell), rows[r]? = some row → row.length = n ∧ ∀ (c : Nat) (x : Cell), row[c]? = some x → ∃ u, cs'[r * n + c]? = some u ∧ OwC G S w i r c x u := by
        intro r row hr
        obtain ⟨g1, g2⟩ := k5 r row hr
        refine ⟨g1, fun c x hx => ?_⟩
        obtain ⟨u, u1, u2⟩ := g2 c x hx
        refine ⟨u, ?_, u2⟩
        rw [ho1 _ ?_]; · exact u1
        have h1 := (List.getElem?_eq_some_iff.1 hr).1
        have h2 := (List.getElem?_eq_some_iff.1 hx).1
        have : (r + 1) * n ≤ rows.length * n := Nat.mul_le_mul_right _ h1
        rw [Nat.add_mul, Nat.one_mul] at this; omega
      have hA2 : ∀ (r : Nat) (row : List Cell), more[r]? = some row → row.length = n ∧ ∀ (c : Nat) (x : Cell), row[c]? = some x → noOwn x = true ∧ ∃ u, cs'[(rows.length + r) * n + c]? = some u ∧ RdC S w x u := by
        intro r row hr
        obtain ⟨g1, g2⟩ := s2.get r row hr
        refine ⟨g1, fun c x hx => ?_⟩
        obtain ⟨t1, u, u1, u2⟩ := g2 c x hx
        refine ⟨t1, u, ?_, u2⟩
        rw [show (rows.length + r) * n + c = rows.length * n + (r * n + c) from by rw [Nat.add_mul]; omega, ho2 _ ?_]; · exact u1
        have h1 := (List.getElem?_eq_some_iff.1 hr).1
        have h2 := (List.getElem?_eq_some_iff.1 hx).1
        have : (r + 1) * n ≤ more.length * n := Nat.mul_le_mul_right _ h1
        rw [Nat.add_mul, Nat.one_mul] at this; omega
      obtain ⟨b1, b2, b3⟩ := renew h.inv h.new (more := more) hi hk hB hheap hsize hcs' hC1 hC2 hC3 hA1 hA2
      · refine ⟨v', w', hrun, _, b3, fun x u hx hw => ⟨R.write b2 b1 hw hx, wf.ext b1.ne hw⟩, ?_, ?_, f1, f2, f3, hsize, fun b hb' hN => hheap b hb' (fun e => hN ?_)⟩
        · subst hv
          simp only [R, R1, R0, look_none updM_eq, Gh.capOf, Gh.blkOf]
          exact ⟨some ⟨B, 0, none⟩, C, by simp, by simpa using hC2, by simp [Gh.move], fun _ => by simp [Gh.move]⟩
        · simp [wf, wf1, wf0, updM_eq]
        · rcases hB with rfl | rfl
          · rw [e]; exact (h.inv.sep (.root i) (.inr ⟨_, _, _, hi⟩)).2
          · omega
    have step : ∀ v' w', (Builtin.append_ #[t, tx] o.type #[a.eval x', a.eval y']).run P w = .ok v' w' → (execOp a.eval o).run P w = .ok (.value v') w' := by
      intro v' w' hrun
      simp only [execOp, ho, resolve, invoke, builtin, Sem.run_bind, Sem.run_pure, Result.andThen_ok, List.map_toArray, List.map_cons, List.map_nil, hrun]
    by_cases hroom : rows.length + more.length ≤ G.cap i
    · rcases Nat.eq_zero_or_pos (G.cap i) with h0 | h0
      · -- nothing
        have m0 : more.length = 0 := by omega
        have r0 : rows.length = 0 := by omega
        have hnothing := run_append_nothing (P := P) w t tx o.type el inf ht hinfo (some ⟨G.blk i, 0, none⟩) rows.length (G.cap i) hnc (a.eval y') (by rw [hsz]; rw [m0] at s1; rw [m0] at hnl; have : news = [] := List.eq_nil_of_length_eq_zero (by simpa using hnl); rw [this] at s1; exact s1)
        refine fin _ w (G.blk i) (G.cap i) cs (step _ _ (by rw [ev]; exact hnothing)) (.inl rfl) (fun _ _ _ => rfl) (Nat.le_refl _) k1 hcs hroom k4 (fun _ _ => rfl) (fun j hj => by rw [m0] at hj; simp at hj) rfl rfl rfl (by rw [m0]; rfl)
      · have hfit : rows.length * inf.size + news.length ≤ cs.size := by rw [hsz, hnl, hcs, ← Nat.add_mul]; exact Nat.mul_le_mul_right _ hroom
        have hrun := room_src (P := P) w t tx o.type el inf ht hinfo (G.blk i) rows.length (G.cap i) cs k1 (a.eval y') more.length news (by rw [hsz]; exact s1) hroom hfit
        refine fin _ _ (G.blk i) (G.cap i) _ (step _ _ (by rw [ev]; exact hrun)) (.inl rfl) (fun b _ hb' => setRow_other w _ b _ hb') (by simp) (setRow_heap w _ cs _ el (0, 0) k1) ?_ hroom k4 (fun j hj => ?_) (fun j hj => ?_) rfl rfl rfl rfl
        · simp; omega
        · rw [hsz] at *
          have lt : (cs.toList.take (rows.length * n)).length = rows.length * n := by simp; omega
          simp only [List.getElem?_toArray, List.append_assoc]
          rw [List.getElem?_append_left (by omega), List.getElem?_take, if_pos hj]; simp
        · rw [hsz] at *
          have lt : (cs.toList.take (rows.length * n)).length = rows.length * n := by simp; omega
          simp only [List.getElem?_toArray, List.append_assoc]
          rw [List.getElem?_append_right (by omega), List.getElem?_append_left (by omega), lt]
          congr 1; omega
    · have hold : (Builtin.firstCells inf.size rows.length (.slice (some ⟨G.blk i, 0, none⟩) rows.length (G.cap i))).run P w.drew = .ok (cs.toList.take (rows.length * n)).toArray w.drew := by
        have hfit : rows.length * n ≤ cs.size := by rw [hcs]; exact Nat.mul_le_mul_right _ hnc
        refine run_firstCells_some w.drew _ rows.length ⟨G.blk i, 0, none⟩ rows.length (G.cap i) _ (by rw [hsz]; simp; omega) (fun j u hu => ?_)
        rw [Addr.add_lit]
        rw [List.getElem?_take] at hu
        split at hu
        · have : w.drew.cell? ⟨G.blk i, 0 + j, none⟩ = w.cell? ⟨G.blk i, 0 + j, none⟩ := rfl
          rw [this, cell_of_row w _ _ cs el (0, 0) k1, Nat.zero_add]
          simpa using hu
        · cases hu
      have hfits := growslice_fits (need := rows.length + more.length) (old := G.cap i) (bytes := inf.bytes) (by omega) (by rw [hbb]; omega)
      have hrun := run_append_grow_src (P := P) w t tx o.type el inf v0 ht hinfo hzr (some ⟨G.blk i, 0, none⟩) rows.length (G.cap i) _ hold (a.eval y') more.length news (by rw [hsz]; exact s1) (by omega) (by unfold big at hb; omega) hfits
      have hge := grownCap_ge w (rows.length + more.length) (G.cap i) el
      have hcm := grownCap_le_maxLen w (rows.length + more.length) (G.cap i) el (by unfold big at hb; simp only [maxLen]; omega)
      have lt : (cs.toList.take (rows.length * n)).length = rows.length * n := by
        have hfit : rows.length * n ≤ cs.size := by rw [hcs]; exact Nat.mul_le_mul_right _ hnc
        simp; omega
      refine fin _ _ w.heap.size _ _ (step _ _ (by rw [ev]; exact hrun)) (.inr rfl) (fun b hb' _ => heap_alloc_old w.drew _ b hb') (by simp) (heap_alloc_new w.drew _) ?_ hge hcm (fun j hj => ?_) (fun j hj => ?_) rfl rfl rfl rfl
      · rw [Array.size_append, size_zeroCells, hzs, List.size_toArray, List.length_append, lt, hnl, ← Nat.add_mul, ← Nat.add_mul]
        congr 1; omega
      · rw [Array.getElem?_append_left (by rw [List.size_toArray, List.length_append, lt]; omega)]
        simp only [List.getElem?_toArray]
        rw [List.getElem?_append_left (by omega), List.getElem?_take, if_pos hj]; simp
      · rw [Array.getElem?_append_left (by rw [List.size_toArray, List.length_append, lt]; omega)]
        simp only [List.getElem?_toArray]
        rw [List.getElem?_append_right (by omega), lt]
        congr 1; omega

/-- APPEND to nothing -/
theorem do_ap_nil (h : SR S N G st a w) {x y : Opd} {x' y' : Operand} {t tx el : TypeId} {n by_ : Nat} {zv : List Value} {o : Oper} (hx : fO x x' = true) (hy : fO y y' = true)
    (ho : o.op = .call { callee := .builtin .append, args := #[x', y'], argTypes := #[t, tx] }) (ht : P.underlying t = some (.slice el)) (htx : P.underlying tx = some (srcT el (opd st.s y)))
    (hs : sizeT P el = some n) (hbt : bytesT P el = some by_) (hby : by_ ≤ 100000) (hz : zeroT P el = some zv) (hzn : zv.length = n) (hn : 0 < n)
    {k : Id} {more : List (List Cell)} (ex : opd st.s x = .nl) (hsr : srcRows st.m n (opd st.s y) = some more) (hb : more.length ≤ big) (hk : st.m k = none) :
    Does P o a w (fun v' w' => if more.length = 0 then Next S N G st w .nl st.m v' w' else Next S N G st w (.rf k none 0 more.length) (updM st.m k (some (.arr el n more))) v' w') := by
  obtain ⟨x1, x2⟩ := h.opd hx
  obtain ⟨y1, y2⟩ := h.opd hy
  obtain ⟨news, s1, s2⟩ := src_R (P := P) h hn hsr y1 htx
  rw [ex] at x1
  simp only [R, R1, R0] at x1
  obtain ⟨v0, e1, e2⟩ := zeroT_run (P := P) (w := w) hz
  cases hinfo : P.info? el with
  | none => simp [bytesT, hinfo] at hbt
  | some inf =>
    have hbb : inf.bytes = by_ := by simpa [bytesT, hinfo] using hbt
    have hsz : inf.size = n := by simpa [sizeT, hinfo] using hs
    have hzr : inf.zero = some v0 := by
      cases hq : inf.zero with
      | none => simp [zeroValue, typeInfo, hinfo, hq] at e1
      | some v1 =>
        simp [zeroValue, typeInfo, hinfo, hq] at e1
        rw [e1]
    have hzs : v0.cells.size = n := by rw [e2]; simpa using hzn
    have hsmall : more.length * by_ ≤ 1000000000 * 100000 := Nat.mul_le_mul hb hby
    have hnl : news.length = more.length * n := s1.newsLen
    have step : ∀ v' w', (Builtin.append_ #[t, tx] o.type #[a.eval x', a.eval y']).run P w = .ok v' w' → (execOp a.eval o).run P w = .ok (.value v') w' := by
      intro v' w' hrun
      simp only [execOp, ho, resolve, invoke, builtin, Sem.run_bind, Sem.run_pure, Result.andThen_ok, List.map_toArray, List.map_cons, List.map_nil, hrun]
    by_cases h0 : more.length = 0
    · have hnothing := run_append_nothing (P := P) w t tx o.type el inf ht hinfo none 0 0 (Nat.le_refl _) (a.eval y') (by rw [hsz]; rw [h0] at s1; rw [h0] at hnl; have : news = [] := List.eq_nil_of_length_eq_zero (by simpa using hnl); rw [this] at s1; exact s1)
      simp only [h0, if_true]
      exact Does.same h (step _ _ (by rw [x1]; exact hnothing)) rfl trivial
    · simp only [h0, if_false]
      have hfits := growslice_fits (need := 0 + more.length) (old := 0) (bytes := inf.bytes) (by omega) (by rw [hbb, Nat.zero_add]; omega)
      have hrun := run_append_grow_src (P := P) w t tx o.type el inf v0 ht hinfo hzr none 0 0 [] (run_firstCells_none w.drew _ 0 0 _) (a.eval y') more.length news (by rw [hsz]; exact s1) (by omega) (by unfold big at hb; omega) hfits
      have hge := grownCap_ge w (0 + more.length) 0 el
      have hcm := grownCap_le_maxLen w (0 + more.length) 0 el (by unfold big at hb; simp only [maxLen]; omega)
      generalize hC : grownCap w (0 + more.length) 0 el = C at hrun hge hcm
      generalize hcs : ((([] : List Value) ++ news).toArray ++ Builtin.zeroCells v0.cells (C - (0 + more.length))) = cs at hrun
      have hold : ∀ b, S b → (w.drew.alloc (.cells cs el)).heap[b]? = w.heap[b]? := fun b hb => heap_alloc_old w.drew _ b (h.inv.old b hb)
      have ext : Ext G st.m w (G.put k w.heap.size C) (updM st.m k (some (.arr el n more))) (w.drew.alloc (.cells cs el)) :=
        have q : Ext G st.m w.drew (G.put k w.heap.size C) (updM st.m k (some (.arr el n more))) (w.drew.alloc (.cells cs el)) := Ext.add hk _ _ _ _
        ⟨q.mem, q.blk, q.heap, q.size⟩
      have inv' : Inv S N G st.m w.drew := h.inv.ext (fun _ _ => rfl) (Nat.le_refl _)
      refine ⟨_, _, step _ _ (by rw [x1]; exact hrun), G.put k w.heap.size C, ext, ?_, ?_, ?_, rfl, rfl, rfl, by simp, fun b hb' _ => heap_alloc_old w.drew _ b hb'⟩
      · refine Inv.add (w := w.drew) inv' h.new hk (fun e' n' rows' q => by cases q; exact s2.noOwn) (fun e' n' rows' q => ?_) (fun _ q => by cases q)
        cases q
        refine ⟨cs, heap_alloc_new w.drew _, ?_, by omega, hcm, fun r row hr => ?_⟩
        · rw [← hcs, Array.size_append, size_zeroCells, hzs, List.size_toArray, List.nil_append, hnl, ← Nat.add_mul]
          congr 1; omega
        · obtain ⟨g1, g2⟩ := s2.get r row hr
          refine ⟨g1, fun c x hx => ?_⟩
          obtain ⟨t1, u, u1, u2⟩ := g2 c x hx
          refine ⟨u, ?_, noOwn_OwC t1 (RdC.mono u2 (fun _ h => h) hold)⟩
          rw [← hcs, Array.getElem?_append_left (by simp; exact (List.getElem?_eq_some_iff.1 u1).1)]
          simpa using u1
      · simp only [R, R1, R0, look_none updM_eq, Gh.capOf, Gh.blkOf]
        exact ⟨_, C, by rw [Nat.zero_add], by omega, by simp [Gh.put], fun _ => by simp [Gh.put]⟩
      · simp [wf, wf1, wf0, updM_eq]
end
end Go.Proofs.Ytjdcohcdgdjobaa.Ev
