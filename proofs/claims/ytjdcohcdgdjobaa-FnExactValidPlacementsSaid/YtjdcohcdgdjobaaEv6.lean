/- A store into an element that moves slices of one's own into it. -/
import Derived.Test.YtjdcohcdgdjobaaEv0
namespace Go.Proofs.Ytjdcohcdgdjobaa.Ev
open Go
set_option linter.unusedVariables false
set_option linter.unusedSimpArgs false

/-! ways into an element's own memory are forgotten -/
def fgt1 (i : Id) : LV → LV
  | .ag vs => .ag (vs.map (fgt0 i))
  | .cl f vs => .cl f (vs.map (fgt0 i))
  | v => fgt0 i v
def fgt2 (i : Id) : LV → LV
  | .tu vs => .tu (vs.map (fgt1 i))
  | v => fgt1 i v
def fgtT (i : Id) : Option Thing → Option Thing
  | some (.box cells) => if (cells.any fun y => decide (ledTo y = some i)) = true then some .dead else some (.box cells)
  | x => x
def fgtM (i : Id) (m : Mem) : Mem := fun k => fgtT i (m k)

section
variable {P : Program} {S N : Nat → Prop} {G G0 : Gh} {m : Mem} {st : St} {a : Act} {w : World}

theorem fgtT_none {i : Id} {x : Option Thing} : fgtT i x = none ↔ x = none := by
  cases x with
  | none => simp [fgtT]
  | some t =>
    cases t with
    | box cells => simp only [fgtT]; split <;> simp
    | _ => simp [fgtT]
theorem fgtM_ne {i k : Id} (h : m k ≠ none) : fgtM i m k ≠ none := fun e => h (fgtT_none.1 e)
theorem fgtM_arr {i k : Id} {e n : Nat} {rows : List (List Cell)} : fgtM i m k = some (.arr e n rows) ↔ m k = some (.arr e n rows) := by
  unfold fgtM
  cases hm : m k with
  | none => simp [fgtT]
  | some t =>
    cases t with
    | box cells => simp only [fgtT]; split <;> simp
    | _ => simp [fgtT]
theorem fgtM_box {i k : Id} {cells : List LV} (h : fgtM i m k = some (.box cells)) : m k = some (.box cells) ∧ ∀ y ∈ cells, ledTo y ≠ some i := by
  unfold fgtM at h
  cases hm : m k with
  | none => rw [hm] at h; cases h
  | some t =>
    rw [hm] at h
    cases t with
    | box c0 =>
      simp only [fgtT] at h
      split at h
      · cases h
      · rename_i hc
        cases h
        refine ⟨rfl, fun y hy e => hc ?_⟩
        exact List.any_eq_true.2 ⟨y, hy, by simpa using e⟩
    | _ => cases h
theorem look_fgtM {i k : Id} {ch : Option (Nat × Nat)} : look (fgtM i m) k ch = look m k ch := by
  cases hm : m k with
  | none => simp [look, fgtM, fgtT, hm]
  | some t =>
    cases t with
    | box cells =>
      simp only [look, fgtM, hm, fgtT]
      split
      · rename_i e n rows h1
        split at h1 <;> cases h1
      · rfl
    | _ => simp only [look, fgtM, hm, fgtT]
theorem fgtM_R0 {i : Id} {y : LV} {u : Value} (h : R0 G S m w y u) : R0 G S (fgtM i m) w y u := by
  cases y <;> try exact h
  case rf k ch lo n => simp only [R0, look_fgtM] at h ⊢; exact h
  case bp k off =>
    have h1 := R0_one h (by simp)
    simp only [R0] at h ⊢
    cases hm : m k with
    | none => simp only [fgtM, hm, fgtT]; exact h1
    | some t =>
      cases t with
      | box cells =>
        simp only [fgtM, hm, fgtT] at h ⊢
        split
        · rename_i c2 h2
          exact h
        · exact h1
      | _ => simp only [fgtM, hm, fgtT]; exact h1
  case ep k ch r c => simp only [R0, look_fgtM] at h ⊢; exact h
theorem fgtM_Inv {i : Id} (h : Inv S N G m w) : Inv S N G (fgtM i m) w := by
  have hl : ∀ p, live (fgtM i m) p → live m p := by
    intro p hp
    cases p with
    | root k =>
      rcases hp with ⟨c, q⟩ | ⟨e, n, rows, q⟩
      · exact .inl ⟨c, (fgtM_box q).1⟩
      · exact .inr ⟨e, n, rows, fgtM_arr.1 q⟩
    | chld k r c =>
      obtain ⟨e, n, rows, row, e', n', l, q, q2⟩ := hp
      exact ⟨e, n, rows, row, e', n', l, fgtM_arr.1 q, q2⟩
  refine ⟨fun k e n rows hk => h.arr k e n rows (fgtM_arr.1 hk), fun k cells hk => ?_, fun p q hp hq => h.inj p q (hl p hp) (hl q hq), fun p hp => h.sep p (hl p hp), h.old⟩
  obtain ⟨cs, e, k1, k2⟩ := h.box k cells (fgtM_box hk).1
  exact ⟨cs, e, k1, k2.mono fun y u _ hx => ⟨fgtM_R0 hx.1, hx.2.1, wf0.ext (fun _ => fgtM_ne) hx.2.2⟩⟩

theorem KeepI.r0 {i : Id} {G' : Gh} {m' : Mem} (h : KeepI i G m G' m') {e n : Nat} {rows rows' : List (List Cell)} (h1 : m i = some (.arr e n rows)) (h2 : m' i = some (.arr e n rows')) {y : LV} {u : Value} (hy : R0 G S m w y u) (hl : ledTo y ≠ some i) : R0 G' S m' w y u := by
  have dead : ∀ k, m' k = some .dead → ∀ ch, look m' k ch = none := fun k hk ch => by simp [look, hk]
  cases y <;> try exact hy
  case rf k ch lo n0 =>
    by_cases hk : k = i
    · subst hk
      cases ch with
      | some rc => exact absurd rfl hl
      | none =>
        simp only [R0, look_none h1, look_none h2, Gh.capOf, Gh.blkOf] at hy ⊢
        rw [h.own.1, h.own.2.1]; exact hy
    · rcases h.mem k hk with q | ⟨q, _⟩
      · simp only [R0, look_ext q] at hy ⊢
        rw [(h.gh k ch hk).1, (h.gh k ch hk).2]; exact hy
      · simp only [R0, dead k q]; exact R0_one hy (by simp)
  case bp k off =>
    by_cases hk : k = i
    · subst hk; simp only [R0, h2]; exact R0_one hy (by simp)
    · rcases h.mem k hk with q | ⟨q, _⟩
      · simp only [R0, q] at hy ⊢
        have := (h.gh k none hk).1
        simp only [Gh.blkOf] at this
        rw [this]; exact hy
      · simp only [R0, q]; exact R0_one hy (by simp)
  case ep k ch r c =>
    by_cases hk : k = i
    · subst hk
      cases ch with
      | some rc => exact absurd rfl hl
      | none =>
        simp only [R0, look_none h1, look_none h2, Gh.blkOf] at hy ⊢
        rw [h.own.1]; exact hy
    · rcases h.mem k hk with q | ⟨q, _⟩
      · simp only [R0, look_ext q] at hy ⊢
        rw [(h.gh k ch hk).1]; exact hy
      · simp only [R0, dead k q]; exact R0_one hy (by simp)

theorem fgt0_led {i : Id} (y : LV) : fgt0 i y = y ∧ ledTo y ≠ some i ∨ fgt0 i y = .un := by
  cases y <;> try exact .inl ⟨rfl, by simp [ledTo]⟩
  case rf k ch lo n =>
    simp only [fgt0]
    by_cases hc : k = i ∧ ch.isSome = true
    · rw [if_pos hc]; exact .inr rfl
    · rw [if_neg hc]
      refine .inl ⟨rfl, fun e => hc ?_⟩
      cases ch with
      | none => cases e
      | some rc => cases e; exact ⟨rfl, rfl⟩
  case ep k ch r c =>
    simp only [fgt0]
    by_cases hc : k = i ∧ ch.isSome = true
    · rw [if_pos hc]; exact .inr rfl
    · rw [if_neg hc]
      refine .inl ⟨rfl, fun e => hc ?_⟩
      cases ch with
      | none => cases e
      | some rc => cases e; exact ⟨rfl, rfl⟩
theorem RL_map {R R' : LV → Value → Prop} {f : LV → LV} {vs : List LV} {cs : Array Value} (h : RL R vs cs) (hf : ∀ y ∈ vs, ∀ u, R y u → R' (f y) u) : RL R' (vs.map f) cs := by
  refine ⟨by simpa using h.1, fun k x hk => ?_⟩
  rw [List.getElem?_map] at hk
  cases hv : vs[k]? with
  | none => rw [hv] at hk; cases hk
  | some y =>
    rw [hv] at hk
    cases hk
    obtain ⟨u, u1, u2⟩ := h.2 k y hv
    exact ⟨u, u1, hf y (List.mem_of_getElem? hv) u u2⟩
theorem do_seU (h : SR S N G st a w) {x v : Opd} {x' v' : Operand} {t : TypeId} {n : Nat} {o : Oper} (hx : fO x x' = true) (hv : fO v v' = true) (ho : o.op = .store t x' v') (hz : sizeT P t = some n)
    {i : Id} {r c e st0 : Nat} {rows : List (List Cell)} {row : List Cell} {vs : List LV} {xs : List Cell} (ex : opd st.s x = .ep i none r c) (hi : st.m i = some (.arr e st0 rows)) (hu : unpack (opd st.s v) = some vs) (hl : vs.length = n) (hpl : vs.all plainB = true)
    (hcells : vs.mapM (toCellU st.m) = some xs) (hrow : rows[r]? = some row) (hle : c + n ≤ row.length) :
    Writes P o a w (fun w' => Inv S N G (updM st.m i (some (.arr e st0 (rows.set r (row.take c ++ xs ++ row.drop (c + n)))))) w' ∧ FrN N w w' ∧
      (∀ y u, R0 G S st.m w y u → wf0 st.m y → R0 G S (updM st.m i (some (.arr e st0 (rows.set r (row.take c ++ xs ++ row.drop (c + n)))))) w' y u) ∧
      ∃ cs', w'.heap[G.blk i]? = some (.cells cs' e (0, 0)) ∧ ∀ (k : Nat) (y : LV), vs[k]? = some y → ∃ u, cs'[r * st0 + (c + k)]? = some u ∧ R0 G S st.m w y u) := by
  obtain ⟨r1, r2⟩ := h.opd hx
  obtain ⟨v1, v2⟩ := h.opd hv
  rw [ex] at r1
  simp only [R, R1, R0, look_none hi, Gh.blkOf] at r1
  obtain ⟨cs, k1, k2, k3, k4, k5⟩ := h.inv.arr i e st0 rows hi
  obtain ⟨g1, g2⟩ := k5 r row hrow
  obtain ⟨q1, q2⟩ := unpack_R hu v1 v2
  obtain ⟨m1, m2⟩ := mapM_get hcells
  have hxl : xs.length = n := by rw [m1, hl]
  have hrl : r < rows.length := (List.getElem?_eq_some_iff.1 hrow).1
  have hbig : r * st0 + st0 ≤ cs.size := by
    have : (r + 1) * st0 ≤ G.cap i * st0 := Nat.mul_le_mul_right _ (by omega)
    rw [Nat.add_mul, Nat.one_mul] at this; omega
  have hone : ∀ z ∈ (a.eval v').cells.toList, z.oneCell' = true := by
    intro z hz'
    obtain ⟨k, hk⟩ := List.getElem?_of_mem hz'
    have hkn : k < vs.length := by have := (List.getElem?_eq_some_iff.1 hk).1; rw [← q1.1]; simpa using this
    obtain ⟨u, u1, u2⟩ := q1.2 k vs[k] (List.getElem?_eq_getElem hkn)
    rw [Array.getElem?_toList, u1] at hk
    cases hk
    exact plain_one (List.all_eq_true.1 hpl _ (List.getElem_mem hkn)) u2
  have hVs : (a.eval v').cells.size = n := by rw [q1.1]; exact hl
  have hrun := run_store_plain (P := P) hz k1 (V := a.eval v') (off := r * st0 + c) hVs (by omega) hone
  have hget : ∀ q, (cs.toList.take (r * st0 + c) ++ (a.eval v').cells.toList ++ cs.toList.drop (r * st0 + c + n)).toArray[q]? = if r * st0 + c ≤ q ∧ q < r * st0 + c + n then (a.eval v').cells[q - (r * st0 + c)]? else cs[q]? := by
    intro q
    have lt : (cs.toList.take (r * st0 + c)).length = r * st0 + c := by simp; omega
    have l3 : (cs.toList.take (r * st0 + c) ++ (a.eval v').cells.toList).length = r * st0 + c + n := by simp; omega
    simp only [List.getElem?_toArray]
    by_cases hq1 : q < r * st0 + c
    · rw [if_neg (by omega), List.append_assoc, List.getElem?_append_left (by omega), List.getElem?_take, if_pos hq1]; simp
    · by_cases hq2 : q < r * st0 + c + n
      · rw [if_pos (by omega), List.append_assoc, List.getElem?_append_right (by omega), List.getElem?_append_left (by simp; omega), lt]; simp
      · rw [if_neg (by omega), List.getElem?_append_right (by omega), l3, List.getElem?_drop, show r * st0 + c + n + (q - (r * st0 + c + n)) = q from by omega]; simp
  have hcat : ∀ (k : Nat) (y : Cell), (row.take c ++ xs ++ row.drop (c + n))[k]? = some y → (c ≤ k ∧ k < c + n ∧ xs[k - c]? = some y) ∨ ((k < c ∨ c + n ≤ k) ∧ row[k]? = some y) := by
    intro k y hk
    have lt : (row.take c).length = c := by simp; omega
    have l3 : (row.take c ++ xs).length = c + n := by simp; omega
    by_cases hq1 : k < c
    · rw [List.append_assoc, List.getElem?_append_left (by omega), List.getElem?_take, if_pos hq1] at hk; exact .inr ⟨.inl hq1, hk⟩
    · by_cases hq2 : k < c + n
      · rw [List.append_assoc, List.getElem?_append_right (by omega), List.getElem?_append_left (by omega), lt] at hk; exact .inl ⟨by omega, hq2, hk⟩
      · rw [List.getElem?_append_right (by omega), l3, List.getElem?_drop, show c + n + (k - (c + n)) = k from by omega] at hk; exact .inr ⟨.inr (by omega), hk⟩
  have hnew : ∀ (k : Nat) (y : Cell), xs[k]? = some y → noOwn y = true ∧ ∃ u, (a.eval v').cells[k]? = some u ∧ RdC S w y u := by
    intro k y hk
    obtain ⟨z, z1, z2⟩ := m2 k y hk
    obtain ⟨u, u1, u2⟩ := q1.2 k z z1
    obtain ⟨t1, t2⟩ := toCellU_R z2 u2
    exact ⟨t1, u, u1, t2⟩
  have hA : ∀ r' c' e' n' l, cellAt (rows.set r (row.take c ++ xs ++ row.drop (c + n))) r' c' = some (.sl true e' n' l) → cellAt rows r' c' = some (.sl true e' n' l) := by
    intro r' c' e' n' l hcell
    simp only [cellAt, Option.bind_eq_some_iff] at hcell ⊢
    obtain ⟨row', t1, t2⟩ := hcell
    rw [List.getElem?_set] at t1
    split at t1
    · rename_i hrr
      subst hrr
      cases t1
      rcases hcat c' _ t2 with ⟨_, _, t3⟩ | ⟨_, t3⟩
      · have := (hnew _ _ t3).1; cases this
      · exact ⟨row, hrow, t3⟩
    · exact ⟨row', t1, t2⟩
  have hB : ∀ (r' : Nat) (row' : List Cell), (rows.set r (row.take c ++ xs ++ row.drop (c + n)))[r']? = some row' → row'.length = st0 ∧ ∀ (k : Nat) (x : Cell), row'[k]? = some x →
      ∃ u, (cs.toList.take (r * st0 + c) ++ (a.eval v').cells.toList ++ cs.toList.drop (r * st0 + c + n)).toArray[r' * st0 + k]? = some u ∧ OwC G S w i r' k x u := by
    intro r' row' hr'
    rw [List.getElem?_set] at hr'
    split at hr'
    · rename_i hrr
      subst hrr
      cases hr'
      have hlen : (row.take c ++ xs ++ row.drop (c + n)).length = st0 := by simp; omega
      refine ⟨hlen, fun k y hk => ?_⟩
      have hks : k < st0 := by have := (List.getElem?_eq_some_iff.1 hk).1; omega
      rcases hcat k y hk with ⟨c1, c2, t3⟩ | ⟨c1, t3⟩
      · obtain ⟨t1, u, u1, u2⟩ := hnew _ _ t3
        refine ⟨u, ?_, noOwn_OwC t1 u2⟩
        rw [hget, if_pos (by omega), show r * st0 + k - (r * st0 + c) = k - c from by omega]; exact u1
      · obtain ⟨u, u1, u2⟩ := g2 k y t3
        exact ⟨u, by rw [hget, if_neg (by omega)]; exact u1, u2⟩
    · rename_i hrr
      obtain ⟨t1, t2⟩ := k5 r' row' hr'
      refine ⟨t1, fun k y hk => ?_⟩
      obtain ⟨u, u1, u2⟩ := t2 k y hk
      have hks : k < st0 := by have := (List.getElem?_eq_some_iff.1 hk).1; omega
      refine ⟨u, ?_, u2⟩
      rw [hget, if_neg ?_]
      · exact u1
      · intro ⟨p1, p2⟩
        have : r' * st0 + k = r * st0 + (c + (r' * st0 + k - (r * st0 + c))) := by omega
        exact hrr (mul_lt_add this hks (by omega)).1.symm
  obtain ⟨b1, b2, b3, b4⟩ := arr_write h.inv hi k1 hA (by simp; omega) (by simp; exact k3) hB
  refine ⟨_, ?_, b3, b4, fun y u hy hw => R0.write b2 b1 hw hy, _, setRow_heap w _ cs _ e (0, 0) k1, fun k y hk => ?_⟩
  · simp [execOp, ho, r1, Instr.storeAt, Instr.sureAddr, hrun]
  · have hkn : k < n := by have := (List.getElem?_eq_some_iff.1 hk).1; omega
    obtain ⟨u, u1, u2⟩ := q1.2 k y hk
    refine ⟨u, ?_, u2⟩
    rw [hget, if_pos (by omega), show r * st0 + (c + k) - (r * st0 + c) = k from by omega]; exact u1

theorem fgt_R1 {i : Id} {G' : Gh} {m' : Mem} {w' : World} (h0 : ∀ y u, R0 G S m w y u → wf0 m y → R0 G' S m' w' (fgt0 i y) u) {y : LV} {u : Value} (hx : R1 G S m w y u) (hw : wf1 m y) : R1 G' S m' w' (fgt1 i y) u := by
  cases y
  case ag vs => obtain ⟨cs, rfl, q⟩ := hx; exact ⟨cs, rfl, RL_map q fun z hz v hv => h0 z v hv (hw z hz)⟩
  case cl f vs => obtain ⟨cs, rfl, q⟩ := hx; exact ⟨cs, rfl, RL_map q fun z hz v hv => h0 z v hv (hw z hz)⟩
  case rf k ch lo n =>
    have q := h0 (.rf k ch lo n) u hx hw
    simp only [fgt1, fgt0] at q ⊢
    by_cases hc : k = i ∧ ch.isSome = true
    · rw [if_pos hc] at q ⊢; exact q
    · rw [if_neg hc] at q ⊢; exact q
  case ep k ch r c =>
    have q := h0 (.ep k ch r c) u hx hw
    simp only [fgt1, fgt0] at q ⊢
    by_cases hc : k = i ∧ ch.isSome = true
    · rw [if_pos hc] at q ⊢; exact q
    · rw [if_neg hc] at q ⊢; exact q
  case bp k off => exact h0 (.bp k off) u hx hw
  case un => trivial
  case sc v => exact h0 (.sc v) u hx trivial
  case nl => exact h0 .nl u hx trivial
  case ro n rows => exact h0 (.ro n rows) u hx trivial
  case rp vs => exact h0 (.rp vs) u hx trivial
  all_goals exact hx.elim
/-- a relation over the parts, through the forgetting -/
theorem fgt_R {i : Id} {G' : Gh} {m' : Mem} {w' : World} (h0 : ∀ y u, R0 G S m w y u → wf0 m y → R0 G' S m' w' (fgt0 i y) u) {x : LV} {u : Value} (hx : R G S m w x u) (hw : wf m x) : R G' S m' w' (fgt2 i x) u := by
  cases x
  case tu vs => obtain ⟨cs, rfl, q⟩ := hx; exact ⟨cs, rfl, RL_map q fun z hz v hv => fgt_R1 h0 hv (hw z hz)⟩
  case rf k ch lo n =>
    have q := fgt_R1 h0 (y := .rf k ch lo n) hx hw
    simp only [fgt2, fgt1, fgt0] at q ⊢
    by_cases hc : k = i ∧ ch.isSome = true
    · rw [if_pos hc] at q ⊢; exact q
    · rw [if_neg hc] at q ⊢; exact q
  case ep k ch r c =>
    have q := fgt_R1 h0 (y := .ep k ch r c) hx hw
    simp only [fgt2, fgt1, fgt0] at q ⊢
    by_cases hc : k = i ∧ ch.isSome = true
    · rw [if_pos hc] at q ⊢; exact q
    · rw [if_neg hc] at q ⊢; exact q
  case ag vs => exact fgt_R1 h0 (y := .ag vs) hx hw
  case cl f vs => exact fgt_R1 h0 (y := .cl f vs) hx hw
  case bp k off => exact fgt_R1 h0 (y := .bp k off) hx hw
  case un => trivial
  case sc v => exact fgt_R1 h0 (y := .sc v) hx hw
  case nl => exact fgt_R1 h0 (y := .nl) hx hw
  case ro n rows => exact fgt_R1 h0 (y := .ro n rows) hx hw
  case rp vs => exact fgt_R1 h0 (y := .rp vs) hx hw
  all_goals exact hx.elim
theorem fgt_wf0 {i : Id} {m' : Mem} (h : ∀ k, m k ≠ none → m' k ≠ none) {y : LV} (hw : wf0 m y) : wf0 m' (fgt0 i y) := by
  rcases fgt0_led (i := i) y with ⟨e, _⟩ | e
  · rw [e]; exact wf0.ext h hw
  · rw [e]; trivial
theorem fgt_wf1 {i : Id} {m' : Mem} (h : ∀ k, m k ≠ none → m' k ≠ none) {y : LV} (hw : wf1 m y) : wf1 m' (fgt1 i y) := by
  cases y
  case ag vs =>
    intro x hx
    obtain ⟨z, hz, rfl⟩ := List.mem_map.1 hx
    exact fgt_wf0 h (hw z hz)
  case cl f vs =>
    intro x hx
    obtain ⟨z, hz, rfl⟩ := List.mem_map.1 hx
    exact fgt_wf0 h (hw z hz)
  case rf k ch lo n =>
    have q := fgt_wf0 (i := i) h (y := .rf k ch lo n) hw
    simp only [fgt1, fgt0] at q ⊢
    by_cases hc : k = i ∧ ch.isSome = true
    · rw [if_pos hc] at q ⊢; exact q
    · rw [if_neg hc] at q ⊢; exact q
  case ep k ch r c =>
    have q := fgt_wf0 (i := i) h (y := .ep k ch r c) hw
    simp only [fgt1, fgt0] at q ⊢
    by_cases hc : k = i ∧ ch.isSome = true
    · rw [if_pos hc] at q ⊢; exact q
    · rw [if_neg hc] at q ⊢; exact q
  case bp k off => exact h k hw
  all_goals trivial
theorem fgt_wf {i : Id} {m' : Mem} (h : ∀ k, m k ≠ none → m' k ≠ none) {x : LV} (hw : wf m x) : wf m' (fgt2 i x) := by
  cases x
  case tu vs =>
    intro y hy
    obtain ⟨z, hz, rfl⟩ := List.mem_map.1 hy
    exact fgt_wf1 h (hw z hz)
  case rf k ch lo n =>
    have q := fgt_wf0 (i := i) h (y := .rf k ch lo n) hw
    simp only [fgt2, fgt1, fgt0] at q ⊢
    by_cases hc : k = i ∧ ch.isSome = true
    · rw [if_pos hc] at q ⊢; exact q
    · rw [if_neg hc] at q ⊢; exact q
  case ep k ch r c =>
    have q := fgt_wf0 (i := i) h (y := .ep k ch r c) hw
    simp only [fgt2, fgt1, fgt0] at q ⊢
    by_cases hc : k = i ∧ ch.isSome = true
    · rw [if_pos hc] at q ⊢; exact q
    · rw [if_neg hc] at q ⊢; exact q
  case ag vs => exact fgt_wf1 (y := .ag vs) h hw
  case cl f vs => exact fgt_wf1 (y := .cl f vs) h hw
  case bp k off => exact h k hw
  all_goals trivial

theorem do_sm (h : SR S N G st a w) {x v : Opd} {x' v' : Operand} {t : TypeId} {n : Nat} {o : Oper} (hx : fO x x' = true) (hv : fO v v' = true) (ho : o.op = .store t x' v') (hz : sizeT P t = some n)
    {i : Id} {r c e st0 : Nat} {rows : List (List Cell)} {row : List Cell} {vs : List LV} {xs : List Cell} (ex : opd st.s x = .ep i none r c) (hi : st.m i = some (.arr e st0 rows)) (hu : unpack (opd st.s v) = some vs) (hl : vs.length = n) (hpl : vs.all plainB = true)
    (hcells : vs.mapM (toCellU st.m) = some xs) (hrow : rows[r]? = some row) (hle : c + n ≤ row.length) {m' : Mem}
    (ha : adoptAll (fgtM i (updM st.m i (some (.arr e st0 (rows.set r (row.take c ++ xs ++ row.drop (c + n))))))) i (adsV r c vs) = some m') :
    Writes P o a w (fun w' => (∃ G', Inv S N G' m' w' ∧ ∀ y u, R G S st.m w y u → wf st.m y → R G' S m' w' (fgt2 i y) u ∧ wf m' (fgt2 i y)) ∧ FrN N w w') := by
  obtain ⟨w', hrun, inv1, fr, r1, cs', hcs, hval⟩ := do_seU (P := P) h hx hv ho hz ex hi hu hl hpl hcells hrow hle
  refine ⟨w', hrun, ?_, fr⟩
  have inv2 := fgtM_Inv (i := i) inv1
  have hi2 : fgtM i (updM st.m i (some (.arr e st0 (rows.set r (row.take c ++ xs ++ row.drop (c + n)))))) i = some (.arr e st0 (rows.set r (row.take c ++ xs ++ row.drop (c + n)))) := fgtM_arr.2 updM_eq
  obtain ⟨m1, m2⟩ := mapM_get hcells
  obtain ⟨G', g1, g2⟩ := adoptAll_Inv ha inv2 hi2 hcs (fun k cells hk => (fgtM_box hk).2) (fun r2 c2 j hm e2 n2 rows2 hj => by
    obtain ⟨q1, q2, lo, k, q3⟩ := adsV_mem hm
    simp only at q1 q2 q3
    subst q1
    obtain ⟨u, u1, u2⟩ := hval _ _ q3
    have hx2 := (List.getElem?_eq_some_iff.1 q3)
    have hxs : ∃ x, xs[c2 - c]? = some x := ⟨_, List.getElem?_eq_getElem (by rw [m1]; exact hx2.1)⟩
    obtain ⟨x2, hx3⟩ := hxs
    obtain ⟨z, z1, z2⟩ := m2 _ _ hx3
    rw [q3] at z1
    cases z1
    have rv := rootV_of rfl z2 u2
    have hu2 : u = .slice (some ⟨G.blk j, 0, none⟩) rows2.length (G.cap j) := by
      have hj3 := fgtM_arr.1 hj
      by_cases hji : j = i
      · subst hji
        rw [updM_eq] at hj3
        cases hj3
        rw [rv.2 e st0 rows hi]; simp
      · rw [updM_ne hji] at hj3; exact rv.2 e2 n2 rows2 hj3
    rw [show c2 = c + (c2 - c) from by omega, u1, hu2])
  refine ⟨G', g1, fun y u hy hw => ?_⟩
  obtain ⟨_, _, e0, n0, ra, rb, p1, p2, p3⟩ := g2.own
  have ne : ∀ k, st.m k ≠ none → m' k ≠ none := by
    intro k hk
    have h1 : (updM st.m i (some (.arr e st0 (rows.set r (row.take c ++ xs ++ row.drop (c + n)))))) k ≠ none := by
      by_cases hki : k = i
      · subst hki; rw [updM_eq]; simp
      · rw [updM_ne hki]; exact hk
    have h2 := fgtM_ne (i := i) h1
    by_cases hki : k = i
    · subst hki; rw [p2]; simp
    · rcases g2.mem k hki with q | ⟨q, _⟩
      · rw [q]; exact h2
      · rw [q]; simp
  refine ⟨fgt_R (fun z v hz hw => ?_) hy hw, fgt_wf ne hw⟩
  rcases fgt0_led (i := i) z with ⟨e1, e2⟩ | e1
  · rw [e1]; exact g2.r0 p1 p2 (fgtM_R0 (r1 z v hz hw)) e2
  · rw [e1]; trivial
end
end Go.Proofs.Ytjdcohcdgdjobaa.Ev
