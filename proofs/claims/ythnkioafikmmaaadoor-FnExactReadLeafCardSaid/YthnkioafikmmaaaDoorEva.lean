/- Functions of Go's library whose contracts are proved elsewhere: how they meet the simpler machine. -/
import Derived.Test.YthnkioafikmmaaaDoorEv2
import Derived.Sort.Grow
namespace Go.Proofs.YthnkioafikmmaaaDoor.Ev
open Go
set_option linter.unusedVariables false
set_option linter.unusedSimpArgs false

section
variable {T : Tab} {P : Program} {S N : Nat → Prop} {G : Gh} {w w' : World}

theorem one_get {vs : List Value} {r : Nat} {row : List Cell} (h : (vs.map fun v => [Cell.sc v])[r]? = some row) : ∃ v, vs[r]? = some v ∧ row = [.sc v] := by
  rw [List.getElem?_map, Option.map_eq_some_iff] at h
  obtain ⟨v, h1, rfl⟩ := h
  exact ⟨v, h1, rfl⟩
theorem one_cell {v : Value} {k : Nat} {x : Cell} (h : [Cell.sc v][k]? = some x) : k = 0 ∧ x = .sc v := by
  cases k with
  | zero => cases h; exact ⟨rfl, rfl⟩
  | succ k => simp at h
/-- one block of scalars in own memory -/
theorem own_of {i : Id} {e cap b : Nat} {vs : List Value} {cs : Array Value} (hb : w.heap[b]? = some (.cells cs e (0, 0))) (hc : cs.size = cap) (hl : vs.length ≤ cap) (hm : cap ≤ maxLen) (hs : ∀ v ∈ vs, isSc v = true) (hv : ∀ (k : Nat) (v : Value), vs[k]? = some v → cs[k]? = some v) :
    OwG (OwC G S w i) w b e cap 1 (vs.map fun v => [Cell.sc v]) := by
  refine ⟨cs, hb, by omega, by simpa using hl, hm, fun r row hr => ?_⟩
  obtain ⟨v, h1, rfl⟩ := one_get hr
  refine ⟨rfl, fun k x hk => ?_⟩
  obtain ⟨rfl, rfl⟩ := one_cell hk
  exact ⟨v, by simpa using hv r v h1, rfl, hs v (List.mem_of_getElem? h1)⟩
theorem own_to {i : Id} {e cap b : Nat} {vs : List Value} (h : OwG (OwC G S w i) w b e cap 1 (vs.map fun v => [Cell.sc v])) :
    ∃ cs, w.heap[b]? = some (.cells cs e (0, 0)) ∧ cs.size = cap ∧ vs.length ≤ cap ∧ cap ≤ maxLen ∧ ∀ (k : Nat) (v : Value), vs[k]? = some v → cs[k]? = some v := by
  obtain ⟨cs, h1, h2, h3, h4, h5⟩ := h
  refine ⟨cs, h1, by omega, by simpa using h3, h4, fun k v hk => ?_⟩
  obtain ⟨_, h6⟩ := h5 k [.sc v] (by rw [List.getElem?_map, hk]; rfl)
  obtain ⟨u, u1, u2, _⟩ := h6 0 (.sc v) rfl
  rw [u2] at u1
  simpa using u1
theorem live_one {i : Id} {e : Nat} {vs : List Value} {p : Res} (h : live (updM noMem i (some (.arr e 1 (vs.map fun v => [Cell.sc v])))) p) : p = .root i := by
  cases p with
  | root j =>
    by_cases hj : j = i
    · rw [hj]
    · rcases h with ⟨c, q⟩ | ⟨_, _, _, q⟩ <;> (rw [updM_ne hj] at q; cases q)
  | chld j r c =>
    obtain ⟨e1, n1, rows, row, e2, n2, l, q1, q2, q3⟩ := h
    by_cases hj : j = i
    · subst hj
      rw [updM_eq] at q1
      cases q1
      obtain ⟨v, _, rfl⟩ := one_get q2
      obtain ⟨_, q⟩ := one_cell q3
      cases q
    · rw [updM_ne hj] at q1; cases q1
theorem one_Inv {i : Id} {e : Nat} {vs : List Value} (ha : OwG (OwC G S w i) w (G.blk i) e (G.cap i) 1 (vs.map fun v => [Cell.sc v])) (h1 : ¬ S (G.blk i) ∧ N (G.blk i)) (ho : ∀ b, S b → b < w.heap.size) :
    Inv S N G (updM noMem i (some (.arr e 1 (vs.map fun v => [Cell.sc v])))) w := by
  refine ⟨fun j e' n rows hj => ?_, fun j cells hj => ?_, fun p q hp hq _ => by rw [live_one hp, live_one hq], fun p hp => by rw [live_one hp]; exact h1, ho⟩
  · by_cases e0 : j = i
    · subst e0
      rw [updM_eq] at hj
      cases hj
      exact ha
    · rw [updM_ne e0] at hj; cases hj
  · by_cases e0 : j = i
    · subst e0
      rw [updM_eq] at hj
      cases hj
    · rw [updM_ne e0] at hj; cases hj
/-- what a call with one own slice of scalars, and scalars behind it, is given -/
theorem given {e : Nat} {vs xs : List Value} {m0 : Mem} {vals : Array Value} (ha : adds noMem (openV mk0 (.tu (.ow e 1 (vs.map fun v => [Cell.sc v]) :: xs.map .sc))).2 = some m0) (hinv : Inv S N G m0 w) (hR : R G S m0 w (openV mk0 (.tu (.ow e 1 (vs.map fun v => [Cell.sc v]) :: xs.map .sc))).1 (.tuple vals)) :
    m0 = updM noMem (mk0 0) (some (.arr e 1 (vs.map fun v => [Cell.sc v]))) ∧ vals = (Value.slice (some ⟨G.blk (mk0 0), 0, none⟩) vs.length (G.cap (mk0 0)) :: xs).toArray ∧ (¬ S (G.blk (mk0 0)) ∧ N (G.blk (mk0 0))) ∧
      ∃ cs, w.heap[G.blk (mk0 0)]? = some (.cells cs e (0, 0)) ∧ cs.size = G.cap (mk0 0) ∧ vs.length ≤ G.cap (mk0 0) ∧ G.cap (mk0 0) ≤ maxLen ∧ ∀ (k : Nat) (v : Value), vs[k]? = some v → cs[k]? = some v := by
  have scs : ∀ (l : List Value) (k : Nat), (partsT k (l.map LV.sc)).filterMap (thing mk0) = [] := by
    intro l
    induction l with
    | nil => intro k; rfl
    | cons v l ih => intro k; simp only [List.map_cons, partsT, parts1, List.singleton_append, List.filterMap_cons, thing, ih]
  have sct : ∀ (l : List Value) (k : Nat), travT (opn mk0) k (l.map LV.sc) = l.map LV.sc := by
    intro l
    induction l with
    | nil => intro k; rfl
    | cons v l ih => intro k; simp only [List.map_cons, travT, trav1, opn, ih]
  have e2 : (openV mk0 (.tu (.ow e 1 (vs.map fun v => [Cell.sc v]) :: xs.map .sc))).2 = [(mk0 0, .arr e 1 (vs.map fun v => [Cell.sc v]))] := by
    simp only [openV, parts, partsT, parts1, List.singleton_append, List.filterMap_cons, thing, scs]
  have e1 : (openV mk0 (.tu (.ow e 1 (vs.map fun v => [Cell.sc v]) :: xs.map .sc))).1 = .tu (.rf (mk0 0) none 0 vs.length :: xs.map .sc) := by
    simp only [openV, trav, travT, trav1, opn, sct, List.length_map]
  rw [e2] at ha
  rw [e1] at hR
  have ha : some (updM noMem (mk0 0) (some (Thing.arr e 1 (vs.map fun v => [Cell.sc v])))) = some m0 := ha
  cases ha
  have hsep := hinv.sep (.root (mk0 0)) (.inr ⟨e, 1, _, updM_eq⟩)
  obtain ⟨cs, c1, c2, c3, c4, c5⟩ := own_to (hinv.arr (mk0 0) e 1 _ updM_eq)
  refine ⟨rfl, ?_, hsep, cs, c1, c2, c3, c4, c5⟩
  obtain ⟨us, hus, hsz, hrl⟩ := hR
  cases hus
  apply Array.ext'
  apply List.ext_getElem?
  intro k
  rw [Array.getElem?_toList]
  cases k with
  | zero =>
    obtain ⟨u, u1, u2⟩ := hrl 0 _ rfl
    rw [u1]
    simp only [R1, R0, look, updM_eq] at u2
    obtain ⟨A, c, rfl, _, q2, q3⟩ := u2
    have q2 : 0 + c = G.cap (mk0 0) := q2
    rw [Nat.zero_add] at q2
    have q4 := q3 (.inr trivial)
    simp only [Gh.blkOf, Nat.zero_mul] at q4
    rw [q4, q2]
    rfl
  | succ k =>
    cases hx : xs[k]? with
    | none =>
      have : xs.length ≤ k := List.getElem?_eq_none_iff.1 hx
      rw [Array.getElem?_eq_none (by rw [hsz]; simp; omega)]
      simp [hx]
    | some x =>
      obtain ⟨u, u1, u2⟩ := hrl (k + 1) (.sc x) (by simp [hx])
      rw [u1]
      have : u = x := u2.1
      subst this
      simp [hx]
/-- a function that only turns the slice of scalars that it is lent -/
theorem prim_lend {f e : Nat} {vs vs' xs : List Value} (hs : ∀ v ∈ vs', isSc v = true) (hl : vs'.length = vs.length)
    (H : ∀ (w : World) (b cap : Nat) (cs : Array Value), w.heap[b]? = some (.cells cs e (0, 0)) → cs.size = cap → vs.length ≤ cap → cap ≤ maxLen → (∀ (k : Nat) (v : Value), vs[k]? = some v → cs[k]? = some v) →
      Calls P f (Value.slice (some ⟨b, 0, none⟩) vs.length cap :: xs).toArray w fun en w' => en = .returned (.tuple #[]) ∧ FrN (fun x => x = b ∨ w.heap.size ≤ x) w w' ∧ ∃ cs', w'.heap[b]? = some (.cells cs' e (0, 0)) ∧ cs'.size = cap ∧ ∀ (k : Nat) (v : Value), vs'[k]? = some v → cs'[k]? = some v) :
    ContractW T P f (.ow e 1 (vs.map fun v => [Cell.sc v]) :: xs.map .sc) (.tu []) [.ow e 1 (vs'.map fun v => [Cell.sc v])] := by
  intro S N w vals G m0 ha hinv hR _ hnew hSN _
  obtain ⟨rfl, rfl, hsep, cs, c1, c2, c3, c4, c5⟩ := given ha hinv hR
  refine Calls.mono (H w _ _ cs c1 c2 c3 c4 c5) fun en w' => ?_
  rintro ⟨rfl, hfr, cs2, d1, d2, d3⟩
  refine ⟨_, rfl, rfl, ⟨hfr.os, hfr.tape, hfr.output, hfr.size, fun b hb hn => hfr.block b hb fun q => ?_⟩, G, _, rfl, one_Inv (own_of d1 d2 (by omega) c4 hs d3) hsep (fun b hb => Nat.lt_of_lt_of_le (hinv.old b hb) hfr.size), fun k e' n rows hk => ?_⟩
  · rcases q with rfl | q
    · exact hn hsep.2
    · exact hn (hnew b q)
  · have : (k, LV.ow e' n rows) ∈ [((0 : Nat), LV.ow e 1 (vs'.map fun v => [Cell.sc v]))] := hk
    exact ⟨rfl, rfl⟩
/-- a function that hands back, turned and cut, the slice of scalars that it is given -/
theorem prim_give {f e : Nat} {vs vs' xs : List Value} (hs : ∀ v ∈ vs', isSc v = true) (hl : vs'.length ≤ vs.length)
    (H : ∀ (w : World) (b cap : Nat) (cs : Array Value), w.heap[b]? = some (.cells cs e (0, 0)) → cs.size = cap → vs.length ≤ cap → cap ≤ maxLen → (∀ (k : Nat) (v : Value), vs[k]? = some v → cs[k]? = some v) →
      Calls P f (Value.slice (some ⟨b, 0, none⟩) vs.length cap :: xs).toArray w fun en w' => en = .returned (.slice (some ⟨b, 0, none⟩) vs'.length cap) ∧ FrN (fun x => x = b ∨ w.heap.size ≤ x) w w' ∧ ∃ cs', w'.heap[b]? = some (.cells cs' e (0, 0)) ∧ cs'.size = cap ∧ ∀ (k : Nat) (v : Value), vs'[k]? = some v → cs'[k]? = some v) :
    ContractM T P f (.ow e 1 (vs.map fun v => [Cell.sc v]) :: xs.map .sc) (.ow e 1 (vs'.map fun v => [Cell.sc v])) := by
  intro S N w vals G m0 ha hinv hR _ hnew hSN _
  obtain ⟨rfl, rfl, hsep, cs, c1, c2, c3, c4, c5⟩ := given ha hinv hR
  refine Calls.mono (H w _ _ cs c1 c2 c3 c4 c5) fun en w' => ?_
  rintro ⟨rfl, hfr, cs2, d1, d2, d3⟩
  refine ⟨_, rfl, ⟨hfr.os, hfr.tape, hfr.output, hfr.size, fun b hb hn => hfr.block b hb fun q => ?_⟩, fun mk _ => ?_⟩
  · rcases q with rfl | q
    · exact hn hsep.2
    · exact hn (hnew b q)
  refine ⟨⟨fun _ => G.blk (mk0 0), fun _ => G.cap (mk0 0), G.cblk, G.ccap⟩, _, rfl, one_Inv (own_of d1 d2 (Nat.le_trans hl c3) c4 hs d3) hsep (fun b hb => Nat.lt_of_lt_of_le (hinv.old b hb) hfr.size), ?_, ?_⟩
  · show R0 _ S _ w' (.rf (mk 0) none 0 (vs'.map fun v => [Cell.sc v]).length) _
    simp only [R0, look, updM_eq]
    refine ⟨⟨G.blk (mk0 0), 0, none⟩, G.cap (mk0 0), by simp, by simp; omega, by simp [Gh.capOf], fun _ => by simp [Gh.blkOf]⟩
  · show updM noMem (mk 0) _ (mk 0) ≠ none
    rw [updM_eq]; simp
/-! the kit's words for a row in memory -/
variable {α : Type} [Inhabited α] {enc : α → Value}
theorem holds_of {b : Nat} {e : TypeId} {cs : Array Value} {zs : List α} (hb : w.heap[b]? = some (.cells cs e (0, 0))) (hv : ∀ (k : Nat) (v : Value), (zs.map enc)[k]? = some v → cs[k]? = some v) : Go.Sort.Holds enc w b 0 zs.toArray := by
  intro j hj
  have hj' : j < zs.length := by simpa using hj
  refine ⟨?_, ?_⟩
  · rw [cell_lit hb, Nat.zero_add]
    refine hv j _ ?_
    rw [List.getElem?_map, List.getElem?_eq_getElem hj']
    simp [hj']
  · simp [World.frozen?, hb]
theorem of_putRow {b n : Nat} {e : TypeId} {cs : Array Value} {zs : List α} {os : Array Obj} (hb : w.heap[b]? = some (.cells cs e (0, 0))) (hl : zs.length ≤ cs.size) (hw : w' = Go.Sort.grow (Go.Sort.putRow enc (Go.Sort.ahead w n) b 0 zs.toArray) os) :
    FrN (fun x => x = b ∨ w.heap.size ≤ x) w w' ∧ ∃ cs', w'.heap[b]? = some (.cells cs' e (0, 0)) ∧ cs'.size = cs.size ∧ ∀ (k : Nat) (v : Value), (zs.map enc)[k]? = some v → cs'[k]? = some v := by
  subst hw
  have hlt := (Array.getElem?_eq_some_iff.1 hb).1
  have hat : ∀ k, k < w.heap.size → (Go.Sort.grow (Go.Sort.putRow enc (Go.Sort.ahead w n) b 0 zs.toArray) os).heap[k]? = (w.heap.modify b (Go.Sort.onCells (Go.Sort.putCells enc 0 zs.toArray)))[k]? := by
    intro k hk
    have : k < (w.heap.modify b (Go.Sort.onCells (Go.Sort.putCells enc 0 zs.toArray))).size := by simpa using hk
    show (w.heap.modify b (Go.Sort.onCells (Go.Sort.putCells enc 0 zs.toArray)) ++ os)[k]? = _
    rw [Array.getElem?_append_left this]
  refine ⟨⟨rfl, rfl, rfl, ?_, fun k hk hn => ?_⟩, Go.Sort.putCells enc 0 zs.toArray cs, ?_, ?_, fun k v hk => ?_⟩
  · show w.heap.size ≤ (w.heap.modify b (Go.Sort.onCells (Go.Sort.putCells enc 0 zs.toArray)) ++ os).size
    simp
  · rw [hat k hk, Array.getElem?_modify, if_neg (fun q => hn (.inl q.symm))]
  · rw [hat b hlt, Array.getElem?_modify, if_pos rfl, hb]
    rfl
  · simp [Go.Sort.putCells]
  · rw [List.getElem?_map, Option.map_eq_some_iff] at hk
    obtain ⟨z, hz, rfl⟩ := hk
    have hk' := (List.getElem?_eq_some_iff.1 hz).1
    have hkc : k < cs.size := by omega
    simp only [Go.Sort.putCells, Array.getElem?_mapIdx, Array.getElem?_eq_getElem hkc, Option.map_some]
    rw [if_pos ⟨Nat.zero_le _, by simpa using hk'⟩]
    have e2 : zs[k] = z := by
      rw [List.getElem?_eq_getElem hk'] at hz
      exact Option.some.inj hz
    simp [hk', e2]
end
theorem evF_prim {F : Nat → Option Ev.Fn} {prim : CallF} {f : Nat} (h : F f = none) (hf : f < wrN) (d : Nat) (args : List LV) : evF F prim d f args = prim f args := by
  have hmv : mvN = 2000000 := rfl
  have hpu : puN = 3000000 := rfl
  have hwr : wrN = 1000000 := rfl
  cases d with
  | zero => rfl
  | succ d => simp only [evF, h, if_neg (show ¬ puN ≤ f by omega), if_neg (show ¬ mvN ≤ f by omega), if_neg (show ¬ wrN ≤ f by omega)]
theorem evF_primW {F : Nat → Option Ev.Fn} {prim : CallF} {f : Nat} (h : F f = none) (hN : ∀ f fn, F f = some fn → f < wrN) (hf : f < wrN) (d : Nat) (args : List LV) : evF F prim d (wrN + f) args = prim (wrN + f) args := by
  have hmv : mvN = 2000000 := rfl
  have hpu : puN = 3000000 := rfl
  have hwr : wrN = 1000000 := rfl
  have hn : F (wrN + f) = none := by
    cases hq : F (wrN + f) with
    | none => rfl
    | some q => have := hN _ _ hq; omega
  cases d with
  | zero => rfl
  | succ d => simp only [evF, hn, Nat.add_sub_cancel_left, h, if_neg (show ¬ puN ≤ wrN + f by omega), if_neg (show ¬ mvN ≤ wrN + f by omega), if_pos (show wrN ≤ wrN + f by omega)]
theorem evF_primM {F : Nat → Option Ev.Fn} {prim : CallF} {f : Nat} (h : F f = none) (hN : ∀ f fn, F f = some fn → f < wrN) (hf : f < wrN) (d : Nat) (args : List LV) : evF F prim d (mvN + f) args = prim (mvN + f) args := by
  have hmv : mvN = 2000000 := rfl
  have hpu : puN = 3000000 := rfl
  have hwr : wrN = 1000000 := rfl
  have hn : F (mvN + f) = none := by
    cases hq : F (mvN + f) with
    | none => rfl
    | some q => have := hN _ _ hq; omega
  cases d with
  | zero => rfl
  | succ d => simp only [evF, hn, Nat.add_sub_cancel_left, h, if_neg (show ¬ puN ≤ mvN + f by omega), if_pos (show mvN ≤ mvN + f by omega)]
end Go.Proofs.YthnkioafikmmaaaDoor.Ev
