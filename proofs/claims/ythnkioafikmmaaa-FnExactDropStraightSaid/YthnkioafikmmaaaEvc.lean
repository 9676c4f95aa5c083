/- Functions of Go's library that hand back rows of the slice that they are given, cut and in another order; the rows' own memory goes with them. -/
import Derived.Test.YthnkioafikmmaaaEva
namespace Go.Proofs.Ythnkioafikmmaaa.Ev
open Go
set_option linter.unusedVariables false
set_option linter.unusedSimpArgs false

section
variable {T : Tab} {P : Program} {S N : Nat → Prop} {G G' : Gh} {w w' : World}

theorem OwC.move {i i' : Id} {r r' c : Nat} {x : Cell} {v : Value} (h : OwC G S w i r c x v) (hG : G'.cblk i' r' c = G.cblk i r c ∧ G'.ccap i' r' c = G.ccap i r c)
    (hS : ∀ b, S b → w'.heap[b]? = w.heap[b]?) (hc : ∀ e st rows, x = .sl true e st rows → w'.heap[G.cblk i r c]? = w.heap[G.cblk i r c]?) : OwC G' S w' i' r' c x v := by
  cases x with
  | un => trivial
  | sc u => exact h
  | nl => exact h
  | sl o e st rows =>
    cases o with
    | false => exact RdG.mono h (fun _ _ h => h) (fun _ h => h) hS
    | true =>
      obtain ⟨h1, h2⟩ := h
      refine ⟨by rw [hG.1, hG.2]; exact h1, ?_⟩
      rw [hG.1, hG.2]
      exact OwG.mono h2 (hc e st rows rfl) (fun _ _ _ _ _ _ _ h => h)
/-- no cell is unknown -/
def known (rows : List (List Cell)) : Bool := rows.all fun row => row.all fun x => match x with | .un => false | _ => true
theorem OwC.one {i : Id} {r c : Nat} {x : Cell} {v : Value} (h : OwC G S w i r c x v) (hx : x ≠ .un) : v.oneCell' = true := by
  cases x with
  | un => exact absurd rfl hx
  | sc u =>
    obtain ⟨rfl, hs⟩ := h
    cases v <;> first | rfl | (simp [isSc] at hs)
  | nl => rw [show v = .slice none 0 0 from h]; rfl
  | sl o e st rows =>
    cases o with
    | false => obtain ⟨A, c, rfl, _⟩ := h; rfl
    | true => rw [h.1]; rfl
/-- what a call with one own slice, and scalars behind it, is given -/
theorem givenK {e K : Nat} {rows : List (List Cell)} {xs : List Value} {m0 : Mem} {vals : Array Value} (ha : adds noMem (openV mk0 (.tu (.ow e K rows :: xs.map .sc))).2 = some m0) (hinv : Inv S N G m0 w) (hR : R G S m0 w (openV mk0 (.tu (.ow e K rows :: xs.map .sc))).1 (.tuple vals)) :
    m0 = updM noMem (mk0 0) (some (.arr e K rows)) ∧ vals = (Value.slice (some ⟨G.blk (mk0 0), 0, none⟩) rows.length (G.cap (mk0 0)) :: xs).toArray ∧ (¬ S (G.blk (mk0 0)) ∧ N (G.blk (mk0 0))) ∧ OwG (OwC G S w (mk0 0)) w (G.blk (mk0 0)) e (G.cap (mk0 0)) K rows := by
  have scs : ∀ (l : List Value) (k : Nat), (partsT k (l.map LV.sc)).filterMap (thing mk0) = [] := by
    intro l
    induction l with
    | nil => intro k; rfl
    | cons v l ih => intro k; simp only [List.map_cons, partsT, parts1, List.singleton_append, List.filterMap_cons, thing, ih]
  have sct : ∀ (l : List Value) (k : Nat), travT (opn mk0) k (l.map LV.sc) = l.map LV.sc := by
    intro l
    induction l with
    | nil => intro k; rfl
    | cons v l ih => intro k; simp only [List.map_cons, travT, trav1, opn, ih]
  have e2 : (openV mk0 (.tu (.ow e K rows :: xs.map .sc))).2 = [(mk0 0, .arr e K rows)] := by
    simp only [openV, parts, partsT, parts1, List.singleton_append, List.filterMap_cons, thing, scs]
  have e1 : (openV mk0 (.tu (.ow e K rows :: xs.map .sc))).1 = .tu (.rf (mk0 0) none 0 rows.length :: xs.map .sc) := by
    simp only [openV, trav, travT, trav1, opn, sct]
  rw [e2] at ha
  rw [e1] at hR
  have ha : some (updM noMem (mk0 0) (some (Thing.arr e K rows))) = some m0 := ha
  cases ha
  have hsep := hinv.sep (.root (mk0 0)) (.inr ⟨e, K, _, updM_eq⟩)
  refine ⟨rfl, ?_, hsep, hinv.arr (mk0 0) e K _ updM_eq⟩
  obtain ⟨us, hus, hsz, hrl⟩ := hR
  cases hus
  apply Array.ext'
  apply List.ext_getElem?
  intro k
  rw [Array.getElem?_toList]
  cases k with
  | zero =>
    obtain ⟨u, u1, u2⟩ := hrl 0 _ rfl
    rw [u1]
    simp only [R1, R0, look, updM_eq] at u2
    obtain ⟨A, c, rfl, _, q2, q3⟩ := u2
    have q2 : 0 + c = G.cap (mk0 0) := q2
    rw [Nat.zero_add] at q2
    have q4 := q3 (.inr trivial)
    simp only [Gh.blkOf, Nat.zero_mul] at q4
    rw [q4, q2]
    rfl
  | succ k =>
    cases hx : xs[k]? with
    | none =>
      have : xs.length ≤ k := List.getElem?_eq_none_iff.1 hx
      rw [Array.getElem?_eq_none (by rw [hsz]; simp; omega)]
      simp [hx]
    | some x =>
      obtain ⟨u, u1, u2⟩ := hrl (k + 1) (.sc x) (by simp [hx])
      rw [u1]
      have : u = x := u2.1
      subst this
      simp [hx]
/-- rows are handed back, cut and in another order: row r was row p r -/
theorem prim_perm {f e K n : Nat} {rows rows' : List (List Cell)} {xs : List Value} (p : Nat → Nat) (hl : rows'.length = n) (hn : n ≤ rows.length) (hp : ∀ r, r < n → rows'[r]? = rows[p r]?) (hi : ∀ r s, r < n → s < n → p r = p s → r = s) (hk : known rows = true)
    (H : ∀ (w : World) (b cap : Nat) (cs : Array Value), w.heap[b]? = some (.cells cs e (0, 0)) → cs.size = cap * K → rows.length ≤ cap → cap ≤ maxLen → (∀ (r c : Nat), r < rows.length → c < K → ∃ u, cs[r * K + c]? = some u ∧ u.oneCell' = true) →
      Calls P f (Value.slice (some ⟨b, 0, none⟩) rows.length cap :: xs).toArray w fun en w' => en = .returned (.slice (some ⟨b, 0, none⟩) n cap) ∧ FrN (fun x => x = b ∨ w.heap.size ≤ x) w w' ∧ ∃ cs', w'.heap[b]? = some (.cells cs' e (0, 0)) ∧ cs'.size = cs.size ∧ ∀ (r c : Nat), r < n → c < K → cs'[r * K + c]? = cs[p r * K + c]?) :
    ContractM T P f (.ow e K rows :: xs.map .sc) (.ow e K rows') := by
  intro S N w vals G m0 ha hinv hR _ hnew hSN _
  obtain ⟨rfl, rfl, hsep, hown⟩ := givenK ha hinv hR
  obtain ⟨cs, c1, c2, c3, c4, c5⟩ := hown
  have hb : G.blk (mk0 0) < w.heap.size := (Array.getElem?_eq_some_iff.1 c1).1
  have hin : ∀ (r : Nat) (row : List Cell), rows[r]? = some row → row.length = K := fun r row hr => (c5 r row hr).1
  refine Calls.mono (H w _ _ cs c1 c2 c3 c4 fun r c hr hc => ?_) fun en w' => ?_
  · obtain ⟨row, hrow⟩ : ∃ row, rows[r]? = some row := ⟨rows[r], List.getElem?_eq_getElem hr⟩
    obtain ⟨q1, q2⟩ := c5 r row hrow
    obtain ⟨x, hx⟩ : ∃ x, row[c]? = some x := ⟨row[c]'(by omega), List.getElem?_eq_getElem (by omega)⟩
    obtain ⟨u, u1, u2⟩ := q2 c x hx
    refine ⟨u, u1, u2.one fun e0 => ?_⟩
    have := List.all_eq_true.1 (List.all_eq_true.1 hk row (List.mem_of_getElem? hrow)) x (List.mem_of_getElem? hx)
    rw [e0] at this
    cases this
  rintro ⟨rfl, hfr, cs2, d1, d2, d3⟩
  have hfrN : FrN N w w' := ⟨hfr.os, hfr.tape, hfr.output, hfr.size, fun b hb hn => hfr.block b hb fun q => by
    rcases q with rfl | q
    · exact hn hsep.2
    · exact hn (hnew b q)⟩
  have hblk : ∀ x, x < w.heap.size → x ≠ G.blk (mk0 0) → w'.heap[x]? = w.heap[x]? := fun x hx hne => hfr.block x hx fun q => by
    rcases q with q | q
    · exact hne q
    · omega
  have hS : ∀ x, S x → w'.heap[x]? = w.heap[x]? := fun x hx => hblk x (hinv.old x hx) fun q => by subst q; exact hsep.1 hx
  have lroot : live (updM noMem (mk0 0) (some (Thing.arr e K rows))) (.root (mk0 0)) := .inr ⟨e, K, _, updM_eq⟩
  have lch : ∀ (r c : Nat) (row : List Cell) (e' st' : Nat) (l : List (List Value)), rows[r]? = some row → row[c]? = some (.sl true e' st' l) → live (updM noMem (mk0 0) (some (Thing.arr e K rows))) (.chld (mk0 0) r c) := fun r c row e' st' l h1 h2 => ⟨e, K, _, row, e', st', l, updM_eq, h1, h2⟩
  refine ⟨_, rfl, hfrN, fun mk _ => ?_⟩
  have back : ∀ q, live (updM noMem (mk 0) (some (Thing.arr e K rows'))) q → (q = .root (mk 0)) ∨ ∃ r c row e' st' l, q = .chld (mk 0) r c ∧ r < n ∧ rows[p r]? = some row ∧ row[c]? = some (.sl true e' st' l) := by
    intro q hq
    cases q with
    | root j =>
      by_cases hj : j = mk 0
      · exact .inl (by rw [hj])
      · rcases hq with ⟨_, z⟩ | ⟨_, _, _, z⟩ <;> (rw [updM_ne hj] at z; cases z)
    | chld j r c =>
      obtain ⟨e1, n1, R1, row, e2, n2, l, q1, q2, q3⟩ := hq
      by_cases hj : j = mk 0
      · subst hj
        rw [updM_eq] at q1
        cases q1
        have hr : r < n := by have := (List.getElem?_eq_some_iff.1 q2).1; omega
        rw [hp r hr] at q2
        exact .inr ⟨r, c, row, e2, n2, l, rfl, hr, q2, q3⟩
      · rw [updM_ne hj] at q1; cases q1
  refine ⟨⟨fun _ => G.blk (mk0 0), fun _ => G.cap (mk0 0), fun _ r c => G.cblk (mk0 0) (p r) c, fun _ r c => G.ccap (mk0 0) (p r) c⟩, _, rfl, ⟨fun j e' st' R1 hj => ?_, fun j cells hj => ?_, fun q1 q2 h1 h2 he => ?_, fun q hq => ?_, fun x hx => Nat.lt_of_lt_of_le (hinv.old x hx) hfr.size⟩, ?_, ?_⟩
  · by_cases e0 : j = mk 0
    · subst e0
      rw [updM_eq] at hj
      cases hj
      refine ⟨cs2, d1, by rw [d2, c2], (by show rows'.length ≤ G.cap (mk0 0); omega), c4, fun r row hr => ?_⟩
      have hrn : r < n := by have := (List.getElem?_eq_some_iff.1 hr).1; omega
      rw [hp r hrn] at hr
      obtain ⟨k1, k2⟩ := c5 _ row hr
      refine ⟨k1, fun c x hx => ?_⟩
      obtain ⟨u, u1, u2⟩ := k2 c x hx
      have hc : c < K := by have := (List.getElem?_eq_some_iff.1 hx).1; omega
      refine ⟨u, by rw [d3 r c hrn hc]; exact u1, u2.move ⟨rfl, rfl⟩ hS fun e1 s1 l hl => ?_⟩
      subst hl
      have hlv := lch _ _ _ _ _ _ hr hx
      refine hblk _ (hinv.lt hlv) fun q => ?_
      have := hinv.inj _ _ hlv lroot q
      cases this
    · rw [updM_ne e0] at hj; cases hj
  · by_cases e0 : j = mk 0
    · subst e0; rw [updM_eq] at hj; cases hj
    · rw [updM_ne e0] at hj; cases hj
  · rcases back q1 h1 with rfl | ⟨r1, c1', row1, a1, b1, l1, rfl, hr1, x1, y1⟩ <;> rcases back q2 h2 with rfl | ⟨r2, c2', row2, a2, b2, l2, rfl, hr2, x2, y2⟩
    · rfl
    · have := hinv.inj _ _ lroot (lch _ _ _ _ _ _ x2 y2) he
      cases this
    · have := hinv.inj _ _ (lch _ _ _ _ _ _ x1 y1) lroot he
      cases this
    · have := hinv.inj _ _ (lch _ _ _ _ _ _ x1 y1) (lch _ _ _ _ _ _ x2 y2) he
      simp only [Res.chld.injEq, true_and] at this
      rw [hi r1 r2 hr1 hr2 this.1, this.2]
  · rcases back q hq with rfl | ⟨r1, c1', row1, a1, b1, l1, rfl, hr1, x1, y1⟩
    · exact hsep
    · exact hinv.sep _ (lch _ _ _ _ _ _ x1 y1)
  · show R0 _ S _ w' (.rf (mk 0) none 0 rows'.length) _
    simp only [R0, look, updM_eq]
    refine ⟨⟨G.blk (mk0 0), 0, none⟩, G.cap (mk0 0), by rw [hl], by omega, by simp [Gh.capOf], fun _ => by simp [Gh.blkOf]⟩
  · show updM noMem (mk 0) _ (mk 0) ≠ none
    rw [updM_eq]; simp
end
end Go.Proofs.Ythnkioafikmmaaa.Ev
