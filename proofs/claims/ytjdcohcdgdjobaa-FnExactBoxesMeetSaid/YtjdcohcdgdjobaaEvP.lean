/- Calls that read alone. -/
import Derived.Test.YtjdcohcdgdjobaaEvO
namespace Go.Proofs.Ytjdcohcdgdjobaa.Ev
open Go
set_option linter.unusedVariables false
set_option linter.unusedSimpArgs false

/-- what a call of f with these arguments does -/
def Contract (P : Program) (f : Nat) (args : List LV) (r : LV) : Prop :=
  ∀ (S : Nat → Prop) (w : World) (vals : Array Value) (G : Gh), (∀ b, S b → b < w.heap.size) → RL (fun x u => R G S noMem w x u ∧ wf noMem x) args vals →
    Calls P f vals w fun e w' => ∃ v, e = .returned v ∧ FrN (fun b => w.heap.size ≤ b) w w' ∧
      ∀ mk : Nat → Id, (∀ a b, mk a = mk b → a = b) → ∃ G' m', adds noMem (openV mk r).2 = some m' ∧ Inv S (fun b => w.heap.size ≤ b) G' m' w' ∧ R G' S m' w' (openV mk r).1 v ∧ wf m' (openV mk r).1 ∧ ∀ i, m' i ≠ none → ∃ k, i = mk k

def enterOk (P : Program) (f : Nat) : Bool :=
  match P.funcs[f]? with
  | some fn => !(fn.name == "runtime.NumGoroutine") && (match fn.body with | some _ => true | none => false)
  | none => false

section
variable {P : Program} {S N : Nat → Prop} {G G0 : Gh} {m : Mem} {st : St} {a : Act} {w : World}

theorem run_callFunc {f : Nat} (h : enterOk P f = true) (args : Array Value) : (callFunc f args).run P w = .ok (.enter f args) w := by
  unfold enterOk at h
  cases hf : P.funcs[f]? with
  | none => rw [hf] at h; cases h
  | some fn =>
    rw [hf] at h
    simp only [Bool.and_eq_true, Bool.not_eq_true', beq_eq_false_iff_ne] at h
    cases hb : fn.body with
    | none => rw [hb] at h; cases h.2
    | some c => simp [callFunc, hf, h.1, hb]

/-- an operation's outcome: a value, or a call -/
def Op1 (P : Program) (o : Oper) (a : Act) (w : World) (Φ : Value → World → Prop) : Prop :=
  Does P o a w Φ ∨ ∃ f vals, (execOp a.eval o).run P w = .ok (.enter f vals) w ∧ Calls P f vals w fun e w' => ∃ v, e = .returned v ∧ Φ v w'

theorem Op1.wp {o : Oper} {Φ : Value → World → Prop} (h : Op1 P o a w Φ) {K : Act → World → Prop} {Q : Exit → Act → World → Prop} (hK : ∀ v w', Φ v w' → K (a.put o.dst v) w') : o.wp P a w K Q := by
  rcases h with ⟨v, w', hr, hΦ⟩ | ⟨f, vals, hr, hc⟩
  · unfold Oper.wp; rw [hr]; exact hK v w' hΦ
  · unfold Oper.wp; rw [hr]
    simp only [Oper.upon]
    refine Calls.mono hc fun e w' => ?_
    rintro ⟨v, rfl, hΦ⟩
    exact hK v w' hΦ

/-- cells that lead to nothing that is read alone -/
def noRo (x : Cell) : Prop := ∀ e n l, x ≠ .sl false e n l

theorem Inv.narrow {S2 : Nat → Prop} (h : Inv S2 N G m w) (hS : ∀ b, S b → S2 b) (hb : ∀ i cells, m i ≠ some (.box cells)) (hc : ∀ i e n rows, m i = some (.arr e n rows) → ∀ row ∈ rows, ∀ x ∈ row, noRo x) : Inv S N G m w := by
  refine ⟨fun i e n rows hi => OwG.mono (h.arr i e n rows hi) rfl fun r c row x u hr hcx ho => ?_, fun i cells hi => absurd hi (hb i cells), h.inj, fun p hp => ⟨fun q => (h.sep p hp).1 (hS _ q), (h.sep p hp).2⟩, fun b q => h.old b (hS b q)⟩
  have := hc i e n rows hi row (List.mem_of_getElem? hr) x (List.mem_of_getElem? hcx)
  cases x with
  | un => trivial
  | sc v => exact ho
  | nl => exact ho
  | sl o e' n' l =>
    cases o with
    | false => exact absurd rfl (this e' n' l)
    | true => exact ho

theorem things_mem {mk : Nat → Id} {r : LV} {m' : Mem} : ∀ {l : List (Nat × LV)} {m0 : Mem}, adds m0 (l.filterMap (thing mk)) = some m' → ∀ i t, m' i = some t → m0 i = some t ∨ ∃ k e n rows, (k, LV.ow e n rows) ∈ l ∧ t = .arr e n rows := by
  intro l; induction l with
  | nil => intro m0 h i t ht; cases h; exact .inl ht
  | cons p l ih =>
    intro m0 h i t ht
    simp only [List.filterMap_cons] at h
    cases hp : thing mk p with
    | none =>
      rw [hp] at h
      rcases ih h i t ht with h1 | ⟨k, e, n, rows, h1, h2⟩
      · exact .inl h1
      · exact .inr ⟨k, e, n, rows, by simp [h1], h2⟩
    | some q =>
      rw [hp] at h
      obtain ⟨j, x⟩ := q
      simp only [adds] at h
      split at h
      · rcases ih h i t ht with h1 | ⟨k, e, n, rows, h1, h2⟩
        · by_cases hij : i = j
          · rw [hij, updM_eq] at h1
            cases h1
            obtain ⟨k, y⟩ := p
            cases y <;> simp [thing] at hp
            obtain ⟨_, rfl⟩ := hp
            exact .inr ⟨k, _, _, _, by simp, rfl⟩
          · rw [updM_ne hij] at h1; exact .inl h1
        · exact .inr ⟨k, e, n, rows, by simp [h1], h2⟩
      · cases h

theorem travL_id : ∀ (l : List LV) (k : Nat), travL (fun _ x => x) k l = l := by
  intro l; induction l with
  | nil => intro k; rfl
  | cons x xs ih => intro k; simp [travL, ih]
theorem trav1_id (k : Nat) (x : LV) : trav1 (fun _ x => x) k x = x := by cases x <;> simp [trav1, travL_id]
theorem travT_id : ∀ (l : List LV) (k : Nat), travT (fun _ x => x) k l = l := by
  intro l; induction l with
  | nil => intro k; rfl
  | cons x xs ih => intro k; simp [travT, ih, trav1_id]

theorem R_parts {G' : Gh} {S' : Nat → Prop} {m' : Mem} {x : LV} {V : Value} (hr : R G S m w x V) (hs : small x = true) (hcl : ∀ p ∈ parts x, ∀ f us, p.2 ≠ .cl f us)
    (hp : ∀ p ∈ parts x, ∀ u, R0 G S m w p.2 u → R0 G' S' m' w p.2 u) : R G' S' m' w x V := by
  have h1 : ∀ (x : LV) (k : Nat) (V : Value), (∀ vs, x ≠ .tu vs) → R1 G S m w x V → (∀ p ∈ parts1 k x, ∀ f us, p.2 ≠ .cl f us) → (∀ p ∈ parts1 k x, ∀ u, R0 G S m w p.2 u → R0 G' S' m' w p.2 u) → R1 G' S' m' w x V := by
    intro x k V hnt hr hcl hp
    rcases three x with ⟨vs, rfl⟩ | ⟨vs, rfl⟩ | hx
    · obtain ⟨cs, rfl, q⟩ := hr
      have := RL_trav (f := fun _ x => x) (k := k) q hp
      rw [travL_id] at this
      exact ⟨cs, rfl, this⟩
    · exact absurd rfl (hnt vs)
    · have hcl' : ∀ f us, x ≠ .cl f us := fun f us e => hcl (k, x) (by rw [parts1_flat hx]; simp) f us e
      have h0 : R0 G S m w x V := by cases x <;> first | exact hr | exact hx.elim | exact absurd rfl (hcl' _ _)
      have h2 := hp (k, x) (by rw [parts1_flat hx]; simp) V h0
      cases x <;> first | exact h2 | exact hx.elim | exact absurd rfl (hcl' _ _)
  by_cases ht : ∃ vs, x = .tu vs
  · obtain ⟨vs, rfl⟩ := ht
    obtain ⟨cs, rfl, q1, q2⟩ := hr
    have hs' : ∀ x ∈ vs, small1 x = true := fun x hx => List.all_eq_true.1 (by simpa [small] using hs) x hx
    have key : ∀ (l : List LV) (k j : Nat) (y : LV), l[j]? = some y → ∀ p ∈ parts1 (k + 100 * j) y, p ∈ partsT k l := by
      intro l; induction l with
      | nil => intro k j y h; simp at h
      | cons z zs ih =>
        intro k j y h p hpp
        cases j with
        | zero => simp at h; subst h; simp only [partsT, List.mem_append]; exact .inl hpp
        | succ j =>
          simp only [partsT, List.mem_append]
          right
          refine ih (k + 100) j y (by simpa using h) p ?_
          rw [show k + 100 + 100 * j = k + 100 * (j + 1) from by omega]; exact hpp
    refine ⟨cs, rfl, q1, fun j y hj => ?_⟩
    obtain ⟨u, u1, u2⟩ := q2 j y hj
    have hnt : ∀ us, y ≠ .tu us := fun us e => by
      have := hs' y (List.mem_of_getElem? hj)
      rw [e] at this; cases this
    exact ⟨u, u1, h1 y (0 + 100 * j) u hnt u2 (fun p hpp => hcl p (key vs 0 j y hj p hpp)) (fun p hpp => hp p (key vs 0 j y hj p hpp))⟩
  · have ht' : ∀ vs, x ≠ .tu vs := fun vs e => ht ⟨vs, e⟩
    rw [parts_flat ht'] at hp hcl
    have hr1 : R1 G S m w x V := by cases x <;> first | exact hr | exact absurd rfl (ht' _)
    have := h1 x 0 V ht' hr1 hcl hp
    cases x <;> first | exact this | exact absurd rfl (ht' _)

theorem small_trav {f : Nat → LV → LV} (hf : ∀ k x, flat0 x → flat0 (f k x)) {r : LV} (hs : small r = true) : small (trav f r) = true := by
  have lenL : ∀ (l : List LV) (k : Nat), (travL f k l).length = l.length := by
    intro l; induction l with
    | nil => intro k; rfl
    | cons x xs ih => intro k; simp [travL, ih]
  have flat_small : ∀ y, flat0 y → small1 y = true := fun y hy => by cases y <;> first | rfl | exact hy.elim
  have h1 : ∀ (x : LV) (k : Nat), small1 x = true → small1 (trav1 f k x) = true := by
    intro x k hx
    rcases three x with ⟨vs, rfl⟩ | ⟨vs, rfl⟩ | h
    · simp only [trav1, small1, lenL] at hx ⊢; exact hx
    · cases hx
    · rw [trav1_flat h]; exact flat_small _ (hf k x h)
  by_cases ht : ∃ vs, r = .tu vs
  · obtain ⟨vs, rfl⟩ := ht
    simp only [trav, small, List.all_eq_true] at hs ⊢
    have : ∀ (l : List LV) (k : Nat), (∀ x ∈ l, small1 x = true) → ∀ x ∈ travT f k l, small1 x = true := by
      intro l; induction l with
      | nil => intro k _ x hx; simp [travT] at hx
      | cons y ys ih =>
        intro k h x hx
        simp only [travT, List.mem_cons] at hx
        rcases hx with rfl | hx
        · exact h1 y k (h y (by simp))
        · exact ih (k + 100) (fun z hz => h z (by simp [hz])) x hx
    exact this vs 0 hs
  · have ht' : ∀ vs, r ≠ .tu vs := fun vs e => ht ⟨vs, e⟩
    rw [small_flat ht'] at hs
    rw [trav_flat ht']
    have h2 := h1 r 0 hs
    rw [small_flat]
    · exact h2
    · intro vs e; rw [e] at h2; cases h2

theorem opn_flat {mk : Nat → Id} (k : Nat) (x : LV) (h : flat0 x) : flat0 (opn mk k x) := by cases x <;> first | trivial | exact h.elim

theorem snap1_closed {x y : LV} {u : Value} (hno : ownB0 x = false) (hy : snap1 m x = some y) (hx : R0 G S m w x u) : R0 G S noMem w y u ∧ wf0 noMem y ∧ R G S noMem w y u ∧ wf noMem y := by
  cases x <;> simp only [snap1, snap0] at hy <;> first | (cases hno; done) | (cases hy; done) | (cases hy; exact ⟨hx, trivial, hx, trivial⟩)
theorem snap0_one {x y : LV} (hno : ownB0 x = false) (hy : snap0 m x = some y) : snap1 m x = some y := by
  cases x <;> first | exact hy | (cases hno; done) | (simp only [snap0] at hy; cases hy)
theorem snap_closed {x y : LV} {u : Value} (hno : ownB x = false) (hy : snap m x = some y) (hx : R G S m w x u) : R G S noMem w y u ∧ wf noMem y := by
  have lst : ∀ {f : LV → Option LV} {vs ys : List LV} {cs : Array Value}, vs.any ownB0 = false → (∀ x z u, ownB0 x = false → R0 G S m w x u → f x = some z → R0 G S noMem w z u ∧ wf0 noMem z) → RL (R0 G S m w) vs cs → vs.mapM f = some ys →
      RL (R0 G S noMem w) ys cs ∧ ∀ x ∈ ys, wf0 noMem x := by
    intro f vs ys cs hn hf hq hm
    obtain ⟨g1, g2⟩ := mapM_get hm
    have hn' : ∀ z ∈ vs, ownB0 z = false := fun z hz => by have := List.any_eq_false.1 hn z hz; simpa using this
    refine ⟨⟨by rw [hq.1, g1], fun k x hk => ?_⟩, fun x hx => ?_⟩
    · obtain ⟨z, hz, hfz⟩ := g2 k x hk
      obtain ⟨u, u1, u2⟩ := hq.2 k z hz
      exact ⟨u, u1, (hf z x u (hn' z (List.mem_of_getElem? hz)) u2 hfz).1⟩
    · obtain ⟨k, hk⟩ := List.getElem?_of_mem hx
      obtain ⟨z, hz, hfz⟩ := g2 k x hk
      obtain ⟨u, u1, u2⟩ := hq.2 k z hz
      exact (hf z x u (hn' z (List.mem_of_getElem? hz)) u2 hfz).2
  cases x
  case ag vs =>
    simp only [snap, Option.map_eq_some_iff] at hy
    obtain ⟨ys, h1, rfl⟩ := hy
    obtain ⟨cs, rfl, q⟩ := hx
    obtain ⟨k1, k2⟩ := lst hno (fun x z u hn hx hz => by
      obtain ⟨b1, b2, _, _⟩ := snap1_closed hn (snap0_one hn hz) hx
      exact ⟨b1, b2⟩) q h1
    exact ⟨⟨cs, rfl, k1⟩, k2⟩
  case cl f vs =>
    simp only [snap, Option.map_eq_some_iff] at hy
    obtain ⟨ys, h1, rfl⟩ := hy
    obtain ⟨cs, rfl, q⟩ := hx
    obtain ⟨k1, k2⟩ := lst hno (fun x z u hn hx hz => by
      obtain ⟨b1, b2, _, _⟩ := snap1_closed hn hz hx
      exact ⟨b1, b2⟩) q h1
    exact ⟨⟨cs, rfl, k1⟩, k2⟩
  case tu vs => simp [snap, snap1, snap0] at hy
  all_goals (simp only [snap] at hy; simp only [R, R1] at hx; simp only [ownB] at hno; exact (snap1_closed hno hy hx).2.2)

/-- a call that reads alone -/
theorem do_ca (h : SR S N G st a w) {call : CallF} (hcall : ∀ g args r, call g args = some (r, []) → enterOk P g = true ∧ small r = true ∧ Contract P g args r)
    {f : Opd} {f' : Operand} {xs : List Opd} {xs' : Array Operand} {ts : Array TypeId} {o : Oper} (hf : fO f f' = true) (hx : fOs xs xs'.toList = true) (ho : o.op = .call ⟨.value f', xs', ts⟩)
    {g d : Nat} {caps : List LV} (ef : opd st.s f = .cl g caps) {v : LV} {l : List (Id × Thing)} (hv : callR call st.m d g (xs.map (opd st.s) ++ caps) = some (v, l)) {m' : Mem} (hm : adds st.m l = some m') :
    Op1 P o a w (Next S N G st w v m') := by
  unfold callR at hv
  cases hsn : (xs.map (opd st.s) ++ caps).mapM (snap st.m) with
  | none => rw [hsn] at hv; cases hv
  | some ys =>
    rw [hsn] at hv
    simp only [] at hv
    cases hcl : call g ys with
    | none => rw [hcl] at hv; cases hv
    | some rr =>
      obtain ⟨r, outs⟩ := rr
      cases outs with
      | cons _ _ => rw [hcl] at hv; cases hv
      | nil =>
        rw [hcl] at hv
        simp only [] at hv
        split at hv
        · cases hv
        · rename_i hro
          cases hv
          obtain ⟨hen, hsm, hcon⟩ := hcall g ys r hcl
          -- the arguments' values
          obtain ⟨rf1, rf2⟩ := h.opd hf
          rw [ef] at rf1 rf2
          obtain ⟨cs, e1, q1, q2⟩ := rf1
          obtain ⟨l1, l2⟩ := fOs_get hx
          have l1' : xs.length = xs'.size := by simpa using l1
          have hargs : RL (fun x u => R G S st.m w x u ∧ wf st.m x) (xs.map (opd st.s) ++ caps) (xs'.map a.eval ++ cs) := by
            refine ⟨by simp [l1, q1], fun k x hk => ?_⟩
            by_cases hk1 : k < xs.length
            · rw [List.getElem?_append_left (by simpa using hk1)] at hk
              simp only [List.getElem?_map, Option.map_eq_some_iff] at hk
              obtain ⟨z, hz, rfl⟩ := hk
              obtain ⟨z', y1, y2⟩ := l2 k z hz
              refine ⟨a.eval z', ?_, h.opd y2⟩
              rw [Array.getElem?_toList] at y1
              rw [Array.getElem?_append_left (by simp; omega)]
              simp [y1]
            · rw [List.getElem?_append_right (by simpa using hk1)] at hk
              obtain ⟨u, u1, u2⟩ := q2 _ x hk
              have hw0 := rf2 x (List.mem_of_getElem? hk)
              refine ⟨u, ?_, ?_, ?_⟩
              · rw [Array.getElem?_append_right (by simp; omega)]
                have : k - (xs'.map a.eval).size = k - (xs.map (opd st.s)).length := by simp [l1]
                rw [this]; exact u1
              · have := R0_notag u2
                cases x <;> first | exact u2 | exact this.elim | exact u2.elim
              · have := R0_notag u2
                cases x <;> first | exact hw0 | exact this.elim | exact u2.elim
          obtain ⟨g1, g2⟩ := mapM_get hsn
          have hsnap : ∀ S2 : Nat → Prop, (∀ x y u, R G S st.m w x u → wf st.m x → x ∈ (xs.map (opd st.s) ++ caps) → snap st.m x = some y → R G S2 noMem w y u ∧ wf noMem y) → RL (fun x u => R G S2 noMem w x u ∧ wf noMem x) ys (xs'.map a.eval ++ cs) := by
            intro S2 hS2
            refine ⟨by rw [hargs.1, g1], fun k y hk => ?_⟩
            obtain ⟨x, hx1, hx2⟩ := g2 k y hk
            obtain ⟨u, u1, u2, u3⟩ := hargs.2 k x hx1
            exact ⟨u, u1, hS2 x y u u2 u3 (List.mem_of_getElem? hx1) hx2⟩
          -- what comes back
          have finish : ∀ (S2 : Nat → Prop), (∀ b, S b → S2 b) → (∀ b, S2 b → b < w.heap.size) → RL (fun x u => R G S2 noMem w x u ∧ wf noMem x) ys (xs'.map a.eval ++ cs) →
              (roB r = false ∨ S2 = S) → Op1 P o a w (Next S N G st w (openV (.rs d) r).1 m') := by
            intro S2 hsub hlt hrl hcase
            refine .inr ⟨g, xs'.map a.eval ++ cs, ?_, ?_⟩
            · simp [execOp, ho, resolve, Deferred.ofValue, e1, invoke, run_callFunc hen]
            refine Calls.mono (hcon S2 w _ G hlt hrl) fun e w' => ?_
            rintro ⟨vv, rfl, hfr, hres⟩
            refine ⟨vv, rfl, ?_⟩
            obtain ⟨G', m1, ha, hinv, hR, hwf, _⟩ := hres (.rs d) (fun a b e => by cases e; rfl)
            -- under S alone
            have hboth : Inv S (fun b => w.heap.size ≤ b) G' m1 w' ∧ R G' S m1 w' (openV (.rs d) r).1 vv := by
              rcases hcase with hro | rfl
              · have hpr : ∀ p ∈ parts r, roB0 p.2 = false := fun p hp => by
                  have := List.any_eq_false.1 hro p hp
                  simpa using this
                have hmem := things_mem (mk := Id.rs d) (r := r) (l := parts r) ha
                refine ⟨hinv.narrow hsub (fun i cells hi => ?_) (fun i e n rows hi row hrow x hx e' n' l' hxe => ?_), ?_⟩
                · rcases hmem i _ hi with h0 | ⟨_, _, _, _, _, h0⟩ <;> cases h0
                · rcases hmem i _ hi with h0 | ⟨k, e2, n2, rows2, h1, h0⟩
                  · cases h0
                  · cases h0
                    have := hpr _ h1
                    simp only [roB0] at this
                    have := List.any_eq_false.1 this row hrow
                    simp only [List.any_eq_true, not_exists, not_and] at this
                    have := this x hx
                    subst hxe
                    simp [roCell] at this
                · have hparts : parts (trav (opn (Id.rs d)) r) = _ := parts_trav (opn_flat (mk := Id.rs d)) hsm
                  refine R_parts hR (small_trav (opn_flat (mk := Id.rs d)) hsm) (fun p hp f us e => ?_) (fun p hp u hu => ?_)
                  · rw [show (openV (.rs d) r).1 = trav (opn (Id.rs d)) r from rfl, hparts] at hp
                    simp only [List.mem_map] at hp
                    obtain ⟨q, hq, rfl⟩ := hp
                    have := hpr q hq
                    obtain ⟨k, x⟩ := q
                    cases x <;> simp [opn, roB0] at e this
                  · rw [show (openV (.rs d) r).1 = trav (opn (Id.rs d)) r from rfl, hparts] at hp
                    simp only [List.mem_map] at hp
                    obtain ⟨q, hq, rfl⟩ := hp
                    have := hpr q hq
                    obtain ⟨k, x⟩ := q
                    cases x <;> first | exact hu | (simp [roB0] at this; done) | exact hu.elim
              · exact ⟨hinv, hR⟩
            obtain ⟨hinv', hR'⟩ := hboth
            obtain ⟨a1, a2⟩ := adds_union (m0 := noMem) ha hm (fun i hi => absurd rfl hi)
            have hd : ∀ i, m1 i ≠ none → st.m i = none := fun i hi => a1 i hi rfl
            obtain ⟨x1, x2, x3⟩ := h.inv.union (w' := w') (fun b hb => hfr.block b hb (by omega)) hfr.size h.new hinv' hd
            have hmm : m' = unionM st.m m1 := a2
            rw [hmm]
            exact ⟨_, x1, x3, R.ext hinv'.old x2 hwf hR', wf.ext x2.ne hwf, hfr.os, hfr.tape, hfr.output, hfr.size, fun b hb _ => hfr.block b hb (by omega)⟩
          have hro' : roB r = false ∨ (xs.map (opd st.s) ++ caps).any ownB = false := by
            simp only [Bool.and_eq_true, not_and, Bool.not_eq_true] at hro
            cases hq : roB r with
            | false => exact .inl rfl
            | true => exact .inr (hro hq)
          rcases hro' with hr0 | ho0
          · exact finish (wide S G st.m) (fun b hb => .inl hb) (wide_lt h.inv) (hsnap _ fun x y u hx _ _ hy => snap_R h.inv hx hy) (.inl hr0)
          · refine finish S (fun b hb => hb) h.inv.old (hsnap _ fun x y u hx hwx hmx hy => ?_) (.inr rfl)
            have hno : ownB x = false := by have := List.any_eq_false.1 ho0 x hmx; simpa using this
            exact snap_closed hno hy hx
end
end Go.Proofs.Ytjdcohcdgdjobaa.Ev
