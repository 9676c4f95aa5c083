/- The operations that read memory. -/
import Derived.Test.YthnkioafikmmaaaDoorEvD
import Derived.Laws.Tables
import Derived.ChangeKeysEq
namespace Go.Proofs.YthnkioafikmmaaaDoor.Ev
open Go
set_option linter.unusedVariables false
set_option linter.unusedSimpArgs false

theorem add_add (a : Addr) (h : a.spot = none) (j k : Nat) : (a.add j).add k = a.add (j + k) := by
  obtain ⟨b, o, s⟩ := a
  cases h
  unfold Addr.add
  by_cases hj : j = 0
  · subst hj; simp
  · by_cases hk : k = 0
    · subst hk; simp
    · simp [hj, hk, Nat.add_assoc]
theorem add_lit (b o k : Nat) : (⟨b, o, none⟩ : Addr).add k = ⟨b, o + k, none⟩ := by
  unfold Addr.add; split <;> simp_all
theorem cell_lit {w : World} {b o : Nat} {cs : Array Value} {e : TypeId} {fr : Nat × Nat} (h : w.heap[b]? = some (.cells cs e fr)) : w.cell? ⟨b, o, none⟩ = cs[o]? := by
  simp [World.cell?, h]
theorem spot_of_cell {w : World} {a : Addr} {u : Value} (h : w.cell? a = some u) : a.spot = none := by
  unfold World.cell? at h
  split at h
  · split at h
    · cases h
    · rename_i hs; cases hp : a.spot <;> simp_all
  · cases h

section
variable {P : Program} {ov : Ov} {S N : Nat → Prop} {G : Gh} {m : Mem} {st : St} {a : Act} {w : World}

theorem lift_get {rows : List (List Value)} {r : Nat} {row : List Cell} (h : (lift rows)[r]? = some row) : ∃ vs, rows[r]? = some vs ∧ row = vs.map Cell.sc := by
  simp only [lift, List.getElem?_map, Option.map_eq_some_iff] at h
  obtain ⟨vs, h1, rfl⟩ := h
  exact ⟨vs, h1, rfl⟩
theorem lift_length (rows : List (List Value)) : (lift rows).length = rows.length := by simp [lift]

theorem RdG.lift {n : Nat} {rows : List (List Value)} {v : Value} (h : RdG ScR S w n rows v) : RdG (RdC S w) S w n (lift rows) v := by
  obtain ⟨A, c, rfl, hc, h⟩ := h
  refine ⟨A, c, by rw [lift_length], by rw [lift_length]; exact hc, fun r row hr => ?_⟩
  obtain ⟨vs, h1, rfl⟩ := lift_get hr
  obtain ⟨k1, a, k2, k3, k4⟩ := h r vs h1
  refine ⟨by simpa using k1, a, k2, k3, fun k x hx => ?_⟩
  simp only [List.getElem?_map, Option.map_eq_some_iff] at hx
  obtain ⟨u, hu, rfl⟩ := hx
  exact k4 k u hu

theorem roC_R0 {x : Cell} {v : Value} (h : RdC S w x v) : RpC S w (roC x) v := by
  cases x with
  | un => trivial
  | sc u => exact h
  | nl => exact h
  | sl o e n rows => exact RdG.lift h

theorem RpC.R0 {x : LV} {v : Value} (h : RpC S w x v) (hu : x ≠ .un) : R0 G S m w x v := by
  cases x <;> first | exact h | exact h.elim | exact absurd rfl hu

theorem look_none {i : Id} {e n : Nat} {rows : List (List Cell)} (h : m i = some (.arr e n rows)) : look m i none = some (e, n, rows) := by simp [look, h]
theorem look_some {i : Id} {r c e n e' n' : Nat} {rows : List (List Cell)} {row : List Cell} {rows' : List (List Value)} (h : m i = some (.arr e n rows)) (hr : rows[r]? = some row) (hc : row[c]? = some (.sl true e' n' rows')) :
    look m i (some (r, c)) = some (e', n', lift rows') := by simp [look, h, hr, hc]
theorem look_inv {i : Id} {ch : Option (Nat × Nat)} {e n : Nat} {rows : List (List Cell)} (h : look m i ch = some (e, n, rows)) :
    (ch = none ∧ m i = some (.arr e n rows)) ∨ ∃ r c e0 n0 rows0 row0 rows', ch = some (r, c) ∧ m i = some (.arr e0 n0 rows0) ∧ rows0[r]? = some row0 ∧ row0[c]? = some (.sl true e n rows') ∧ rows = Ev.lift rows' := by
  unfold look at h
  split at h
  · rename_i e0 n0 rows0 hm
    split at h
    · cases h; exact .inl ⟨rfl, hm⟩
    · rename_i r c
      cases hr : rows0[r]? with
      | none => rw [hr] at h; simp at h
      | some row0 =>
        rw [hr] at h
        simp only [Option.bind_some] at h
        split at h
        · rename_i e' n' rows' hc
          cases h
          exact .inr ⟨r, c, e0, n0, rows0, row0, rows', rfl, hm, hr, hc, rfl⟩
        · cases h
  · cases h
theorem look_ne {i : Id} {ch : Option (Nat × Nat)} (h : look m i ch ≠ none) : m i ≠ none := by
  intro hn
  exact h (by simp [look, hn])

/-- what the block of a slice of own memory holds -/
theorem own_rows (h : Inv S N G m w) {i : Id} {ch : Option (Nat × Nat)} {e n : Nat} {rows : List (List Cell)} (hl : look m i ch = some (e, n, rows)) :
    OwG (fun r c x u => R0 G S m w (ownC i ch r c x) u ∨ x = .un ∨ ∃ e' n' l, x = .sl true e' n' l ∧ ch ≠ none) w (G.blkOf i ch) e (G.capOf i ch) n rows := by
  rcases look_inv hl with ⟨rfl, hm⟩ | ⟨r, c, e0, n0, rows0, row0, rows', rfl, hm, hr, hc, rfl⟩
  · refine OwG.mono (h.arr i e n rows hm) rfl fun r c row x u hr hc ho => ?_
    cases x with
    | un => exact .inr (.inl rfl)
    | sc v => exact .inl ho
    | nl => exact .inl ho
    | sl o e' n' l =>
      cases o with
      | false => exact .inl (RdG.lift ho)
      | true =>
        refine .inl ?_
        obtain ⟨rfl, ho⟩ := ho
        simp only [ownC, R0]
        rw [look_some hm hr hc]
        obtain ⟨cs, _, _, h3, _⟩ := ho
        exact ⟨_, _, rfl, h3, by simp [Gh.capOf], fun _ => by simp [Gh.blkOf]⟩
  · obtain ⟨cs, _, _, _, _, k⟩ := h.arr i e0 n0 rows0 hm
    obtain ⟨u, _, -, ho⟩ := (k r row0 hr).2 c _ hc
    obtain ⟨cs, h1, h2, h3, h4, h5⟩ := ho
    refine ⟨cs, h1, h2, by rw [lift_length]; exact h3, h4, fun r2 row hr2 => ?_⟩
    obtain ⟨vs, g1, rfl⟩ := lift_get hr2
    obtain ⟨g2, g3⟩ := h5 r2 vs g1
    refine ⟨by simpa using g2, fun k x hx => ?_⟩
    simp only [List.getElem?_map, Option.map_eq_some_iff] at hx
    obtain ⟨u, hu, rfl⟩ := hx
    obtain ⟨z, z1, z2⟩ := g3 k u hu
    exact ⟨z, z1, .inl z2⟩

theorem pack_R {agg : Bool} {vs : List LV} {v : LV} (hp : pack agg vs = some v) {us : List Value} (hr : RL (R0 G S m w) vs us.toArray) (hw : ∀ x ∈ vs, wf0 m x) :
    ∃ v', (match agg with | true => v' = .agg us.toArray | false => us = [v']) ∧ R G S m w v v' ∧ wf m v := by
  cases agg with
  | true =>
    cases hp
    exact ⟨.agg us.toArray, rfl, ⟨_, rfl, hr⟩, hw⟩
  | false =>
    simp only [pack] at hp
    split at hp
    · rename_i x
      cases hp
      obtain ⟨h1, h2⟩ := hr
      obtain ⟨u, hu, hx⟩ := h2 0 v (by simp)
      have hl : us.length = 1 := by simpa using h1
      have hw0 : wf0 m v := hw v (by simp)
      refine ⟨u, ?_, ?_, ?_⟩
      · match us, hl with
        | [z], _ => simp at hu; simp [hu]
      · cases v <;> first | exact hx | exact hx.elim
      · cases v <;> first | exact hw0 | exact hx.elim
    · cases hp

theorem run_isAgg {t : TypeId} {d : TypeDesc} (h : P.underlying t = some d) {b : Bool} (hb : (match d with | .struct _ | .array _ _ => true | _ => false) = b) : (isAgg t).run P w = .ok b w := by
  subst hb
  cases d <;> simp [isAgg, run_underlying h]

/-- is it a struct or an array? -/
def aggT (P : Program) (t : TypeId) : Option Bool := match P.underlying t with | some (.struct _) | some (.array _ _) => some true | some _ => some false | none => none
theorem aggT_run {t : TypeId} {b : Bool} (h : aggT P t = some b) : (isAgg t).run P w = .ok b w := by
  unfold aggT at h
  cases hu : P.underlying t with
  | none => rw [hu] at h; cases h
  | some d => rw [hu] at h; refine run_isAgg hu ?_; cases d <;> simp_all
def sizeT (P : Program) (t : TypeId) : Option Nat := (P.info? t).map (·.size)
theorem sizeT_run {t : TypeId} {n : Nat} (h : sizeT P t = some n) : (sizeOf t).run P w = .ok n w := by
  unfold sizeT at h
  cases hi : P.info? t with
  | none => rw [hi] at h; cases h
  | some i => rw [hi] at h; cases h; simp [sizeOf, typeInfo, hi]

theorem run_load_pack {t : TypeId} {agg : Bool} {n : Nat} (hg : aggT P t = some agg) (hz : sizeT P t = some n) {ad : Addr} {us : List Value} (hl : us.length = n)
    (hc : ∀ j u, us[j]? = some u → w.cell? (ad.add j) = some u) {vs : List LV} {v : LV} (hp : pack agg vs = some v) (hr : RL (R0 G S m w) vs us.toArray) (hw : ∀ x ∈ vs, wf0 m x) :
    ∃ v', (loadVar t ad).run P w = .ok v' w ∧ R G S m w v v' ∧ wf m v := by
  obtain ⟨v', h1, h2, h3⟩ := pack_R hp hr hw
  refine ⟨v', ?_, h2, h3⟩
  cases agg with
  | true =>
    subst h1
    have := run_loadCells_list (P := P) w ad us hc
    rw [hl] at this
    simp [loadVar, aggT_run hg, sizeT_run hz, this]
  | false =>
    subst h1
    have := hc 0 v' (by simp)
    rw [show ad.add 0 = ad from rfl] at this
    simp [loadVar, aggT_run hg, this]
end
end Go.Proofs.YthnkioafikmmaaaDoor.Ev

namespace Go.Proofs.YthnkioafikmmaaaDoor.Ev
open Go
set_option linter.unusedVariables false
set_option linter.unusedSimpArgs false

section
variable {P : Program} {ov : Ov} {S N : Nat → Prop} {G : Gh} {m : Mem} {st : St} {a : Act} {w : World}

theorem R_R0 {x : LV} {v : Value} (h : R G S m w x v) (h1 : ∀ vs, x ≠ .tu vs) (h2 : ∀ vs, x ≠ .ag vs) (h3 : ∀ f vs, x ≠ .cl f vs) : R0 G S m w x v := by
  cases x <;> first | exact h | exact absurd rfl (h1 _) | exact absurd rfl (h2 _) | exact absurd rfl (h3 _ _)

theorem RL_take {R : LV → Value → Prop} {vs : List LV} {cs : Array Value} (h : RL R vs cs) {off n : Nat} (hn : off + n ≤ vs.length) :
    RL R ((vs.drop off).take n) ((cs.toList.drop off).take n).toArray ∧ ((cs.toList.drop off).take n).length = n := by
  obtain ⟨h1, h2⟩ := h
  have hl : ((cs.toList.drop off).take n).length = n := by simp; omega
  refine ⟨⟨by simp; omega, fun k x hk => ?_⟩, hl⟩
  rw [List.getElem?_take] at hk
  split at hk
  · rename_i hkn
    rw [List.getElem?_drop] at hk
    obtain ⟨u, hu, hx⟩ := h2 _ x hk
    refine ⟨u, ?_, hx⟩
    simp only [List.getElem?_toArray, List.getElem?_take, if_pos hkn, List.getElem?_drop]
    simpa using hu
  · cases hk

theorem ownRow_get {i : Id} {ch : Option (Nat × Nat)} {r : Nat} : ∀ (row : List Cell) (c0 k : Nat), (ownRow i ch r c0 row)[k]? = (row[k]?).map (ownC i ch r (c0 + k)) := by
  intro row
  induction row with
  | nil => intro c0 k; simp [ownRow]
  | cons x xs ih =>
    intro c0 k
    cases k with
    | zero => simp [ownRow]
    | succ k => simp only [ownRow, List.getElem?_cons_succ, ih]; congr 2; omega
theorem ownRow_length {i : Id} {ch : Option (Nat × Nat)} {r : Nat} : ∀ (row : List Cell) (c0 : Nat), (ownRow i ch r c0 row).length = row.length := by
  intro row; induction row with
  | nil => intro c0; rfl
  | cons x xs ih => intro c0; simp [ownRow, ih]

theorem ownC_wf {i : Id} {ch : Option (Nat × Nat)} {r c : Nat} {x : Cell} (hi : m i ≠ none) : wf0 m (ownC i ch r c x) := by
  cases x with
  | un => trivial
  | sc v => trivial
  | nl => trivial
  | sl o e n rows =>
    cases o with
    | false => trivial
    | true => cases ch with | none => exact hi | some rc => trivial

theorem do_ld (h : SR ov S N G st a w) {x : Opd} {x' : Operand} {t : TypeId} {n : Nat} {agg : Bool} {o : Oper} (hx : fO x x' = true) (ho : o.op = .load t x')
    (hg : aggT P t = some agg) (hz : sizeT P t = some n) {v : LV} (hv : loadAt st.m n agg (opd st.s x) = some v) : Does P o a w (Next S N G st w v st.m) := by
  obtain ⟨h1, h2⟩ := h.opd hx
  generalize opd st.s x = X at *
  have key : ∀ (ad : Addr) (us : List Value) (vs : List LV), a.eval x' = .pointer (some ad) → us.length = n → (∀ j u, us[j]? = some u → w.cell? (ad.add j) = some u) → pack agg vs = some v →
      RL (R0 G S st.m w) vs us.toArray → (∀ x ∈ vs, wf0 st.m x) → Does P o a w (Next S N G st w v st.m) := by
    intro ad us vs e1 e2 e3 e4 e5 e6
    obtain ⟨v', k1, k2, k3⟩ := run_load_pack (P := P) hg hz e2 e3 e4 e5 e6
    refine Does.same h (v' := v') ?_ k2 k3
    simp [execOp, ho, e1, Instr.loadAt, Instr.sureAddr, k1]
  cases X <;> simp only [loadAt] at hv <;> try cases hv
  case bp i off =>
    have hi : st.m i ≠ none := h2
    split at hv
    · rename_i cells hc
      split at hv
      · rename_i hn
        obtain ⟨cs, e, k1, k2⟩ := h.inv.box i cells hc
        obtain ⟨q1, q2⟩ := RL_take k2 hn
        have e1 : a.eval x' = .pointer (some ⟨G.blk i, off, none⟩) := by simp only [R, R1, R0] at h1; rw [hc] at h1; exact h1
        refine key _ _ _ e1 q2 (fun j u hj => ?_) hv (q1.mono fun _ _ _ z => z.1) (fun x hxm => ?_)
        · rw [add_lit, cell_lit k1]
          rw [List.getElem?_take] at hj
          split at hj
          · rw [List.getElem?_drop] at hj; simpa using hj
          · cases hj
        · have := List.mem_of_mem_drop (List.mem_of_mem_take hxm)
          obtain ⟨k, hk⟩ := List.getElem?_of_mem this
          obtain ⟨u, _, hu⟩ := k2.2 k x hk
          exact hu.2.2
      · cases hv
    · cases hv
  case ep i ch r c =>
    have hi : st.m i ≠ none := h2
    split at hv
    · rename_i q1 st1 rows hl
      split at hv
      · rename_i row hr
        split at hv
        · rename_i hn
          obtain ⟨cs, k1, k2, k3, k4, k5⟩ := own_rows h.inv hl
          obtain ⟨g1, g2⟩ := k5 r row hr
          have e1 : a.eval x' = .pointer (some ⟨G.blkOf i ch, r * st1 + c, none⟩) := by simp only [R, R1, R0] at h1; rw [hl] at h1; exact h1
          -- every cell loaded is one that can be told
          have hne : ∀ k y, ((ownRow i ch r 0 row).drop c |>.take n)[k]? = some y → ∃ u, cs[r * st1 + c + k]? = some u ∧ (y = .un ∨ R0 G S st.m w y u) := by
            intro k y hy
            rw [List.getElem?_take] at hy
            split at hy
            · rw [List.getElem?_drop, ownRow_get] at hy
              simp only [Option.map_eq_some_iff, Nat.zero_add] at hy
              obtain ⟨z, hz1, rfl⟩ := hy
              obtain ⟨u, hu1, hu2⟩ := g2 (c + k) z hz1
              refine ⟨u, by rw [Nat.add_assoc]; exact hu1, ?_⟩
              rcases hu2 with hu2 | rfl | ⟨e', n', l, rfl, hch⟩
              · exact .inr hu2
              · exact .inl rfl
              · left; cases ch with | none => exact absurd rfl hch | some rc => rfl
            · cases hy
          have hlen : ((ownRow i ch r 0 row).drop c |>.take n).length = n := by simp [ownRow_length]; omega
          have hbig : r * st1 + c + n ≤ cs.size := by
            have hr1 : r < rows.length := (List.getElem?_eq_some_iff.1 hr).1
            have : (r + 1) * st1 ≤ G.capOf i ch * st1 := Nat.mul_le_mul_right _ (by omega)
            rw [Nat.add_mul] at this
            omega
          have hul : ((cs.toList.drop (r * st1 + c)).take n).length = n := by simp; omega
          refine key _ ((cs.toList.drop (r * st1 + c)).take n) _ e1 hul (fun j u hj => ?_) hv ⟨by simp only [List.size_toArray, hul, hlen], fun k y hy => ?_⟩ (fun y hy => ?_)
          · rw [add_lit, cell_lit k1]
            rw [List.getElem?_take] at hj
            split at hj
            · rw [List.getElem?_drop] at hj; simpa [Nat.add_assoc] using hj
            · cases hj
          · obtain ⟨u, hu1, hu2⟩ := hne k y hy
            have hk : k < n := by have := (List.getElem?_eq_some_iff.1 hy).1; omega
            refine ⟨u, ?_, ?_⟩
            · simp only [List.getElem?_toArray, List.getElem?_take, if_pos hk, List.getElem?_drop]; simpa using hu1
            · rcases hu2 with rfl | hu2
              · trivial
              · exact hu2
          · have := List.mem_of_mem_drop (List.mem_of_mem_take hy)
            obtain ⟨k, hk⟩ := List.getElem?_of_mem this
            rw [ownRow_get] at hk
            simp only [Option.map_eq_some_iff] at hk
            obtain ⟨z, _, rfl⟩ := hk
            exact ownC_wf hi
        · cases hv
      · cases hv
    · cases hv
  case rp vs =>
    split at hv
    · rename_i hn
      obtain ⟨ad, e1, k1⟩ := h1
      -- the cells that are there
      have hget : ∀ k, k < n → ∃ u, w.cell? (ad.add k) = some u ∧ ∀ x, vs[k]? = some x → RpC S w x u := fun k hk => by
        have hk2 : k < vs.length := by omega
        obtain ⟨_, u, z1, z2⟩ := k1 k vs[k] (List.getElem?_eq_getElem hk2)
        exact ⟨u, z1, fun x hx => by rw [List.getElem?_eq_getElem hk2] at hx; cases hx; exact z2⟩
      have hus : ∀ k : Nat, k ≤ n → ∃ us : List Value, us.length = k ∧ ∀ j, j < k → ∃ u, us[j]? = some u ∧ w.cell? (ad.add j) = some u ∧ ∀ x, vs[j]? = some x → RpC S w x u := by
        intro k
        induction k with
        | zero => intro _; exact ⟨[], rfl, fun j hj => by omega⟩
        | succ k ih =>
          intro hk
          obtain ⟨us, l1, l2⟩ := ih (by omega)
          obtain ⟨u, z1, z2⟩ := hget k (by omega)
          refine ⟨us ++ [u], by simp [l1], fun j hj => ?_⟩
          by_cases hjk : j < k
          · obtain ⟨u', y1, y2⟩ := l2 j hjk
            exact ⟨u', by rw [List.getElem?_append_left (by omega)]; exact y1, y2⟩
          · have : j = k := by omega
            subst this
            exact ⟨u, by rw [List.getElem?_append_right (by omega), l1]; simp, z1, z2⟩
      obtain ⟨us, l1, l2⟩ := hus n (Nat.le_refl _)
      refine key ad us (vs.take n) e1 l1 (fun j u hj => ?_) hv ⟨by simp; omega, fun k x hk => ?_⟩ (fun x hxm => ?_)
      · have hjn : j < n := by have := (List.getElem?_eq_some_iff.1 hj).1; omega
        obtain ⟨u', y1, y2, _⟩ := l2 j hjn
        rw [y1] at hj; cases hj; exact y2
      · rw [List.getElem?_take] at hk
        split at hk
        · rename_i hkn
          obtain ⟨u, y1, y2, y3⟩ := l2 k hkn
          refine ⟨u, by simpa using y1, ?_⟩
          have := y3 x hk
          cases x <;> first | exact this | exact this.elim | trivial
        · cases hk
      · have hm' := List.mem_of_mem_take hxm
        obtain ⟨k, hk⟩ := List.getElem?_of_mem hm'
        obtain ⟨_, u, _, z2⟩ := k1 k x hk
        cases x <;> first | trivial | exact z2.elim
    · cases hv

theorem do_nc (h : SR ov S N G st a w) {x : Opd} {x' : Operand} {o : Oper} (hx : fO x x' = true) (ho : o.op = .nilCheck x') {v : LV} (hv : opd st.s x = v)
    (hp : (∃ i off, v = .bp i off ∧ ∃ c, st.m i = some (.box c)) ∨ (∃ i ch r c, v = .ep i ch r c ∧ look st.m i ch ≠ none) ∨ (∃ vs, v = .rp vs) ∨ ∃ f vs, v = .cl f vs) : Does P o a w (Next S N G st w v st.m) := by
  obtain ⟨h1, h2⟩ := h.opd hx
  rw [hv] at h1 h2
  refine Does.same h (v' := a.eval x') ?_ h1 h2
  rcases hp with ⟨i, off, rfl, c, hc⟩ | ⟨i, ch, r, c, rfl, hl⟩ | ⟨vs, rfl⟩ | ⟨f, vs, rfl⟩
  · simp only [R, R1, R0] at h1; rw [hc] at h1
    simp [execOp, ho, h1]
  · cases hk : look st.m i ch with
    | none => exact absurd hk hl
    | some q =>
      simp only [R, R1, R0] at h1; rw [hk] at h1
      simp [execOp, ho, h1]
  · obtain ⟨ad, e, _⟩ := h1
    simp [execOp, ho, e]
  · obtain ⟨cs, e, _⟩ := h1
    simp [execOp, ho, e]
end
end Go.Proofs.YthnkioafikmmaaaDoor.Ev

namespace Go.Proofs.YthnkioafikmmaaaDoor.Ev
open Go
set_option linter.unusedVariables false
set_option linter.unusedSimpArgs false

/-- where a field lies -/
def fieldT (P : Program) (t : TypeId) (f : Nat) : Option (Nat × Nat × Bool) :=
  match P.underlying t with
  | some (.struct fs) =>
    match fs[f]? with
    | some x => match sizeT P x.type, aggT P x.type with | some n, some b => some (x.offset, n, b) | _, _ => none
    | none => none
  | _ => none

section
variable {P : Program} {ov : Ov} {S N : Nat → Prop} {G : Gh} {m : Mem} {st : St} {a : Act} {w : World}

theorem fieldT_inv {t : TypeId} {f off n : Nat} {b : Bool} (h : fieldT P t f = some (off, n, b)) : ∃ fs x, P.underlying t = some (.struct fs) ∧ fs[f]? = some x ∧ x.offset = off ∧ sizeT P x.type = some n ∧ aggT P x.type = some b := by
  unfold fieldT at h
  split at h
  · rename_i fs hu
    split at h
    · rename_i x hx
      split at h
      · rename_i n' b' h1 h2
        cases h
        exact ⟨fs, x, hu, hx, rfl, h1, h2⟩
      · cases h
    · cases h
  · cases h

theorem run_fieldAt {t : TypeId} {f off n : Nat} {b : Bool} (h : fieldT P t f = some (off, n, b)) (hn : n ≠ 0) (ad : Addr) : (Instr.fieldAt t (.pointer (some ad)) f).run P w = .ok (.pointer (some (ad.add off))) w := by
  obtain ⟨fs, x, h1, h2, h3, h4, _⟩ := fieldT_inv h
  simp [Instr.fieldAt, run_underlying h1, h2, Instr.sureAddr, fieldPlace, sizeT_run h4, hn, h3]

theorem do_fa (h : SR ov S N G st a w) {x : Opd} {x' : Operand} {t : TypeId} {f off n : Nat} {b : Bool} {o : Oper} (hx : fO x x' = true) (ho : o.op = .fieldAddr t x' f)
    (hf : fieldT P t f = some (off, n, b)) (hn : n ≠ 0) {v : LV}
    (hv : (∃ i q c, opd st.s x = .bp i q ∧ st.m i = some (.box c) ∧ v = .bp i (q + off)) ∨ (∃ i ch r c, opd st.s x = .ep i ch r c ∧ look st.m i ch ≠ none ∧ v = .ep i ch r (c + off)) ∨
      ∃ vs, opd st.s x = .rp vs ∧ off < vs.length ∧ v = .rp (vs.drop off)) : Does P o a w (Next S N G st w v st.m) := by
  obtain ⟨h1, h2⟩ := h.opd hx
  rcases hv with ⟨i, q, c, e, hc, rfl⟩ | ⟨i, ch, r, c, e, hl, rfl⟩ | ⟨vs, e, hlt, rfl⟩
  · rw [e] at h1 h2
    simp only [R, R1, R0] at h1; rw [hc] at h1
    refine Does.same h (v' := .pointer (some ⟨G.blk i, q + off, none⟩)) ?_ ?_ h2
    · simp [execOp, ho, h1, run_fieldAt hf hn, add_lit]
    · simp only [R, R1, R0, hc]
  · rw [e] at h1 h2
    cases hk : look st.m i ch with
    | none => exact absurd hk hl
    | some z =>
      simp only [R, R1, R0] at h1; rw [hk] at h1
      refine Does.same h (v' := .pointer (some ⟨G.blkOf i ch, r * z.2.1 + (c + off), none⟩)) ?_ ?_ h2
      · simp [execOp, ho, h1, run_fieldAt hf hn, add_lit, Nat.add_assoc]
      · simp only [R, R1, R0, hk]
  · rw [e] at h1 h2
    obtain ⟨ad, e1, k1⟩ := h1
    refine Does.same h (v' := .pointer (some (ad.add off))) (by simp [execOp, ho, e1, run_fieldAt hf hn]) ?_ trivial
    have hs : ad.spot = none := by
      obtain ⟨_, u, z1, _⟩ := k1 0 vs[0] (List.getElem?_eq_getElem (by omega))
      exact spot_of_cell z1
    refine ⟨_, rfl, fun k x hk => ?_⟩
    rw [List.getElem?_drop] at hk
    obtain ⟨z0, u, z1, z2⟩ := k1 _ x hk
    refine ⟨?_, u, by rw [add_add ad hs]; exact z1, z2⟩
    have : (ad.add off).block = ad.block := by unfold Addr.add; split <;> rfl
    rw [this]; exact z0

theorem run_part {t : TypeId} {agg : Bool} {n : Nat} (hg : aggT P t = some agg) (hz : sizeT P t = some n) {cs : Array Value} {off : Nat} {vs : List LV} (hr : RL (R0 G S m w) vs cs) (hn : off + n ≤ vs.length) (hw : ∀ x ∈ vs, wf0 m x)
    {v : LV} (hp : pack agg ((vs.drop off).take n) = some v) : ∃ v', (part t cs off).run P w = .ok v' w ∧ R G S m w v v' ∧ wf m v := by
  obtain ⟨q1, q2⟩ := RL_take hr hn
  obtain ⟨v', h1, h2, h3⟩ := pack_R hp q1 (fun x hx => hw x (List.mem_of_mem_drop (List.mem_of_mem_take hx)))
  refine ⟨v', ?_, h2, h3⟩
  cases agg with
  | true =>
    subst h1
    simp only [part, Sem.run_bind, aggT_run hg, sizeT_run hz, Result.andThen_ok, if_true, Sem.run_pure]
    congr 2
    apply Array.ext'
    simp [List.extract_eq_take_drop]
  | false =>
    have hn1 : n = 1 := by rw [h1] at q2; simpa using q2.symm
    subst hn1
    have h0 : cs[off]? = some v' := by
      have : ((cs.toList.drop off).take 1)[0]? = some v' := by rw [h1]; rfl
      rw [List.getElem?_take] at this
      simpa using this
    simp [part, aggT_run hg, h0]

theorem do_fd (h : SR ov S N G st a w) {x : Opd} {x' : Operand} {t : TypeId} {f off n : Nat} {agg : Bool} {o : Oper} (hx : fO x x' = true) (ho : o.op = .field t x' f)
    (hf : fieldT P t f = some (off, n, agg)) {vs : List LV} {v : LV} (hv : opd st.s x = .ag vs) (hn : off + n ≤ vs.length) (hp : pack agg ((vs.drop off).take n) = some v) :
    Does P o a w (Next S N G st w v st.m) := by
  obtain ⟨h1, h2⟩ := h.opd hx
  rw [hv] at h1 h2
  obtain ⟨cs, e, q⟩ := h1
  obtain ⟨fs, y, k1, k2, k3, k4, k5⟩ := fieldT_inv hf
  subst k3
  obtain ⟨v', g1, g2, g3⟩ := run_part (P := P) k5 k4 q hn h2 hp
  refine Does.same h (v' := v') ?_ g2 g3
  simp [execOp, ho, e, Instr.field, run_underlying k1, k2, asAgg, g1]

theorem do_ia (h : SR ov S N G st a w) {x i : Opd} {x' i' : Operand} {t el : TypeId} {n0 : Nat} {o : Oper} (hx : fO x x' = true) (hi : fO i i' = true) (ho : o.op = .indexAddr t x' i')
    (ht : P.underlying t = some (.slice el)) (hz : sizeT P el = some n0) {k : IntKind} {j : Int} (hj : opd st.s i = .sc (.int k j)) (h0 : 0 ≤ j) {v : LV}
    (hv : (∃ id ch lo n e rows, opd st.s x = .rf id ch lo n ∧ look st.m id ch = some (e, n0, rows) ∧ j < (n : Int) ∧ v = .ep id ch (lo + j.toNat) 0) ∨
      (∃ rows row, opd st.s x = .ro n0 rows ∧ rows[j.toNat]? = some row ∧ v = .rp (row.map roC))) : Does P o a w (Next S N G st w v st.m) := by
  obtain ⟨h1, h2⟩ := h.opd hx
  have r2 := (h.opd hi).1
  rw [hj] at r2
  obtain ⟨e2, -⟩ := r2
  rcases hv with ⟨id, ch, lo, n, e, rows, ex, hl, hlt, rfl⟩ | ⟨rows, row, ex, hr, rfl⟩
  · rw [ex] at h1 h2
    simp only [R, R1, R0] at h1; rw [hl] at h1
    obtain ⟨A, c, e1, hnc, hcap, hA⟩ := h1
    have hA' := hA (by omega)
    subst hA'
    refine Does.same h (v' := .pointer (some ⟨G.blkOf id ch, (lo + j.toNat) * n0 + 0, none⟩)) ?_ ?_ h2
    · have hjn : j < (n : Int) := hlt
      simp [execOp, ho, Instr.indexAt, e1, e2, asIntOf, run_underlying ht, sizeT_run hz, h0, hjn, add_lit, Nat.add_mul]
    · simp only [R, R1, R0, hl]
  · rw [ex] at h1 h2
    obtain ⟨A, c, e1, hc, hrow⟩ := h1
    obtain ⟨g1, ad, rfl, g2, g3⟩ := hrow _ row hr
    have hjn : j < (rows.length : Int) := by have := (List.getElem?_eq_some_iff.1 hr).1; omega
    refine Does.same h (v' := .pointer (some (ad.add (j.toNat * n0)))) ?_ ?_ trivial
    · simp [execOp, ho, Instr.indexAt, e1, e2, asIntOf, run_underlying ht, sizeT_run hz, h0, hjn]
    · refine ⟨_, rfl, fun k' y hk => ?_⟩
      simp only [List.getElem?_map, Option.map_eq_some_iff] at hk
      obtain ⟨z, hz1, rfl⟩ := hk
      obtain ⟨u, hu1, hu2⟩ := g3 k' z hz1
      have hs : ad.spot = none := g2.2
      have hb : (ad.add (j.toNat * n0)).block = ad.block := by unfold Addr.add; split <;> rfl
      exact ⟨by rw [hb]; exact g2.1, u, by rw [add_add ad hs]; exact hu1, roC_R0 hu2⟩
end
end Go.Proofs.YthnkioafikmmaaaDoor.Ev

namespace Go.Proofs.YthnkioafikmmaaaDoor.Ev
open Go
set_option linter.unusedVariables false
set_option linter.unusedSimpArgs false

section
variable {P : Program} {ov : Ov} {S N : Nat → Prop} {G : Gh} {m : Mem} {st : St} {a : Act} {w : World}

theorem do_ix (h : SR ov S N G st a w) {x i : Opd} {x' i' : Operand} {t : TypeId} {o : Oper} (hx : fO x x' = true) (hi : fO i i' = true) (ho : o.op = .index t x' i') (ht : P.underlying t = some .string)
    {b : ByteArray} {k : IntKind} {j : Int} {u : UInt8} (ex : opd st.s x = .sc (.string b)) (ej : opd st.s i = .sc (.int k j)) (h0 : 0 ≤ j) (hu : b.data.toList[j.toNat]? = some u) :
    Does P o a w (Next S N G st w (.sc (.int .u8 u.toNat)) st.m) := by
  have r1 := (h.opd hx).1
  have r2 := (h.opd hi).1
  rw [ex] at r1
  rw [ej] at r2
  have hb : b[j.toNat]? = some u := by
    rw [Array.getElem?_toList] at hu
    obtain ⟨h1, h2⟩ := Array.getElem?_eq_some_iff.1 hu
    exact getElem?_eq_some_iff.2 ⟨h1, h2⟩
  refine Does.same h (v' := .int .u8 u.toNat) ?_ ⟨rfl, rfl⟩ trivial
  simp [execOp, ho, Instr.index, r1.1, r2.1, asIntOf, run_underlying ht, h0, hb]

theorem nat_bound (h : SR ov S N G st a w) {x : Opd} {x' : Operand} (hx : fO x x' = true) {n y : Nat} (hn : natOf (opd st.s x) = some n) (hy : n ≤ y) (c : BoundsCode) :
    (Instr.sliceBound (a.eval x') y c).run P w = .ok n w := by
  have r := (h.opd hx).1
  unfold natOf at hn
  split at hn
  · rename_i j e
    rw [e] at r
    split at hn
    · rename_i h0
      cases hn
      have : j ≤ (y : Int) := by omega
      simp [Instr.sliceBound, r.1, asIntOf, h0, this]
    · cases hn
  · cases hn

def fO? : Option Opd → Option Operand → Bool
  | none, none => true
  | some x, some x' => fO x x'
  | _, _ => false

theorem run_bounds (h : SR ov S N G st a w) {lo hi : Option Opd} {lo' hi' : Option Operand} (hl : fO? lo lo' = true) (hh : fO? hi hi' = true) {b : Bool} {len cap l k : Nat}
    (h1 : natOr st.s 0 lo = some l) (h2 : natOr st.s len hi = some k) (h3 : l ≤ k) (h4 : k ≤ len) (h5 : len ≤ cap) :
    (Instr.sliceBounds b len cap (lo'.map a.eval) (hi'.map a.eval) none).run P w = .ok (l, k, cap) w := by
  unfold Instr.sliceBounds
  have e2 : ∀ c, (match hi'.map a.eval with | some v => Instr.sliceBound v cap c | none => pure len : Sem Nat).run P w = .ok k w := by
    intro c
    cases hi with
    | none => cases hi' with
      | none => simp only [natOr] at h2; cases h2; rfl
      | some _ => simp [fO?] at hh
    | some x => cases hi' with
      | none => simp [fO?] at hh
      | some x' => exact nat_bound h hh h2 (by omega) c
  have e1 : ∀ c, (match lo'.map a.eval with | some v => Instr.sliceBound v k c | none => pure 0 : Sem Nat).run P w = .ok l w := by
    intro c
    cases lo with
    | none => cases lo' with
      | none => simp only [natOr] at h1; cases h1; rfl
      | some _ => simp [fO?] at hl
    | some x => cases lo' with
      | none => simp [fO?] at hl
      | some x' => exact nat_bound h hl h1 h3 c
  have e1' := e1 .sliceB
  have e2' := e2 (if b = true then .sliceAcap else .sliceAlen)
  cases hq : hi'.map a.eval <;> cases hp : lo'.map a.eval <;> rw [hq] at e2' <;> rw [hp] at e1' <;> simp_all

theorem do_sls (h : SR ov S N G st a w) {x : Opd} {x' : Operand} {lo hi : Option Opd} {lo' hi' : Option Operand} {t : TypeId} {o : Oper} (hx : fO x x' = true) (hl : fO? lo lo' = true) (hh : fO? hi hi' = true)
    (ho : o.op = .slice t x' lo' hi' none) (ht : P.underlying t = some .string) {b : ByteArray} {l k : Nat} (ex : opd st.s x = .sc (.string b))
    (h1 : natOr st.s 0 lo = some l) (h2 : natOr st.s b.size hi = some k) (h3 : l ≤ k) (h4 : k ≤ b.size) : Does P o a w (Next S N G st w (.sc (.string (b.extract l k))) st.m) := by
  have r1 := (h.opd hx).1
  rw [ex] at r1
  refine Does.same h (v' := .string (b.extract l k)) ?_ ⟨rfl, rfl⟩ trivial
  have q := run_bounds (P := P) h hl hh (b := false) (len := b.size) (cap := b.size) h1 h2 h3 h4 (Nat.le_refl _)
  simp [execOp, ho, Instr.sliceAt, Instr.slice, r1.1, run_underlying ht, q]

theorem do_sl (h : SR ov S N G st a w) {x : Opd} {x' : Operand} {lo hi : Option Opd} {lo' hi' : Option Operand} {t el : TypeId} {n0 : Nat} {o : Oper} (hx : fO x x' = true) (hl : fO? lo lo' = true) (hh : fO? hi hi' = true)
    (ho : o.op = .slice t x' lo' hi' none) (ht : P.underlying t = some (.slice el)) (hz : sizeT P el = some n0) {v : LV} {l k : Nat} (h1 : natOr st.s 0 lo = some l) (h3 : l ≤ k)
    (hv : (∃ rows, opd st.s x = .ro n0 rows ∧ natOr st.s rows.length hi = some k ∧ k ≤ rows.length ∧ v = .ro n0 ((rows.take k).drop l)) ∨
      ∃ i ch q n e rows, opd st.s x = .rf i ch q n ∧ look st.m i ch = some (e, n0, rows) ∧ natOr st.s n hi = some k ∧ k ≤ n ∧ v = .rf i ch (q + l) (k - l)) :
    Does P o a w (Next S N G st w v st.m) := by
  obtain ⟨r1, r2⟩ := h.opd hx
  rcases hv with ⟨rows, ex, h2, h4, rfl⟩ | ⟨i, ch, q, n, e, rows, ex, hk, h2, h4, rfl⟩
  · rw [ex] at r1
    obtain ⟨A, c, e1, hc, hrow⟩ := r1
    have qq := run_bounds (P := P) h hl hh (b := true) (len := rows.length) (cap := c) h1 h2 h3 h4 hc
    refine Does.same h (v' := .slice (some (if c = l then A else A.add (l * n0))) (k - l) (c - l)) ?_ ?_ trivial
    · simp [execOp, ho, Instr.sliceAt, Instr.slice, e1, run_underlying ht, qq, sizeT_run hz]
      split <;> rfl
    · have hlen : ((rows.take k).drop l).length = k - l := by simp; omega
      refine ⟨(if c = l then A else A.add (l * n0)), c - l, by rw [hlen], by rw [hlen]; omega, fun r row hr => ?_⟩
      rw [List.getElem?_drop, List.getElem?_take] at hr
      split at hr
      · rename_i hlk
        obtain ⟨g1, ad, rfl, g2, g3⟩ := hrow _ row hr
        have hne : ¬ c = l := by have := (List.getElem?_eq_some_iff.1 hr).1; omega
        refine ⟨g1, ad.add (l * n0), by simp [hne], ⟨?_, ?_⟩, fun k' y hy => ?_⟩
        · have : (ad.add (l * n0)).block = ad.block := by unfold Addr.add; split <;> rfl
          rw [this]; exact g2.1
        · unfold Addr.add; split
          · exact g2.2
          · rfl
        · obtain ⟨u, hu1, hu2⟩ := g3 k' y hy
          refine ⟨u, ?_, hu2⟩
          rw [add_add ad g2.2, ← Nat.add_assoc, ← Nat.add_mul]
          exact hu1
      · cases hr
  · rw [ex] at r1 r2
    simp only [R, R1, R0] at r1; rw [hk] at r1
    obtain ⟨A, c, e1, hnc, hcap, hA⟩ := r1
    have qq := run_bounds (P := P) h hl hh (b := true) (len := n) (cap := c) h1 h2 h3 h4 hnc
    refine Does.same h (v' := .slice (some (if c = l then A else A.add (l * n0))) (k - l) (c - l)) ?_ ?_ r2
    · simp [execOp, ho, Instr.sliceAt, Instr.slice, e1, run_underlying ht, qq, sizeT_run hz]
      split <;> rfl
    · simp only [R, R1, R0]; rw [hk]
      refine ⟨_, _, rfl, by omega, by omega, fun hpos => ?_⟩
      by_cases hne : c = l
      · have hql : q = 0 ∧ l = 0 := by omega
        rw [if_pos hne, hA (.inr hql.1), hql.1, hql.2]
      · rw [if_neg hne, hA (by omega)]
        simp [add_lit, Nat.add_mul]

theorem do_s3 (h : SR ov S N G st a w) {x hi mx : Opd} {x' hi' mx' : Operand} {lo : Option Opd} {lo' : Option Operand} {t el : TypeId} {n0 : Nat} {o : Oper} (hx : fO x x' = true) (hl : fO? lo lo' = true) (hh : fO hi hi' = true) (hm : fO mx mx' = true)
    (ho : o.op = .slice t x' lo' (some hi') (some mx')) (ht : P.underlying t = some (.slice el)) (hz : sizeT P el = some n0) {v : LV} (hv : s3V st.m st.s (opd st.s x) lo (opd st.s hi) (opd st.s mx) = some v) :
    Does P o a w (Next S N G st w v st.m) := by
  obtain ⟨r1, r2⟩ := h.opd hx
  unfold s3V at hv
  split at hv
  case h_2 => cases hv
  rename_i n l k q e1 e2 e3 e4
  split at hv
  case isFalse => cases hv
  rename_i hc
  obtain ⟨c1, c2, c3⟩ := hc
  cases hv
  obtain ⟨A, c, ev, hnc⟩ : ∃ A c, a.eval x' = .slice A n c ∧ n ≤ c := by
    generalize opd st.s x = X at *
    cases X <;> simp only [lenV] at e1 <;> try (cases e1; done)
    case nl => cases e1; exact ⟨none, 0, r1, Nat.le_refl _⟩
    case ro st0 rows => cases e1; obtain ⟨A, c, r1, r3, _⟩ := r1; exact ⟨some A, c, r1, r3⟩
    case rf i ch lo0 n1 =>
      simp only [R, R1, R0] at r1
      cases hk : look st.m i ch with
      | none => rw [hk] at e1; cases e1
      | some p =>
        rw [hk] at e1 r1
        cases e1
        obtain ⟨A, c, r1, r3, _⟩ := r1
        exact ⟨some A, c, r1, r3⟩
  have b1 : ∀ cd, (Instr.sliceBound (a.eval mx') c cd).run P w = .ok q w := fun cd => nat_bound h hm e4 (by omega) cd
  have b2 : ∀ cd, (Instr.sliceBound (a.eval hi') q cd).run P w = .ok k w := fun cd => nat_bound h hh e3 c2 cd
  have b3 : ∀ cd, (match lo'.map a.eval with | some v => Instr.sliceBound v k cd | none => pure 0 : Sem Nat).run P w = .ok l w := by
    intro cd
    cases lo with
    | none => cases lo' with
      | none => simp only [natOr] at e2; cases e2; rfl
      | some _ => simp [fO?] at hl
    | some x => cases lo' with
      | none => simp [fO?] at hl
      | some x' => exact nat_bound h hl e2 c1 cd
  have qq : (Instr.sliceBounds true n c (lo'.map a.eval) (some (a.eval hi')) (some (a.eval mx'))).run P w = .ok (l, k, q) w := by
    unfold Instr.sliceBounds
    have b3' := b3 .slice3C
    cases hp : lo'.map a.eval <;> rw [hp] at b3' <;> simp_all
  refine Does.same h (v' := .slice (if q = l then A else A.map (·.add (l * n0))) (k - l) (q - l)) ?_ ?_ ?_
  · simp [execOp, ho, Instr.sliceAt, Instr.slice, ev, run_underlying ht, qq, sizeT_run hz]
  · trivial
  · trivial

theorem do_isn (h : SR ov S N G st a w) {x y : Opd} {x' y' : Operand} {neg : Bool} {t t2 e : TypeId} {o : Oper} (hx : fO x x' = true) (hy : fO y y' = true) (ey : y = .k .nl) (ho : o.op = .binOp (if neg = true then .neq else .eql) t x' y' t2)
    (ht : P.underlying t = some (.slice e)) {v : LV} (hv : isnV st.m neg (opd st.s x) = some v) : Does P o a w (Next S N G st w v st.m) := by
  obtain ⟨r1, r2⟩ := h.opd hx
  have r3 := (h.opd hy).1
  subst ey
  simp only [opd, R, R1, R0] at r3
  unfold isnV at hv
  cases hn : nilV st.m (opd st.s x) with
  | none => rw [hn] at hv; cases hv
  | some b =>
    rw [hn] at hv
    cases hv
    obtain ⟨A, n, c, ev, hb⟩ : ∃ A n c, a.eval x' = .slice A n c ∧ b = A.isNone := by
      generalize opd st.s x = X at *
      cases X <;> simp only [nilV] at hn <;> try (cases hn; done)
      case nl => cases hn; exact ⟨none, 0, 0, r1, rfl⟩
      case ro st0 rows => cases hn; obtain ⟨A, c, r1, _⟩ := r1; exact ⟨some A, _, c, r1, rfl⟩
      case rf i ch lo0 n1 =>
        simp only [R, R1, R0] at r1
        cases hk : look st.m i ch with
        | none => rw [hk] at hn; cases hn
        | some p =>
          rw [hk] at hn r1
          cases hn
          obtain ⟨A, c, r1, _⟩ := r1
          exact ⟨some A, _, c, r1, rfl⟩
    subst hb
    have run0 : ∀ d, (Op.equalIn (d + 1) t (.slice A n c) (.slice none 0 0)).run P w = .ok A.isNone w := by
      intro d
      cases A <;> simp [Op.equalIn, run_underlying ht]
    have run := run0 9999
    simp only [Nat.reduceAdd] at run
    refine Does.same h (v' := .bool (if neg = true then !A.isNone else A.isNone)) ?_ ⟨rfl, rfl⟩ trivial
    cases neg
    · simp only [Bool.false_eq_true, if_false] at ho ⊢
      simp [execOp, ho, ev, r3, eqGuard, binOp, Op.equal, Op.maxDepth, run]
    · simp only [if_true] at ho ⊢
      simp [execOp, ho, ev, r3, eqGuard, binOp, Op.equal, Op.maxDepth, run]

theorem plain_R0 {v : LV} {u : Value} (hp : plainB v = true) (h : R G S m w v u) : R0 G S m w v u := by
  cases v <;> first | exact h | cases hp
theorem plain_wf {v : LV} (hp : plainB v = true) (h : wf m v) : wf0 m v := by
  cases v <;> first | exact h | cases hp

def fOs : List Opd → List Operand → Bool
  | [], [] => true
  | x :: xs, x' :: xs' => fO x x' && fOs xs xs'
  | _, _ => false
theorem fOs_get {xs : List Opd} {xs' : List Operand} (h : fOs xs xs' = true) : xs.length = xs'.length ∧ ∀ (k : Nat) (x : Opd), xs[k]? = some x → ∃ x', xs'[k]? = some x' ∧ fO x x' = true := by
  induction xs generalizing xs' with
  | nil => cases xs' with
    | nil => exact ⟨rfl, fun k x hk => by simp at hk⟩
    | cons _ _ => simp [fOs] at h
  | cons y ys ih => cases xs' with
    | nil => simp [fOs] at h
    | cons z zs =>
      simp only [fOs, Bool.and_eq_true] at h
      obtain ⟨i1, i2⟩ := ih h.2
      refine ⟨by simp [i1], fun k x hk => ?_⟩
      cases k with
      | zero => simp at hk; subst hk; exact ⟨z, by simp, h.1⟩
      | succ k => simpa using i2 k x (by simpa using hk)

theorem do_mf (h : SR ov S N G st a w) {xs : List Opd} {xs' : Array Operand} {f : Nat} {o : Oper} (hx : fOs xs xs'.toList = true) (ho : o.op = .makeFunc (.func f) #[] xs')
    (hp : (xs.map (opd st.s)).all plainB = true) : Does P o a w (Next S N G st w (.cl f (xs.map (opd st.s))) st.m) := by
  obtain ⟨l1, l2⟩ := fOs_get hx
  have hall : ∀ (k : Nat) (v : LV), (xs.map (opd st.s))[k]? = some v → ∃ x x', xs[k]? = some x ∧ v = opd st.s x ∧ xs'.toList[k]? = some x' ∧ fO x x' = true ∧ plainB v = true := by
    intro k v hk
    have hpl := List.all_eq_true.1 hp v (List.mem_of_getElem? hk)
    simp only [List.getElem?_map, Option.map_eq_some_iff] at hk
    obtain ⟨x, hx1, rfl⟩ := hk
    obtain ⟨x', y1, y2⟩ := l2 k x hx1
    exact ⟨x, x', hx1, rfl, y1, y2, hpl⟩
  refine Does.same h (v' := .func (.func f) #[] (xs'.map a.eval)) (by simp [execOp, ho, Instr.makeFunc]) ⟨_, rfl, by simp [l1], fun k v hk => ?_⟩ (fun v hv => ?_)
  · obtain ⟨x, x', h1, rfl, h3, h4, h5⟩ := hall k v hk
    refine ⟨a.eval x', ?_, plain_R0 h5 (h.opd h4).1⟩
    rw [Array.getElem?_toList] at h3
    simp [h3]
  · obtain ⟨k, hk⟩ := List.getElem?_of_mem hv
    obtain ⟨x, x', h1, rfl, h3, h4, h5⟩ := hall k v hk
    exact plain_wf h5 (h.opd h4).2

theorem R0_one {v : LV} {V : Value} (h : R0 G S m w v V) (hn : v ≠ .un) : oneV V := by
  cases v <;> first | exact absurd rfl hn | exact h.elim | skip
  case sc u => obtain ⟨rfl, hs⟩ := h; cases V <;> first | rfl | cases hs
  case nl => cases h; rfl
  case ro n rows => obtain ⟨_, _, rfl, _⟩ := h; rfl
  case rf i ch lo n =>
    simp only [R0] at h
    split at h
    · obtain ⟨_, _, rfl, _⟩ := h; rfl
    · exact h
  case bp i off =>
    simp only [R0] at h
    split at h
    · subst h; rfl
    · exact h
  case ep i ch r c =>
    simp only [R0] at h
    split at h
    · subst h; rfl
    · exact h
  case rp vs => obtain ⟨_, rfl, _⟩ := h; rfl

theorem unpack_R {v : LV} {V : Value} {vs : List LV} (hu : unpack v = some vs) (h : R G S m w v V) (hw : wf m v) : RL (R0 G S m w) vs V.cells ∧ ∀ x ∈ vs, wf0 m x := by
  have one : ∀ x : LV, x ≠ .un → R0 G S m w x V → wf0 m x → RL (R0 G S m w) [x] V.cells ∧ ∀ y ∈ [x], wf0 m y := by
    intro x hne hx hwx
    have e : V.cells = #[V] := (R0_one hx hne).cells
    refine ⟨⟨by simp [e], fun k y hk => ?_⟩, fun y hy => by simp at hy; subst hy; exact hwx⟩
    cases k with
    | zero => simp at hk; subst hk; exact ⟨V, by simp [e], hx⟩
    | succ k => simp at hk
  cases v <;> simp only [unpack] at hu <;> cases hu
  case ag =>
    obtain ⟨cs, rfl, q⟩ := h
    exact ⟨q, hw⟩
  all_goals exact one _ (by simp) h hw
end
end Go.Proofs.YthnkioafikmmaaaDoor.Ev

namespace Go.Proofs.YthnkioafikmmaaaDoor.Ev
open Go
set_option linter.unusedVariables false
set_option linter.unusedSimpArgs false

section
variable {P : Program} {ov : Ov} {S N : Nat → Prop} {G : Gh} {m : Mem} {st : St} {a : Act} {w : World}

theorem foldl_set (cells : Array Value) (off : Nat) : ∀ (l : List Value) (k0 : Nat), off + k0 + l.length ≤ cells.size → ∀ cs : Array Value, cs.size = cells.size →
    ((l.zipIdx k0).foldl (fun cs (c, j) => cs.setIfInBounds (off + j) c) cs).size = cells.size ∧
    ∀ q : Nat, ((l.zipIdx k0).foldl (fun cs (c, j) => cs.setIfInBounds (off + j) c) cs)[q]? = if off + k0 ≤ q ∧ q < off + k0 + l.length then l[q - (off + k0)]? else cs[q]? := by
  intro l
  induction l with
  | nil => intro k0 _ cs hcs; exact ⟨by simpa using hcs, fun q => by simp; omega⟩
  | cons x xs ih =>
    intro k0 hk cs hcs
    simp only [List.length_cons] at hk
    obtain ⟨h1, h2⟩ := ih (k0 + 1) (by omega) (cs.setIfInBounds (off + k0) x) (by simpa using hcs)
    refine ⟨by simpa using h1, fun q => ?_⟩
    simp only [List.zipIdx_cons, List.foldl_cons, List.length_cons]
    rw [h2 q]
    by_cases hq : q = off + k0
    · subst hq
      rw [if_neg (by omega), if_pos (by omega)]
      simp [Array.getElem?_setIfInBounds, hcs]; omega
    · by_cases hq2 : off + (k0 + 1) ≤ q ∧ q < off + (k0 + 1) + xs.length
      · rw [if_pos hq2, if_pos (by omega)]
        rw [show q - (off + k0) = (q - (off + (k0 + 1))) + 1 from by omega, List.getElem?_cons_succ]
      · rw [if_neg hq2, if_neg (by omega), Array.getElem?_setIfInBounds_ne (by omega)]

theorem fold_put {R : LV → Value → Prop} {cells vs : List LV} {cs vc : Array Value} (h1 : RL R cells cs) (h2 : RL R vs vc) {off : Nat} {out : List LV} (hp : putL cells off vs = some out) :
    off + vc.size ≤ cs.size ∧ RL R out (vc.zipIdx.foldl (fun cs (c, j) => cs.setIfInBounds (off + j) c) cs) ∧ out.length = cells.length := by
  unfold putL at hp
  split at hp
  · rename_i hle
    cases hp
    have e1 : cs.size = cells.length := h1.1
    have e2 : vc.size = vs.length := h2.1
    obtain ⟨g1, g2⟩ := foldl_set cs off vc.toList 0 (by simp; omega) cs rfl
    have ef : vc.zipIdx.foldl (fun cs (c, j) => cs.setIfInBounds (off + j) c) cs = (vc.toList.zipIdx 0).foldl (fun cs (c, j) => cs.setIfInBounds (off + j) c) cs := by
      rw [← Array.foldl_toList, Array.toList_zipIdx]
    rw [ef]
    refine ⟨by omega, ⟨by rw [g1, e1]; simp; omega, fun k x hk => ?_⟩, by simp; omega⟩
    rw [g2 k]
    simp only [Nat.add_zero, Array.length_toList]
    by_cases hk1 : k < off
    · rw [if_neg (by omega)]
      rw [List.append_assoc, List.getElem?_append_left (by simp; omega), List.getElem?_take, if_pos hk1] at hk
      exact h1.2 k x hk
    · by_cases hk2 : k < off + vs.length
      · rw [if_pos (by omega)]
        rw [List.append_assoc, List.getElem?_append_right (by simp; omega), List.getElem?_append_left (by simp; omega)] at hk
        have el : (cells.take off).length = off := by simp; omega
        rw [el] at hk
        obtain ⟨u, hu, hx⟩ := h2.2 (k - off) x hk
        exact ⟨u, by simpa using hu, hx⟩
      · rw [if_neg (by omega)]
        have el : (cells.take off ++ vs).length = off + vs.length := by simp; omega
        rw [List.getElem?_append_right (by omega), el, List.getElem?_drop] at hk
        rw [show off + vs.length + (k - (off + vs.length)) = k from by omega] at hk
        exact h1.2 k x hk
  · cases hp

/-- a list of cells that stand for zero values -/
def fZ : List LV → List Value → Bool
  | [], [] => true
  | x :: xs, v :: vs => fK x v && fZ xs vs
  | _, _ => false
theorem fK_R0 {x : LV} {v : Value} (h : fK x v = true) : R0 G S m w x v ∧ wf0 m x ∧ plainB x = true := by
  cases x with
  | sc u => exact ⟨vEq_eq (by simpa [fK] using h), trivial, rfl⟩
  | nl =>
    have : v = .slice none 0 0 := by simp only [fK] at h; split at h <;> simp_all
    exact ⟨this, trivial, rfl⟩
  | _ => simp [fK] at h
theorem fZ_RL : ∀ {z : List LV} {cs : List Value}, fZ z cs = true → RL (R0 G S m w) z cs.toArray ∧ ∀ x ∈ z, wf0 m x ∧ plainB x = true := by
  intro z
  induction z with
  | nil => intro cs h; cases cs with
    | nil => exact ⟨⟨rfl, fun k x hk => by simp at hk⟩, fun x hx => by simp at hx⟩
    | cons _ _ => simp [fZ] at h
  | cons x xs ih => intro cs h; cases cs with
    | nil => simp [fZ] at h
    | cons v vs =>
      simp only [fZ, Bool.and_eq_true] at h
      obtain ⟨i1, i2⟩ := ih h.2
      obtain ⟨k1, k2, k3⟩ := fK_R0 (G := G) (S := S) (m := m) (w := w) h.1
      refine ⟨⟨by simp [← i1.1], fun k y hk => ?_⟩, fun y hy => ?_⟩
      · cases k with
        | zero => simp at hk; subst hk; exact ⟨v, by simp, k1⟩
        | succ k => obtain ⟨u, hu, hx⟩ := i1.2 k y (by simpa using hk); exact ⟨u, by simpa using hu, hx⟩
      · simp at hy; rcases hy with rfl | hy
        · exact ⟨k2, k3⟩
        · exact i2 y hy
def zeroT (P : Program) (t : TypeId) : Option (List Value) := (P.info? t).bind fun i => i.zero.map fun z => z.cells.toList
theorem zeroT_run {t : TypeId} {z : List Value} (h : zeroT P t = some z) : ∃ v, (zeroValue t).run P w = .ok v w ∧ v.cells = z.toArray := by
  unfold zeroT at h
  cases hi : P.info? t with
  | none => rw [hi] at h; simp at h
  | some i =>
    simp only [hi, Option.bind_some] at h
    cases hz : i.zero with
    | none => simp [hz] at h
    | some v => simp only [hz, Option.map_some, Option.some.injEq] at h; exact ⟨v, by simp [zeroValue, typeInfo, hi, hz], by rw [← h]⟩

/-- the places of a struct's or an array's parts -/
def placeT (P : Program) (t : TypeId) (i : Nat) : Option (Nat × Nat) :=
  match P.underlying t with
  | some (.struct fs) => (fs.toList.mapM (fun f => (P.info? f.type).map fun i => (f.offset, i.size))).bind (·[i]?)
  | some (.array _ e) => (sizeT P e).map fun n => (i * n, n)
  | _ => none
def fParts (P : Program) (t : TypeId) : List (Nat × Nat × Opd) → List (Nat × Operand) → Bool
  | [], [] => true
  | (off, n, x) :: l, (i, x') :: l' => (placeT P t i == some (off, n)) && fO x x' && fParts P t l l'
  | _, _ => false

theorem run_fill (h : SR ov S N G st a w) {t : TypeId} {place : Nat → Option (Nat × Nat)} (hplace : ∀ i q, placeT P t i = some q → place i = some q) : ∀ {ps : List (Nat × Nat × Opd)} {ps' : List (Nat × Operand)} {cells out : List LV} {cs : Array Value},
    fParts P t ps ps' = true → fillL st.s cells ps = some out → RL (R0 G S st.m w) cells cs → (∀ x ∈ cells, wf0 st.m x) →
    ∃ cs', Instr.fill place cs (ps'.map fun (i, x) => (i, a.eval x)) = some cs' ∧ RL (R0 G S st.m w) out cs' ∧ ∀ x ∈ out, wf0 st.m x := by
  intro ps
  induction ps with
  | nil =>
    intro ps' cells out cs hf hv hr hw
    cases ps' with
    | nil => cases hv; exact ⟨cs, rfl, hr, hw⟩
    | cons _ _ => simp [fParts] at hf
  | cons p ps ih =>
    intro ps' cells out cs hf hv hr hw
    obtain ⟨off, n, x⟩ := p
    cases ps' with
    | nil => simp [fParts] at hf
    | cons p' ps' =>
      obtain ⟨i, x'⟩ := p'
      simp only [fParts, Bool.and_eq_true, beq_iff_eq] at hf
      obtain ⟨⟨f1, f2⟩, f3⟩ := hf
      obtain ⟨r1, r2⟩ := h.opd f2
      simp only [fillL] at hv
      cases hu : unpack (opd st.s x) with
      | none => rw [hu] at hv; cases hv
      | some vs =>
        rw [hu] at hv
        simp only [] at hv
        split at hv
        · rename_i hl
          cases hp : putL cells off vs with
          | none => rw [hp] at hv; cases hv
          | some c =>
            rw [hp] at hv
            simp only [] at hv
            obtain ⟨q1, q2⟩ := unpack_R hu r1 r2
            obtain ⟨g1, g2, g3⟩ := fold_put hr q1 hp
            have hwc : ∀ y ∈ c, wf0 st.m y := by
              unfold putL at hp
              split at hp
              · cases hp
                intro y hy
                simp only [List.mem_append] at hy
                rcases hy with (hy | hy) | hy
                · exact hw y (List.mem_of_mem_take hy)
                · exact q2 y hy
                · exact hw y (List.mem_of_mem_drop hy)
              · cases hp
            obtain ⟨cs', k1, k2, k3⟩ := ih f3 hv g2 hwc
            refine ⟨cs', ?_, k2, k3⟩
            simp only [List.map_cons, Instr.fill, hplace i _ f1]
            have hsz : (a.eval x').cells.size = n := by rw [q1.1]; exact hl
            rw [if_neg (by simp [hsz]; omega)]
            exact k1
        · cases hv

theorem do_bd (h : SR ov S N G st a w) {t : TypeId} {z : List LV} {zv : List Value} {ps : List (Nat × Nat × Opd)} {ps' : Array (Nat × Operand)} {o : Oper} (ho : o.op = .build t ps')
    (hz : zeroT P t = some zv) (hzz : fZ z zv = true) (hf : fParts P t ps ps'.toList = true) (ht : (∃ fs places, P.underlying t = some (.struct fs) ∧ fs.toList.mapM (fun f => (P.info? f.type).map fun i => (f.offset, i.size)) = some places) ∨ ∃ n e s, P.underlying t = some (.array n e) ∧ sizeT P e = some s)
    {out : List LV} (hv : fillL st.s z ps = some out) : Does P o a w (Next S N G st w (.ag out) st.m) := by
  obtain ⟨v0, e1, e2⟩ := zeroT_run (P := P) (w := w) hz
  obtain ⟨z1, z2⟩ := fZ_RL (G := G) (S := S) (m := st.m) (w := w) hzz
  have hw0 : ∀ x ∈ z, wf0 st.m x := fun x hx => (z2 x hx).1
  have hmap : (ps'.map fun (i, x) => (i, a.eval x)).toList = ps'.toList.map fun (i, x) => (i, a.eval x) := by simp
  rcases ht with ⟨fs, places, hu, hall⟩ | ⟨n, e, s, hu, hs⟩
  · have hq := run_places (P := P) w fs.toList places hall
    obtain ⟨cs', k1, k2, k3⟩ := run_fill (P := P) h (t := t) (place := (places.toArray[·]?)) (fun i q hq => by
      simp only [placeT, hu, hall, Option.bind_some] at hq
      simpa using hq) hf hv z1 hw0
    refine Does.same h (v' := .agg cs') ?_ ⟨_, rfl, k2⟩ k3
    simp only [execOp, ho, Instr.build, Sem.run_bind, e1, Result.andThen_ok, run_underlying hu, e2, Array.mapM_eq_mapM_toList]
    have k1' : Instr.fill (fun x => places[x]?) zv.toArray (List.map (fun x => (x.fst, a.eval x.snd)) ps'.toList) = some cs' := by simpa using k1
    simp [hq, k1']
  · obtain ⟨cs', k1, k2, k3⟩ := run_fill (P := P) h (t := t) (place := fun i => some (i * s, s)) (fun i q hq => by
      simp only [placeT, hu, hs] at hq; exact hq) hf hv z1 hw0
    refine Does.same h (v' := .agg cs') ?_ ⟨_, rfl, k2⟩ k3
    simp only [execOp, ho, Instr.build, Sem.run_bind, e1, Result.andThen_ok, run_underlying hu, e2, sizeT_run hs, hmap, k1, Sem.run_pure]

/-! ### comparisons of structs and arrays -/
/-- a scalar's type -/
def scT (P : Program) (t : TypeId) : Bool := match P.underlying t with | some .bool | some (.int _) | some .string => true | _ => false

theorem run_eqV {d : Nat} {t : TypeId} {x y : LV} {u v : Value} {b : Bool} (h : eqV x y = some b) (hx : R0 G S m w x u) (hy : R0 G S m w y v) (ht : scT P t = true)
    (hk : (∀ c, u = .bool c → P.underlying t = some .bool) ∧ (∀ k n, u = .int k n → ∃ k', P.underlying t = some (.int k')) ∧ ∀ s, u = .string s → P.underlying t = some .string) :
    (Op.equalIn (d + 1) t u v).run P w = .ok b w := by
  cases x <;> cases y <;> simp only [eqV] at h <;> try cases h
  case sc.sc p q =>
    obtain ⟨rfl, _⟩ := hx
    obtain ⟨rfl, _⟩ := hy
    cases u <;> cases v <;> simp only [eqV] at h <;> try cases h
    case int.int k n k' n' =>
      split at h
      · rename_i e; subst e; cases h
        obtain ⟨k2, hk2⟩ := hk.2.1 _ _ rfl
        rw [run_equalIn_int w d t _ k2 _ _ hk2, Bool.beq_eq_decide_eq]
      · cases h
    case string.string a' b' => rw [run_equalIn_string w d t _ _ (hk.2.2 _ rfl), toList_beq]
    case bool.bool a' b' => rw [run_equalIn_bool' w d t _ _ (hk.1 _ rfl), Bool.beq_eq_decide_eq]

/-- the fields of a struct, each of one cell and in its place -/
def flatT (P : Program) : Nat → List Field → Bool
  | _, [] => true
  | k, f :: fs => (f.name != "_") && (f.offset == k) && (sizeT P f.type == some 1) && scT P f.type && flatT P (k + 1) fs
/-- do values fit the fields' types? -/
def fitT (P : Program) : List Field → List LV → Bool
  | [], [] => true
  | f :: fs, x :: xs => (match x, P.underlying f.type with | .sc (.bool _), some .bool => true | .sc (.int _ _), some (.int _) => true | .sc (.string _), some .string => true | _, _ => false) && fitT P fs xs
  | _, _ => false

theorem scT_agg {t : TypeId} (h : scT P t = true) : aggT P t = some false := by
  unfold scT at h
  unfold aggT
  cases hu : P.underlying t with
  | none => rw [hu] at h; cases h
  | some d => cases d <;> simp_all

theorem run_eqL {d : Nat} {cx cy : Array Value} : ∀ {fs : List Field} {k : Nat} {xs ys : List LV} {b : Bool}, flatT P k fs = true → fitT P fs xs = true → eqL xs ys = some b →
    (∀ (j : Nat) (x : LV), xs[j]? = some x → ∃ u, cx[k + j]? = some u ∧ R0 G S m w x u) → (∀ (j : Nat) (x : LV), ys[j]? = some x → ∃ u, cy[k + j]? = some u ∧ R0 G S m w x u) →
    (Op.eqFields (d + 1) cx cy fs).run P w = .ok b w := by
  intro fs
  induction fs with
  | nil =>
    intro k xs ys b _ hf he _ _
    cases xs with
    | cons _ _ => simp [fitT] at hf
    | nil => cases ys with
      | nil => cases he; simp [Op.eqFields]
      | cons _ _ => simp [eqL] at he
  | cons f fs ih =>
    intro k xs ys b hfl hf he hx hy
    cases xs with
    | nil => simp [fitT] at hf
    | cons x xs => cases ys with
      | nil => simp [eqL] at he
      | cons y ys =>
        simp only [eqL] at he
        cases h1 : eqV x y with
        | none => rw [h1] at he; cases he
        | some b1 => cases h2 : eqL xs ys with
          | none => rw [h1, h2] at he; cases he
          | some b2 =>
            rw [h1, h2] at he
            cases he
            simp only [flatT, Bool.and_eq_true, bne_iff_ne, beq_iff_eq] at hfl
            obtain ⟨⟨⟨⟨g1, g2⟩, g3⟩, g4⟩, g5⟩ := hfl
            simp only [fitT, Bool.and_eq_true] at hf
            obtain ⟨u, hu, hxu⟩ := hx 0 x (by simp)
            obtain ⟨v, hv, hyv⟩ := hy 0 y (by simp)
            have p1 : (part f.type cx f.offset).run P w = .ok u w := by
              have hu' : cx[k]? = some u := hu
              simp [part, aggT_run (scT_agg g4), g2, hu']
            have p2 : (part f.type cy f.offset).run P w = .ok v w := by
              have hv' : cy[k]? = some v := hv
              simp [part, aggT_run (scT_agg g4), g2, hv']
            have p3 : (Op.equalIn (d + 1) f.type u v).run P w = .ok b1 w := by
              refine run_eqV h1 hxu hyv g4 ?_
              have hf1 := hf.1
              split at hf1 <;> try cases hf1
              all_goals (rename_i hut; obtain ⟨rfl, _⟩ := hxu)
              · exact ⟨fun _ _ => hut, fun _ _ e => by (cases e), fun _ e => by (cases e)⟩
              · exact ⟨fun _ e => by (cases e), fun _ _ _ => ⟨_, hut⟩, fun _ e => by (cases e)⟩
              · exact ⟨fun _ e => by (cases e), fun _ _ e => by (cases e), fun _ _ => hut⟩
            have p4 := ih g5 hf.2 h2 (fun j z hz => by
              obtain ⟨u, h1, h2⟩ := hx (j + 1) z (by simpa using hz)
              exact ⟨u, by rw [← h1]; congr 1; omega, h2⟩) (fun j z hz => by
              obtain ⟨u, h1, h2⟩ := hy (j + 1) z (by simpa using hz)
              exact ⟨u, by rw [← h1]; congr 1; omega, h2⟩)
            simp only [Op.eqFields, if_pos g1, Sem.run_bind, p1, p2, p3, Result.andThen_ok]
            cases b1
            · simp
            · simpa using p4

theorem do_eq (h : SR ov S N G st a w) {neg : Bool} {x y : Opd} {x' y' : Operand} {t t2 : TypeId} {o : Oper} (hx : fO x x' = true) (hy : fO y y' = true) (ho : o.op = .binOp (if neg = true then .neq else .eql) t x' y' t2)
    {fs : Array Field} (hu : P.underlying t = some (.struct fs)) (hp : P.stoodInHeld t = false) (hg : P.eqGuardType P.depth t = false) (hfl : flatT P 0 fs.toList = true)
    {xs ys : List LV} (ex : opd st.s x = .ag xs) (ey : opd st.s y = .ag ys) (hft : fitT P fs.toList xs = true) {b : Bool} (hb : eqL xs ys = some b) :
    Does P o a w (Next S N G st w (.sc (.bool (if neg = true then !b else b))) st.m) := by
  have r1 := (h.opd hx).1
  have r2 := (h.opd hy).1
  rw [ex] at r1
  rw [ey] at r2
  obtain ⟨cx, e1, q1⟩ := r1
  obtain ⟨cy, e2, q2⟩ := r2
  have hfo : P.fieldsOf t = fs := by simp [Program.fieldsOf, hu]
  have run : (Op.equalIn 10000 t (.agg cx) (.agg cy)).run P w = .ok b w := by
    rw [run_equalIn_struct (P := P) w 9999 t cx cy (by rw [hfo]; exact hu) hp, hfo]
    exact run_eqL (G := G) (S := S) (m := st.m) hfl hft hb (fun j z hz => by simpa using q1.2 j z hz) (fun j z hz => by simpa using q2.2 j z hz)
  refine Does.same h (v' := .bool (if neg = true then !b else b)) ?_ ⟨rfl, rfl⟩ trivial
  cases neg
  · simp only [Bool.false_eq_true, if_false] at ho ⊢
    simp only [execOp, ho, Sem.run_bind, e1, e2, run_eqGuard_agg w .eql t x' y' cx cy hg, Result.andThen_ok, run_eql_struct, run, Sem.run_pure]
  · simp only [if_true] at ho ⊢
    simp only [execOp, ho, Sem.run_bind, e1, e2, run_eqGuard_agg w .neq t x' y' cx cy hg, Result.andThen_ok, run_neq_struct, run, Sem.run_pure]
/-- does a value fit a scalar's type? -/
def fit1 (P : Program) (t : TypeId) (x : LV) : Bool := match x, P.underlying t with | .sc (.bool _), some .bool => true | .sc (.int _ _), some (.int _) => true | .sc (.string _), some .string => true | _, _ => false
theorem run_eqI {d : Nat} {e : TypeId} {cx cy : Array Value} (he : scT P e = true) : ∀ {l : List Nat} {xs ys : List LV} {b : Bool}, l.length = xs.length → (xs.all (fit1 P e)) = true → eqL xs ys = some b →
    (∀ (j i : Nat) (x : LV), l[j]? = some i → xs[j]? = some x → ∃ u, cx[i]? = some u ∧ R0 G S m w x u) → (∀ (j i : Nat) (x : LV), l[j]? = some i → ys[j]? = some x → ∃ u, cy[i]? = some u ∧ R0 G S m w x u) →
    (Op.eqItems (d + 1) e 1 cx cy l).run P w = .ok b w := by
  intro l
  induction l with
  | nil =>
    intro xs ys b hl hf hb _ _
    cases xs with
    | cons _ _ => simp at hl
    | nil => cases ys with
      | nil => cases hb; simp [Op.eqItems]
      | cons _ _ => simp [eqL] at hb
  | cons i l ih =>
    intro xs ys b hl hf hb hx hy
    cases xs with
    | nil => simp at hl
    | cons x xs => cases ys with
      | nil => simp [eqL] at hb
      | cons y ys =>
        simp only [eqL] at hb
        cases h1 : eqV x y with
        | none => rw [h1] at hb; cases hb
        | some b1 => cases h2 : eqL xs ys with
          | none => rw [h1, h2] at hb; cases hb
          | some b2 =>
            rw [h1, h2] at hb
            cases hb
            simp only [List.all_cons, Bool.and_eq_true] at hf
            obtain ⟨u, hu, hxu⟩ := hx 0 i x (by simp) (by simp)
            obtain ⟨v, hv, hyv⟩ := hy 0 i y (by simp) (by simp)
            have p1 : (part e cx (i * 1)).run P w = .ok u w := by simp [part, aggT_run (scT_agg he), hu]
            have p2 : (part e cy (i * 1)).run P w = .ok v w := by simp [part, aggT_run (scT_agg he), hv]
            have p3 : (Op.equalIn (d + 1) e u v).run P w = .ok b1 w := by
              refine run_eqV h1 hxu hyv he ?_
              have hf1 := hf.1
              unfold fit1 at hf1
              split at hf1 <;> try cases hf1
              all_goals (rename_i hut; obtain ⟨rfl, _⟩ := hxu)
              · exact ⟨fun _ _ => hut, fun _ _ e => by (cases e), fun _ e => by (cases e)⟩
              · exact ⟨fun _ e => by (cases e), fun _ _ _ => ⟨_, hut⟩, fun _ e => by (cases e)⟩
              · exact ⟨fun _ e => by (cases e), fun _ _ e => by (cases e), fun _ _ => hut⟩
            have p4 := ih (by simpa using hl) hf.2 h2 (fun j i z h3 h4 => hx (j + 1) i z (by simpa using h3) (by simpa using h4)) (fun j i z h3 h4 => hy (j + 1) i z (by simpa using h3) (by simpa using h4))
            simp only [Op.eqItems, Sem.run_bind, p1, p2, p3, Result.andThen_ok]
            cases b1
            · simp
            · simpa using p4

theorem do_eqA (h : SR ov S N G st a w) {neg : Bool} {x y : Opd} {x' y' : Operand} {t t2 e : TypeId} {o : Oper} (hx : fO x x' = true) (hy : fO y y' = true) (ho : o.op = .binOp (if neg = true then .neq else .eql) t x' y' t2)
    {n : Nat} (hu : P.underlying t = some (.array n e)) (hg : P.eqGuardType P.depth t = false) (he : scT P e = true) (hc : P.cellsOf e = 1)
    {xs ys : List LV} (ex : opd st.s x = .ag xs) (ey : opd st.s y = .ag ys) (hl : xs.length = n) (hft : xs.all (fit1 P e) = true) {b : Bool} (hb : eqL xs ys = some b) :
    Does P o a w (Next S N G st w (.sc (.bool (if neg = true then !b else b))) st.m) := by
  have r1 := (h.opd hx).1
  have r2 := (h.opd hy).1
  rw [ex] at r1
  rw [ey] at r2
  obtain ⟨cx, e1, q1⟩ := r1
  obtain ⟨cy, e2, q2⟩ := r2
  have hpe : ∃ i, P.info? e = some i := by
    cases hue : P.underlying e with
    | none => unfold scT at he; rw [hue] at he; cases he
    | some _ => exact info_of_underlying hue
  obtain ⟨inf, hi⟩ := hpe
  have run : (Op.equalIn 10000 t (.agg cx) (.agg cy)).run P w = .ok b w := by
    rw [run_equalIn_array (P := P) w 9999 cx cy hu hi, hc]
    refine run_eqI (G := G) (S := S) (m := st.m) he (by simp [hl]) hft hb (fun j i z h1 h2 => ?_) (fun j i z h1 h2 => ?_)
    · obtain ⟨h3, h4⟩ := List.getElem?_eq_some_iff.1 h1
      simp at h4; subst h4
      exact q1.2 j z h2
    · obtain ⟨h3, h4⟩ := List.getElem?_eq_some_iff.1 h1
      simp at h4; subst h4
      exact q2.2 j z h2
  refine Does.same h (v' := .bool (if neg = true then !b else b)) ?_ ⟨rfl, rfl⟩ trivial
  cases neg
  · simp only [Bool.false_eq_true, if_false] at ho ⊢
    simp only [execOp, ho, Sem.run_bind, e1, e2, run_eqGuard_agg w .eql t x' y' cx cy hg, Result.andThen_ok, run_eql_struct, run, Sem.run_pure]
  · simp only [if_true] at ho ⊢
    simp only [execOp, ho, Sem.run_bind, e1, e2, run_eqGuard_agg w .neq t x' y' cx cy hg, Result.andThen_ok, run_neq_struct, run, Sem.run_pure]
end
end Go.Proofs.YthnkioafikmmaaaDoor.Ev
