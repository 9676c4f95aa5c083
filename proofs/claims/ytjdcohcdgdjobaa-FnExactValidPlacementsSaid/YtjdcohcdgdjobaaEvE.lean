/- The operations that read memory. -/
import Derived.Test.YtjdcohcdgdjobaaEvD
namespace Go.Proofs.Ytjdcohcdgdjobaa.Ev
open Go
set_option linter.unusedVariables false
set_option linter.unusedSimpArgs false

theorem add_add (a : Addr) (h : a.spot = none) (j k : Nat) : (a.add j).add k = a.add (j + k) := by
  obtain ⟨b, o, s⟩ := a
  cases h
  unfold Addr.add
  by_cases hj : j = 0
  · subst hj; simp
  · by_cases hk : k = 0
    · subst hk; simp
    · simp [hj, hk, Nat.add_assoc]
theorem add_lit (b o k : Nat) : (⟨b, o, none⟩ : Addr).add k = ⟨b, o + k, none⟩ := by
  unfold Addr.add; split <;> simp_all
theorem cell_lit {w : World} {b o : Nat} {cs : Array Value} {e : TypeId} {fr : Nat × Nat} (h : w.heap[b]? = some (.cells cs e fr)) : w.cell? ⟨b, o, none⟩ = cs[o]? := by
  simp [World.cell?, h]
theorem spot_of_cell {w : World} {a : Addr} {u : Value} (h : w.cell? a = some u) : a.spot = none := by
  unfold World.cell? at h
  split at h
  · split at h
    · cases h
    · rename_i hs; cases hp : a.spot <;> simp_all
  · cases h

section
variable {P : Program} {S N : Nat → Prop} {G : Gh} {m : Mem} {st : St} {a : Act} {w : World}

theorem lift_get {rows : List (List Value)} {r : Nat} {row : List Cell} (h : (lift rows)[r]? = some row) : ∃ vs, rows[r]? = some vs ∧ row = vs.map Cell.sc := by
  simp only [lift, List.getElem?_map, Option.map_eq_some_iff] at h
  obtain ⟨vs, h1, rfl⟩ := h
  exact ⟨vs, h1, rfl⟩
theorem lift_length (rows : List (List Value)) : (lift rows).length = rows.length := by simp [lift]

theorem RdG.lift {n : Nat} {rows : List (List Value)} {v : Value} (h : RdG ScR S w n rows v) : RdG (RdC S w) S w n (lift rows) v := by
  obtain ⟨A, c, rfl, hc, h⟩ := h
  refine ⟨A, c, by rw [lift_length], by rw [lift_length]; exact hc, fun r row hr => ?_⟩
  obtain ⟨vs, h1, rfl⟩ := lift_get hr
  obtain ⟨k1, a, k2, k3, k4⟩ := h r vs h1
  refine ⟨by simpa using k1, a, k2, k3, fun k x hx => ?_⟩
  simp only [List.getElem?_map, Option.map_eq_some_iff] at hx
  obtain ⟨u, hu, rfl⟩ := hx
  exact k4 k u hu

theorem roC_R0 {x : Cell} {v : Value} (h : RdC S w x v) : RpC S w (roC x) v := by
  cases x with
  | un => trivial
  | sc u => exact h
  | nl => exact h
  | sl o e n rows => exact RdG.lift h

theorem RpC.R0 {x : LV} {v : Value} (h : RpC S w x v) (hu : x ≠ .un) : R0 G S m w x v := by
  cases x <;> first | exact h | exact h.elim | exact absurd rfl hu

theorem look_none {i : Id} {e n : Nat} {rows : List (List Cell)} (h : m i = some (.arr e n rows)) : look m i none = some (e, n, rows) := by simp [look, h]
theorem look_some {i : Id} {r c e n e' n' : Nat} {rows : List (List Cell)} {row : List Cell} {rows' : List (List Value)} (h : m i = some (.arr e n rows)) (hr : rows[r]? = some row) (hc : row[c]? = some (.sl true e' n' rows')) :
    look m i (some (r, c)) = some (e', n', lift rows') := by simp [look, h, hr, hc]
theorem look_inv {i : Id} {ch : Option (Nat × Nat)} {e n : Nat} {rows : List (List Cell)} (h : look m i ch = some (e, n, rows)) :
    (ch = none ∧ m i = some (.arr e n rows)) ∨ ∃ r c e0 n0 rows0 row0 rows', ch = some (r, c) ∧ m i = some (.arr e0 n0 rows0) ∧ rows0[r]? = some row0 ∧ row0[c]? = some (.sl true e n rows') ∧ rows = Ev.lift rows' := by
  unfold look at h
  split at h
  · rename_i e0 n0 rows0 hm
    split at h
    · cases h; exact .inl ⟨rfl, hm⟩
    · rename_i r c
      cases hr : rows0[r]? with
      | none => rw [hr] at h; simp at h
      | some row0 =>
        rw [hr] at h
        simp only [Option.bind_some] at h
        split at h
        · rename_i e' n' rows' hc
          cases h
          exact .inr ⟨r, c, e0, n0, rows0, row0, rows', rfl, hm, hr, hc, rfl⟩
        · cases h
  · cases h
theorem look_ne {i : Id} {ch : Option (Nat × Nat)} (h : look m i ch ≠ none) : m i ≠ none := by
  intro hn
  exact h (by simp [look, hn])

/-- what the block of a slice of own memory holds -/
theorem own_rows (h : Inv S N G m w) {i : Id} {ch : Option (Nat × Nat)} {e n : Nat} {rows : List (List Cell)} (hl : look m i ch = some (e, n, rows)) :
    OwG (fun r c x u => R0 G S m w (ownC i ch r c x) u ∨ x = .un ∨ ∃ e' n' l, x = .sl true e' n' l ∧ ch ≠ none) w (G.blkOf i ch) e (G.capOf i ch) n rows := by
  rcases look_inv hl with ⟨rfl, hm⟩ | ⟨r, c, e0, n0, rows0, row0, rows', rfl, hm, hr, hc, rfl⟩
  · refine OwG.mono (h.arr i e n rows hm) rfl fun r c row x u hr hc ho => ?_
    cases x with
    | un => exact .inr (.inl rfl)
    | sc v => exact .inl ho
    | nl => exact .inl ho
    | sl o e' n' l =>
      cases o with
      | false => exact .inl (RdG.lift ho)
      | true =>
        refine .inl ?_
        obtain ⟨rfl, ho⟩ := ho
        simp only [ownC, R0]
        rw [look_some hm hr hc]
        obtain ⟨cs, _, _, h3, _⟩ := ho
        exact ⟨_, _, rfl, h3, by simp [Gh.capOf], fun _ => by simp [Gh.blkOf]⟩
  · obtain ⟨cs, _, _, _, _, k⟩ := h.arr i e0 n0 rows0 hm
    obtain ⟨u, _, -, ho⟩ := (k r row0 hr).2 c _ hc
    obtain ⟨cs, h1, h2, h3, h4, h5⟩ := ho
    refine ⟨cs, h1, h2, by rw [lift_length]; exact h3, h4, fun r2 row hr2 => ?_⟩
    obtain ⟨vs, g1, rfl⟩ := lift_get hr2
    obtain ⟨g2, g3⟩ := h5 r2 vs g1
    refine ⟨by simpa using g2, fun k x hx => ?_⟩
    simp only [List.getElem?_map, Option.map_eq_some_iff] at hx
    obtain ⟨u, hu, rfl⟩ := hx
    obtain ⟨z, z1, z2⟩ := g3 k u hu
    exact ⟨z, z1, .inl z2⟩

theorem pack_R {agg : Bool} {vs : List LV} {v : LV} (hp : pack agg vs = some v) {us : List Value} (hr : RL (R0 G S m w) vs us.toArray) (hw : ∀ x ∈ vs, wf0 m x) :
    ∃ v', (match agg with | true => v' = .agg us.toArray | false => us = [v']) ∧ R G S m w v v' ∧ wf m v := by
  cases agg with
  | true =>
    cases hp
    exact ⟨.agg us.toArray, rfl, ⟨_, rfl, hr⟩, hw⟩
  | false =>
    simp only [pack] at hp
    split at hp
    · rename_i x
      cases hp
      obtain ⟨h1, h2⟩ := hr
      obtain ⟨u, hu, hx⟩ := h2 0 v (by simp)
      have hl : us.length = 1 := by simpa using h1
      have hw0 : wf0 m v := hw v (by simp)
      refine ⟨u, ?_, ?_, ?_⟩
      · match us, hl with
        | [z], _ => simp at hu; simp [hu]
      · cases v <;> first | exact hx | exact hx.elim
      · cases v <;> first | exact hw0 | exact hx.elim
    · cases hp

theorem run_isAgg {t : TypeId} {d : TypeDesc} (h : P.underlying t = some d) {b : Bool} (hb : (match d with | .struct _ | .array _ _ => true | _ => false) = b) : (isAgg t).run P w = .ok b w := by
  subst hb
  cases d <;> simp [isAgg, run_underlying h]

/-- is it a struct or an array? -/
def aggT (P : Program) (t : TypeId) : Option Bool := match P.underlying t with | some (.struct _) | some (.array _ _) => some true | some _ => some false | none => none
theorem aggT_run {t : TypeId} {b : Bool} (h : aggT P t = some b) : (isAgg t).run P w = .ok b w := by
  unfold aggT at h
  cases hu : P.underlying t with
  | none => rw [hu] at h; cases h
  | some d => rw [hu] at h; refine run_isAgg hu ?_; cases d <;> simp_all
def sizeT (P : Program) (t : TypeId) : Option Nat := (P.info? t).map (·.size)
theorem sizeT_run {t : TypeId} {n : Nat} (h : sizeT P t = some n) : (sizeOf t).run P w = .ok n w := by
  unfold sizeT at h
  cases hi : P.info? t with
  | none => rw [hi] at h; cases h
  | some i => rw [hi] at h; cases h; simp [sizeOf, typeInfo, hi]

theorem run_load_pack {t : TypeId} {agg : Bool} {n : Nat} (hg : aggT P t = some agg) (hz : sizeT P t = some n) {ad : Addr} {us : List Value} (hl : us.length = n)
    (hc : ∀ j u, us[j]? = some u → w.cell? (ad.add j) = some u) {vs : List LV} {v : LV} (hp : pack agg vs = some v) (hr : RL (R0 G S m w) vs us.toArray) (hw : ∀ x ∈ vs, wf0 m x) :
    ∃ v', (loadVar t ad).run P w = .ok v' w ∧ R G S m w v v' ∧ wf m v := by
  obtain ⟨v', h1, h2, h3⟩ := pack_R hp hr hw
  refine ⟨v', ?_, h2, h3⟩
  cases agg with
  | true =>
    subst h1
    have := run_loadCells_list (P := P) w ad us hc
    rw [hl] at this
    simp [loadVar, aggT_run hg, sizeT_run hz, this]
  | false =>
    subst h1
    have := hc 0 v' (by simp)
    rw [show ad.add 0 = ad from rfl] at this
    simp [loadVar, aggT_run hg, this]
end
end Go.Proofs.Ytjdcohcdgdjobaa.Ev
