/- Loads, addresses, parts. -/
import Derived.Test.YtjdcohcdgdjobaaEvE
namespace Go.Proofs.Ytjdcohcdgdjobaa.Ev
open Go
set_option linter.unusedVariables false
set_option linter.unusedSimpArgs false

section
variable {P : Program} {S N : Nat → Prop} {G : Gh} {m : Mem} {st : St} {a : Act} {w : World}

theorem R_R0 {x : LV} {v : Value} (h : R G S m w x v) (h1 : ∀ vs, x ≠ .tu vs) (h2 : ∀ vs, x ≠ .ag vs) (h3 : ∀ f vs, x ≠ .cl f vs) : R0 G S m w x v := by
  cases x <;> first | exact h | exact absurd rfl (h1 _) | exact absurd rfl (h2 _) | exact absurd rfl (h3 _ _)

theorem RL_take {R : LV → Value → Prop} {vs : List LV} {cs : Array Value} (h : RL R vs cs) {off n : Nat} (hn : off + n ≤ vs.length) :
    RL R ((vs.drop off).take n) ((cs.toList.drop off).take n).toArray ∧ ((cs.toList.drop off).take n).length = n := by
  obtain ⟨h1, h2⟩ := h
  have hl : ((cs.toList.drop off).take n).length = n := by simp; omega
  refine ⟨⟨by simp; omega, fun k x hk => ?_⟩, hl⟩
  rw [List.getElem?_take] at hk
  split at hk
  · rename_i hkn
    rw [List.getElem?_drop] at hk
    obtain ⟨u, hu, hx⟩ := h2 _ x hk
    refine ⟨u, ?_, hx⟩
    simp only [List.getElem?_toArray, List.getElem?_take, if_pos hkn, List.getElem?_drop]
    simpa using hu
  · cases hk

theorem ownRow_get {i : Id} {ch : Option (Nat × Nat)} {r : Nat} : ∀ (row : List Cell) (c0 k : Nat), (ownRow i ch r c0 row)[k]? = (row[k]?).map (ownC i ch r (c0 + k)) := by
  intro row
  induction row with
  | nil => intro c0 k; simp [ownRow]
  | cons x xs ih =>
    intro c0 k
    cases k with
    | zero => simp [ownRow]
    | succ k => simp only [ownRow, List.getElem?_cons_succ, ih]; congr 2; omega
theorem ownRow_length {i : Id} {ch : Option (Nat × Nat)} {r : Nat} : ∀ (row : List Cell) (c0 : Nat), (ownRow i ch r c0 row).length = row.length := by
  intro row; induction row with
  | nil => intro c0; rfl
  | cons x xs ih => intro c0; simp [ownRow, ih]

theorem ownC_wf {i : Id} {ch : Option (Nat × Nat)} {r c : Nat} {x : Cell} (hi : m i ≠ none) : wf0 m (ownC i ch r c x) := by
  cases x with
  | un => trivial
  | sc v => trivial
  | nl => trivial
  | sl o e n rows =>
    cases o with
    | false => trivial
    | true => cases ch with | none => exact hi | some rc => trivial

theorem do_ld (h : SR S N G st a w) {x : Opd} {x' : Operand} {t : TypeId} {n : Nat} {agg : Bool} {o : Oper} (hx : fO x x' = true) (ho : o.op = .load t x')
    (hg : aggT P t = some agg) (hz : sizeT P t = some n) {v : LV} (hv : loadAt st.m n agg (opd st.s x) = some v) : Does P o a w (Next S N G st w v st.m) := by
  obtain ⟨h1, h2⟩ := h.opd hx
  generalize opd st.s x = X at *
  have key : ∀ (ad : Addr) (us : List Value) (vs : List LV), a.eval x' = .pointer (some ad) → us.length = n → (∀ j u, us[j]? = some u → w.cell? (ad.add j) = some u) → pack agg vs = some v →
      RL (R0 G S st.m w) vs us.toArray → (∀ x ∈ vs, wf0 st.m x) → Does P o a w (Next S N G st w v st.m) := by
    intro ad us vs e1 e2 e3 e4 e5 e6
    obtain ⟨v', k1, k2, k3⟩ := run_load_pack (P := P) hg hz e2 e3 e4 e5 e6
    refine Does.same h (v' := v') ?_ k2 k3
    simp [execOp, ho, e1, Instr.loadAt, Instr.sureAddr, k1]
  cases X <;> simp only [loadAt] at hv <;> try cases hv
  case bp i off =>
    have hi : st.m i ≠ none := h2
    split at hv
    · rename_i cells hc
      split at hv
      · rename_i hn
        obtain ⟨cs, e, k1, k2⟩ := h.inv.box i cells hc
        obtain ⟨q1, q2⟩ := RL_take k2 hn
        have e1 : a.eval x' = .pointer (some ⟨G.blk i, off, none⟩) := by simp only [R, R1, R0] at h1; rw [hc] at h1; exact h1
        refine key _ _ _ e1 q2 (fun j u hj => ?_) hv (q1.mono fun _ _ _ z => z.1) (fun x hxm => ?_)
        · rw [add_lit, cell_lit k1]
          rw [List.getElem?_take] at hj
          split at hj
          · rw [List.getElem?_drop] at hj; simpa using hj
          · cases hj
        · have := List.mem_of_mem_drop (List.mem_of_mem_take hxm)
          obtain ⟨k, hk⟩ := List.getElem?_of_mem this
          obtain ⟨u, _, hu⟩ := k2.2 k x hk
          exact hu.2.2
      · cases hv
    · cases hv
  case ep i ch r c =>
    have hi : st.m i ≠ none := h2
    split at hv
    · rename_i q1 st1 rows hl
      split at hv
      · rename_i row hr
        split at hv
        · rename_i hn
          obtain ⟨cs, k1, k2, k3, k4, k5⟩ := own_rows h.inv hl
          obtain ⟨g1, g2⟩ := k5 r row hr
          have e1 : a.eval x' = .pointer (some ⟨G.blkOf i ch, r * st1 + c, none⟩) := by simp only [R, R1, R0] at h1; rw [hl] at h1; exact h1
          -- every cell loaded is one that can be told
          have hne : ∀ k y, ((ownRow i ch r 0 row).drop c |>.take n)[k]? = some y → ∃ u, cs[r * st1 + c + k]? = some u ∧ (y = .un ∨ R0 G S st.m w y u) := by
            intro k y hy
            rw [List.getElem?_take] at hy
            split at hy
            · rw [List.getElem?_drop, ownRow_get] at hy
              simp only [Option.map_eq_some_iff, Nat.zero_add] at hy
              obtain ⟨z, hz1, rfl⟩ := hy
              obtain ⟨u, hu1, hu2⟩ := g2 (c + k) z hz1
              refine ⟨u, by rw [Nat.add_assoc]; exact hu1, ?_⟩
              rcases hu2 with hu2 | rfl | ⟨e', n', l, rfl, hch⟩
              · exact .inr hu2
              · exact .inl rfl
              · left; cases ch with | none => exact absurd rfl hch | some rc => rfl
            · cases hy
          have hlen : ((ownRow i ch r 0 row).drop c |>.take n).length = n := by simp [ownRow_length]; omega
          have hbig : r * st1 + c + n ≤ cs.size := by
            have hr1 : r < rows.length := (List.getElem?_eq_some_iff.1 hr).1
            have : (r + 1) * st1 ≤ G.capOf i ch * st1 := Nat.mul_le_mul_right _ (by omega)
            rw [Nat.add_mul] at this
            omega
          have hul : ((cs.toList.drop (r * st1 + c)).take n).length = n := by simp; omega
          refine key _ ((cs.toList.drop (r * st1 + c)).take n) _ e1 hul (fun j u hj => ?_) hv ⟨by simp only [List.size_toArray, hul, hlen], fun k y hy => ?_⟩ (fun y hy => ?_)
          · rw [add_lit, cell_lit k1]
            rw [List.getElem?_take] at hj
            split at hj
            · rw [List.getElem?_drop] at hj; simpa [Nat.add_assoc] using hj
            · cases hj
          · obtain ⟨u, hu1, hu2⟩ := hne k y hy
            have hk : k < n := by have := (List.getElem?_eq_some_iff.1 hy).1; omega
            refine ⟨u, ?_, ?_⟩
            · simp only [List.getElem?_toArray, List.getElem?_take, if_pos hk, List.getElem?_drop]; simpa using hu1
            · rcases hu2 with rfl | hu2
              · trivial
              · exact hu2
          · have := List.mem_of_mem_drop (List.mem_of_mem_take hy)
            obtain ⟨k, hk⟩ := List.getElem?_of_mem this
            rw [ownRow_get] at hk
            simp only [Option.map_eq_some_iff] at hk
            obtain ⟨z, _, rfl⟩ := hk
            exact ownC_wf hi
        · cases hv
      · cases hv
    · cases hv
  case rp vs =>
    split at hv
    · rename_i hn
      obtain ⟨ad, e1, k1⟩ := h1
      -- the cells that are there
      have hget : ∀ k, k < n → ∃ u, w.cell? (ad.add k) = some u ∧ ∀ x, vs[k]? = some x → RpC S w x u := fun k hk => by
        have hk2 : k < vs.length := by omega
        obtain ⟨_, u, z1, z2⟩ := k1 k vs[k] (List.getElem?_eq_getElem hk2)
        exact ⟨u, z1, fun x hx => by rw [List.getElem?_eq_getElem hk2] at hx; cases hx; exact z2⟩
      have hus : ∀ k : Nat, k ≤ n → ∃ us : List Value, us.length = k ∧ ∀ j, j < k → ∃ u, us[j]? = some u ∧ w.cell? (ad.add j) = some u ∧ ∀ x, vs[j]? = some x → RpC S w x u := by
        intro k
        induction k with
        | zero => intro _; exact ⟨[], rfl, fun j hj => by omega⟩
        | succ k ih =>
          intro hk
          obtain ⟨us, l1, l2⟩ := ih (by omega)
          obtain ⟨u, z1, z2⟩ := hget k (by omega)
          refine ⟨us ++ [u], by simp [l1], fun j hj => ?_⟩
          by_cases hjk : j < k
          · obtain ⟨u', y1, y2⟩ := l2 j hjk
            exact ⟨u', by rw [List.getElem?_append_left (by omega)]; exact y1, y2⟩
          · have : j = k := by omega
            subst this
            exact ⟨u, by rw [List.getElem?_append_right (by omega), l1]; simp, z1, z2⟩
      obtain ⟨us, l1, l2⟩ := hus n (Nat.le_refl _)
      refine key ad us (vs.take n) e1 l1 (fun j u hj => ?_) hv ⟨by simp; omega, fun k x hk => ?_⟩ (fun x hxm => ?_)
      · have hjn : j < n := by have := (List.getElem?_eq_some_iff.1 hj).1; omega
        obtain ⟨u', y1, y2, _⟩ := l2 j hjn
        rw [y1] at hj; cases hj; exact y2
      · rw [List.getElem?_take] at hk
        split at hk
        · rename_i hkn
          obtain ⟨u, y1, y2, y3⟩ := l2 k hkn
          refine ⟨u, by simpa using y1, ?_⟩
          have := y3 x hk
          cases x <;> first | exact this | exact this.elim | trivial
        · cases hk
      · have hm' := List.mem_of_mem_take hxm
        obtain ⟨k, hk⟩ := List.getElem?_of_mem hm'
        obtain ⟨_, u, _, z2⟩ := k1 k x hk
        cases x <;> first | trivial | exact z2.elim
    · cases hv

theorem do_nc (h : SR S N G st a w) {x : Opd} {x' : Operand} {o : Oper} (hx : fO x x' = true) (ho : o.op = .nilCheck x') {v : LV} (hv : opd st.s x = v)
    (hp : (∃ i off, v = .bp i off ∧ ∃ c, st.m i = some (.box c)) ∨ (∃ i ch r c, v = .ep i ch r c ∧ look st.m i ch ≠ none) ∨ (∃ vs, v = .rp vs) ∨ ∃ f vs, v = .cl f vs) : Does P o a w (Next S N G st w v st.m) := by
  obtain ⟨h1, h2⟩ := h.opd hx
  rw [hv] at h1 h2
  refine Does.same h (v' := a.eval x') ?_ h1 h2
  rcases hp with ⟨i, off, rfl, c, hc⟩ | ⟨i, ch, r, c, rfl, hl⟩ | ⟨vs, rfl⟩ | ⟨f, vs, rfl⟩
  · simp only [R, R1, R0] at h1; rw [hc] at h1
    simp [execOp, ho, h1]
  · cases hk : look st.m i ch with
    | none => exact absurd hk hl
    | some q =>
      simp only [R, R1, R0] at h1; rw [hk] at h1
      simp [execOp, ho, h1]
  · obtain ⟨ad, e, _⟩ := h1
    simp [execOp, ho, e]
  · obtain ⟨cs, e, _⟩ := h1
    simp [execOp, ho, e]
end
end Go.Proofs.Ytjdcohcdgdjobaa.Ev
