/- Addresses of fields and elements, parts, cuts, functions. -/
import Derived.Test.YtjdcohcdgdjobaaEvF
namespace Go.Proofs.Ytjdcohcdgdjobaa.Ev
open Go
set_option linter.unusedVariables false
set_option linter.unusedSimpArgs false

/-- where a field lies -/
def fieldT (P : Program) (t : TypeId) (f : Nat) : Option (Nat × Nat × Bool) :=
  match P.underlying t with
  | some (.struct fs) =>
    match fs[f]? with
    | some x => match sizeT P x.type, aggT P x.type with | some n, some b => some (x.offset, n, b) | _, _ => none
    | none => none
  | _ => none

section
variable {P : Program} {S N : Nat → Prop} {G : Gh} {m : Mem} {st : St} {a : Act} {w : World}

theorem fieldT_inv {t : TypeId} {f off n : Nat} {b : Bool} (h : fieldT P t f = some (off, n, b)) : ∃ fs x, P.underlying t = some (.struct fs) ∧ fs[f]? = some x ∧ x.offset = off ∧ sizeT P x.type = some n ∧ aggT P x.type = some b := by
  unfold fieldT at h
  split at h
  · rename_i fs hu
    split at h
    · rename_i x hx
      split at h
      · rename_i n' b' h1 h2
        cases h
        exact ⟨fs, x, hu, hx, rfl, h1, h2⟩
      · cases h
    · cases h
  · cases h

theorem run_fieldAt {t : TypeId} {f off n : Nat} {b : Bool} (h : fieldT P t f = some (off, n, b)) (hn : n ≠ 0) (ad : Addr) : (Instr.fieldAt t (.pointer (some ad)) f).run P w = .ok (.pointer (some (ad.add off))) w := by
  obtain ⟨fs, x, h1, h2, h3, h4, _⟩ := fieldT_inv h
  simp [Instr.fieldAt, run_underlying h1, h2, Instr.sureAddr, fieldPlace, sizeT_run h4, hn, h3]

theorem do_fa (h : SR S N G st a w) {x : Opd} {x' : Operand} {t : TypeId} {f off n : Nat} {b : Bool} {o : Oper} (hx : fO x x' = true) (ho : o.op = .fieldAddr t x' f)
    (hf : fieldT P t f = some (off, n, b)) (hn : n ≠ 0) {v : LV}
    (hv : (∃ i q c, opd st.s x = .bp i q ∧ st.m i = some (.box c) ∧ v = .bp i (q + off)) ∨ (∃ i ch r c, opd st.s x = .ep i ch r c ∧ look st.m i ch ≠ none ∧ v = .ep i ch r (c + off)) ∨
      ∃ vs, opd st.s x = .rp vs ∧ off < vs.length ∧ v = .rp (vs.drop off)) : Does P o a w (Next S N G st w v st.m) := by
  obtain ⟨h1, h2⟩ := h.opd hx
  rcases hv with ⟨i, q, c, e, hc, rfl⟩ | ⟨i, ch, r, c, e, hl, rfl⟩ | ⟨vs, e, hlt, rfl⟩
  · rw [e] at h1 h2
    simp only [R, R1, R0] at h1; rw [hc] at h1
    refine Does.same h (v' := .pointer (some ⟨G.blk i, q + off, none⟩)) ?_ ?_ h2
    · simp [execOp, ho, h1, run_fieldAt hf hn, add_lit]
    · simp only [R, R1, R0, hc]
  · rw [e] at h1 h2
    cases hk : look st.m i ch with
    | none => exact absurd hk hl
    | some z =>
      simp only [R, R1, R0] at h1; rw [hk] at h1
      refine Does.same h (v' := .pointer (some ⟨G.blkOf i ch, r * z.2.1 + (c + off), none⟩)) ?_ ?_ h2
      · simp [execOp, ho, h1, run_fieldAt hf hn, add_lit, Nat.add_assoc]
      · simp only [R, R1, R0, hk]
  · rw [e] at h1 h2
    obtain ⟨ad, e1, k1⟩ := h1
    refine Does.same h (v' := .pointer (some (ad.add off))) (by simp [execOp, ho, e1, run_fieldAt hf hn]) ?_ trivial
    have hs : ad.spot = none := by
      obtain ⟨_, u, z1, _⟩ := k1 0 vs[0] (List.getElem?_eq_getElem (by omega))
      exact spot_of_cell z1
    refine ⟨_, rfl, fun k x hk => ?_⟩
    rw [List.getElem?_drop] at hk
    obtain ⟨z0, u, z1, z2⟩ := k1 _ x hk
    refine ⟨?_, u, by rw [add_add ad hs]; exact z1, z2⟩
    have : (ad.add off).block = ad.block := by unfold Addr.add; split <;> rfl
    rw [this]; exact z0

theorem run_part {t : TypeId} {agg : Bool} {n : Nat} (hg : aggT P t = some agg) (hz : sizeT P t = some n) {cs : Array Value} {off : Nat} {vs : List LV} (hr : RL (R0 G S m w) vs cs) (hn : off + n ≤ vs.length) (hw : ∀ x ∈ vs, wf0 m x)
    {v : LV} (hp : pack agg ((vs.drop off).take n) = some v) : ∃ v', (part t cs off).run P w = .ok v' w ∧ R G S m w v v' ∧ wf m v := by
  obtain ⟨q1, q2⟩ := RL_take hr hn
  obtain ⟨v', h1, h2, h3⟩ := pack_R hp q1 (fun x hx => hw x (List.mem_of_mem_drop (List.mem_of_mem_take hx)))
  refine ⟨v', ?_, h2, h3⟩
  cases agg with
  | true =>
    subst h1
    simp only [part, Sem.run_bind, aggT_run hg, sizeT_run hz, Result.andThen_ok, if_true, Sem.run_pure]
    congr 2
    apply Array.ext'
    simp [List.extract_eq_take_drop]
  | false =>
    have hn1 : n = 1 := by rw [h1] at q2; simpa using q2.symm
    subst hn1
    have h0 : cs[off]? = some v' := by
      have : ((cs.toList.drop off).take 1)[0]? = some v' := by rw [h1]; rfl
      rw [List.getElem?_take] at this
      simpa using this
    simp [part, aggT_run hg, h0]

theorem do_fd (h : SR S N G st a w) {x : Opd} {x' : Operand} {t : TypeId} {f off n : Nat} {agg : Bool} {o : Oper} (hx : fO x x' = true) (ho : o.op = .field t x' f)
    (hf : fieldT P t f = some (off, n, agg)) {vs : List LV} {v : LV} (hv : opd st.s x = .ag vs) (hn : off + n ≤ vs.length) (hp : pack agg ((vs.drop off).take n) = some v) :
    Does P o a w (Next S N G st w v st.m) := by
  obtain ⟨h1, h2⟩ := h.opd hx
  rw [hv] at h1 h2
  obtain ⟨cs, e, q⟩ := h1
  obtain ⟨fs, y, k1, k2, k3, k4, k5⟩ := fieldT_inv hf
  subst k3
  obtain ⟨v', g1, g2, g3⟩ := run_part (P := P) k5 k4 q hn h2 hp
  refine Does.same h (v' := v') ?_ g2 g3
  simp [execOp, ho, e, Instr.field, run_underlying k1, k2, asAgg, g1]

theorem do_ia (h : SR S N G st a w) {x i : Opd} {x' i' : Operand} {t el : TypeId} {n0 : Nat} {o : Oper} (hx : fO x x' = true) (hi : fO i i' = true) (ho : o.op = .indexAddr t x' i')
    (ht : P.underlying t = some (.slice el)) (hz : sizeT P el = some n0) {k : IntKind} {j : Int} (hj : opd st.s i = .sc (.int k j)) (h0 : 0 ≤ j) {v : LV}
    (hv : (∃ id ch lo n e rows, opd st.s x = .rf id ch lo n ∧ look st.m id ch = some (e, n0, rows) ∧ j < (n : Int) ∧ v = .ep id ch (lo + j.toNat) 0) ∨
      (∃ rows row, opd st.s x = .ro n0 rows ∧ rows[j.toNat]? = some row ∧ v = .rp (row.map roC))) : Does P o a w (Next S N G st w v st.m) := by
  obtain ⟨h1, h2⟩ := h.opd hx
  have r2 := (h.opd hi).1
  rw [hj] at r2
  obtain ⟨e2, -⟩ := r2
  rcases hv with ⟨id, ch, lo, n, e, rows, ex, hl, hlt, rfl⟩ | ⟨rows, row, ex, hr, rfl⟩
  · rw [ex] at h1 h2
    simp only [R, R1, R0] at h1; rw [hl] at h1
    obtain ⟨A, c, e1, hnc, hcap, hA⟩ := h1
    have hA' := hA (by omega)
    subst hA'
    refine Does.same h (v' := .pointer (some ⟨G.blkOf id ch, (lo + j.toNat) * n0 + 0, none⟩)) ?_ ?_ h2
    · have hjn : j < (n : Int) := hlt
      simp [execOp, ho, Instr.indexAt, e1, e2, asIntOf, run_underlying ht, sizeT_run hz, h0, hjn, add_lit, Nat.add_mul]
    · simp only [R, R1, R0, hl]
  · rw [ex] at h1 h2
    obtain ⟨A, c, e1, hc, hrow⟩ := h1
    obtain ⟨g1, ad, rfl, g2, g3⟩ := hrow _ row hr
    have hjn : j < (rows.length : Int) := by have := (List.getElem?_eq_some_iff.1 hr).1; omega
    refine Does.same h (v' := .pointer (some (ad.add (j.toNat * n0)))) ?_ ?_ trivial
    · simp [execOp, ho, Instr.indexAt, e1, e2, asIntOf, run_underlying ht, sizeT_run hz, h0, hjn]
    · refine ⟨_, rfl, fun k' y hk => ?_⟩
      simp only [List.getElem?_map, Option.map_eq_some_iff] at hk
      obtain ⟨z, hz1, rfl⟩ := hk
      obtain ⟨u, hu1, hu2⟩ := g3 k' z hz1
      have hs : ad.spot = none := g2.2
      have hb : (ad.add (j.toNat * n0)).block = ad.block := by unfold Addr.add; split <;> rfl
      exact ⟨by rw [hb]; exact g2.1, u, by rw [add_add ad hs]; exact hu1, roC_R0 hu2⟩
end
end Go.Proofs.Ytjdcohcdgdjobaa.Ev
