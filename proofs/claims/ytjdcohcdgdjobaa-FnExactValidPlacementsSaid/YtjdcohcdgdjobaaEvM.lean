/- What is handed to a call that reads alone. -/
import Derived.Test.YtjdcohcdgdjobaaEvL
namespace Go.Proofs.Ytjdcohcdgdjobaa.Ev
open Go
set_option linter.unusedVariables false
set_option linter.unusedSimpArgs false

section
variable {P : Program} {S N : Nat → Prop} {G G0 : Gh} {m : Mem} {st : St} {a : Act} {w : World}

/-- what was read alone, and what is one's own -/
def wide (S : Nat → Prop) (G : Gh) (m : Mem) : Nat → Prop := fun b => S b ∨ ∃ p, live m p ∧ G.at p = b
theorem wide_lt (h : Inv S N G m w) : ∀ b, wide S G m b → b < w.heap.size := by
  rintro b (hb | ⟨p, hp, rfl⟩)
  · exact h.old b hb
  · exact h.lt hp

theorem own_shut (h : Inv S N G m w) {i : Id} {ch : Option (Nat × Nat)} {e n : Nat} {rows : List (List Cell)} (hl : look m i ch = some (e, n, rows)) :
    wide S G m (G.blkOf i ch) ∧ OwG (fun _ _ x u => RdC (wide S G m) w (shutC x) u) w (G.blkOf i ch) e (G.capOf i ch) n rows := by
  have sub : ∀ b, S b → wide S G m b := fun b hb => .inl hb
  rcases look_inv hl with ⟨rfl, hm⟩ | ⟨r, c, e0, n0, rows0, row0, rows', rfl, hm, hr, hc, rfl⟩
  · refine ⟨.inr ⟨.root i, .inr ⟨e, n, rows, hm⟩, rfl⟩, OwG.mono (h.arr i e n rows hm) rfl fun r c row x u hr hc ho => ?_⟩
    cases x with
    | un => trivial
    | sc v => exact ho
    | nl => exact ho
    | sl o e' n' l =>
      cases o with
      | false => exact RdG.mono ho (fun _ _ h => h) sub (fun _ _ => rfl)
      | true =>
        obtain ⟨rfl, cs, k1, k2, k3, k4, k5⟩ := ho
        refine ⟨_, _, rfl, k3, fun r2 row2 hr2 => ?_⟩
        obtain ⟨g1, g2⟩ := k5 r2 row2 hr2
        refine ⟨g1, _, rfl, ⟨.inr ⟨.chld i r c, ⟨e, n, rows, row, e', n', l, hm, hr, hc⟩, rfl⟩, rfl⟩, fun k y hy => ?_⟩
        obtain ⟨v, v1, v2⟩ := g2 k y hy
        exact ⟨v, by rw [add_lit, cell_lit k1]; simpa using v1, v2⟩
  · refine ⟨.inr ⟨.chld i r c, ⟨e0, n0, rows0, row0, e, n, rows', hm, hr, hc⟩, rfl⟩, ?_⟩
    obtain ⟨cs, _, _, _, _, k⟩ := h.arr i e0 n0 rows0 hm
    obtain ⟨u, _, -, ho⟩ := (k r row0 hr).2 c _ hc
    obtain ⟨cs, h1, h2, h3, h4, h5⟩ := ho
    refine ⟨cs, h1, h2, by rw [lift_length]; exact h3, h4, fun r2 row hr2 => ?_⟩
    obtain ⟨vs, g1, rfl⟩ := lift_get hr2
    obtain ⟨g2, g3⟩ := h5 r2 vs g1
    refine ⟨by simpa using g2, fun k x hx => ?_⟩
    simp only [List.getElem?_map, Option.map_eq_some_iff] at hx
    obtain ⟨u, hu, rfl⟩ := hx
    exact g3 k u hu

theorem shut_get {rows : List (List Cell)} {r : Nat} {row : List Cell} (h : (shut rows)[r]? = some row) : ∃ row0, rows[r]? = some row0 ∧ row = row0.map shutC := by
  simp only [shut, List.getElem?_map, Option.map_eq_some_iff] at h
  obtain ⟨r0, h1, rfl⟩ := h
  exact ⟨r0, h1, rfl⟩

theorem snap0_R (h : Inv S N G m w) {v y : LV} {V : Value} (hr : R0 G S m w v V) (hy : snap0 m v = some y) : RpC (wide S G m) w y V ∧ y ≠ .un := by
  have sub : ∀ b, S b → wide S G m b := fun b hb => .inl hb
  cases v <;> simp only [snap0] at hy <;> try cases hy
  case sc => exact ⟨hr, by simp⟩
  case nl => exact ⟨hr, by simp⟩
  case ro n rows => exact ⟨RdG.mono hr (fun _ _ q => RdC.mono q sub (fun _ _ => rfl)) sub (fun _ _ => rfl), by simp⟩
  case rf i ch lo n =>
    cases hl : look m i ch with
    | none => rw [hl] at hy; cases hy
    | some q =>
      obtain ⟨e, n1, rows⟩ := q
      rw [hl] at hy
      simp only [] at hy
      split at hy
      · rename_i hle
        cases hy
        simp only [R0] at hr; rw [hl] at hr
        obtain ⟨A, c, rfl, hnc, hcap, hA⟩ := hr
        obtain ⟨hb, cs, k1, k2, k3, k4, k5⟩ := own_shut h hl
        have hlen : (shut ((rows.drop lo).take n)).length = n := by simp [shut]; omega
        refine ⟨⟨A, c, by rw [hlen], by rw [hlen]; exact hnc, fun r row hrow => ?_⟩, by simp⟩
        obtain ⟨row0, hr0, rfl⟩ := shut_get hrow
        have hrn : r < n := by have := (List.getElem?_eq_some_iff.1 hrow).1; omega
        rw [List.getElem?_take, if_pos hrn, List.getElem?_drop] at hr0
        obtain ⟨g1, g2⟩ := k5 _ row0 hr0
        refine ⟨by simpa using g1, _, hA (by omega), ⟨hb, rfl⟩, fun k x hx => ?_⟩
        simp only [List.getElem?_map, Option.map_eq_some_iff] at hx
        obtain ⟨z, hz, rfl⟩ := hx
        obtain ⟨u, u1, u2⟩ := g2 k z hz
        refine ⟨u, ?_, u2⟩
        rw [add_lit, cell_lit k1, ← u1]
        congr 1
        rw [Nat.add_mul]; omega
      · cases hy

theorem RpC.to {y : LV} {V : Value} {S' : Nat → Prop} (h : RpC S' w y V) (hne : y ≠ .un) : Ev.R G0 S' noMem w y V ∧ wf noMem y ∧ wf0 noMem y ∧ Ev.R0 G0 S' noMem w y V := by
  cases y <;> first | exact absurd rfl hne | exact h.elim | exact ⟨h, trivial, trivial, h⟩

theorem snap1_R (h : Inv S N G m w) {v y : LV} {V : Value} (hr : R0 G S m w v V) (hy : snap1 m v = some y) : R0 G0 (wide S G m) noMem w y V ∧ wf0 noMem y ∧ R G0 (wide S G m) noMem w y V ∧ wf noMem y := by
  have sub : ∀ b, S b → wide S G m b := fun b hb => .inl hb
  have base : snap0 m v = some y → R0 G0 (wide S G m) noMem w y V ∧ wf0 noMem y ∧ R G0 (wide S G m) noMem w y V ∧ wf noMem y := fun hq => by
    obtain ⟨h1, h2⟩ := snap0_R h hr hq
    obtain ⟨k1, k2, k3, k4⟩ := RpC.to (G0 := G0) h1 h2
    exact ⟨k4, k3, k1, k2⟩
  cases v <;> simp only [snap1] at hy <;> try exact base hy
  case bp i off =>
    cases hm : m i with
    | none => rw [hm] at hy; cases hy
    | some t =>
      rw [hm] at hy
      cases t <;> simp only [] at hy <;> try cases hy
      case box cells =>
        split at hy
        · rename_i hle
          simp only [Option.map_eq_some_iff] at hy
          obtain ⟨vs, hvs, rfl⟩ := hy
          simp only [R0] at hr; rw [hm] at hr
          subst hr
          obtain ⟨cs, e, k1, k2⟩ := h.box i cells hm
          obtain ⟨g1, g2⟩ := mapM_get hvs
          have main : ∀ (k : Nat) (x : LV), vs[k]? = some x → wide S G m (G.blk i) ∧ ∃ u, w.cell? ((⟨G.blk i, off, none⟩ : Addr).add k) = some u ∧ RpC (wide S G m) w x u := by
            intro k x hk
            obtain ⟨z, hz, hsz⟩ := g2 k x hk
            rw [List.getElem?_drop] at hz
            obtain ⟨u, u1, u2⟩ := k2.2 _ z hz
            exact ⟨.inr ⟨.root i, .inl ⟨cells, hm⟩, rfl⟩, u, by rw [add_lit, cell_lit k1]; exact u1, (snap0_R h u2.1 hsz).1⟩
          exact ⟨⟨_, rfl, main⟩, trivial, ⟨_, rfl, main⟩, trivial⟩
        · cases hy
  case ep i ch r c =>
    cases hl : look m i ch with
    | none => rw [hl] at hy; cases hy
    | some q =>
      obtain ⟨e, n1, rows⟩ := q
      rw [hl] at hy
      simp only [] at hy
      cases hrow : rows[r]? with
      | none => rw [hrow] at hy; cases hy
      | some row =>
        rw [hrow] at hy
        simp only [] at hy
        split at hy
        · rename_i hle
          cases hy
          simp only [R0] at hr; rw [hl] at hr
          subst hr
          obtain ⟨hb, cs, k1, k2, k3, k4, k5⟩ := own_shut h hl
          obtain ⟨g1, g2⟩ := k5 r row hrow
          have main : ∀ (k : Nat) (x : LV), ((row.drop c).map fun x => roC x)[k]? = some x → wide S G m (G.blkOf i ch) ∧ ∃ u, w.cell? ((⟨G.blkOf i ch, r * n1 + c, none⟩ : Addr).add k) = some u ∧ RpC (wide S G m) w x u := by
            intro k x hk
            simp only [List.getElem?_map, List.getElem?_drop, Option.map_eq_some_iff] at hk
            obtain ⟨z, hz, rfl⟩ := hk
            obtain ⟨u, u1, u2⟩ := g2 _ z hz
            refine ⟨hb, u, by rw [add_lit, cell_lit k1, Nat.add_assoc]; exact u1, ?_⟩
            have : roC z = roC (shutC z) := by cases z <;> rfl
            rw [this]
            exact roC_R0 u2
          exact ⟨⟨_, rfl, main⟩, trivial, ⟨_, rfl, main⟩, trivial⟩
        · cases hy
  case rp vs =>
    cases hy
    obtain ⟨ad, rfl, q⟩ := hr
    have main : ∀ (k : Nat) (x : LV), vs[k]? = some x → wide S G m ad.block ∧ ∃ u, w.cell? (ad.add k) = some u ∧ RpC (wide S G m) w x u := fun k x hk =>
      let ⟨q1, u, q2, q3⟩ := q k x hk; ⟨sub _ q1, u, q2, q3.mono sub (fun _ _ => rfl)⟩
    exact ⟨⟨_, rfl, main⟩, trivial, ⟨_, rfl, main⟩, trivial⟩

theorem snap_R (h : Inv S N G m w) {v y : LV} {V : Value} (hr : R G S m w v V) (hy : snap m v = some y) : R G0 (wide S G m) noMem w y V ∧ wf noMem y := by
  have lst : ∀ {f : LV → Option LV} {vs ys : List LV} {cs : Array Value}, (∀ x z u, R0 G S m w x u → f x = some z → R0 G0 (wide S G m) noMem w z u ∧ wf0 noMem z) → RL (R0 G S m w) vs cs → vs.mapM f = some ys →
      RL (R0 G0 (wide S G m) noMem w) ys cs ∧ ∀ x ∈ ys, wf0 noMem x := by
    intro f vs ys cs hf hq hm
    obtain ⟨g1, g2⟩ := mapM_get hm
    refine ⟨⟨by rw [hq.1, g1], fun k x hk => ?_⟩, fun x hx => ?_⟩
    · obtain ⟨z, hz, hfz⟩ := g2 k x hk
      obtain ⟨u, u1, u2⟩ := hq.2 k z hz
      exact ⟨u, u1, (hf z x u u2 hfz).1⟩
    · obtain ⟨k, hk⟩ := List.getElem?_of_mem hx
      obtain ⟨z, hz, hfz⟩ := g2 k x hk
      obtain ⟨u, u1, u2⟩ := hq.2 k z hz
      exact (hf z x u u2 hfz).2
  cases v
  case ag vs =>
    simp only [snap, Option.map_eq_some_iff] at hy
    obtain ⟨ys, h1, rfl⟩ := hy
    obtain ⟨cs, rfl, q⟩ := hr
    obtain ⟨k1, k2⟩ := lst (fun x z u hx hz => by
      obtain ⟨a1, a2⟩ := snap0_R h hx hz
      obtain ⟨b1, b2, b3, b4⟩ := RpC.to (G0 := G0) a1 a2
      exact ⟨b4, b3⟩) q h1
    exact ⟨⟨cs, rfl, k1⟩, k2⟩
  case cl f vs =>
    simp only [snap, Option.map_eq_some_iff] at hy
    obtain ⟨ys, h1, rfl⟩ := hy
    obtain ⟨cs, rfl, q⟩ := hr
    obtain ⟨k1, k2⟩ := lst (fun x z u hx hz => by
      obtain ⟨b1, b2, _, _⟩ := snap1_R (G0 := G0) h hx hz
      exact ⟨b1, b2⟩) q h1
    exact ⟨⟨cs, rfl, k1⟩, k2⟩
  case tu vs => simp [snap, snap1, snap0] at hy
  all_goals (simp only [snap] at hy; simp only [R, R1] at hr; exact (snap1_R (G0 := G0) h hr hy).2.2)
end
end Go.Proofs.Ytjdcohcdgdjobaa.Ev
