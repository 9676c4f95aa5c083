/- slices.Delete at elements of any number of cells: walked once. -/
import Derived.Test.YthnkioafikmmaaaEvc
import Derived.Shelf.SlLaysE0
import Derived.Shelf.SlicesE.Kit
import Derived.Shelf.RegionOpenPlain
import Derived.WalkKit
import Derived.Deep.LoopGhost
import Derived.Deep.RegionLaw
import Derived.Lib.Walk
import Derived.Sort.WalkB12
import Derived.Lib.SliceRun
namespace Go.Proofs.Ythnkioafikmmaaa.Ev
open Go Go.Shelf Go.RowKit Go.Lib Go.Sort Go.Proofs

theorem setCells_fr {b : Nat} : ∀ (vs : List Value) (o : Nat) (w : World), (w.setCells b o vs).os = w.os ∧ (w.setCells b o vs).tape = w.tape ∧ (w.setCells b o vs).output = w.output ∧ (w.setCells b o vs).heap.size = w.heap.size ∧ ∀ x, x ≠ b → (w.setCells b o vs).heap[x]? = w.heap[x]? := by
  intro vs
  induction vs with
  | nil => intro o w; exact ⟨rfl, rfl, rfl, rfl, fun _ _ => rfl⟩
  | cons v r ih =>
    intro o w
    obtain ⟨h1, h2, h3, h4, h5⟩ := ih (o + 1) (w.setCell ⟨b, o, none⟩ v)
    have e : w.setCell ⟨b, o, none⟩ v = mapBlock w b (·.setIfInBounds o v) := setCell_eq w b o v
    refine ⟨h1.trans (by rw [e]; rfl), h2.trans (by rw [e]; rfl), h3.trans (by rw [e]; rfl), h4.trans (by rw [e]; simp [mapBlock]), fun x hx => (h5 x hx).trans ?_⟩
    rw [e]
    simp only [mapBlock, Array.getElem?_modify]
    rw [if_neg (fun q : b = x => hx q.symm)]
theorem setCells_at {b : Nat} {e : TypeId} {fr : Nat × Nat} : ∀ (vs : List Value) (o : Nat) (w : World) (cs : Array Value), w.heap[b]? = some (.cells cs e fr) →
    ∃ cs', (w.setCells b o vs).heap[b]? = some (.cells cs' e fr) ∧ cs'.size = cs.size ∧ (∀ k, k < o ∨ o + vs.length ≤ k → cs'[k]? = cs[k]?) ∧ ∀ k, k < vs.length → o + k < cs.size → cs'[o + k]? = vs[k]? := by
  intro vs
  induction vs with
  | nil => intro o w cs h; exact ⟨cs, h, rfl, fun _ _ => rfl, fun k hk => by simp at hk⟩
  | cons v r ih =>
    intro o w cs h
    have e0 : w.setCell ⟨b, o, none⟩ v = mapBlock w b (·.setIfInBounds o v) := setCell_eq w b o v
    have h1 : (w.setCell ⟨b, o, none⟩ v).heap[b]? = some (.cells (cs.setIfInBounds o v) e fr) := by
      rw [e0]
      simp only [mapBlock, Array.getElem?_modify, if_true, h, Option.map_some, onCells]
    obtain ⟨cs', k1, k2, k3, k4⟩ := ih (o + 1) _ _ h1
    refine ⟨cs', k1, by rw [k2]; simp, fun k hk => ?_, fun k hk hz => ?_⟩
    · simp only [List.length_cons] at hk
      rw [k3 k (by omega), Array.getElem?_setIfInBounds, if_neg (by omega)]
    · cases k with
      | zero =>
        rw [k3 (o + 0) (by omega), Array.getElem?_setIfInBounds, if_pos (by omega), if_pos (by omega)]
        rfl
      | succ k =>
        have := k4 k (by simpa using hk) (by simp; omega)
        rw [show o + (k + 1) = o + 1 + k by omega, this]
        rfl
section
variable {P : Program} {ρ : Ren}
theorem clear_K (w : World) (t e ty : TypeId) (z : Value) (K : Nat) (ht : P.underlying t = some (.slice e)) (hv : ∀ w, (zeroValue e).run P w = .ok z w) (hz : z.cells.size = K) (h1 : ∀ v ∈ z.cells.toList, v.oneCell' = true) (b o n c : Nat) (hn : 0 < n)
    (hc : ∀ j, j < n * K → (w.cell? ⟨b, o + j, none⟩).isSome = true) (hf : ∀ j, j < n * K → w.frozen? ⟨b, o + j, none⟩ = false) :
    (Builtin.clear_ #[t] ty #[.slice (some ⟨b, o, none⟩) n c]).run P w = .ok (.tuple #[]) (w.setCells b o (Builtin.zeroCells z.cells n).toList) := by
  have hl : (Builtin.zeroCells z.cells n).toList.length = n * K := by simp [Builtin.zeroCells, hz]
  have hst := run_storeCells_cells (P := P) b o (Builtin.zeroCells z.cells n).toList 0 w (by rw [hl]; simpa using hc) (by rw [hl]; simpa using hf) (by
    intro v hv'
    simp only [Builtin.zeroCells, Array.toList_map, Array.toList_range, List.mem_map, List.mem_range] at hv'
    obtain ⟨i, hi, rfl⟩ := hv'
    have hpos : 0 < z.cells.size := by
      rcases Nat.eq_zero_or_pos z.cells.size with h0 | h0
      · rw [h0] at hi; simp at hi
      · exact h0
    have hlt := Nat.mod_lt i hpos
    rw [getElem!_pos z.cells _ hlt]
    exact h1 _ (by simp))
  simp only [Nat.add_zero] at hst
  obtain ⟨m, rfl⟩ : ∃ m, n = m + 1 := ⟨n - 1, by omega⟩
  simp [Builtin.clear_, run_underlying ht, hv, hst]
set_option maxHeartbeats 4000000 in
set_option maxRecDepth 1000000 in
theorem del_K (L : SlLaysE0.n45 P ρ) (K : Nat) (z : Value) (v23 : ∀ w, (zeroValue (ρ.t 23)).run P w = .ok z w) (hzs : z.cells.size = K) (hz1 : ∀ v ∈ z.cells.toList, v.oneCell' = true) (z23 : ∀ w, (Go.sizeOf (ρ.t 23)).run P w = .ok K w) (i0 : TypeInfo) (hi0 : P.info? (ρ.t 23) = some i0) (hzi : i0.size = K)
    (b cap i j n : Nat) (cs : Array Value) (e : TypeId) (w : World) (hb : w.heap[b]? = some (.cells cs e (0, 0))) (hcs : cs.size = cap * K) (hcap : n ≤ cap) (hm : cap ≤ 9223372036854775807) (hone : ∀ k, k < n * K → ∃ u, cs[k]? = some u ∧ u.oneCell' = true) (hij : i ≤ j) (hj : j ≤ n) :
    Calls P (ρ.f 45) #[.slice (some ⟨b, 0, none⟩) n cap, .int .i64 i, .int .i64 j] w fun en w' => en = .returned (.slice (some ⟨b, 0, none⟩) (n - (j - i)) cap) ∧ FrN (fun x => x = b ∨ w.heap.size ≤ x) w w' ∧
      ∃ cs', w'.heap[b]? = some (.cells cs' e (0, 0)) ∧ cs'.size = cs.size ∧ ∀ k, k < (n - (j - i)) * K → cs'[k]? = cs[if k < i * K then k else k + (j - i) * K]? := by
  have mixed := L.mixed; have t0 := L.t0; have a0 := L.a0; have z0 := L.z0; have v0 := L.v0; have t3 := L.t3; have a3 := L.a3; have z3 := L.z3; have v3 := L.v3; have t4 := L.t4; have a4 := L.a4; have z4 := L.z4; have v4 := L.v4; have t22 := L.t22; have a22 := L.a22; have z22 := L.z22; have v22 := L.v22
  by_cases heq : i = j
  · subst heq
    have h0 : Calls P (ρ.f 45) #[.slice (some ⟨b, 0, none⟩) n cap, .int .i64 i, .int .i64 i] w fun en w' => en = .returned (.slice (some ⟨b, 0, none⟩) n cap) ∧ w' = w := by
      clear hb hone
      obtain ⟨_, _, FG⟩ := L.f45
      go_enter FG, SlBodyN.n45_ntmps ρ
      go_wp2
      all_goals (go_ret; exact ⟨rfl, rfl⟩)
    refine h0.mono ?_
    rintro en w' ⟨rfl, rfl⟩
    refine ⟨by rw [Nat.sub_self, Nat.sub_zero], FrN.refl _ _, cs, hb, rfl, fun k _ => ?_⟩
    rw [Nat.sub_self, Nat.zero_mul, Nat.add_zero, ite_self]
  · have hlt : i < j := by omega
    have hblt : b < w.heap.size := (Array.getElem?_eq_some_iff.1 hb).1
    obtain ⟨news, hnews⟩ : ∃ news, news = (cs.toList.drop (j * K)).take ((n - j) * K) := ⟨_, rfl⟩
    have hjn : j * K + (n - j) * K = n * K := by rw [← Nat.add_mul]; congr 1; omega
    have hinn : i * K + (n - j) * K ≤ n * K := by rw [← Nat.add_mul]; exact Nat.mul_le_mul_right _ (by omega)
    have hnc : n * K ≤ cap * K := Nat.mul_le_mul_right _ hcap
    have hlen : news.length = (n - j) * K := by rw [hnews, List.length_take, List.length_drop, Array.length_toList, hcs]; omega
    have hget : ∀ t, t < (n - j) * K → news[t]? = cs[j * K + t]? := by
      intro t ht
      rw [hnews, List.getElem?_take, if_pos ht, List.getElem?_drop, Array.getElem?_toList]
    have hb2 : w.drew.heap[b]? = some (.cells cs e (0, 0)) := hb
    obtain ⟨A, hA, hsrc⟩ : ∃ A : Addr, (if cap = j then some (⟨b, 0, none⟩ : Addr) else some ⟨b, j * K, none⟩) = some A ∧ Hid (∀ t u, news[t]? = some u → w.drew.cell? (A.add t) = some u) := by
      by_cases h : cap = j
      · refine ⟨⟨b, 0, none⟩, by simp [h], fun t u hu => ?_⟩
        have h0 : news.length = 0 := by rw [hlen, show n - j = 0 by omega, Nat.zero_mul]
        rw [List.length_eq_zero_iff.1 h0] at hu
        simp at hu
      · refine ⟨⟨b, j * K, none⟩, by simp [h], fun t u hu => ?_⟩
        have ht : t < (n - j) * K := by
          have := (List.getElem?_eq_some_iff.1 hu).1
          rwa [hlen] at this
        rw [hget t ht] at hu
        rw [Go.Proofs.Ythnkioafikmmaaa.Ev.add_lit, Go.Proofs.Ythnkioafikmmaaa.Ev.cell_lit hb2]
        exact hu
    have s1 : Hid (news.length = (n - j) * K) := hlen
    have s2 : Hid (∀ u ∈ news, u.oneCell' = true) := by
      intro u hu
      obtain ⟨t, ht⟩ := List.getElem?_of_mem hu
      have htl : t < (n - j) * K := by
        have := (List.getElem?_eq_some_iff.1 ht).1
        rwa [hlen] at this
      rw [hget t htl] at ht
      obtain ⟨v, v1, v2⟩ := hone (j * K + t) (by omega)
      rw [ht] at v1
      cases v1
      exact v2
    have there : ∀ (W : World) (cs1 : Array Value), W.heap[b]? = some (.cells cs1 e (0, 0)) → cs1.size = cs.size → ∀ k, k < n * K → (W.cell? ⟨b, 0 + k, none⟩).isSome = true ∧ W.frozen? ⟨b, 0 + k, none⟩ = false := by
      intro W cs1 h1 h2 k hk
      refine ⟨?_, by simp [World.frozen?, h1]⟩
      rw [Go.Proofs.Ythnkioafikmmaaa.Ev.cell_lit h1, Nat.zero_add, Array.getElem?_eq_getElem (by omega)]
      rfl
    have s3 : Hid (∀ t, t < news.length → (w.drew.cell? ⟨b, 0 + i * K + t, none⟩).isSome = true ∧ w.drew.frozen? ⟨b, 0 + i * K + t, none⟩ = false) := by
      intro t ht
      rw [hlen] at ht
      rw [Nat.add_assoc]
      exact there w.drew cs hb2 rfl (i * K + t) (by omega)
    obtain ⟨W1, hW1⟩ : ∃ W1, W1 = w.drew.setCells b (0 + i * K) news := ⟨_, rfl⟩
    obtain ⟨cs1, p1, p2, p3, p4⟩ := setCells_at news (0 + i * K) w.drew cs hb2
    obtain ⟨f1, f2, f3, f4, f5⟩ := setCells_fr (b := b) news (0 + i * K) w.drew
    rw [← hW1] at p1 f1 f2 f3 f4 f5
    have hrest : (i + (n - j)) * K + (n - (i + (n - j))) * K = n * K := by rw [← Nat.add_mul]; congr 1; omega
    obtain ⟨zs, hzs2⟩ : ∃ zs, zs = (Builtin.zeroCells z.cells (n - (i + (n - j)))).toList := ⟨_, rfl⟩
    have hcl : ∀ ty, (Builtin.clear_ #[ρ.t 22] ty #[.slice (some ⟨b, (i + (n - j)) * K, none⟩) (n - (i + (n - j))) (cap - (i + (n - j)))]).run P W1 = .ok (.tuple #[]) (W1.setCells b ((i + (n - j)) * K) zs) :=
      fun ty => hzs2 ▸ clear_K W1 (ρ.t 22) (ρ.t 23) ty z K t22 v23 hzs hz1 b ((i + (n - j)) * K) (n - (i + (n - j))) (cap - (i + (n - j))) (by omega)
        (fun t ht => by have := (there W1 cs1 p1 p2 ((i + (n - j)) * K + t) (by omega)).1; rwa [Nat.zero_add] at this) (fun t ht => by have := (there W1 cs1 p1 p2 ((i + (n - j)) * K + t) (by omega)).2; rwa [Nat.zero_add] at this)
    have fin : Hid (∀ zs : List Value, FrN (fun x => x = b ∨ w.heap.size ≤ x) w (W1.setCells b ((i + (n - j)) * K) zs) ∧
        ∃ cs', (W1.setCells b ((i + (n - j)) * K) zs).heap[b]? = some (.cells cs' e (0, 0)) ∧ cs'.size = cs.size ∧ ∀ k, k < (n - (j - i)) * K → cs'[k]? = cs[if k < i * K then k else k + (j - i) * K]?) := by
      intro zs
      obtain ⟨g1, g2, g3, g4, g5⟩ := setCells_fr (b := b) zs ((i + (n - j)) * K) W1
      obtain ⟨cs2, q1, q2, q3, q4⟩ := setCells_at zs ((i + (n - j)) * K) W1 cs1 p1
      have en : n - (j - i) = i + (n - j) := by omega
      refine ⟨⟨g1.trans f1, g2.trans f2, g3.trans f3, by rw [g4, f4]; exact Nat.le_refl _, fun x hx hn => ?_⟩, cs2, q1, q2.trans p2, fun k hk => ?_⟩
      · have hxb : x ≠ b := fun q => hn (.inl q)
        rw [g5 x hxb, f5 x hxb]
        rfl
      · rw [en] at hk
        rw [q3 k (by omega)]
        by_cases hki : k < i * K
        · rw [if_pos hki, p3 k (by omega)]
        · rw [if_neg hki]
          have e1 : (i + (n - j)) * K = i * K + (n - j) * K := Nat.add_mul _ _ _
          have hk2 : k - i * K < (n - j) * K := by omega
          have h4 := p4 (k - i * K) (by rw [hlen]; exact hk2) (by omega)
          rw [show 0 + i * K + (k - i * K) = k by omega, hget _ hk2] at h4
          rw [h4]
          congr 1
          have e2 : j * K = i * K + (j - i) * K := by rw [← Nat.add_mul]; congr 1; omega
          omega
    have hW : Hid (W1 = w.drew.setCells b (0 + i * K) news) := hW1
    have hic : i ≤ cap := by omega
    have hjc : j ≤ cap := by omega
    clear hW1 hget hnews hlen p1 p2 p3 p4 f1 f2 f3 f4 f5 there hone hb hb2 hzs2
    obtain ⟨_, _, FG⟩ := L.f45
    go_enter FG, SlBodyN.n45_ntmps ρ
    go_wp2_with fail
    go_region_law_o (refine step_append_room rfl (.tmp 22) (.tmp 25) (ρ.t 22) rfl (ρ.t 23) i0 K t22 hi0 hzi b 0 i cap (by simp [Act.eval, Act.put]) A (n - j) (cap - j) news (by simp [Act.eval, Act.put]) s1.out hsrc.out s2.out (by omega) s3.out ?_; rw [← hW.out])
    go_wp2
    go_ret
    exact ⟨by rw [show n - (j - i) = i + (n - j) by omega]; rfl, fin.out zs⟩
end
/-- what is known of an element's type: so many cells, and a zero value -/
structure ElK (P : Program) (t : TypeId) (K : Nat) : Prop where
  pos : 0 < K
  zero : ∃ z : Value, (∀ w, (zeroValue t).run P w = .ok z w) ∧ z.cells.size = K ∧ ∀ v ∈ z.cells.toList, v.oneCell' = true
  size : ∀ w, (Go.sizeOf t).run P w = .ok K w
  info : ∃ i0 : TypeInfo, P.info? t = some i0 ∧ i0.size = K
def pDelete (K : Nat) : List LV → Option (LV × List LV)
  | [.ow e k rows, .sc (.int .i64 i), .sc (.int .i64 j)] => if k = K ∧ 0 ≤ i ∧ i ≤ j ∧ j ≤ rows.length ∧ known rows = true then some (.ow e K (rows.take i.toNat ++ rows.drop j.toNat), [.un]) else none
  | _ => none
theorem pDelete_eq {K e : Nat} {rows : List (List Cell)} {i j : Nat} (h1 : i ≤ j) (h2 : j ≤ rows.length) (hk : known rows = true) : pDelete K [.ow e K rows, .sc (.int .i64 i), .sc (.int .i64 j)] = some (.ow e K (rows.take i ++ rows.drop j), [.un]) := by
  simp only [pDelete]
  rw [if_pos ⟨trivial, by omega, by omega, by omega, hk⟩]
  simp
section
variable {T : Tab} {P : Program} {ρ : Ren}
theorem pDelete_ok (L : SlLaysE0.n45 P ρ) {K : Nat} (hE : ElK P (ρ.t 23) K) {ys ys' : List LV} {r : LV} (h : pDelete K ys = some (r, ys')) : small r = true ∧ ContractM T P (ρ.f 45) ys r := by
  unfold pDelete at h
  split at h
  case h_2 => cases h
  rename_i e k rows i j
  split at h
  case isFalse => cases h
  rename_i hc
  obtain ⟨rfl, h0, h1, h2, hk⟩ := hc
  cases h
  obtain ⟨i, rfl⟩ := Int.eq_ofNat_of_zero_le h0
  obtain ⟨j, rfl⟩ := Int.eq_ofNat_of_zero_le (show (0 : Int) ≤ j by omega)
  simp only [Int.toNat_natCast] at *
  have h1 : i ≤ j := by omega
  have h2 : j ≤ rows.length := by omega
  refine ⟨rfl, prim_perm (n := rows.length - (j - i)) (xs := [.int .i64 i, .int .i64 j]) (fun r => if r < i then r else r + (j - i)) (by simp; omega) (by omega) (fun r hr => ?_) (fun r s _ _ q => ?_) hk fun w b cap cs c1 c2 c3 c4 c5 => ?_⟩
  · by_cases hri : r < i
    · rw [if_pos hri, List.getElem?_append_left (by simp; omega), List.getElem?_take, if_pos hri]
    · rw [if_neg hri, List.getElem?_append_right (by simp; omega), List.getElem?_drop]
      congr 1
      simp
      omega
  · have q : (if r < i then r else r + (j - i)) = (if s < i then s else s + (j - i)) := q
    split at q <;> split at q <;> omega
  · obtain ⟨z, z1, z2, z3⟩ := hE.zero
    obtain ⟨i0, q1, q2⟩ := hE.info
    have hmx : maxLen = 9223372036854775807 := by decide
    have key := del_K L k z z1 z2 z3 hE.size i0 q1 q2 b cap i j rows.length cs e w c1 c2 c3 (by omega) (fun x hx => by
      have hd := Nat.div_add_mod x k
      have hm := Nat.mod_lt x hE.pos
      have hq : x / k < rows.length := (Nat.div_lt_iff_lt_mul hE.pos).2 hx
      have := c5 (x / k) (x % k) hq hm
      rwa [Nat.mul_comm, hd] at this) h1 h2
    refine Calls.mono key fun en w' => ?_
    rintro ⟨rfl, hf, cs', d1, d2, d3⟩
    refine ⟨rfl, hf, cs', d1, d2, fun r c hr hc => ?_⟩
    have hlt : r * k + c < (rows.length - (j - i)) * k := by
      have := Nat.mul_le_mul_right k (show r + 1 ≤ rows.length - (j - i) by omega)
      rw [Nat.add_mul, Nat.one_mul] at this
      omega
    rw [d3 _ hlt]
    by_cases hri : r < i
    · have : r * k + c < i * k := by
        have := Nat.mul_le_mul_right k (show r + 1 ≤ i by omega)
        rw [Nat.add_mul, Nat.one_mul] at this
        omega
      rw [if_pos this, if_pos hri]
    · have : ¬ r * k + c < i * k := by
        have := Nat.mul_le_mul_right k (show i ≤ r by omega)
        omega
      rw [if_neg this, if_neg hri, Nat.add_mul]
      congr 1
      omega
end
end Go.Proofs.Ythnkioafikmmaaa.Ev
