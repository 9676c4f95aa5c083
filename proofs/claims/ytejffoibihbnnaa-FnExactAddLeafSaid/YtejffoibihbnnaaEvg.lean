/- slices.Insert at elements of any number of cells: how it meets the simpler machine: two own slices are given away, one is handed back. -/
import Derived.Test.YtejffoibihbnnaaEvf
namespace Go.Proofs.Ytejffoibihbnnaa.Ev
set_option linter.unusedVariables false
set_option linter.unusedSimpArgs false
open Go Go.Shelf Go.RowKit Go.Proofs

section
variable {T : Tab} {P : Program} {S N : Nat → Prop} {G : Gh} {w : World}
/-- what a call with two own slices, and a scalar between them, is given -/
theorem given2 {e K e2 : Nat} {rows vrows : List (List Cell)} {x : Value} {m0 : Mem} {vals : Array Value} (ha : adds noMem (openV mk0 (.tu [.ow e K rows, .sc x, .ow e2 K vrows])).2 = some m0) (hinv : Inv S N G m0 w)
    (hR : R G S m0 w (openV mk0 (.tu [.ow e K rows, .sc x, .ow e2 K vrows])).1 (.tuple vals)) :
    m0 = updM (updM noMem (mk0 0) (some (.arr e K rows))) (mk0 200) (some (.arr e2 K vrows)) ∧ vals = #[.slice (some ⟨G.blk (mk0 0), 0, none⟩) rows.length (G.cap (mk0 0)), x, .slice (some ⟨G.blk (mk0 200), 0, none⟩) vrows.length (G.cap (mk0 200))] := by
  have ha : adds noMem [(mk0 0, Thing.arr e K rows), (mk0 200, Thing.arr e2 K vrows)] = some m0 := ha
  have hR : R G S m0 w (.tu [.rf (mk0 0) none 0 rows.length, .sc x, .rf (mk0 200) none 0 vrows.length]) (.tuple vals) := hR
  have hne : mk0 200 ≠ mk0 0 := fun q => by cases q
  have e0 : (noMem : Mem) (mk0 0) = none := rfl
  have e1 : updM noMem (mk0 0) (some (Thing.arr e K rows)) (mk0 200) = none := by rw [updM_ne hne]; rfl
  simp only [adds, e0, e1, Option.some.injEq] at ha
  refine ⟨ha.symm, ?_⟩
  subst ha
  have l0 : updM (updM noMem (mk0 0) (some (.arr e K rows))) (mk0 200) (some (Thing.arr e2 K vrows)) (mk0 0) = some (.arr e K rows) := by rw [updM_ne hne.symm, updM_eq]
  have l2 : updM (updM noMem (mk0 0) (some (.arr e K rows))) (mk0 200) (some (Thing.arr e2 K vrows)) (mk0 200) = some (.arr e2 K vrows) := updM_eq
  obtain ⟨us, hus, hsz, hrl⟩ := hR
  cases hus
  obtain ⟨u0, p0, q0⟩ := hrl 0 _ rfl
  obtain ⟨u1, p1, q1⟩ := hrl 1 _ rfl
  obtain ⟨u2, p2, q2⟩ := hrl 2 _ rfl
  simp only [R1, R0, look, l0] at q0
  simp only [R1, R0, look, l2] at q2
  obtain ⟨A, c, rfl, _, r1, r2⟩ := q0
  obtain ⟨B, d, rfl, _, s1, s2⟩ := q2
  have r1 : 0 + c = G.cap (mk0 0) := r1
  have s1 : 0 + d = G.cap (mk0 200) := s1
  rw [Nat.zero_add] at r1 s1
  have r3 := r2 (.inr trivial)
  have s3 := s2 (.inr trivial)
  simp only [Gh.blkOf, Nat.zero_mul] at r3 s3
  have : u1 = x := q1.1
  subst this
  rw [r3, r1] at p0
  rw [s3, s1] at p2
  apply Array.ext'
  apply List.ext_getElem?
  intro k
  rw [Array.getElem?_toList]
  match k with
  | 0 => rw [p0]; rfl
  | 1 => rw [p1]; rfl
  | 2 => rw [p2]; rfl
  | k + 3 =>
    have hs : vals.size = 3 := hsz
    rw [Array.getElem?_eq_none (by omega)]
    rfl
/-- rows of two slices that are given come back in one -/
theorem prim_ins {f e K n e2 : Nat} {rows vrows rows' : List (List Cell)} {x : Value} (p : Nat → Bool × Nat) (hl : rows'.length = n) (hK : 0 < K) (hp : ∀ r, r < n → rows'[r]? = (if (p r).1 = true then vrows else rows)[(p r).2]?)
    (hi : ∀ r s, r < n → s < n → p r = p s → r = s) (hk : known rows = true) (hkv : known vrows = true)
    (H : ∀ (w : World) (b cap vb vcap : Nat) (cs us : Array Value), w.heap[b]? = some (.cells cs e (0, 0)) → cs.size = cap * K → rows.length ≤ cap → cap ≤ maxLen → w.heap[vb]? = some (.cells us e2 (0, 0)) → us.size = vcap * K → vrows.length ≤ vcap → vb ≠ b →
      (∀ k, k < rows.length * K → ∃ u, cs[k]? = some u ∧ u.oneCell' = true) → (∀ k, k < vrows.length * K → ∃ u, us[k]? = some u ∧ u.oneCell' = true) →
      Calls P f #[.slice (some ⟨b, 0, none⟩) rows.length cap, x, .slice (some ⟨vb, 0, none⟩) vrows.length vcap] w fun en w' => ∃ b' cap', en = .returned (.slice (some ⟨b', 0, none⟩) n cap') ∧ (b' = b ∨ b' = w.heap.size) ∧ FrN (fun x => x = b ∨ w.heap.size ≤ x) w w' ∧ n ≤ cap' ∧ cap' ≤ maxLen ∧
        ∃ cs' : Array Value, w'.heap[b']? = some (.cells cs' e (0, 0)) ∧ cs'.size = cap' * K ∧ ∀ (r c : Nat), r < n → c < K → cs'[r * K + c]? = (if (p r).1 = true then us else cs)[(p r).2 * K + c]?) :
    ContractM T P f [.ow e K rows, .sc x, .ow e2 K vrows] (.ow e K rows') := by
  intro S N w vals G m0 ha hinv hR _ hnew hSN _
  obtain ⟨hm0, rfl⟩ := given2 ha hinv hR
  have hne : mk0 200 ≠ mk0 0 := fun q => by cases q
  have l0 : m0 (mk0 0) = some (.arr e K rows) := by rw [hm0, updM_ne hne.symm, updM_eq]
  have l2 : m0 (mk0 200) = some (.arr e2 K vrows) := by rw [hm0]; exact updM_eq
  clear hm0 ha hR
  have lr0 : live m0 (.root (mk0 0)) := .inr ⟨e, K, _, l0⟩
  have lr2 : live m0 (.root (mk0 200)) := .inr ⟨e2, K, _, l2⟩
  have sep0 := hinv.sep _ lr0
  obtain ⟨cs, c1, c2, c3, c4, c5⟩ := hinv.arr (mk0 0) e K _ l0
  obtain ⟨us, v1, v2, v3, v4, v5⟩ := hinv.arr (mk0 200) e2 K _ l2
  have hvb : G.blk (mk0 200) ≠ G.blk (mk0 0) := fun q => by
    have := hinv.inj _ _ lr2 lr0 q
    cases this
  have one : ∀ (i : Id) (rs : List (List Cell)) (cc : Array Value), known rs = true → (∀ (r : Nat) (row : List Cell), rs[r]? = some row → row.length = K ∧ ∀ (c : Nat) (y : Cell), row[c]? = some y → ∃ u, cc[r * K + c]? = some u ∧ OwC G S w i r c y u) → ∀ k, k < rs.length * K → ∃ u, cc[k]? = some u ∧ u.oneCell' = true := by
    intro i rs cc hkn hh k hk'
    have hd := Nat.div_add_mod k K
    have hmd := Nat.mod_lt k hK
    have hq : k / K < rs.length := (Nat.div_lt_iff_lt_mul hK).2 hk'
    obtain ⟨row, hrow⟩ : ∃ row, rs[k / K]? = some row := ⟨rs[k / K], List.getElem?_eq_getElem hq⟩
    obtain ⟨q1, q2⟩ := hh _ row hrow
    obtain ⟨y, hy⟩ : ∃ y, row[k % K]? = some y := ⟨row[k % K]'(by omega), List.getElem?_eq_getElem (by omega)⟩
    obtain ⟨u, u1, u2⟩ := q2 _ y hy
    refine ⟨u, by rwa [Nat.mul_comm, hd] at u1, u2.one fun e0 => ?_⟩
    have := List.all_eq_true.1 (List.all_eq_true.1 hkn row (List.mem_of_getElem? hrow)) y (List.mem_of_getElem? hy)
    rw [e0] at this
    cases this
  refine Calls.mono (H w _ _ _ _ cs us c1 c2 c3 c4 v1 v2 v3 hvb (one _ _ _ hk c5) (one _ _ _ hkv v5)) fun en w' => ?_
  rintro ⟨b', cap', rfl, hb', hfr, hn', hcm, cs2, d1, d2, d3⟩
  have hfrN : FrN N w w' := ⟨hfr.os, hfr.tape, hfr.output, hfr.size, fun b hb hn => hfr.block b hb fun q => by
    rcases q with rfl | q
    · exact hn sep0.2
    · exact hn (hnew b q)⟩
  have hblk : ∀ x, x < w.heap.size → x ≠ G.blk (mk0 0) → w'.heap[x]? = w.heap[x]? := fun x hx hne => hfr.block x hx fun q => by
    rcases q with q | q
    · exact hne q
    · omega
  have hS : ∀ x, S x → w'.heap[x]? = w.heap[x]? := fun x hx => hblk x (hinv.old x hx) fun q => by subst q; exact sep0.1 hx
  have hbsep : ¬ S b' ∧ N b' := by
    rcases hb' with rfl | rfl
    · exact sep0
    · exact ⟨fun q => Nat.lt_irrefl _ (hinv.old _ q), hnew _ (Nat.le_refl _)⟩
  -- the old place of a row
  obtain ⟨J, hJ⟩ : ∃ J : Nat → Id, ∀ r, J r = if (p r).1 = true then mk0 200 else mk0 0 := ⟨_, fun _ => rfl⟩
  have row5 : ∀ (r : Nat) (row : List Cell), r < n → rows'[r]? = some row → row.length = K ∧ ∀ (c : Nat) (y : Cell), row[c]? = some y → ∃ u, (if (p r).1 = true then us else cs)[(p r).2 * K + c]? = some u ∧ OwC G S w (J r) (p r).2 c y u := by
    intro r row hr hrow
    rw [hp r hr] at hrow
    rw [hJ]
    by_cases hq : (p r).1 = true
    · simp only [if_pos hq] at hrow ⊢; exact v5 _ row hrow
    · simp only [if_neg hq] at hrow ⊢; exact c5 _ row hrow
  have lch : ∀ (r c : Nat) (row : List Cell) (e' st' : Nat) (l : List (List Value)), r < n → rows'[r]? = some row → row[c]? = some (.sl true e' st' l) → live m0 (.chld (J r) (p r).2 c) := fun r c row e' st' l hr h1 h2 => by
    rw [hp r hr] at h1
    rw [hJ]
    by_cases hq : (p r).1 = true
    · rw [if_pos hq] at h1 ⊢; exact ⟨e2, K, _, row, e', st', l, l2, h1, h2⟩
    · rw [if_neg hq] at h1 ⊢; exact ⟨e, K, _, row, e', st', l, l0, h1, h2⟩
  have chb : ∀ {q : Res}, live m0 q → (∀ i, q ≠ .root i) → ∀ a r c, q = .chld a r c → G.cblk a r c ≠ b' := by
    rintro q hq - a r c rfl h
    rcases hb' with rfl | rfl
    · have := hinv.inj _ _ hq lr0 h
      cases this
    · have := hinv.lt hq
      have h' : G.cblk a r c < w.heap.size := this
      omega
  refine ⟨_, rfl, hfrN, fun mk _ => ?_⟩
  have back : ∀ q, live (updM noMem (mk 0) (some (Thing.arr e K rows'))) q → (q = .root (mk 0)) ∨ ∃ r c row e' st' l, q = .chld (mk 0) r c ∧ r < n ∧ rows'[r]? = some row ∧ row[c]? = some (.sl true e' st' l) := by
    intro q hq
    cases q with
    | root j =>
      by_cases hj : j = mk 0
      · exact .inl (by rw [hj])
      · rcases hq with ⟨_, z⟩ | ⟨_, _, _, z⟩ <;> (rw [updM_ne hj] at z; cases z)
    | chld j r c =>
      obtain ⟨e1, n1, R1, row, e2, n2, l, q1, q2, q3⟩ := hq
      by_cases hj : j = mk 0
      · subst hj
        rw [updM_eq] at q1
        cases q1
        have hr : r < n := by have := (List.getElem?_eq_some_iff.1 q2).1; omega
        exact .inr ⟨r, c, row, e2, n2, l, rfl, hr, q2, q3⟩
      · rw [updM_ne hj] at q1; cases q1
  refine ⟨⟨fun _ => b', fun _ => cap', fun _ r c => G.cblk (J r) (p r).2 c, fun _ r c => G.ccap (J r) (p r).2 c⟩, _, rfl, ⟨fun j e' st' R1 hj => ?_, fun j cells hj => ?_, fun q1 q2 h1 h2 he => ?_, fun q hq => ?_, fun x hx => Nat.lt_of_lt_of_le (hinv.old x hx) hfr.size⟩, ?_, ?_⟩
  · by_cases e0 : j = mk 0
    · subst e0
      rw [updM_eq] at hj
      cases hj
      refine ⟨cs2, d1, d2, (by show rows'.length ≤ cap'; omega), hcm, fun r row hr => ?_⟩
      have hrn : r < n := by have := (List.getElem?_eq_some_iff.1 hr).1; omega
      obtain ⟨k1, k2⟩ := row5 _ row hrn hr
      refine ⟨k1, fun c y hy => ?_⟩
      obtain ⟨u, u1, u2⟩ := k2 c y hy
      have hc : c < K := by have := (List.getElem?_eq_some_iff.1 hy).1; omega
      refine ⟨u, by rw [d3 r c hrn hc]; exact u1, u2.move ⟨rfl, rfl⟩ hS fun e1 s1 l hl => ?_⟩
      subst hl
      have hlv := lch _ _ _ _ _ _ hrn hr hy
      refine hblk _ (hinv.lt hlv) fun q => ?_
      have := hinv.inj _ _ hlv lr0 q
      cases this
    · rw [updM_ne e0] at hj; cases hj
  · by_cases e0 : j = mk 0
    · subst e0; rw [updM_eq] at hj; cases hj
    · rw [updM_ne e0] at hj; cases hj
  · rcases back q1 h1 with rfl | ⟨r1, c1', row1, a1, b1, l1, rfl, hr1, x1, y1⟩ <;> rcases back q2 h2 with rfl | ⟨r2, c2', row2, a2, b2, l2, rfl, hr2, x2, y2⟩
    · rfl
    · exact absurd he.symm (chb (lch _ _ _ _ _ _ hr2 x2 y2) (fun i q => by cases q) _ _ _ rfl)
    · exact absurd he (chb (lch _ _ _ _ _ _ hr1 x1 y1) (fun i q => by cases q) _ _ _ rfl)
    · have := hinv.inj _ _ (lch _ _ _ _ _ _ hr1 x1 y1) (lch _ _ _ _ _ _ hr2 x2 y2) he
      simp only [Res.chld.injEq] at this
      obtain ⟨t1, t2, t3⟩ := this
      have hpp : p r1 = p r2 := by
        rw [hJ, hJ] at t1
        refine Prod.ext ?_ t2
        by_cases ha : (p r1).1 = true <;> by_cases hb : (p r2).1 = true
        · rw [ha, hb]
        · rw [if_pos ha, if_neg hb] at t1; exact absurd t1 hne
        · rw [if_neg ha, if_pos hb] at t1; exact absurd t1.symm hne
        · rw [Bool.not_eq_true] at ha hb; rw [ha, hb]
      rw [hi r1 r2 hr1 hr2 hpp, t3]
  · rcases back q hq with rfl | ⟨r1, c1', row1, a1, b1, l1, rfl, hr1, x1, y1⟩
    · exact hbsep
    · exact hinv.sep _ (lch _ _ _ _ _ _ hr1 x1 y1)
  · show R0 _ S _ w' (.rf (mk 0) none 0 rows'.length) _
    simp only [R0, look, updM_eq]
    refine ⟨⟨b', 0, none⟩, cap', by rw [hl], by omega, by simp [Gh.capOf], fun _ => by simp [Gh.blkOf]⟩
  · show updM noMem (mk 0) _ (mk 0) ≠ none
    rw [updM_eq]; simp
end
theorem ElI.of {P : Program} {t : TypeId} {K : Nat} (hp : 0 < K) (hs : ∀ w, (Go.sizeOf t).run P w = .ok K w) (h : ((P.info? t).bind fun i => i.zero.map fun z => decide (i.size = K) && decide (z.cells.size = K) && decide (i.bytes ≤ 1000000)) = some true) : ElI P t K := by
  refine ⟨hp, hs, ?_⟩
  cases hi : P.info? t with
  | none => rw [hi] at h; cases h
  | some i =>
    rw [hi] at h
    cases hz : i.zero with
    | none => simp [hz] at h
    | some z =>
      simp only [Option.bind_some, hz, Option.map_some, Option.some.injEq, Bool.and_eq_true, decide_eq_true_eq] at h
      exact ⟨i, z, rfl, h.1.1, hz, h.1.2, h.2⟩
def pInsert (E K : Nat) : List LV → Option (LV × List LV)
  | [.ow e k rows, .sc (.int .i64 i), .ow _ k2 vrows] => if e = E ∧ k = K ∧ k2 = K ∧ 0 ≤ i ∧ i ≤ rows.length ∧ 0 < vrows.length ∧ rows.length + vrows.length ≤ 1000000 ∧ known rows = true ∧ known vrows = true then some (.ow E K (rows.take i.toNat ++ (vrows ++ rows.drop i.toNat)), [.un]) else none
  | _ => none
theorem pInsert_eq {E K e2 : Nat} {rows vrows : List (List Cell)} {i : Nat} (h1 : i ≤ rows.length) (h2 : 0 < vrows.length) (h3 : rows.length + vrows.length ≤ 1000000) (hk : known rows = true) (hv : known vrows = true) :
    pInsert E K [.ow E K rows, .sc (.int .i64 i), .ow e2 K vrows] = some (.ow E K (rows.take i ++ (vrows ++ rows.drop i)), [.un]) := by
  simp only [pInsert]
  rw [if_pos ⟨trivial, trivial, trivial, by omega, by omega, h2, h3, hk, hv⟩]
  simp
section
variable {T : Tab} {P : Program} {ρ : Ren}
theorem pInsert_ok (L : InsK P ρ) {K : Nat} (hE : ElI P (ρ.t 9) K) {ys ys' : List LV} {r : LV} (h : pInsert (ρ.t 9) K ys = some (r, ys')) : small r = true ∧ ContractM T P (ρ.f 22) ys r := by
  unfold pInsert at h
  split at h
  case h_2 => cases h
  rename_i e k rows i e2 k2 vrows
  split at h
  case isFalse => cases h
  rename_i hc
  obtain ⟨rfl, rfl, rfl, h0, h1, h2, h3, hk, hkv⟩ := hc
  cases h
  obtain ⟨i, rfl⟩ := Int.eq_ofNat_of_zero_le h0
  simp only [Int.toNat_natCast] at *
  have h1 : i ≤ rows.length := by omega
  refine ⟨rfl, prim_ins (n := rows.length + vrows.length) (fun r => if r < i then (false, r) else if r < i + vrows.length then (true, r - i) else (false, r - vrows.length)) (by simp; omega) hE.pos (fun r hr => ?_) (fun r s _ _ q => ?_) hk hkv fun w b cap vb vcap cs us c1 c2 c3 c4 v1 v2 v3 hvb one1 one2 => ?_⟩
  · by_cases a : r < i
    · simp only [if_pos a]
      rw [List.getElem?_append_left (by simp; omega), List.getElem?_take, if_pos a]
      rfl
    · simp only [if_neg a]
      rw [List.getElem?_append_right (by simp; omega)]
      have hlt : (rows.take i).length = i := by simp; omega
      rw [hlt]
      by_cases b : r < i + vrows.length
      · simp only [if_pos b]
        rw [List.getElem?_append_left (by omega)]
        rfl
      · simp only [if_neg b]
        rw [List.getElem?_append_right (by omega), List.getElem?_drop, show i + (r - i - vrows.length) = r - vrows.length by omega]
        rfl
  · have q : (if r < i then (false, r) else if r < i + vrows.length then (true, r - i) else (false, r - vrows.length)) = (if s < i then (false, s) else if s < i + vrows.length then (true, s - i) else (false, s - vrows.length)) := q
    split at q <;> split at q <;> (try split at q) <;> (try split at q) <;> simp only [Prod.mk.injEq] at q <;> first | omega | (exact absurd q.1 (by decide))
  · refine Calls.mono (ins_K L hE b cap i vb vcap rows.length vrows.length cs us e2 w c1 c2 c3 c4 v1 v2 v3 hvb h1 h2 h3 one1 one2) fun en w' => ?_
    rintro ⟨b', cap', rfl, hb', hfr, g1, g2, cs', d1, d2, d3, d4, d5⟩
    refine ⟨b', cap', rfl, hb', hfr, g1, g2, cs', d1, d2, fun r c hr hc => ?_⟩
    by_cases a : r < i
    · simp only [if_pos a]
      have := Nat.mul_le_mul_right k2 (show r + 1 ≤ i by omega)
      rw [Nat.add_mul, Nat.one_mul] at this
      rw [d3 _ (by omega)]
      rfl
    · simp only [if_neg a]
      by_cases b : r < i + vrows.length
      · simp only [if_pos b]
        obtain ⟨t, rfl⟩ : ∃ t, r = i + t := ⟨r - i, by omega⟩
        have := Nat.mul_le_mul_right k2 (show t + 1 ≤ vrows.length by omega)
        rw [Nat.add_mul, Nat.one_mul] at this
        rw [Nat.add_mul, Nat.add_assoc, d4 _ (by omega), Nat.add_sub_cancel_left]
        rfl
      · simp only [if_neg b]
        obtain ⟨t, rfl⟩ : ∃ t, r = i + vrows.length + t := ⟨r - (i + vrows.length), by omega⟩
        have := Nat.mul_le_mul_right k2 (show t + 1 ≤ rows.length - i by omega)
        rw [Nat.add_mul, Nat.one_mul] at this
        rw [show i + vrows.length + t - vrows.length = i + t by omega, Nat.add_mul, Nat.add_assoc, d5 _ (by omega), Nat.add_mul, Nat.add_assoc]
        rfl
end
end Go.Proofs.Ytejffoibihbnnaa.Ev
