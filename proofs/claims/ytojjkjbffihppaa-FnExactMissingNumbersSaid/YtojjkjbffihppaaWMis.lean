/- The numbers that a flitch lacks; the row MissingNumbers; no conditions. -/
import Derived.Test.YtojjkjbffihppaaWFlo
namespace Go.Proofs.Ytojjkjbffihppaa.walkS
open Go Go.Proofs.Ytojjkjbffihppaa.Ev
set_option linter.unusedSimpArgs false
set_option linter.unusedVariables false
def rng : Int → Nat → List Int
  | _, 0 => []
  | k, n + 1 => k :: rng (k + 1) n
theorem rng_len : ∀ (n : Nat) (k : Int), (rng k n).length = n := by
  intro n
  induction n with
  | zero => intro k; rfl
  | succ n ih => intro k; simp [rng, ih]
def gap (key : Int → Int) (a b : Int) : List Int := rng (key a + 1) (key b - (key a + 1)).toNat
def miss (key : Int → Int) : List Int → List Int
  | a :: b :: r => gap key a b ++ miss key (b :: r)
  | _ => []
theorem l61_2 (d : Nat) (l : List Lf) (A : List Int) (hAb : A.length ≤ 16) (j : Nat) (y : Int) (hy : A[j + 1]? = some y) (y0 : 0 ≤ y) (M : Lf) (hM : l[y.toNat]? = some M) (hm : M.num ≤ 999) : ∀ (n : Nat) (k : Int) (acc r : List Int), (M.num - k).toNat = n → 0 ≤ k → acc ++ rng k n = r → acc.length + n ≤ 100000 →
    clC [0, 6, 8, 9] [4, 5] (blk 2 (lp (evC (ev d) b61_2) (clean [0, 6, 8, 9, 10]) ⟨lookS [(0, .ro 9 (l.map lS)), (6, .rf (.sl 6) none 0 A.length), (8, .rf (.sl 8) none 0 acc.length), (9, I ((j : Int) + 1)), (10, I k)], lookM [((.sl 6), some (.arr 2 1 (A.map iC))), ((.sl 8), some (.arr 2 1 (acc.map iC)))]⟩)) =
      some (.nm, ⟨lookS [(0, .ro 9 (l.map lS)), (6, .rf (.sl 6) none 0 A.length), (8, .rf (.sl 8) none 0 r.length), (9, I ((j : Int) + 1))], lookM [((.sl 6), some (.arr 2 1 (A.map iC))), ((.sl 8), some (.arr 2 1 (r.map iC)))]⟩) := by
  intro n
  induction n with
  | zero =>
    intro k acc r hk k0 hr hl
    have h0 : ¬ k < M.num := by omega
    have e : acc = r := by simpa [rng] using hr
    have hp : (0 : Int) ≤ (j : Int) + 1 := by omega
    have ht : ((j : Int) + 1).toNat = j + 1 := by omega
    have hj : (j : Int) + 1 < (A.length : Int) := by have := (List.getElem?_eq_some_iff.1 hy).1; omega
    subst e
    rw [lp_step]
    simp [h0, hy, hM, y0, hp, ht, hj]
  | succ n ih =>
    intro k acc r hk k0 hr hl
    have h0 : k < M.num := by omega
    have hp : (0 : Int) ≤ (j : Int) + 1 := by omega
    have ht : ((j : Int) + 1).toNat = j + 1 := by omega
    have hj : (j : Int) + 1 < (A.length : Int) := by have := (List.getElem?_eq_some_iff.1 hy).1; omega
    have hw : IntKind.i64.wrap (k + 1) = k + 1 := wrap_in (by omega)
    have hb2 : acc.length + 1 ≤ big := by simp only [big]; omega
    have ih' := ih (k + 1) (acc ++ [k]) r (by omega) (by omega) (by rw [List.append_assoc]; exact hr) (by simp; omega)
    simp at ih'
    rw [lp_step]
    simp [h0, hy, hM, y0, hp, ht, hj, hw, hb2, ih']
theorem l61 (d : Nat) (l : List Lf) (hn : Nums l) (A : List Int) (hAb : A.length ≤ 16) (hI : InL l A) : ∀ (n j : Nat) (acc r : List Int), n + (j + 1) = A.length → acc ++ miss (nmA l) (A.drop j) = r → acc.length ≤ 1000 * j →
    clC [8] [4, 5] (blk 0 (lp (evC (ev d) b61_1) (clean [0, 6, 8, 9]) ⟨lookS [(0, .ro 9 (l.map lS)), (6, .rf (.sl 6) none 0 A.length), (8, .rf (.sl 8) none 0 acc.length), (9, I ((j : Int) + 1))], lookM [((.sl 6), some (.arr 2 1 (A.map iC))), ((.sl 8), some (.arr 2 1 (acc.map iC)))]⟩)) =
      some (.nm, ⟨lookS [(8, .rf (.sl 8) none 0 r.length)], lookM [((.sl 8), some (.arr 2 1 (r.map iC)))]⟩) := by
  intro n
  induction n with
  | zero =>
    intro j acc r hi hr hl
    have h0 : ¬ (j : Int) + 1 < (A.length : Int) := by omega
    have e : acc = r := by
      obtain ⟨x, hx⟩ := get_lt (l := A) (i := j) (by omega)
      rw [drop_get hx, List.drop_eq_nil_of_le (by omega)] at hr
      simpa [miss] using hr
    subst e
    rw [lp_step]
    simp [h0]
  | succ n ih =>
    intro j acc r hi hr hl
    have h0 : (j : Int) + 1 < (A.length : Int) := by omega
    obtain ⟨x, hx⟩ := get_lt (l := A) (i := j) (by omega)
    obtain ⟨y, hy⟩ := get_lt (l := A) (i := j + 1) (by omega)
    obtain ⟨x0, L, hL⟩ := hI.get hx
    obtain ⟨y0, M, hM⟩ := hI.get hy
    have bL := nums_get hn hL
    have bM := nums_get hn hM
    have kx := nmA_get hL
    have ky := nmA_get hM
    have hw : IntKind.i64.wrap (L.num + 1) = L.num + 1 := wrap_in (by omega)
    have hj : IntKind.i64.wrap (j : Int) = (j : Int) := wrap_in (by omega)
    have hj2 : IntKind.i64.wrap ((j : Int) + 1 + 1) = (j : Int) + 1 + 1 := wrap_in (by omega)
    have e2 : ((j + 1 : Nat) : Int) + 1 = (j : Int) + 1 + 1 := by omega
    rw [drop_get hx, drop_get hy] at hr
    have eg : gap (nmA l) x y = rng (L.num + 1) (M.num - (L.num + 1)).toNat := by unfold gap; rw [kx, ky]
    simp only [miss, eg] at hr
    have inn := l61_2 d l A hAb j y hy y0 M hM bM.2 (M.num - (L.num + 1)).toNat (L.num + 1) acc _ rfl (by omega) rfl (by omega)
    have hgl : (rng (L.num + 1) (M.num - (L.num + 1)).toNat).length ≤ 1000 := by rw [rng_len]; omega
    generalize rng (L.num + 1) (M.num - (L.num + 1)).toNat = g at hr inn hgl
    have ih' := ih (j + 1) (acc ++ g) r (by omega) (by rw [List.append_assoc, drop_get hy]; exact hr) (by simp; omega)
    rw [e2] at ih'
    have l0 : (j : Int) < (A.length : Int) := by omega
    generalize acc ++ g = acc' at inn ih'
    try simp at inn
    try simp at ih'
    rw [lp_step]
    simp [h0, l0, hx, x0, hL, hw, hj, hj2, inn, ih']
theorem l62_2 (d : Nat) (l : List Lf) (A : List Int) (hAb : A.length ≤ 16) (j : Nat) (y : Int) (hy : A[j + 1]? = some y) (y0 : 0 ≤ y) (M : Lf) (hM : l[y.toNat]? = some M) (hm : M.num ≤ 999) : ∀ (n : Nat) (k : Int) (acc r : List Int), (M.num - k).toNat = n → 0 ≤ k → acc ++ rng k n = r → acc.length + n ≤ 100000 →
    clC [0, 6, 8, 9] [4, 5] (blk 2 (lp (evC (ev d) b62_2) (clean [0, 6, 8, 9, 10]) ⟨lookS [(0, .ro 9 (l.map lS)), (6, .rf (.sl 6) none 0 A.length), (8, .rf (.sl 8) none 0 acc.length), (9, I ((j : Int) + 1)), (10, I k)], lookM [((.sl 6), some (.arr 2 1 (A.map iC))), ((.sl 8), some (.arr 2 1 (acc.map iC)))]⟩)) =
      some (.nm, ⟨lookS [(0, .ro 9 (l.map lS)), (6, .rf (.sl 6) none 0 A.length), (8, .rf (.sl 8) none 0 r.length), (9, I ((j : Int) + 1))], lookM [((.sl 6), some (.arr 2 1 (A.map iC))), ((.sl 8), some (.arr 2 1 (r.map iC)))]⟩) := by
  intro n
  induction n with
  | zero =>
    intro k acc r hk k0 hr hl
    have h0 : ¬ k < M.num := by omega
    have e : acc = r := by simpa [rng] using hr
    have hp : (0 : Int) ≤ (j : Int) + 1 := by omega
    have ht : ((j : Int) + 1).toNat = j + 1 := by omega
    have hj : (j : Int) + 1 < (A.length : Int) := by have := (List.getElem?_eq_some_iff.1 hy).1; omega
    subst e
    rw [lp_step]
    simp [h0, hy, hM, y0, hp, ht, hj]
  | succ n ih =>
    intro k acc r hk k0 hr hl
    have h0 : k < M.num := by omega
    have hp : (0 : Int) ≤ (j : Int) + 1 := by omega
    have ht : ((j : Int) + 1).toNat = j + 1 := by omega
    have hj : (j : Int) + 1 < (A.length : Int) := by have := (List.getElem?_eq_some_iff.1 hy).1; omega
    have hw : IntKind.i64.wrap (k + 1) = k + 1 := wrap_in (by omega)
    have hb2 : acc.length + 1 ≤ big := by simp only [big]; omega
    have ih' := ih (k + 1) (acc ++ [k]) r (by omega) (by omega) (by rw [List.append_assoc]; exact hr) (by simp; omega)
    simp at ih'
    rw [lp_step]
    simp [h0, hy, hM, y0, hp, ht, hj, hw, hb2, ih']
theorem l62 (d : Nat) (l : List Lf) (hn : Nums l) (A : List Int) (hAb : A.length ≤ 16) (hI : InL l A) : ∀ (n j : Nat) (acc r : List Int), n + (j + 1) = A.length → acc ++ miss (nmA l) (A.drop j) = r → acc.length ≤ 1000 * j →
    clC [8] [4, 5] (blk 0 (lp (evC (ev d) b62_1) (clean [0, 6, 8, 9]) ⟨lookS [(0, .ro 9 (l.map lS)), (6, .rf (.sl 6) none 0 A.length), (8, .rf (.sl 8) none 0 acc.length), (9, I ((j : Int) + 1))], lookM [((.sl 6), some (.arr 2 1 (A.map iC))), ((.sl 8), some (.arr 2 1 (acc.map iC)))]⟩)) =
      some (.nm, ⟨lookS [(8, .rf (.sl 8) none 0 r.length)], lookM [((.sl 8), some (.arr 2 1 (r.map iC)))]⟩) := by
  intro n
  induction n with
  | zero =>
    intro j acc r hi hr hl
    have h0 : ¬ (j : Int) + 1 < (A.length : Int) := by omega
    have e : acc = r := by
      obtain ⟨x, hx⟩ := get_lt (l := A) (i := j) (by omega)
      rw [drop_get hx, List.drop_eq_nil_of_le (by omega)] at hr
      simpa [miss] using hr
    subst e
    rw [lp_step]
    simp [h0]
  | succ n ih =>
    intro j acc r hi hr hl
    have h0 : (j : Int) + 1 < (A.length : Int) := by omega
    obtain ⟨x, hx⟩ := get_lt (l := A) (i := j) (by omega)
    obtain ⟨y, hy⟩ := get_lt (l := A) (i := j + 1) (by omega)
    obtain ⟨x0, L, hL⟩ := hI.get hx
    obtain ⟨y0, M, hM⟩ := hI.get hy
    have bL := nums_get hn hL
    have bM := nums_get hn hM
    have kx := nmA_get hL
    have ky := nmA_get hM
    have hw : IntKind.i64.wrap (L.num + 1) = L.num + 1 := wrap_in (by omega)
    have hj : IntKind.i64.wrap (j : Int) = (j : Int) := wrap_in (by omega)
    have hj2 : IntKind.i64.wrap ((j : Int) + 1 + 1) = (j : Int) + 1 + 1 := wrap_in (by omega)
    have e2 : ((j + 1 : Nat) : Int) + 1 = (j : Int) + 1 + 1 := by omega
    rw [drop_get hx, drop_get hy] at hr
    have eg : gap (nmA l) x y = rng (L.num + 1) (M.num - (L.num + 1)).toNat := by unfold gap; rw [kx, ky]
    simp only [miss, eg] at hr
    have inn := l62_2 d l A hAb j y hy y0 M hM bM.2 (M.num - (L.num + 1)).toNat (L.num + 1) acc _ rfl (by omega) rfl (by omega)
    have hgl : (rng (L.num + 1) (M.num - (L.num + 1)).toNat).length ≤ 1000 := by rw [rng_len]; omega
    generalize rng (L.num + 1) (M.num - (L.num + 1)).toNat = g at hr inn hgl
    have ih' := ih (j + 1) (acc ++ g) r (by omega) (by rw [List.append_assoc, drop_get hy]; exact hr) (by simp; omega)
    rw [e2] at ih'
    have l0 : (j : Int) < (A.length : Int) := by omega
    generalize acc ++ g = acc' at inn ih'
    try simp at inn
    try simp at ih'
    rw [lp_step]
    simp [h0, l0, hx, x0, hL, hw, hj, hj2, inn, ih']
def misOf (l : List Lf) (s : ByteArray) : Option (List Int) × Int :=
  match (flOf l s).1 with
  | none => (none, (flOf l s).2)
  | some A => ifb (decide (64 < (miss (nmA l) A).length)) (none, 5) (some (miss (nmA l) A), 0)
theorem flOf_some {l : List Lf} {s : ByteArray} {A : List Int} (h : (flOf l s).1 = some A) : okLs l = true ∧ A = flA l s ∧ A ≠ [] ∧ (flOf l s).2 = 0 := by
  unfold flOf at h ⊢
  cases ho : okLs l
  · rw [ho] at h; cases h
  rw [ho] at h
  by_cases he : wh (isFl s) l 0 = []
  · simp [he] at h
  · simp [he] at h ⊢
    refine ⟨h.symm, fun e => he ?_⟩
    have := flA_len l s
    rw [h, e] at this
    exact List.length_eq_zero_iff.1 this.symm
theorem flOf_none {l : List Lf} {s : ByteArray} (h : (flOf l s).1 = none) : (flOf l s).2 ≠ 0 ∧ (okLs l = false → (flOf l s).2 = 1) := by
  unfold flOf at h ⊢
  cases ho : okLs l
  · exact ⟨by simp, fun _ => rfl⟩
  rw [ho] at h
  by_cases he : wh (isFl s) l 0 = []
  · simp [he]
  · simp [he] at h
theorem flA_le {l : List Lf} {s : ByteArray} (h : okLs l = true) : (flA l s).length ≤ 16 := by
  have := okLs_len h
  have h2 := wh_len (isFl s) l 0
  rw [flA_len]; omega
theorem r61 (d : Nat) (l : List Lf) (hb : l.length ≤ big) (hw : ∀ L ∈ l, BdL L) (s : ByteArray) : ev (d + 7) 61 [.ro 9 (l.map lS), T s] = some (.tu [oL (misOf l s).1, I (misOf l s).2], []) := by
  rw [s61 (d + 6) _ rfl]
  have e1 := r45 d l hb hw s
  have e0 := r88 d l hb hw
  have e00 : okLs l = (okFrom l l.length 0 && decide (l.length ≤ 16)) := rfl
  rw [← e00] at e0
  unfold misOf
  cases hf : (flOf l s).1 with
  | none =>
    have hc := flOf_none hf
    rw [hf] at e1
    generalize (flOf l s).2 = c at e1 hc
    cases ho : okLs l
    · rw [ho] at e0
      simp [oL] at e1
      simp [oL, e0, hc.2 ho]
    · rw [ho] at e0
      simp [oL] at e1
      simp [oL, e0, e1, hc.1]
  | some A =>
    obtain ⟨ho, hA, hne, h2⟩ := flOf_some hf
    rw [hf, h2] at e1
    have hl : A.length ≤ 16 := by rw [hA]; exact flA_le ho
    have hI : InL l A := by rw [hA]; exact flA_in l s
    have hpos : 0 < A.length := List.length_pos_iff.2 hne
    have key := l61 (d + 6) l (okLs_nums ho) A hl hI (A.length - 1) 0 [] (miss (nmA l) A) (by omega) (by simp) (by simp)
    rw [ho] at e0
    simp [oL] at e1
    dsimp only
    generalize miss (nmA l) A = ms at key ⊢
    simp at key
    simp only [oL]
    by_cases h64 : 64 < ms.length
    · have h64' : (64 : Int) < (ms.length : Int) := by omega
      simp [oL, e1, e0, key, h64, h64']
    · have h64' : ¬ (64 : Int) < (ms.length : Int) := by omega
      simp [oL, e1, e0, key, h64, h64']
theorem r62 (d : Nat) (l : List Lf) (hb : l.length ≤ big) (hw : ∀ L ∈ l, BdL L) (s : ByteArray) : ev (d + 9) 62 [.ro 9 (l.map lS), T s] = some (.tu [oL (misOf l s).1, I (misOf l s).2], []) := by
  rw [s62 (d + 8) _ rfl]
  have e1 := r46 d l hb hw s
  unfold misOf
  cases hf : (flOf l s).1 with
  | none =>
    have hc := flOf_none hf
    rw [hf] at e1
    generalize (flOf l s).2 = c at e1 hc
    simp [oL] at e1
    simp [oL, e1, hc.1]
  | some A =>
    obtain ⟨ho, hA, hne, h2⟩ := flOf_some hf
    rw [hf, h2] at e1
    have hl : A.length ≤ 16 := by rw [hA]; exact flA_le ho
    have hI : InL l A := by rw [hA]; exact flA_in l s
    have hpos : 0 < A.length := List.length_pos_iff.2 hne
    have key := l62 (d + 8) l (okLs_nums ho) A hl hI (A.length - 1) 0 [] (miss (nmA l) A) (by omega) (by simp) (by simp)
    simp [oL] at e1
    dsimp only
    generalize miss (nmA l) A = ms at key ⊢
    simp at key
    simp only [oL]
    by_cases h64 : 64 < ms.length
    · have h64' : (64 : Int) < (ms.length : Int) := by omega
      simp [oL, e1, key, h64, h64']
    · have h64' : ¬ (64 : Int) < (ms.length : Int) := by omega
      simp [oL, e1, key, h64, h64']
set_option maxHeartbeats 1000000 in
theorem r13 (d : Nat) (l : List (Lf × Bool)) (hb : l.length ≤ maxLen) (hw : ∀ q ∈ l, WfL q.1 ∧ (q.2 = true → q.1.df = [])) {x : LV} (hx : SV 9 (l.map lI) x) (s : ByteArray) : ev (d + 10) 13 [x, T s] = some (B true, []) := by
  rw [s13 (d + 9) _ rfl]
  by_cases hs0 : (s.size : Int) > 1048576
  · rcases hx with rfl | ⟨rfl, _⟩ <;> simp [hs0]
  obtain ⟨k, hk, hs⟩ := r16 (d + 6) l hb hw hx
  by_cases h : k < 0
  · rcases hx with rfl | ⟨rfl, _⟩ <;> simp [hs0, hk, h]
  obtain ⟨b1, b2⟩ := hs (by omega)
  have bb : l.length ≤ big := by simp only [big]; omega
  have bl : (l.map (·.1)).length ≤ big := by simpa using bb
  have bw : ∀ L ∈ l.map (·.1), BdL L := by
    intro L hL
    obtain ⟨q, hq, rfl⟩ := List.mem_map.1 hL
    exact b2 q hq
  have t1 := r18 (d + 5) l bb (fun q hq => ⟨(b2 q hq).df, (hw q hq).2⟩) hx
  have g1 := r61 (d + 2) _ bl bw s
  have g2 := r62 (d + 0) _ bl bw s
  have q1 := r20 (d + 5) _ bl (fun L hL => (bw L hL).df)
  obtain ⟨km, rows', hr', hm⟩ := v21' (l.map (·.1)) (by simpa using b1) (fun L hL => (bw L hL).df)
  have hm := hm (d + 6)
  have len : l.length = (l.map (·.1)).length := by simp
  generalize l.map (·.1) = ls at t1 g1 g2 q1 len hm bl hr'
  have hkm : ¬ (km : Int) < 0 := by omega
  have hbd : ∀ ws, (misOf ls s).1 = some ws → ws.length ≤ 1000000 := fun ws hws => by
    unfold misOf at hws
    cases hf : (flOf ls s).1 with
    | none => rw [hf] at hws; cases hws
    | some A =>
      rw [hf] at hws
      simp only [] at hws
      by_cases h64 : 64 < (miss (nmA ls) A).length
      · simp [h64] at hws
      · simp [h64] at hws
        rw [← hws]; omega
  generalize misOf ls s = oc at g1 g2 hbd
  obtain ⟨o, c⟩ := oc
  cases o with
  | none =>
    have q2 := r27n (d + 8)
    have q3 := v30'n (d + 8) 1
    have q4 := r31 (d + 8) 0 1 (by omega) (x := .nl) (.inr ⟨rfl, rfl⟩)
    simp [oL] at q3 q4 g1 g2
    rcases hx with rfl | ⟨rfl, _⟩ <;> simp [hs0, hk, h, t1, g1, g2, q1, q2, q3, q4, hm, hkm, hr', len]
  | some ws =>
    have hw2 := hbd ws rfl
    have q2 := r27 (d + 8) ws (by simp only [big]; omega)
    have q3 := v30' (d + 8) ws 1 (by omega)
    have q4 := r31 (d + 8) ws.length 1 (by omega) (x := .ro 1 (markL mI 1 1 ws.length)) (.inl rfl)
    simp [oL] at q3 q4 g1 g2
    have q5 : ¬ (1 : Int) + (ws.length : Int) < 0 := by omega
    rcases hx with rfl | ⟨rfl, _⟩ <;> simp [hs0, hk, h, t1, g1, g2, q1, q2, q3, q4, q5, hm, hkm, hr', len]
end Go.Proofs.Ytojjkjbffihppaa.walkS
