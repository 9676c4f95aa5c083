/- The leaf that matches best; the row BestMatch; no conditions. -/
import Derived.Test.YtmfcdjkeofohpaaWLeaves
import Derived.Test.YtmfcdjkeofohpaaWScore
namespace Go.Proofs.Ytmfcdjkeofohpaa.walkS
open Go Go.Proofs.Ytmfcdjkeofohpaa.Ev
set_option linter.unusedSimpArgs false
/-- the best so far, and its score -/
def bm (f : Nat → Int) (k : Int) : Nat → Nat → Int → Int → Int × Int
  | 0, _, b, e => (b, e)
  | n + 1, i, b, e => if (i : Int) = k then bm f k n (i + 1) b e else if b < 0 ∨ f i < e then bm f k n (i + 1) i (f i) else bm f k n (i + 1) b e
theorem bm_pos (f : Nat → Int) (k : Int) : ∀ (n i : Nat) (b e : Int), 0 ≤ b → 0 ≤ (bm f k n i b e).1 := by
  intro n
  induction n with
  | zero => intro i b e h; exact h
  | succ n ih =>
    intro i b e h
    simp only [bm]
    split
    · exact ih _ _ _ h
    · split
      · exact ih _ _ _ (by omega)
      · exact ih _ _ _ h
def scAt (A : Lf) (l : List Lf) (book : Bool) (i : Nat) : Int := match l[i]? with | some C => scI A C book | none => 0
theorem l64 (d : Nat) (l : List Lf) (hb : l.length ≤ big) (k : Int) (A : Lf) (book : Bool) (k0 : 0 ≤ k) (k1 : k < l.length) (hk : l[k.toNat]? = some A) (hok : ∀ C ∈ l, okL C = true) : ∀ (n i : Nat) (b e : Int), n + i = l.length →
    clC [9, 10] [6, 7, 8] (blk 0 (lp (evC (ev (d + 3)) b64_1) (clean [0, 1, 2, 9, 10, 11]) ⟨lookS [(0, .ro 9 (l.map lS)), (1, I k), (2, B book), (9, I b), (10, I e), (11, I i)], lookM []⟩)) =
      some (.nm, ⟨lookS [(9, I (bm (scAt A l book) k n i b e).1), (10, I (bm (scAt A l book) k n i b e).2)], lookM []⟩) := by
  intro n
  induction n with
  | zero =>
    intro i b e hi
    have h0 : ¬ (i : Int) < (l.length : Int) := by omega
    rw [lp_step]
    simp [h0, bm]
  | succ n ih =>
    intro i b e hi
    have hlt : i < l.length := by omega
    have h0 : (i : Int) < (l.length : Int) := by omega
    obtain ⟨C, hx⟩ := get_lt hlt
    have hw' := wrap_nat (i := i) (by simp [big] at hb; omega)
    have h95 := r95 d A C book
    rw [← sc_same (hok A (List.mem_of_getElem? hk)) (hok C (List.mem_of_getElem? hx))] at h95
    have hf : scAt A l book i = scI A C book := by simp only [scAt, hx]
    rw [lp_step]
    simp only [bm, hf]
    by_cases h1 : (i : Int) = k
    · subst h1
      have ih' := ih (i + 1) b e (by omega)
      simp at ih'
      simp [h0, hw', ih']
    · by_cases h2 : b < 0
      · have ih' := ih (i + 1) i (scI A C book) (by omega)
        simp at ih'
        simp [h0, h1, hx, hk, k0, h95, h2, hw', ih']
      · by_cases h3 : scI A C book < e
        · have ih' := ih (i + 1) i (scI A C book) (by omega)
          simp at ih'
          simp [h0, h1, hx, hk, k0, h95, h2, h3, hw', ih']
        · have ih' := ih (i + 1) b e (by omega)
          simp at ih'
          simp [h0, h1, hx, hk, k0, h95, h2, h3, hw', ih']
theorem l65 (d : Nat) (l : List Lf) (hb : l.length ≤ big) (k : Int) (A : Lf) (book : Bool) (k0 : 0 ≤ k) (k1 : k < l.length) (hk : l[k.toNat]? = some A) (hok : ∀ C ∈ l, okL C = true) : ∀ (n i : Nat) (b e : Int), n + i = l.length →
    clC [9, 10] [6, 7, 8] (blk 1 (lp (evC (ev (d + 3)) b65_1) (clean [0, 1, 2, 9, 10, 29, 30, 31]) ⟨lookS [(0, .ro 9 (l.map lS)), (1, I k), (2, B book), (9, I b), (10, I e), (29, .ro 9 (l.map lS)), (30, I l.length), (31, I i)], lookM []⟩)) =
      some (.nm, ⟨lookS [(9, I (bm (scAt A l book) k n i b e).1), (10, I (bm (scAt A l book) k n i b e).2)], lookM []⟩) := by
  intro n
  induction n with
  | zero =>
    intro i b e hi
    have h0 : ¬ (i : Int) < (l.length : Int) := by omega
    rw [lp_step]
    simp [h0, bm]
  | succ n ih =>
    intro i b e hi
    have hlt : i < l.length := by omega
    have h0 : (i : Int) < (l.length : Int) := by omega
    obtain ⟨C, hx⟩ := get_lt hlt
    have hw' := wrap_nat (i := i) (by simp [big] at hb; omega)
    have hoA := hok A (List.mem_of_getElem? hk)
    have hoC := hok C (List.mem_of_getElem? hx)
    have h96 := r96 d A C book (okA_in (okL_in hoA).2.1 (grB_in (okL_in hoC).2.1))
    have hf : scAt A l book i = scI A C book := by simp only [scAt, hx]
    rw [lp_step]
    simp only [bm, hf]
    by_cases h1 : (i : Int) = k
    · subst h1
      have ih' := ih (i + 1) b e (by omega)
      simp at ih'
      simp [h0, hx, hw', ih']
    · by_cases h2 : b < 0
      · have ih' := ih (i + 1) i (scI A C book) (by omega)
        simp at ih'
        simp [h0, h1, hx, hk, k0, h96, h2, hw', ih']
      · by_cases h3 : scI A C book < e
        · have ih' := ih (i + 1) i (scI A C book) (by omega)
          simp at ih'
          simp [h0, h1, hx, hk, k0, h96, h2, h3, hw', ih']
        · have ih' := ih (i + 1) b e (by omega)
          simp at ih'
          simp [h0, h1, hx, hk, k0, h96, h2, h3, hw', ih']
theorem okFrom_all (l : List Lf) : ∀ (n i : Nat), n + i = l.length → okFrom l n i = true → ∀ C ∈ l.drop i, okL C = true := by
  intro n
  induction n with
  | zero =>
    intro i hi _ C hC
    rw [List.drop_eq_nil_of_le (by omega)] at hC
    simp at hC
  | succ n ih =>
    intro i hi h C hC
    obtain ⟨L, hx⟩ := get_lt (l := l) (i := i) (by omega)
    simp only [okFrom, okAt, hx, Bool.and_eq_true] at h
    rw [drop_get hx] at hC
    rcases List.mem_cons.1 hC with rfl | hC
    · exact h.1.1
    · exact ih (i + 1) (by omega) h.2 C hC
def okLs (l : List Lf) : Bool := okFrom l l.length 0 && decide (l.length ≤ 16)
def inRange (l : List Lf) (k : Int) : Bool := inR k 0 ((l.length : Int) - 1)
def atK (l : List Lf) (k : Int) : Lf := (l[k.toNat]?).getD ⟨.empty, .empty, 0, .empty, 0, 0, 0, 0, []⟩
def best (l : List Lf) (k : Int) (book : Bool) : Int × Int := bm (scAt (atK l k) l book) k l.length 0 (-1) 0
def bestMatch (l : List Lf) (k : Int) (book : Bool) : LV :=
  ifb (okLs l) (ifb (inRange l k) (ifb (decide (l.length = 1)) (.tu [I 0, I 0, I 3]) (.tu [I (best l k book).1, I (best l k book).2, I 0])) (.tu [I 0, I 0, I 2])) (.tu [I 0, I 0, I 1])
theorem best_pos (l : List Lf) (k : Int) (book : Bool) (h : inRange l k = true) : (best l k book).1 < 0 ↔ l.length = 1 := by
  simp only [inRange, inR, Bool.and_eq_true, decide_eq_true_eq] at h
  unfold best
  generalize scAt (atK l k) l book = f
  obtain ⟨n, hn⟩ : ∃ n, l.length = n + 1 := ⟨l.length - 1, by omega⟩
  rw [hn]
  by_cases h1 : ((0 : Nat) : Int) = k
  · have e : bm f k (n + 1) 0 (-1) 0 = bm f k n (0 + 1) (-1) 0 := by simp only [bm]; rw [if_pos h1]
    rw [e]
    cases n with
    | zero => simp [bm]
    | succ n =>
      have e : bm f k (n + 1) (0 + 1) (-1) 0 = bm f k n (0 + 1 + 1) ((0 + 1 : Nat) : Int) (f (0 + 1)) := by
        simp only [bm]; rw [if_neg (by omega), if_pos (.inl (by omega))]
      rw [e]
      have := bm_pos f k n (0 + 1 + 1) ((0 + 1 : Nat) : Int) (f (0 + 1)) (by omega)
      omega
  · have e : bm f k (n + 1) 0 (-1) 0 = bm f k n (0 + 1) ((0 : Nat) : Int) (f 0) := by
      simp only [bm]; rw [if_neg h1, if_pos (.inl (by omega))]
    rw [e]
    have := bm_pos f k n (0 + 1) ((0 : Nat) : Int) (f 0) (by omega)
    omega
theorem r64 (d : Nat) (l : List Lf) (hb : l.length ≤ big) (hw : ∀ L ∈ l, BdL L) (k : Int) (book : Bool) : ev (d + 7) 64 [.ro 9 (l.map lS), I k, B book] = some (bestMatch l k book, []) := by
  rw [s64 (d + 6) _ rfl]
  have e1 := r32 d l hb hw
  have hwr : IntKind.i64.wrap ((l.length : Int) - 1) = (l.length : Int) - 1 := IntWalk.i64_in _ (by simp [big] at hb; omega)
  unfold bestMatch okLs
  cases h1 : (okFrom l l.length 0 && decide (l.length ≤ 16))
  case false => rw [h1] at e1; simp [e1]
  rw [h1] at e1
  unfold inRange
  cases h2 : inR k 0 ((l.length : Int) - 1)
  case false => simp [e1, hwr, r88, h2]
  have h2' : inRange l k = true := h2
  have h3 := h2
  simp only [inR, Bool.and_eq_true, decide_eq_true_eq] at h3
  obtain ⟨A, hA⟩ := get_lt (l := l) (i := k.toNat) (by omega)
  have hat : atK l k = A := by simp [atK, hA]
  rw [Bool.and_eq_true] at h1
  have hok := okFrom_all l l.length 0 (by omega) h1.1
  rw [List.drop_zero] at hok
  have key := l64 (d + 3) l hb k A book (by omega) (by omega) hA hok l.length 0 (-1) 0 (by omega)
  have hp := best_pos l k book h2'
  have hbe : bm (scAt A l book) k l.length 0 (-1) 0 = best l k book := by rw [best, hat]
  rw [hbe] at key
  simp at key
  by_cases h4 : l.length = 1
  · have h5 : (best l k book).1 < 0 := hp.2 h4
    simp only [decide_eq_true h4, ifb_t]
    simp [e1, hwr, r88, h2, key, h5]
  · have h5 : ¬ (best l k book).1 < 0 := fun q => h4 (hp.1 q)
    simp only [decide_eq_false h4, ifb_f]
    simp [e1, hwr, r88, h2, key, h5]
theorem r65 (d : Nat) (l : List Lf) (hb : l.length ≤ big) (hw : ∀ L ∈ l, BdL L) (k : Int) (book : Bool) : ev (d + 8) 65 [.ro 9 (l.map lS), I k, B book] = some (bestMatch l k book, []) := by
  rw [s65 (d + 7) _ rfl]
  have e1 := r34 d l hb hw
  have hwr : IntKind.i64.wrap ((l.length : Int) - 1) = (l.length : Int) - 1 := IntWalk.i64_in _ (by simp [big] at hb; omega)
  unfold bestMatch okLs
  cases h1 : (okFrom l l.length 0 && decide (l.length ≤ 16))
  case false => rw [h1] at e1; simp [e1]
  rw [h1] at e1
  unfold inRange
  cases h2 : inR k 0 ((l.length : Int) - 1)
  case false => simp [e1, hwr, r84, h2]
  have h3 := h2
  simp only [inR, Bool.and_eq_true, decide_eq_true_eq] at h3
  obtain ⟨A, hA⟩ := get_lt (l := l) (i := k.toNat) (by omega)
  have hat : atK l k = A := by simp [atK, hA]
  rw [Bool.and_eq_true] at h1
  have hok := okFrom_all l l.length 0 (by omega) h1.1
  rw [List.drop_zero] at hok
  have key := l65 (d + 4) l hb k A book (by omega) (by omega) hA hok l.length 0 (-1) 0 (by omega)
  have hbe : bm (scAt A l book) k l.length 0 (-1) 0 = best l k book := by rw [best, hat]
  rw [hbe] at key
  simp at key
  by_cases h4 : l.length = 1
  · have h4' : (l.length : Int) = 1 := by omega
    simp only [decide_eq_true h4, ifb_t]
    have h6 : inR k 0 0 = true := by rw [h4'] at h2; simpa using h2
    have hw0 : IntKind.i64.wrap 0 = 0 := by decide
    simp [e1, hw0, r84, h6, h4']
  · have h4' : ¬ (l.length : Int) = 1 := by omega
    simp only [decide_eq_false h4, ifb_f]
    simp [e1, hwr, r84, h2, h4', key]
theorem r15 (d : Nat) (l : List (Lf × Bool)) (hb : l.length ≤ maxLen) (hw : ∀ q ∈ l, WfL q.1 ∧ (q.2 = true → q.1.df = [])) {x : LV} (hx : SV 9 (l.map lI) x) (u : Int) (book : Bool) : ev (d + 9) 15 [x, I u, B book] = some (B true, []) := by
  rw [s15 (d + 8) _ rfl]
  obtain ⟨k, hk, hs⟩ := r31 (d + 5) l hb hw hx
  by_cases h : k < 0
  · rcases hx with rfl | ⟨rfl, _⟩ <;> simp [hk, h]
  obtain ⟨b1, b2⟩ := hs (by omega)
  have bb : l.length ≤ big := by simp only [big]; omega
  have bl : (l.map (·.1)).length ≤ big := by simpa using bb
  have bw : ∀ L ∈ l.map (·.1), BdL L := by
    intro L hL
    obtain ⟨q, hq, rfl⟩ := List.mem_map.1 hL
    exact b2 q hq
  have t1 := r33 (d + 4) l bb (fun q hq => ⟨(b2 q hq).df, (hw q hq).2⟩) hx
  have g1 := r64 (d + 1) _ bl bw u book
  have g2 := r65 d _ bl bw u book
  have q1 := r35 (d + 4) _ bl (fun L hL => (bw L hL).df)
  have len : l.length = (l.map (·.1)).length := by simp
  generalize l.map (·.1) = ls at t1 g1 g2 q1 len
  obtain ⟨p, q, r, e⟩ : ∃ p q r, bestMatch ls u book = .tu [I p, I q, I r] := by
    unfold bestMatch
    cases okLs ls
    · exact ⟨_, _, _, rfl⟩
    cases inRange ls u
    · exact ⟨_, _, _, rfl⟩
    cases decide (ls.length = 1) <;> exact ⟨_, _, _, rfl⟩
  rw [e] at g1 g2
  rcases hx with rfl | ⟨rfl, _⟩ <;> simp [hk, h, t1, g1, g2, q1, len]
end Go.Proofs.Ytmfcdjkeofohpaa.walkS
