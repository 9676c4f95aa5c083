/- What the functions that check leaves compute; no conditions. -/
import Derived.Test.YthnkioafikmmaaaDoorWMean
namespace Go.Proofs.YthnkioafikmmaaaDoor.walkS
open Go Go.Proofs.YthnkioafikmmaaaDoor.Ev
set_option linter.unusedSimpArgs false
abbrev U (n : Int) : LV := .sc (.int .u8 n)
def small (n : Int) : Bool := inR n 97 122
def digit (n : Int) : Bool := inR n 48 57
theorem r87 (d : Nat) (n : Int) : ev (d + 1) 87 [U n] = some (B (small n), []) := by
  rw [s87 d _ rfl]
  by_cases h1 : 97 ≤ n <;> by_cases h2 : n ≤ 122 <;> simp [h1, h2, small, inR]
theorem r88 (d : Nat) (n : Int) : ev (d + 1) 88 [U n] = some (B (digit n), []) := by
  rw [s88 d _ rfl]
  by_cases h1 : 48 ≤ n <;> by_cases h2 : n ≤ 57 <;> simp [h1, h2, digit, inR]
def okc (u : UInt8) : Bool := small u.toNat || digit u.toNat
abbrev by' (s : ByteArray) : List UInt8 := s.data.toList
theorem by_len (s : ByteArray) : (by' s).length = s.size := rfl
theorem size_nil : (⟨#[]⟩ : ByteArray).size = 0 := rfl
def nameOk (s : ByteArray) : Bool :=
  match by' s with
  | [] => false
  | u :: us => decide (us.length < 10) && (small u.toNat && (u :: us).all okc)
theorem l67 (d : Nat) (s : ByteArray) (hb : s.size ≤ big) : ∀ (n i : Nat), n + i = s.size →
    clC [] [2] (blk 0 (lp (evC (ev (d + 1)) b67_1) (clean [0, 3]) ⟨lookS [(0, T s), (3, I i)], lookM []⟩)) =
      ifb (((by' s).drop i).all okc) (some (.nm, ⟨lookS [], lookM []⟩)) (some (.rt, ⟨lookS [(2, B false)], lookM []⟩)) := by
  intro n
  induction n with
  | zero =>
    intro i hi
    have h0 : ¬ (i : Int) < (s.size : Int) := by omega
    have h1 : (by' s).drop i = [] := List.drop_eq_nil_of_le (by rw [by_len]; omega)
    rw [lp_step, h1]
    simp [h0]
  | succ n ih =>
    intro i hi
    have h0 : (i : Int) < (s.size : Int) := by omega
    obtain ⟨x, hx⟩ := get_lt (l := by' s) (i := i) (by rw [by_len]; omega)
    have hw := wrap_nat (i := i) (by simp [big] at hb; omega)
    have ih' := ih (i + 1) (by omega)
    rw [lp_step, drop_get hx, List.all_cons]
    simp only [by'] at hx ih' ⊢
    simp at ih'
    cases h1 : small x.toNat <;> cases h2 : digit x.toNat <;> simp [h0, hx, hw, r87, r88, h1, h2, okc, ih']
theorem by_nil {s : ByteArray} (h : by' s = []) : s = ⟨#[]⟩ := by
  obtain ⟨a⟩ := s
  obtain ⟨l⟩ := a
  simp only [by'] at h
  subst h; rfl
theorem r67 (d : Nat) (s : ByteArray) (hb : s.size ≤ big) : ev (d + 2) 67 [T s] = some (B (nameOk s), []) := by
  rw [s67 (d + 1) _ rfl]
  unfold nameOk
  cases hs : by' s with
  | nil =>
    have := by_nil hs
    subst this
    simp [size_nil]
  | cons u us =>
    have hl := by_len s
    rw [hs, List.length_cons] at hl
    have hne : ¬ s = ⟨#[]⟩ := fun e => by subst e; cases hs
    have hx : s.data.toList[0]? = some u := by show (by' s)[0]? = _; rw [hs]; rfl
    show _ = some (B (decide (us.length < 10) && (small u.toNat && (u :: us).all okc)), [])
    by_cases h1 : us.length < 10
    · have h1' : ¬ (10 : Int) < (s.size : Int) := by omega
      cases h2 : small u.toNat
      · simp [hne, h1, h1', hx, r87, h2]
      · have key := l67 d s hb s.size 0 (by omega)
        rw [List.drop_zero, hs] at key
        generalize (u :: us).all okc = q at key ⊢
        cases q <;> simp at key <;> simp [hne, h1, h1', hx, r87, h2, key]
    · have h1' : (10 : Int) < (s.size : Int) := by omega
      simp [hne, h1, h1']
theorem l70 (d : Nat) (s : ByteArray) (hb : s.size ≤ big) : ∀ (n i : Nat), n + i = s.size →
    clC [] [2] (blk 0 (lp (evC (ev d) b70_1) (clean [0, 3]) ⟨lookS [(0, T s), (3, I i)], lookM []⟩)) =
      ifb (((by' s).drop i).all okc) (some (.nm, ⟨lookS [], lookM []⟩)) (some (.rt, ⟨lookS [(2, B false)], lookM []⟩)) := by
  intro n
  induction n with
  | zero =>
    intro i hi
    have h0 : ¬ (i : Int) < (s.size : Int) := by omega
    have h1 : (by' s).drop i = [] := List.drop_eq_nil_of_le (by rw [by_len]; omega)
    rw [lp_step, h1]
    simp [h0]
  | succ n ih =>
    intro i hi
    have h0 : (i : Int) < (s.size : Int) := by omega
    obtain ⟨x, hx⟩ := get_lt (l := by' s) (i := i) (by rw [by_len]; omega)
    have hw := wrap_nat (i := i) (by simp [big] at hb; omega)
    have ih' := ih (i + 1) (by omega)
    rw [lp_step, drop_get hx, List.all_cons]
    simp only [by'] at hx ih' ⊢
    simp at ih'
    have hk : okc x = !((decide (x.toNat < 97) || decide (122 < x.toNat)) && (decide (x.toNat < 48) || decide (57 < x.toNat))) := by
      unfold okc small digit inR
      by_cases a1 : x.toNat < 97 <;> by_cases a2 : 122 < x.toNat <;> by_cases a3 : x.toNat < 48 <;> by_cases a4 : 57 < x.toNat <;> first | omega | (simp [a1, a2, a3, a4]; omega) | simp [a1, a2, a3, a4]
    rw [hk]
    have e1 : ((x.toNat : Int) < 97) = (x.toNat < 97) := by apply propext; omega
    have e2 : (122 < (x.toNat : Int)) = (122 < x.toNat) := by apply propext; omega
    have e3 : ((x.toNat : Int) < 48) = (x.toNat < 48) := by apply propext; omega
    have e4 : (57 < (x.toNat : Int)) = (57 < x.toNat) := by apply propext; omega
    by_cases a1 : x.toNat < 97 <;> by_cases a2 : 122 < x.toNat <;> by_cases a3 : x.toNat < 48 <;> by_cases a4 : 57 < x.toNat <;> first | omega | simp [h0, hx, hw, e1, e2, e3, e4, a1, a2, a3, a4, ih']
theorem r70 (d : Nat) (s : ByteArray) (hb : s.size ≤ big) : ev (d + 1) 70 [T s] = some (B (nameOk s), []) := by
  rw [s70 d _ rfl]
  unfold nameOk
  cases hs : by' s with
  | nil =>
    have := by_nil hs
    subst this
    simp [size_nil]
  | cons u us =>
    have hl := by_len s
    rw [hs, List.length_cons] at hl
    have hp : ¬ (s.size : Int) < 1 := by omega
    show _ = some (B (decide (us.length < 10) && (small u.toNat && (u :: us).all okc)), [])
    have hx : s.data.toList[0]? = some u := by show (by' s)[0]? = _; rw [hs]; rfl
    have e1 : ((u.toNat : Int) < 97) = (u.toNat < 97) := by apply propext; omega
    have e2 : (122 < (u.toNat : Int)) = (122 < u.toNat) := by apply propext; omega
    have hsm : small u.toNat = !(decide (u.toNat < 97) || decide (122 < u.toNat)) := by
      unfold small inR
      by_cases a1 : u.toNat < 97 <;> by_cases a2 : 122 < u.toNat <;> first | omega | (simp [a1, a2]; omega) | simp [a1, a2]
    by_cases h1 : us.length < 10
    · have h1' : ¬ (10 : Int) < (s.size : Int) := by omega
      rw [hsm]
      by_cases a1 : u.toNat < 97
      · simp [hp, h1, h1', hx, e1, e2, a1]
      by_cases a2 : 122 < u.toNat
      · simp [hp, h1, h1', hx, e1, e2, a1, a2]
      have key := l70 d s hb s.size 0 (by omega)
      rw [List.drop_zero, hs] at key
      generalize (u :: us).all okc = q at key ⊢
      cases q <;> simp at key <;> simp [hp, h1, h1', hx, e1, e2, a1, a2, key]
    · have h1' : (10 : Int) < (s.size : Int) := by omega
      simp [hp, h1, h1']
def boxIn (w l : Int) (b : Bx) : Bool := inR b.1 0 w && (inR b.2.1 0 l && (inR b.2.2.1 1 (W (w - b.1)) && inR b.2.2.2 1 (W (l - b.2.1))))
theorem r73 (d : Nat) (b : Bx) (w l : Int) : ev (d + 2) 73 [.ag (bV b), I w, I l] = some (B (boxIn w l b), []) := by
  rw [s73 (d + 1) _ rfl]
  unfold boxIn
  cases h1 : inR b.1 0 w
  case false => simp [r63, h1]
  cases h2 : inR b.2.1 0 l
  case false => simp [r63, h1, h2]
  simp only [W]
  cases h3 : inR b.2.2.1 1 (IntKind.i64.wrap (w - b.1))
  case false => simp [r63, h1, h2, h3]
  cases h4 : inR b.2.2.2 1 (IntKind.i64.wrap (l - b.2.1)) <;> simp [r63, h1, h2, h3, h4]
theorem r68 (d : Nat) (b : Bx) (w l : Int) : ev (d + 2) 68 [.rp (bV b), I w, I l] = some (B (boxIn w l b), []) := by
  rw [s68 (d + 1) _ rfl]
  unfold boxIn
  cases h1 : inR b.1 0 w
  case false => simp [r58, h1]
  cases h2 : inR b.2.1 0 l
  case false => simp [r58, h1, h2]
  simp only [W]
  cases h3 : inR b.2.2.1 1 (IntKind.i64.wrap (w - b.1))
  case false => simp [r58, h1, h2, h3]
  cases h4 : inR b.2.2.2 1 (IntKind.i64.wrap (l - b.2.1)) <;> simp [r58, h1, h2, h3, h4]
/-- the place of the first row of a kind, or -1 -/
def firstI (p : Bx → Bool) : Nat → List Bx → Int
  | _, [] => -1
  | i, x :: l => ifb (p x) (i : Int) (firstI p (i + 1) l)
theorem firstI_neg (p : Bx → Bool) : ∀ (l : List Bx) (i : Nat), l.any p = false → firstI p i l = -1 := by
  intro l
  induction l with
  | nil => intro i _; rfl
  | cons x l ih =>
    intro i h
    rw [List.any_cons, Bool.or_eq_false_iff] at h
    simp only [firstI, h.1, ifb_f]
    exact ih _ h.2
theorem firstI_pos (p : Bx → Bool) : ∀ (l : List Bx) (i : Nat), l.any p = true → 0 ≤ firstI p i l := by
  intro l
  induction l with
  | nil => intro i h; cases h
  | cons x l ih =>
    intro i h
    rw [List.any_cons] at h
    cases hp : p x
    · simp only [firstI, hp, ifb_f]
      rw [hp, Bool.false_or] at h
      exact ih (i + 1) h
    · simp only [firstI, hp, ifb_t]; omega
theorem l89 (d f : Nat) (vs : List LV) (p : Bx → Bool) (hp : ∀ b, ev d f [.ag (bV b), .rp vs] = some (B (p b), [])) (l : List Bx) (hb : l.length ≤ big) : ∀ (n i : Nat), n + i = l.length →
    clC [] [4] (blk 0 (lp (evC (ev d) b89_1) (clean [0, 1, 7, 8]) ⟨lookS [(0, .ro 4 (l.map bC)), (1, .cl f [.rp vs]), (7, I l.length), (8, I i)], lookM []⟩)) =
      ifb ((l.drop i).any p) (some (.rt, ⟨lookS [(4, I (firstI p i (l.drop i)))], lookM []⟩)) (some (.nm, ⟨lookS [], lookM []⟩)) := by
  intro n
  induction n with
  | zero =>
    intro i hi
    have h0 : ¬ (i : Int) < (l.length : Int) := by omega
    have h1 : l.drop i = [] := List.drop_eq_nil_of_le (by omega)
    rw [lp_step, h1]
    simp [h0]
  | succ n ih =>
    intro i hi
    have hlt : i < l.length := by omega
    have h0 : (i : Int) < (l.length : Int) := by omega
    obtain ⟨x, hx⟩ := get_lt hlt
    have hw := wrap_nat (i := i) (by simp [big] at hb; omega)
    have ih' := ih (i + 1) (by omega)
    simp at ih'
    rw [lp_step, drop_get hx, List.any_cons]
    simp only [firstI]
    cases hc : p x
    · simp [h0, hx, hw, hp, hc, ih']
    · simp [h0, hx, hp, hc]
theorem r89 (d f : Nat) (vs : List LV) (p : Bx → Bool) (hp : ∀ b, ev d f [.ag (bV b), .rp vs] = some (B (p b), [])) (l : List Bx) (hb : l.length ≤ big) : ev (d + 1) 89 [.ro 4 (l.map bC), .cl f [.rp vs]] = some (I (firstI p 0 l), []) := by
  rw [s89 d _ rfl]
  have key := l89 d f vs p hp l hb l.length 0 (by omega)
  rw [List.drop_zero] at key
  cases h : l.any p <;> rw [h] at key <;> simp at key
  · simp [key, firstI_neg p l 0 h]
  · simp [key]
theorem r71 (d f : Nat) (vs : List LV) (p : Bx → Bool) (hp : ∀ b, ev d f [.ag (bV b), .rp vs] = some (B (p b), [])) (l : List Bx) (hb : l.length ≤ big) : ev (d + 2) 71 [.ro 4 (l.map bC), .cl f [.rp vs]] = some (B (l.any p), []) := by
  rw [s71 (d + 1) _ rfl]
  have h1 := r89 d f vs p hp l hb
  cases h : l.any p
  · simp [h1, firstI_neg p l 0 h]
  · simp [h1, firstI_pos p l 0 h]
theorem r72 (d : Nat) (L : Lf) (x : LV) (b : Bx) : ev (d + 3) 72 [.ag (bV b), .rp (lA L x)] = some (B (!boxIn L.wd L.ln b), []) := by
  rw [s72 (d + 2) _ rfl]
  simp [r73]
def okL (L : Lf) : Bool := nameOk L.id && (nameOk L.fl && (inR L.num 0 999 && (okS L.sp L.sh L.gr && (inR L.wd 10 20000 && (inR L.ln 10 20000 && (decide (L.df.length ≤ 6) && L.df.all (boxIn L.wd L.ln)))))))
theorem l40 (d : Nat) (L : Lf) (hb : L.df.length ≤ big) : ∀ (n i : Nat), n + i = L.df.length →
    clC [] [2] (blk 0 (lp (evC (ev (d + 2)) b40_1) (clean [0, 3]) ⟨lookS [(0, .rp (lV L)), (3, I i)], lookM []⟩)) =
      ifb ((L.df.drop i).all (boxIn L.wd L.ln)) (some (.nm, ⟨lookS [], lookM []⟩)) (some (.rt, ⟨lookS [(2, B false)], lookM []⟩)) := by
  intro n
  induction n with
  | zero =>
    intro i hi
    have h0 : ¬ (i : Int) < (L.df.length : Int) := by omega
    have h1 : L.df.drop i = [] := List.drop_eq_nil_of_le (by omega)
    rw [lp_step, h1]
    simp [h0]
  | succ n ih =>
    intro i hi
    have hlt : i < L.df.length := by omega
    have h0 : (i : Int) < (L.df.length : Int) := by omega
    obtain ⟨x, hx⟩ := get_lt hlt
    have hw := wrap_nat (i := i) (by simp [big] at hb; omega)
    have ih' := ih (i + 1) (by omega)
    simp at ih'
    rw [lp_step, drop_get hx, List.all_cons]
    cases hc : boxIn L.wd L.ln x
    · simp [h0, hx, r68, hc]
    · simp [h0, hx, hw, r68, hc, ih']
theorem r40 (d : Nat) (L : Lf) (hb : L.df.length ≤ big) (h1 : L.id.size ≤ big) (h2 : L.fl.size ≤ big) : ev (d + 4) 40 [.rp (lV L)] = some (B (okL L), []) := by
  rw [s40 (d + 3) _ rfl]
  have e1 := r67 (d + 1) L.id h1
  have e2 := r67 (d + 1) L.fl h2
  unfold okL
  cases a1 : nameOk L.id
  case false => simp [e1, a1]
  cases a2 : nameOk L.fl
  case false => simp [e1, e2, a1, a2]
  cases a3 : inR L.num 0 999
  case false => simp [e1, e2, a1, a2, r58, a3]
  cases a4 : okS L.sp L.sh L.gr
  case false => simp [e1, e2, a1, a2, r58, a3, r31, a4]
  cases a5 : inR L.wd 10 20000
  case false => simp [e1, e2, a1, a2, r58, a3, r31, a4, a5]
  cases a6 : inR L.ln 10 20000
  case false => simp [e1, e2, a1, a2, r58, a3, r31, a4, a5, a6]
  by_cases a7 : L.df.length ≤ 6
  case neg =>
    have a7' : (6 : Int) < (L.df.length : Int) := by omega
    simp [e1, e2, a1, a2, r58, a3, r31, a4, a5, a6, a7, a7']
  have a7' : ¬ (6 : Int) < (L.df.length : Int) := by omega
  have key := l40 (d + 1) L hb L.df.length 0 (by omega)
  rw [List.drop_zero] at key
  cases a8 : L.df.all (boxIn L.wd L.ln) <;> rw [a8] at key <;> simp at key <;> simp [e1, e2, a1, a2, r58, a3, r31, a4, a5, a6, a7, a7', key]
theorem r43 (d : Nat) (L : Lf) (hb : L.df.length ≤ big) (h1 : L.id.size ≤ big) (h2 : L.fl.size ≤ big) : ev (d + 6) 43 [.ag (lV L)] = some (B (okL L), []) := by
  rw [s43 (d + 5) _ rfl]
  have e1 := r70 (d + 4) L.id h1
  have e2 := r70 (d + 4) L.fl h2
  have e3 := r71 (d + 3) 72 (lV L) (fun b => !boxIn L.wd L.ln b) (fun b => r72 d L _ b) L.df hb
  have e4 : (L.df.any fun b => !boxIn L.wd L.ln b) = !L.df.all (boxIn L.wd L.ln) := by
    rw [List.not_all_eq_any_not]
  rw [e4] at e3
  unfold okL
  cases a1 : nameOk L.id
  case false => simp [e1, a1]
  cases a2 : nameOk L.fl
  case false => simp [e1, e2, a1, a2]
  cases a3 : inR L.num 0 999
  case false => simp [e1, e2, a1, a2, r63, a3]
  cases a4 : okS L.sp L.sh L.gr
  case false => simp [e1, e2, a1, a2, r63, a3, r33, ok_same, a4]
  cases a5 : inR L.wd 10 20000
  case false => simp [e1, e2, a1, a2, r63, a3, r33, ok_same, a4, a5]
  cases a6 : inR L.ln 10 20000
  case false => simp [e1, e2, a1, a2, r63, a3, r33, ok_same, a4, a5, a6]
  by_cases a7 : L.df.length ≤ 6
  case neg =>
    have a7' : (6 : Int) < (L.df.length : Int) := by omega
    simp [e1, e2, a1, a2, r63, a3, r33, ok_same, a4, a5, a6, a7, a7']
  have a7' : ¬ (6 : Int) < (L.df.length : Int) := by omega
  cases a8 : L.df.all (boxIn L.wd L.ln) <;> rw [a8] at e3 <;> simp [e1, e2, a1, a2, r63, a3, r33, ok_same, a4, a5, a6, a7, a7', e3]
def less (a b : ByteArray) : Bool := Op.bytesLess a.toList b.toList
end Go.Proofs.YthnkioafikmmaaaDoor.walkS
