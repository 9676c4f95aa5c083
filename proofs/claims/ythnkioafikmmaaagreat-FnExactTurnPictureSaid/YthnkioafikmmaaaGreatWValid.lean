/- What the functions that check leaves compute; no conditions. -/
import Derived.Test.YthnkioafikmmaaaGreatWMean
namespace Go.Proofs.YthnkioafikmmaaaGreat.walkS
open Go Go.Proofs.YthnkioafikmmaaaGreat.Ev
set_option linter.unusedSimpArgs false
abbrev U (n : Int) : LV := .sc (.int .u8 n)
def small (n : Int) : Bool := inR n 97 122
def digit (n : Int) : Bool := inR n 48 57
theorem r151 (d : Nat) (n : Int) : ev (d + 1) 151 [U n] = some (B (small n), []) := by
  rw [s151 d _ rfl]
  by_cases h1 : 97 ≤ n <;> by_cases h2 : n ≤ 122 <;> simp [h1, h2, small, inR]
theorem r152 (d : Nat) (n : Int) : ev (d + 1) 152 [U n] = some (B (digit n), []) := by
  rw [s152 d _ rfl]
  by_cases h1 : 48 ≤ n <;> by_cases h2 : n ≤ 57 <;> simp [h1, h2, digit, inR]
def okc (u : UInt8) : Bool := small u.toNat || digit u.toNat
abbrev by' (s : ByteArray) : List UInt8 := s.data.toList
theorem by_len (s : ByteArray) : (by' s).length = s.size := rfl
theorem size_nil : (⟨#[]⟩ : ByteArray).size = 0 := rfl
def nameOk (s : ByteArray) : Bool :=
  match by' s with
  | [] => false
  | u :: us => decide (us.length < 10) && (small u.toNat && (u :: us).all okc)
theorem l102 (d : Nat) (s : ByteArray) (hb : s.size ≤ big) : ∀ (n i : Nat), n + i = s.size →
    clC [] [2] (blk 0 (lp (evC (ev (d + 1)) b102_1) (clean [0, 3]) ⟨lookS [(0, T s), (3, I i)], lookM []⟩)) =
      ifb (((by' s).drop i).all okc) (some (.nm, ⟨lookS [], lookM []⟩)) (some (.rt, ⟨lookS [(2, B false)], lookM []⟩)) := by
  intro n
  induction n with
  | zero =>
    intro i hi
    have h0 : ¬ (i : Int) < (s.size : Int) := by omega
    have h1 : (by' s).drop i = [] := List.drop_eq_nil_of_le (by rw [by_len]; omega)
    rw [lp_step, h1]
    simp [h0]
  | succ n ih =>
    intro i hi
    have h0 : (i : Int) < (s.size : Int) := by omega
    obtain ⟨x, hx⟩ := get_lt (l := by' s) (i := i) (by rw [by_len]; omega)
    have hw := wrap_nat (i := i) (by simp [big] at hb; omega)
    have ih' := ih (i + 1) (by omega)
    rw [lp_step, drop_get hx, List.all_cons]
    simp only [by'] at hx ih' ⊢
    simp at ih'
    cases h1 : small x.toNat <;> cases h2 : digit x.toNat <;> simp [h0, hx, hw, r151, r152, h1, h2, okc, ih']
theorem by_nil {s : ByteArray} (h : by' s = []) : s = ⟨#[]⟩ := by
  obtain ⟨a⟩ := s
  obtain ⟨l⟩ := a
  simp only [by'] at h
  subst h; rfl
theorem r102 (d : Nat) (s : ByteArray) (hb : s.size ≤ big) : ev (d + 2) 102 [T s] = some (B (nameOk s), []) := by
  rw [s102 (d + 1) _ rfl]
  unfold nameOk
  cases hs : by' s with
  | nil =>
    have := by_nil hs
    subst this
    simp [size_nil]
  | cons u us =>
    have hl := by_len s
    rw [hs, List.length_cons] at hl
    have hne : ¬ s = ⟨#[]⟩ := fun e => by subst e; cases hs
    have hx : s.data.toList[0]? = some u := by show (by' s)[0]? = _; rw [hs]; rfl
    show _ = some (B (decide (us.length < 10) && (small u.toNat && (u :: us).all okc)), [])
    by_cases h1 : us.length < 10
    · have h1' : ¬ (10 : Int) < (s.size : Int) := by omega
      cases h2 : small u.toNat
      · simp [hne, h1, h1', hx, r151, h2]
      · have key := l102 d s hb s.size 0 (by omega)
        rw [List.drop_zero, hs] at key
        generalize (u :: us).all okc = q at key ⊢
        cases q <;> simp at key <;> simp [hne, h1, h1', hx, r151, h2, key]
    · have h1' : (10 : Int) < (s.size : Int) := by omega
      simp [hne, h1, h1']
theorem l107 (d : Nat) (s : ByteArray) (hb : s.size ≤ big) : ∀ (n i : Nat), n + i = s.size →
    clC [] [2] (blk 0 (lp (evC (ev d) b107_1) (clean [0, 3]) ⟨lookS [(0, T s), (3, I i)], lookM []⟩)) =
      ifb (((by' s).drop i).all okc) (some (.nm, ⟨lookS [], lookM []⟩)) (some (.rt, ⟨lookS [(2, B false)], lookM []⟩)) := by
  intro n
  induction n with
  | zero =>
    intro i hi
    have h0 : ¬ (i : Int) < (s.size : Int) := by omega
    have h1 : (by' s).drop i = [] := List.drop_eq_nil_of_le (by rw [by_len]; omega)
    rw [lp_step, h1]
    simp [h0]
  | succ n ih =>
    intro i hi
    have h0 : (i : Int) < (s.size : Int) := by omega
    obtain ⟨x, hx⟩ := get_lt (l := by' s) (i := i) (by rw [by_len]; omega)
    have hw := wrap_nat (i := i) (by simp [big] at hb; omega)
    have ih' := ih (i + 1) (by omega)
    rw [lp_step, drop_get hx, List.all_cons]
    simp only [by'] at hx ih' ⊢
    simp at ih'
    have hk : okc x = !((decide (x.toNat < 97) || decide (122 < x.toNat)) && (decide (x.toNat < 48) || decide (57 < x.toNat))) := by
      unfold okc small digit inR
      by_cases a1 : x.toNat < 97 <;> by_cases a2 : 122 < x.toNat <;> by_cases a3 : x.toNat < 48 <;> by_cases a4 : 57 < x.toNat <;> first | omega | (simp [a1, a2, a3, a4]; omega) | simp [a1, a2, a3, a4]
    rw [hk]
    have e1 : ((x.toNat : Int) < 97) = (x.toNat < 97) := by apply propext; omega
    have e2 : (122 < (x.toNat : Int)) = (122 < x.toNat) := by apply propext; omega
    have e3 : ((x.toNat : Int) < 48) = (x.toNat < 48) := by apply propext; omega
    have e4 : (57 < (x.toNat : Int)) = (57 < x.toNat) := by apply propext; omega
    by_cases a1 : x.toNat < 97 <;> by_cases a2 : 122 < x.toNat <;> by_cases a3 : x.toNat < 48 <;> by_cases a4 : 57 < x.toNat <;> first | omega | simp [h0, hx, hw, e1, e2, e3, e4, a1, a2, a3, a4, ih']
theorem r107 (d : Nat) (s : ByteArray) (hb : s.size ≤ big) : ev (d + 1) 107 [T s] = some (B (nameOk s), []) := by
  rw [s107 d _ rfl]
  unfold nameOk
  cases hs : by' s with
  | nil =>
    have := by_nil hs
    subst this
    simp [size_nil]
  | cons u us =>
    have hl := by_len s
    rw [hs, List.length_cons] at hl
    have hp : ¬ (s.size : Int) < 1 := by omega
    show _ = some (B (decide (us.length < 10) && (small u.toNat && (u :: us).all okc)), [])
    have hx : s.data.toList[0]? = some u := by show (by' s)[0]? = _; rw [hs]; rfl
    have e1 : ((u.toNat : Int) < 97) = (u.toNat < 97) := by apply propext; omega
    have e2 : (122 < (u.toNat : Int)) = (122 < u.toNat) := by apply propext; omega
    have hsm : small u.toNat = !(decide (u.toNat < 97) || decide (122 < u.toNat)) := by
      unfold small inR
      by_cases a1 : u.toNat < 97 <;> by_cases a2 : 122 < u.toNat <;> first | omega | (simp [a1, a2]; omega) | simp [a1, a2]
    by_cases h1 : us.length < 10
    · have h1' : ¬ (10 : Int) < (s.size : Int) := by omega
      rw [hsm]
      by_cases a1 : u.toNat < 97
      · simp [hp, h1, h1', hx, e1, e2, a1]
      by_cases a2 : 122 < u.toNat
      · simp [hp, h1, h1', hx, e1, e2, a1, a2]
      have key := l107 d s hb s.size 0 (by omega)
      rw [List.drop_zero, hs] at key
      generalize (u :: us).all okc = q at key ⊢
      cases q <;> simp at key <;> simp [hp, h1, h1', hx, e1, e2, a1, a2, key]
    · have h1' : (10 : Int) < (s.size : Int) := by omega
      simp [hp, h1, h1']
def boxIn (w l : Int) (b : Bx) : Bool := inR b.1 0 w && (inR b.2.1 0 l && (inR b.2.2.1 1 (W (w - b.1)) && inR b.2.2.2 1 (W (l - b.2.1))))
/-- the place of the first row of a kind, or -1 -/
def firstI (p : Bx → Bool) : Nat → List Bx → Int
  | _, [] => -1
  | i, x :: l => ifb (p x) (i : Int) (firstI p (i + 1) l)
theorem firstI_neg (p : Bx → Bool) : ∀ (l : List Bx) (i : Nat), l.any p = false → firstI p i l = -1 := by
  intro l
  induction l with
  | nil => intro i _; rfl
  | cons x l ih =>
    intro i h
    rw [List.any_cons, Bool.or_eq_false_iff] at h
    simp only [firstI, h.1, ifb_f]
    exact ih _ h.2
theorem firstI_pos (p : Bx → Bool) : ∀ (l : List Bx) (i : Nat), l.any p = true → 0 ≤ firstI p i l := by
  intro l
  induction l with
  | nil => intro i h; cases h
  | cons x l ih =>
    intro i h
    rw [List.any_cons] at h
    cases hp : p x
    · simp only [firstI, hp, ifb_f]
      rw [hp, Bool.false_or] at h
      exact ih (i + 1) h
    · simp only [firstI, hp, ifb_t]; omega
def okL (L : Lf) : Bool := nameOk L.id && (nameOk L.fl && (inR L.num 0 999 && (okS L.sp L.sh L.gr && (inR L.wd 10 20000 && (inR L.ln 10 20000 && (decide (L.df.length ≤ 6) && L.df.all (boxIn L.wd L.ln)))))))
def less (a b : ByteArray) : Bool := Op.bytesLess a.toList b.toList
end Go.Proofs.YthnkioafikmmaaaGreat.walkS
