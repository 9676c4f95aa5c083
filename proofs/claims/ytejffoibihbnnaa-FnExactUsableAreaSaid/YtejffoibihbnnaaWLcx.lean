/- Largest clear boxes: the lines of a leaf; no conditions. -/
import Derived.Test.YtejffoibihbnnaaWLcw
namespace Go.Proofs.Ytejffoibihbnnaa.walkS
open Go Go.Proofs.Ytejffoibihbnnaa.Ev
set_option linter.unusedSimpArgs false
set_option linter.unusedVariables false
def xsF (f g : Bx → Int) (l : List Bx) (a : List Int) : List Int := l.foldl (fun a c => putL (g c) (putL (f c) a)) a
theorem xsF_mem {f g : Bx → Int} {z : Int} : ∀ {l : List Bx} {a : List Int}, z ∈ xsF f g l a ↔ z ∈ a ∨ ∃ c ∈ l, z = f c ∨ z = g c := by
  intro l
  induction l with
  | nil => intro a; simp [xsF]
  | cons c t ih =>
    intro a
    show z ∈ xsF f g t (putL (g c) (putL (f c) a)) ↔ _
    rw [ih, putL_mem, putL_mem]
    constructor
    · rintro ((h | h | h) | ⟨y, hy, h⟩)
      · exact .inr ⟨c, by simp, .inr h⟩
      · exact .inr ⟨c, by simp, .inl h⟩
      · exact .inl h
      · exact .inr ⟨y, by simp [hy], h⟩
    · rintro (h | ⟨y, hy, h⟩)
      · exact .inl (.inr (.inr h))
      · rcases List.mem_cons.1 hy with rfl | hy
        · rcases h with h | h
          · exact .inl (.inr (.inl h))
          · exact .inl (.inl h)
        · exact .inr ⟨y, hy, h⟩
theorem xsF_pw {f g : Bx → Int} : ∀ {l : List Bx} {a : List Int}, a.Pairwise (· < ·) → (xsF f g l a).Pairwise (· < ·) := by
  intro l
  induction l with
  | nil => intro a h; exact h
  | cons c t ih => intro a h; exact ih (putL_pw (putL_pw h))
theorem xsF_len (f g : Bx → Int) : ∀ (l : List Bx) (a : List Int), (xsF f g l a).length ≤ a.length + 2 * l.length := by
  intro l
  induction l with
  | nil => intro a; exact Nat.le_refl _
  | cons c t ih =>
    intro a
    have h1 := ih (putL (g c) (putL (f c) a))
    have h2 := putL_len (g c) (putL (f c) a)
    have h3 := putL_len (f c) a
    show (xsF f g t (putL (g c) (putL (f c) a))).length ≤ _
    simp only [List.length_cons]
    omega
theorem l171 (d : Nat) (L : Lf) (hb : L.df.length ≤ 1000000) (hw2 : ∀ c ∈ L.df, IntKind.i64.wrap (c.1 + c.2.2.1) = c.1 + c.2.2.1) : ∀ (n i : Nat) (acc r : List Int), n + i = L.df.length → acc.length ≤ 2 + 2 * i → xsF (fun c : Bx => c.1) (fun c : Bx => c.1 + c.2.2.1) (L.df.drop i) acc = r →
    clC [3] [2] (blk 0 (lp (evC (ev (d + 1)) b171_1) (clean [0, 3, 4]) ⟨lookS [(0, .rp (lV L)), (3, .rf (.sl 3) none 0 acc.length), (4, I i)], lookM [((.sl 3), some (.arr 2 1 (acc.map iC)))]⟩)) =
      some (.nm, ⟨lookS [(3, .rf (.sl 3) none 0 r.length)], lookM [((.sl 3), some (.arr 2 1 (r.map iC)))]⟩) := by
  intro n
  induction n with
  | zero =>
    intro i acc r hi ha hr
    have h0 : ¬ (i : Int) < (L.df.length : Int) := by omega
    rw [List.drop_eq_nil_of_le (by omega)] at hr
    have e : acc = r := hr
    subst e
    rw [lp_step]
    simp [h0]
  | succ n ih =>
    intro i acc r hi ha hr
    have hlt : i < L.df.length := by omega
    have h0 : (i : Int) < (L.df.length : Int) := by omega
    obtain ⟨c, hc⟩ := get_lt hlt
    have hw := wrap_nat (i := i) (by omega)
    have hwc := hw2 c (List.mem_of_getElem? hc)
    have l1 := putL_len (c.1) acc
    have l2 := putL_len (c.1 + c.2.2.1) (putL (c.1) acc)
    have p1 := r115 d acc (by simp only [big]; omega) (c.1)
    have p2 := r115 d (putL (c.1) acc) (by simp only [big]; omega) (c.1 + c.2.2.1)
    rw [drop_get hc] at hr
    have ih' := ih (i + 1) (putL (c.1 + c.2.2.1) (putL (c.1) acc)) r (by omega) (by omega) hr
    simp only [Int.natCast_add, Int.cast_ofNat_Int] at ih'
    try simp at ih'
    rw [lp_step]
    simp [h0, hc, hw, hwc, p1, p2, ih']
theorem r171 (d : Nat) (L : Lf) (hb : L.df.length ≤ 1000000) (hw2 : ∀ c ∈ L.df, IntKind.i64.wrap (c.1 + c.2.2.1) = c.1 + c.2.2.1) : ev (d + 2) 171 [.rp (lV L)] = some (.ow 2 1 ((xsF (fun c : Bx => c.1) (fun c : Bx => c.1 + c.2.2.1) L.df [0, L.wd]).map iC), []) := by
  rw [s171 (d + 1) _ rfl]
  have key := l171 d L hb hw2 L.df.length 0 [0, L.wd] _ (by omega) (by simp) rfl
  rw [List.drop_zero] at key
  try simp at key
  simp [key]
theorem l172 (d : Nat) (L : Lf) (hb : L.df.length ≤ 1000000) (hw2 : ∀ c ∈ L.df, IntKind.i64.wrap (c.2.1 + c.2.2.2) = c.2.1 + c.2.2.2) : ∀ (n i : Nat) (acc r : List Int), n + i = L.df.length → acc.length ≤ 2 + 2 * i → xsF (fun c : Bx => c.2.1) (fun c : Bx => c.2.1 + c.2.2.2) (L.df.drop i) acc = r →
    clC [3] [2] (blk 0 (lp (evC (ev (d + 1)) b172_1) (clean [0, 3, 4]) ⟨lookS [(0, .rp (lV L)), (3, .rf (.sl 3) none 0 acc.length), (4, I i)], lookM [((.sl 3), some (.arr 2 1 (acc.map iC)))]⟩)) =
      some (.nm, ⟨lookS [(3, .rf (.sl 3) none 0 r.length)], lookM [((.sl 3), some (.arr 2 1 (r.map iC)))]⟩) := by
  intro n
  induction n with
  | zero =>
    intro i acc r hi ha hr
    have h0 : ¬ (i : Int) < (L.df.length : Int) := by omega
    rw [List.drop_eq_nil_of_le (by omega)] at hr
    have e : acc = r := hr
    subst e
    rw [lp_step]
    simp [h0]
  | succ n ih =>
    intro i acc r hi ha hr
    have hlt : i < L.df.length := by omega
    have h0 : (i : Int) < (L.df.length : Int) := by omega
    obtain ⟨c, hc⟩ := get_lt hlt
    have hw := wrap_nat (i := i) (by omega)
    have hwc := hw2 c (List.mem_of_getElem? hc)
    have l1 := putL_len (c.2.1) acc
    have l2 := putL_len (c.2.1 + c.2.2.2) (putL (c.2.1) acc)
    have p1 := r115 d acc (by simp only [big]; omega) (c.2.1)
    have p2 := r115 d (putL (c.2.1) acc) (by simp only [big]; omega) (c.2.1 + c.2.2.2)
    rw [drop_get hc] at hr
    have ih' := ih (i + 1) (putL (c.2.1 + c.2.2.2) (putL (c.2.1) acc)) r (by omega) (by omega) hr
    simp only [Int.natCast_add, Int.cast_ofNat_Int] at ih'
    try simp at ih'
    rw [lp_step]
    simp [h0, hc, hw, hwc, p1, p2, ih']
theorem r172 (d : Nat) (L : Lf) (hb : L.df.length ≤ 1000000) (hw2 : ∀ c ∈ L.df, IntKind.i64.wrap (c.2.1 + c.2.2.2) = c.2.1 + c.2.2.2) : ev (d + 2) 172 [.rp (lV L)] = some (.ow 2 1 ((xsF (fun c : Bx => c.2.1) (fun c : Bx => c.2.1 + c.2.2.2) L.df [0, L.ln]).map iC), []) := by
  rw [s172 (d + 1) _ rfl]
  have key := l172 d L hb hw2 L.df.length 0 [0, L.ln] _ (by omega) (by simp) rfl
  rw [List.drop_zero] at key
  try simp at key
  simp [key]
def clW (df : List Bx) (b : Bx) : Bool := df.all fun c => !meetB b c
theorem l173 (d : Nat) (L : Lf) (b : Bx) (hb : L.df.length ≤ big) : ∀ (n i : Nat), n + i = L.df.length →
    clC [] [4] (blk 0 (lp (evC (ev (d + 1)) b173_1) (clean [0, 1, 5]) ⟨lookS [(0, .rp (lV L)), (1, .rp (bV b)), (5, I i)], lookM []⟩)) =
      ifb (clW (L.df.drop i) b) (some (.nm, ⟨lookS [], lookM []⟩)) (some (.rt, ⟨lookS [(4, B false)], lookM []⟩)) := by
  intro n
  induction n with
  | zero =>
    intro i hi
    have h0 : ¬ (i : Int) < (L.df.length : Int) := by omega
    rw [List.drop_eq_nil_of_le (by omega), lp_step]
    simp [h0, clW]
  | succ n ih =>
    intro i hi
    have hlt : i < L.df.length := by omega
    have h0 : (i : Int) < (L.df.length : Int) := by omega
    obtain ⟨c, hc⟩ := get_lt hlt
    have hw := wrap_nat (i := i) (by simp only [big] at hb; omega)
    have m := r251 d b c
    have ih' := ih (i + 1) (by omega)
    rw [drop_get hc]
    unfold clW at ih' ⊢
    rw [List.all_cons]
    simp only [Int.natCast_add, Int.cast_ofNat_Int] at ih'
    rw [lp_step]
    cases hm : meetB b c <;> rw [hm] at m <;> simp [h0, hc, hw, m, ih']
theorem r173 (d : Nat) (L : Lf) (b : Bx) (hb : L.df.length ≤ big) : ev (d + 2) 173 [.rp (lV L), .rp (bV b)] = some (B (clW L.df b), []) := by
  rw [s173 (d + 1) _ rfl]
  have key := l173 d L b hb L.df.length 0 (by omega)
  rw [List.drop_zero] at key
  cases h : clW L.df b <;> rw [h] at key <;> simp at key <;> simp [key]
end Go.Proofs.Ytejffoibihbnnaa.walkS
