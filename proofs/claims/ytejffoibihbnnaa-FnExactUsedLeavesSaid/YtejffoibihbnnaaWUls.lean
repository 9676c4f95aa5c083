/- The row UsedLeaves; no conditions. -/
import Derived.Test.YtejffoibihbnnaaWPlb
import Derived.Test.YtejffoibihbnnaaWMark
import Derived.Test.YtejffoibihbnnaaWLcw
import Derived.Test.YtejffoibihbnnaaWSc
namespace Go.Proofs.Ytejffoibihbnnaa.walkS
open Go Go.Proofs.Ytejffoibihbnnaa.Ev
set_option linter.unusedSimpArgs false
set_option linter.unusedVariables false
theorem mI_shutU (k n : Nat) : shut (markL mI 1 k n) = markL mI 1 k n := markL_shut (fun _ => rfl) 1 n k
theorem markL_takeU (f : Nat → List Cell) (c k n : Nat) : (markL f c k n).take n = markL f c k n := List.take_of_length_le (by simp [markL_len])
attribute [simp] mI_shutU markL_takeU
def mG (k : Nat) : List Cell := gC ((k : Int), (k : Int) + 1, (k : Int) + 1 + 1, (k : Int) + 1 + 1 + 1, (k : Int) + 1 + 1 + 1 + 1)
theorem l44 (d : Nat) (l : List Pl) (k : Nat) (hb : k + 5 * l.length ≤ 4611686018427387904) : ∀ (n i : Nat), n + i = l.length →
    clC [1, 100000] [4, 100000] (blk 0 (lp (evC (ev d) b44_1) (clean [0, 1, 5, 100000]) ⟨lookS [(0, .rf (.sl 0) none 0 l.length), (1, I (k + 5 * (i : Int))), (5, I i), (100000, .rf (.sl 0) none 0 l.length)], lookM [(.sl 0, some (.arr 151 5 (mfill mG 5 gC l k i)))]⟩)) =
      some (.nm, ⟨lookS [(1, I (k + 5 * (l.length : Int))), (100000, .rf (.sl 100000) none 0 l.length)], lookM [(.sl 100000, some (.arr 151 5 (markL mG 5 k l.length)))]⟩) := by
  intro n
  induction n with
  | zero =>
    intro i hi
    have h0 : ¬ (i : Int) < (l.length : Int) := by omega
    have he : i = l.length := by omega
    subst he
    rw [lp_step, mfill_end]
    simp [h0]
  | succ n ih =>
    intro i hi
    have hlt : i < l.length := by omega
    have h0 : (i : Int) < (l.length : Int) := by omega
    obtain ⟨x, hx⟩ := get_lt hlt
    have hs := mfill_set (f := mG) (c := 5) (C := gC) (k := k) hlt
    have hg := mfill_get (f := mG) (c := 5) (C := gC) (k := k) hx
    have hl : ∀ a, ((mfill mG 5 gC l k i).set i a)[i]? = some a := fun a => List.getElem?_set_self (by rw [mfill_len (by omega)]; exact hlt)
    have hw := wrap_nat (i := i) (by omega)
    have e1 : ((k + 5 * i : Nat) : Int) = (k : Int) + 5 * (i : Int) := by omega
    have e2 : (k : Int) + 5 * ((i + 1 : Nat) : Int) = (k : Int) + 5 * (i : Int) + 1 + 1 + 1 + 1 + 1 := by omega
    have k0 : IntKind.i64.wrap ((k : Int) + 5 * (i : Int) + 1) = (k : Int) + 5 * (i : Int) + 1 := wrap_in (by omega)
    have k1 : IntKind.i64.wrap ((k : Int) + 5 * (i : Int) + 1 + 1) = (k : Int) + 5 * (i : Int) + 1 + 1 := wrap_in (by omega)
    have k2 : IntKind.i64.wrap ((k : Int) + 5 * (i : Int) + 1 + 1 + 1) = (k : Int) + 5 * (i : Int) + 1 + 1 + 1 := wrap_in (by omega)
    have k3 : IntKind.i64.wrap ((k : Int) + 5 * (i : Int) + 1 + 1 + 1 + 1) = (k : Int) + 5 * (i : Int) + 1 + 1 + 1 + 1 := wrap_in (by omega)
    have k4 : IntKind.i64.wrap ((k : Int) + 5 * (i : Int) + 1 + 1 + 1 + 1 + 1) = (k : Int) + 5 * (i : Int) + 1 + 1 + 1 + 1 + 1 := wrap_in (by omega)
    have ih' := ih (i + 1) (by omega)
    rw [← hs, e2] at ih'
    simp only [mG, gC, e1] at ih' hg
    simp at ih' hg
    rw [lp_step]
    simp [h0, hg, hl, hw, k0, k1, k2, k3, k4, ih']
theorem v44' (d : Nat) (l : List Pl) (k : Nat) (hb : k + 5 * l.length ≤ 4611686018427387904) : ev (d + 1) (wrN + 44) [.ow 151 5 (l.map gC), I k] =
    some (I (k + 5 * (l.length : Int)), [.ow 151 5 (markL mG 5 k l.length), I k]) := by
  rw [v44 d (start_ow _ _ 0 _ _) rfl]
  have key := l44 d l k hb l.length 0 (by omega)
  rw [← mfill_zero] at key
  simp at key
  simp [key, markL_len]
theorem v44'n (d : Nat) (k : Nat) : ev (d + 1) (wrN + 44) [.nl, I k] = some (I k, [.nl, I k]) := by
  rw [v44 d (start_nl _) rfl]
  simp
  rw [lp_step]
  simp
def usF (l : List Pl) (a : List Int) : List Int := l.foldl (fun a p => putL p.2.1 a) a
theorem usF_mem {z : Int} : ∀ {l : List Pl} {a : List Int}, z ∈ usF l a ↔ z ∈ a ∨ z ∈ l.map (·.2.1) := by
  intro l
  induction l with
  | nil => intro a; simp [usF]
  | cons p t ih =>
    intro a
    show z ∈ usF t (putL p.2.1 a) ↔ _
    rw [ih, putL_mem, List.map_cons, List.mem_cons]
    constructor
    · rintro ((h | h) | h) <;> simp [h]
    · rintro (h | h | h) <;> simp [h]
theorem usF_pw : ∀ {l : List Pl} {a : List Int}, a.Pairwise (· < ·) → (usF l a).Pairwise (· < ·) := by
  intro l
  induction l with
  | nil => intro a h; exact h
  | cons p t ih => intro a h; exact ih (putL_pw h)
theorem usF_len : ∀ (l : List Pl) (a : List Int), (usF l a).length ≤ a.length + l.length := by
  intro l
  induction l with
  | nil => intro a; exact Nat.le_refl _
  | cons p t ih =>
    intro a
    have h1 := ih (putL p.2.1 a)
    have h2 := putL_len p.2.1 a
    show (usF t (putL p.2.1 a)).length ≤ _
    simp only [List.length_cons]
    omega
def usOf (l : List Pl) : List Int := usF l []
theorem usOf_law (l : List Pl) : Lib.compact (sortZ (l.map (·.2.1))) = usOf l := uniq_law (usF_pw List.Pairwise.nil) fun z => by unfold usOf; rw [usF_mem]; simp
theorem l39 (d : Nat) (l : List Pl) (hb : l.length ≤ 2000000) : ∀ (n i : Nat) (acc r : List Int), n + i = l.length → acc.length ≤ i → usF (l.drop i) acc = r →
    clC [4] [2, 3] (blk 0 (lp (evC (ev (d + 1)) b39_1) (clean [0, 4, 5]) ⟨lookS [(0, .ro 5 (l.map gC)), (4, .rf (.sl 4) none 0 acc.length), (5, I i)], lookM [((.sl 4), some (.arr 2 1 (acc.map iC)))]⟩)) =
      some (.nm, ⟨lookS [(4, .rf (.sl 4) none 0 r.length)], lookM [((.sl 4), some (.arr 2 1 (r.map iC)))]⟩) := by
  intro n
  induction n with
  | zero =>
    intro i acc r hi ha hr
    have h0 : ¬ (i : Int) < (l.length : Int) := by omega
    rw [List.drop_eq_nil_of_le (by omega)] at hr
    have e : acc = r := hr
    subst e
    rw [lp_step]
    simp [h0]
  | succ n ih =>
    intro i acc r hi ha hr
    have hlt : i < l.length := by omega
    have h0 : (i : Int) < (l.length : Int) := by omega
    obtain ⟨c, hc⟩ := get_lt hlt
    have hw := wrap_nat (i := i) (by omega)
    have l1 := putL_len c.2.1 acc
    have p1 := r115 d acc (by simp only [big]; omega) c.2.1
    rw [drop_get hc] at hr
    have ih' := ih (i + 1) (putL c.2.1 acc) r (by omega) (by omega) hr
    simp only [Int.natCast_add, Int.cast_ofNat_Int] at ih'
    try simp at ih'
    rw [lp_step]
    simp [h0, hc, hw, p1, ih']
def ulOf (l : List Pl) : LV × Int := ifb (okGs l) (.ow 2 1 ((usOf l).map iC), 0) (.nl, 1)
theorem r39 (d : Nat) (l : List Pl) (hb : l.length ≤ 2000000) : ev (d + 5) 39 [.ro 5 (l.map gC)] = some (.tu [(ulOf l).1, I (ulOf l).2], []) := by
  rw [s39 (d + 4) _ rfl]
  have e1 := r114 d l (by simp only [big]; omega)
  unfold ulOf
  cases h : okGs l
  · rw [h] at e1
    simp [e1]
  rw [h] at e1
  have key := l39 (d + 3) l hb l.length 0 [] (usOf l) (by omega) (by simp) (by rw [List.drop_zero]; rfl)
  simp at key
  simp [e1, key]
theorem l41 (d : Nat) (l : List Pl) (hb : l.length ≤ 2000000) : ∀ (n i : Nat) (acc r : List Int), n + i = l.length → acc.length = i → acc ++ (l.drop i).map (·.2.1) = r →
    clC [4] [2, 3] (blk 0 (lp (evC (ev d) b41_1) (clean [4, 11, 12, 13]) ⟨lookS [(4, .rf (.sl 4) none 0 acc.length), (11, .ro 5 (l.map gC)), (12, I l.length), (13, I i)], lookM [((.sl 4), some (.arr 2 1 (acc.map iC)))]⟩)) =
      some (.nm, ⟨lookS [(4, .rf (.sl 4) none 0 r.length)], lookM [((.sl 4), some (.arr 2 1 (r.map iC)))]⟩) := by
  intro n
  induction n with
  | zero =>
    intro i acc r hi ha hr
    have h0 : ¬ (i : Int) < (l.length : Int) := by omega
    rw [List.drop_eq_nil_of_le (by omega), List.map_nil, List.append_nil] at hr
    subst hr
    rw [lp_step]
    simp [h0]
  | succ n ih =>
    intro i acc r hi ha hr
    have hlt : i < l.length := by omega
    have h0 : (i : Int) < (l.length : Int) := by omega
    obtain ⟨c, hc⟩ := get_lt hlt
    have hw := wrap_nat (i := i) (by omega)
    have hb2 : acc.length + 1 ≤ big := by simp only [big]; omega
    rw [drop_get hc, List.map_cons] at hr
    have ih' := ih (i + 1) (acc ++ [c.2.1]) r (by omega) (by simp; omega) (by rw [List.append_assoc]; exact hr)
    simp only [Int.natCast_add, Int.cast_ofNat_Int] at ih'
    simp at ih'
    rw [lp_step]
    simp [h0, hc, hw, hb2, ih']
theorem p118 (d : Nat) (zs : List Int) (h : zs.length ≤ big) : ev d (wrN + 118) [.ow 2 1 (zs.map iC)] = some (.tu [], [.ow 2 1 ((sortZ zs).map iC)]) := by
  rw [q118W]
  exact prim_sortI _ zs h
theorem p119 (d : Nat) (zs : List Int) (h : zs.length ≤ big) : ev d (mvN + 119) [.ow 2 1 (zs.map iC)] = some (.ow 2 1 ((Lib.compact zs).map iC), [.un]) := by
  rw [q119M]
  exact prim_compactI _ zs h
theorem r41 (d : Nat) (l : List Pl) (hb : l.length ≤ 2000000) : ev (d + 5) 41 [.ro 5 (l.map gC)] = some (.tu [(ulOf l).1, I (ulOf l).2], []) := by
  rw [s41 (d + 4) _ rfl]
  have e1 := r117 d l (by simp only [big]; omega)
  unfold ulOf
  cases h : okGs l
  · rw [h] at e1
    simp [e1]
  rw [h] at e1
  have hl : (l.map (·.2.1)).length = l.length := List.length_map _
  have key := l41 (d + 4) l hb l.length 0 [] (l.map (·.2.1)) (by omega) rfl (by rw [List.drop_zero]; rfl)
  have c1 := p118 (d + 4) (l.map (·.2.1)) (by rw [hl]; simp only [big]; omega)
  have hs := sortZ_len (l.map (·.2.1))
  have c2 := p119 (d + 4) (sortZ (l.map (·.2.1))) (by rw [hs, hl]; simp only [big]; omega)
  rw [usOf_law] at c2
  have hu := usF_len l []
  generalize l.map (·.2.1) = zs at key c1 c2 hs hl
  generalize sortZ zs = ys at c1 c2 hs
  generalize usOf l = us at c2 ⊢
  simp at key
  simp [e1, key, c1, c2, hs]
set_option maxHeartbeats 1000000 in
theorem r7 (d : Nat) (l : List Pl) (hb : l.length ≤ maxLen) {x : LV} (hx : SV 5 (l.map gC) x) : ev (d + 6) 7 [x] = some (B true, []) := by
  rw [s7 (d + 5) _ rfl]
  have hk := r38 (d + 4) l 1048576 hx
  by_cases h : sz1 1048576 l.length < 0
  · rcases hx with rfl | ⟨rfl, _⟩ <;> simp [hk, h]
  have b1 := sz1_ok (n := 1048576) (by omega) hb (by omega)
  have bb : l.length ≤ big := by simp only [big]; omega
  have t1 := r40 (d + 3) l bb hx
  have g1 := r39 d l (by omega)
  have g2 := r41 d l (by omega)
  have q1 := r43 (d + 3) l bb
  have hm := v44' (d + 4) l 1 (by omega)
  have hkm : ¬ (1 : Int) + 5 * (l.length : Int) < 0 := by omega
  have hu := usF_len l []
  unfold ulOf at g1 g2
  cases ho : okGs l
  · rw [ho] at g1 g2
    simp only [ifb_f] at g1 g2
    have q2 := r42n (d + 4)
    have q3 := v45'n (d + 4) 1
    have q4 := r46 (d + 4) 0 1 (by omega) (x := .nl) (.inr ⟨rfl, rfl⟩)
    simp at q3 q4 hm
    rcases hx with rfl | ⟨rfl, _⟩ <;> simp [hk, h, t1, g1, g2, q1, q2, q3, q4, hm, hkm, markL_len]
  · rw [ho] at g1 g2
    simp only [ifb_t] at g1 g2
    have hw2 : (usOf l).length ≤ 2000000 := by have : (usOf l).length ≤ _ := hu; simp at this; omega
    generalize usOf l = ws at g1 g2 hw2
    have q2 := r42 (d + 4) ws (by simp only [big]; omega)
    have q3 := v45' (d + 4) ws 1 (by omega)
    have q4 := r46 (d + 4) ws.length 1 (by omega) (x := .ro 1 (markL mI 1 1 ws.length)) (.inl rfl)
    simp at q3 q4 hm
    have q5 : ¬ (1 : Int) + (ws.length : Int) < 0 := by omega
    rcases hx with rfl | ⟨rfl, _⟩ <;> simp [hk, h, t1, g1, g2, q1, q2, q3, q4, q5, hm, hkm, markL_len]
end Go.Proofs.Ytejffoibihbnnaa.walkS
