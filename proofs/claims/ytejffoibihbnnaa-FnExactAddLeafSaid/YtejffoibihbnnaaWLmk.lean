/- Lists of leaves, marked and held; no conditions. -/
import Derived.Test.YtejffoibihbnnaaWMark2
import Derived.Test.YtejffoibihbnnaaWLeaves
namespace Go.Proofs.Ytejffoibihbnnaa.walkS
open Go Go.Proofs.Ytejffoibihbnnaa.Ev
set_option linter.unusedSimpArgs false
set_option linter.unusedVariables false
noncomputable def lmRow (k n : Nat) : List Cell := [.sc (.string (mtx (k + 0))), .sc (.string (mtx (k + 1))), .sc (.int .i64 ((k : Int) + 1 + 1)), .sc (.string (mtx (k + 3))), .sc (.int .i64 ((k : Int) + 1 + 1 + 1 + 1)), .sc (.int .i64 ((k : Int) + 1 + 1 + 1 + 1 + 1)), .sc (.int .i64 ((k : Int) + 1 + 1 + 1 + 1 + 1 + 1)), .sc (.int .i64 ((k : Int) + 1 + 1 + 1 + 1 + 1 + 1 + 1)), .sl true 29 4 (markV mV 4 (k + 8) n)]
noncomputable def lmRowS (k n : Nat) : List Cell := [.sc (.string (mtx (k + 0))), .sc (.string (mtx (k + 1))), .sc (.int .i64 ((k : Int) + 1 + 1)), .sc (.string (mtx (k + 3))), .sc (.int .i64 ((k : Int) + 1 + 1 + 1 + 1)), .sc (.int .i64 ((k : Int) + 1 + 1 + 1 + 1 + 1)), .sc (.int .i64 ((k : Int) + 1 + 1 + 1 + 1 + 1 + 1)), .sc (.int .i64 ((k : Int) + 1 + 1 + 1 + 1 + 1 + 1 + 1)), .sl false 29 4 (markV mV 4 (k + 8) n)]
/-- rows that are marked from k to k' -/
def mkd (k k' : Nat) : List (List Cell) → Prop
  | [] => k = k' ∧ k ≤ 4611686018427387904
  | row :: t => ∃ n, row = lmRow k n ∧ k + 8 + 4 * n ≤ 4611686018427387904 ∧ mkd (k + 8 + 4 * n) k' t
theorem lift_mV (k n : Nat) : Ev.lift (markV mV 4 k n) = markL mB 4 k n := lift_markV (f := mV) (g := mB) (fun _ => rfl) 4 n k
theorem lx33 (l : List Lf) (hl : l.length ≤ 1048576) (hw : ∀ L ∈ l, L.df.length ≤ big) : ∀ (n i k : Nat) (rows : List (List Cell)), n + i = l.length → rows.length = l.length →
    (∀ j L, i ≤ j → l[j]? = some L → rows[j]? = some (lC L)) → 1 ≤ k → k ≤ 4000000008 * i + 1 → ∃ (k' : Nat) (rows' : List (List Cell)), rows'.length = l.length ∧ (∀ j, j < i → rows'[j]? = rows[j]?) ∧ mkd k k' (rows'.drop i) ∧ k' ≤ 4000000008 * l.length + 1 ∧ ∀ d,
    clC [1, 100000] [4, 100000] (blk 0 (lp (evC (ev (d + 2)) b33_1) (clean [0, 1, 5, 100000]) ⟨lookS [(0, .rf (.sl 0) none 0 l.length), (1, I k), (5, I i), (100000, .rf (.sl 0) none 0 l.length)], lookM [(.sl 0, some (.arr 35 9 rows))]⟩)) =
      some (.nm, ⟨lookS [(1, I k'), (100000, .rf (.sl 100000) none 0 l.length)], lookM [(.sl 100000, some (.arr 35 9 rows'))]⟩) := by
  intro n
  induction n with
  | zero =>
    intro i k rows hi hr hj h1 hk
    have h0 : ¬ (i : Int) < (l.length : Int) := by omega
    refine ⟨k, rows, hr, fun _ _ => rfl, by rw [List.drop_eq_nil_of_le (by omega)]; exact ⟨rfl, by omega⟩, by omega, fun d => ?_⟩
    rw [lp_step]
    simp [h0]
  | succ n ih =>
    intro i k rows hi hr hj h1 hk
    have hlt : i < l.length := by omega
    have h0 : (i : Int) < (l.length : Int) := by omega
    obtain ⟨L, hx⟩ := get_lt hlt
    have hg := hj i L (Nat.le_refl _) hx
    have hd := hw L (List.mem_of_getElem? hx)
    simp only [big] at hd
    have hs : ∀ a, (rows.set i a)[i]? = some a := fun a => List.getElem?_set_self (by rw [hr]; exact hlt)
    have hwi := wrap_nat (i := i) (by omega)
    have k1 : IntKind.i64.wrap ((k : Int) + 1) = (k : Int) + 1 := wrap_in (by omega)
    have k2 : IntKind.i64.wrap ((k : Int) + 1 + 1) = (k : Int) + 1 + 1 := wrap_in (by omega)
    have k3 : IntKind.i64.wrap ((k : Int) + 1 + 1 + 1) = (k : Int) + 1 + 1 + 1 := wrap_in (by omega)
    have k4 : IntKind.i64.wrap ((k : Int) + 1 + 1 + 1 + 1) = (k : Int) + 1 + 1 + 1 + 1 := wrap_in (by omega)
    have k5 : IntKind.i64.wrap ((k : Int) + 1 + 1 + 1 + 1 + 1) = (k : Int) + 1 + 1 + 1 + 1 + 1 := wrap_in (by omega)
    have k6 : IntKind.i64.wrap ((k : Int) + 1 + 1 + 1 + 1 + 1 + 1) = (k : Int) + 1 + 1 + 1 + 1 + 1 + 1 := wrap_in (by omega)
    have k7 : IntKind.i64.wrap ((k : Int) + 1 + 1 + 1 + 1 + 1 + 1 + 1) = (k : Int) + 1 + 1 + 1 + 1 + 1 + 1 + 1 := wrap_in (by omega)
    have k8 : IntKind.i64.wrap ((k : Int) + 1 + 1 + 1 + 1 + 1 + 1 + 1 + 1) = (k : Int) + 1 + 1 + 1 + 1 + 1 + 1 + 1 + 1 := wrap_in (by omega)
    have e8 : ((k + 8 : Nat) : Int) = (k : Int) + 1 + 1 + 1 + 1 + 1 + 1 + 1 + 1 := by omega
    have e9 : ((k + 8 + 4 * L.df.length : Nat) : Int) = (k : Int) + 1 + 1 + 1 + 1 + 1 + 1 + 1 + 1 + 4 * (L.df.length : Int) := by omega
    obtain ⟨k', rows', hr', hpre, hmk, hkb, hih⟩ := ih (i + 1) (k + 8 + 4 * L.df.length) (rows.set i [.sc (.string (mtx (k + 0))), .sc (.string (mtx (k + 1))), .sc (.int .i64 ((k : Int) + 1 + 1)), .sc (.string (mtx (k + 3))), .sc (.int .i64 ((k : Int) + 1 + 1 + 1 + 1)), .sc (.int .i64 ((k : Int) + 1 + 1 + 1 + 1 + 1)), .sc (.int .i64 ((k : Int) + 1 + 1 + 1 + 1 + 1 + 1)), .sc (.int .i64 ((k : Int) + 1 + 1 + 1 + 1 + 1 + 1 + 1)), .sl true 29 4 (markV mV 4 (k + 8) L.df.length)]) (by omega) (by rw [List.length_set, hr])
      (fun j M hj' hM => by rw [List.getElem?_set_ne (by omega)]; exact hj j M (by omega) hM) (by omega) (by omega)
    refine ⟨k', rows', hr', fun j hji => by rw [hpre j (by omega), List.getElem?_set_ne (by omega)], ?_, hkb, fun d => ?_⟩
    · have hri : rows'[i]? = some (lmRow k L.df.length) := by rw [hpre i (by omega)]; exact hs _
      rw [drop_get hri]
      exact ⟨L.df.length, rfl, by omega, hmk⟩
    have m0 : ev (d + 2) 108 [I ((k : Int))] = some (T (mtx (k + 0)), []) := by
      have := r108 (d + 1) (k + 0) (by omega) (by omega)
      rwa [show ((k + 0 : Nat) : Int) = (k : Int) by omega] at this
    have m1 : ev (d + 2) 108 [I ((k : Int) + 1)] = some (T (mtx (k + 1)), []) := by
      have := r108 (d + 1) (k + 1) (by omega) (by omega)
      rwa [show ((k + 1 : Nat) : Int) = (k : Int) + 1 by omega] at this
    have m3 : ev (d + 2) 108 [I ((k : Int) + 1 + 1 + 1)] = some (T (mtx (k + 3)), []) := by
      have := r108 (d + 1) (k + 3) (by omega) (by omega)
      rwa [show ((k + 3 : Nat) : Int) = (k : Int) + 1 + 1 + 1 by omega] at this
    have v := v109' (d + 1) L.df (k + 8) (by omega)
    rw [e8] at v
    have hih' := hih d
    rw [e9] at hih'
    simp at hih' m0
    rw [lp_step]
    simp [h0, hg, hs, hwi, m0, m1, m3, k1, k2, k3, k4, k5, k6, k7, k8, v, bkC, hih']
theorem start_lvx (e k : Nat) (rows : List (List Cell)) (v : Value) : startW [.ow e k rows, .sc v] = some ([.rf (mk0 0) none 0 rows.length, .sc v], ⟨startS [.rf (mk0 0) none 0 rows.length, .sc v], updM noMem (mk0 0) (some (.arr e k rows))⟩) := start_ow e k 0 rows v
theorem vx33 (l : List Lf) (hl : l.length ≤ 1048576) (hw : ∀ L ∈ l, L.df.length ≤ big) : ∃ (k' : Nat) (rows' : List (List Cell)), rows'.length = l.length ∧ mkd 1 k' rows' ∧ k' ≤ 4000000008 * l.length + 1 ∧ ∀ d, ev (d + 3) (wrN + 33) [.ow 35 9 (l.map lC), I 1] =
    some (I k', [.ow 35 9 rows', I 1]) := by
  obtain ⟨k', rows', hr, _, hm, hkb, h⟩ := lx33 l hl hw l.length 0 1 (l.map lC) (by omega) (by simp) (fun j L _ hx => by simp [hx]) (by omega) (by omega)
  refine ⟨k', rows', hr, hm, hkb, fun d => ?_⟩
  rw [v33 (d + 2) (start_lvx _ _ _ _) rfl]
  have key := h d
  simp at key
  simp [key, hr]
theorem vx33n (d : Nat) : ev (d + 1) (wrN + 33) [.nl, I 1] = some (I 1, [.nl, I 1]) := by
  rw [v33 d (start_nl _) rfl]
  simp
  rw [lp_step]
  simp
theorem lx34 (d : Nat) (rows0 : List (List Cell)) (hb : rows0.length ≤ 1048576) : ∀ (n i k k' : Nat), n + i = rows0.length → 1 ≤ k → mkd k k' (rows0.drop i) →
    clC [1] [4] (blk 0 (lp (evC (ev (d + 1)) b34_1) (clean [0, 1, 5]) ⟨lookS [(0, .ro 9 (shut rows0)), (1, I k), (5, I i)], lookM []⟩)) =
      some (.nm, ⟨lookS [(1, I k')], lookM []⟩) := by
  intro n
  induction n with
  | zero =>
    intro i k k' hi h1 hm
    have h0 : ¬ (i : Int) < (rows0.length : Int) := by omega
    rw [List.drop_eq_nil_of_le (by omega)] at hm
    obtain ⟨rfl, _⟩ := hm
    rw [lp_step]
    simp [h0, shut]
  | succ n ih =>
    intro i k k' hi h1 hm
    have hlt : i < rows0.length := by omega
    have h0 : (i : Int) < (rows0.length : Int) := by omega
    obtain ⟨row, hrow⟩ := get_lt hlt
    rw [drop_get hrow] at hm
    obtain ⟨m, rfl, hk, hm⟩ := hm
    have hg : (shut rows0)[i]? = some (lmRowS k m) := by unfold shut; rw [List.getElem?_map, hrow]; rfl
    have hls : (shut rows0).length = rows0.length := by simp [shut]
    generalize shut rows0 = rs at hg hls ih ⊢
    have hwi := wrap_nat (i := i) (by omega)
    have k1 : IntKind.i64.wrap ((k : Int) + 1) = (k : Int) + 1 := wrap_in (by omega)
    have k2 : IntKind.i64.wrap ((k : Int) + 1 + 1) = (k : Int) + 1 + 1 := wrap_in (by omega)
    have k3 : IntKind.i64.wrap ((k : Int) + 1 + 1 + 1) = (k : Int) + 1 + 1 + 1 := wrap_in (by omega)
    have k4 : IntKind.i64.wrap ((k : Int) + 1 + 1 + 1 + 1) = (k : Int) + 1 + 1 + 1 + 1 := wrap_in (by omega)
    have k5 : IntKind.i64.wrap ((k : Int) + 1 + 1 + 1 + 1 + 1) = (k : Int) + 1 + 1 + 1 + 1 + 1 := wrap_in (by omega)
    have k6 : IntKind.i64.wrap ((k : Int) + 1 + 1 + 1 + 1 + 1 + 1) = (k : Int) + 1 + 1 + 1 + 1 + 1 + 1 := wrap_in (by omega)
    have k7 : IntKind.i64.wrap ((k : Int) + 1 + 1 + 1 + 1 + 1 + 1 + 1) = (k : Int) + 1 + 1 + 1 + 1 + 1 + 1 + 1 := wrap_in (by omega)
    have k8 : IntKind.i64.wrap ((k : Int) + 1 + 1 + 1 + 1 + 1 + 1 + 1 + 1) = (k : Int) + 1 + 1 + 1 + 1 + 1 + 1 + 1 + 1 := wrap_in (by omega)
    have e8 : ((k + 8 : Nat) : Int) = (k : Int) + 1 + 1 + 1 + 1 + 1 + 1 + 1 + 1 := by omega
    have e9 : ((k + 8 + 4 * m : Nat) : Int) = (k : Int) + 1 + 1 + 1 + 1 + 1 + 1 + 1 + 1 + 4 * (m : Int) := by omega
    have m0 : ev (d + 1) 108 [I ((k : Int))] = some (T (mtx (k + 0)), []) := by
      have := r108 d (k + 0) (by omega) (by omega)
      rwa [show ((k + 0 : Nat) : Int) = (k : Int) by omega] at this
    have m1 : ev (d + 1) 108 [I ((k : Int) + 1)] = some (T (mtx (k + 1)), []) := by
      have := r108 d (k + 1) (by omega) (by omega)
      rwa [show ((k + 1 : Nat) : Int) = (k : Int) + 1 by omega] at this
    have m3 : ev (d + 1) 108 [I ((k : Int) + 1 + 1 + 1)] = some (T (mtx (k + 3)), []) := by
      have := r108 d (k + 3) (by omega) (by omega)
      rwa [show ((k + 3 : Nat) : Int) = (k : Int) + 1 + 1 + 1 by omega] at this
    have v := r110 d m (k + 8) (by omega) (x := .ro 4 (markL mB 4 (k + 8) m)) (.inl rfl)
    rw [e8] at v
    have vn : ¬ (k : Int) + 1 + 1 + 1 + 1 + 1 + 1 + 1 + 1 + 4 * (m : Int) < 0 := by omega
    have ih' := ih (i + 1) (k + 8 + 4 * m) k' (by omega) (by omega) hm
    rw [e9] at ih'
    simp only [Int.natCast_add, Int.cast_ofNat_Int] at ih'
    simp only [lmRowS] at hg
    simp at m0
    rw [lp_step]
    simp [h0, hls, hg, hwi, m0, m1, m3, k1, k2, k3, k4, k5, k6, k7, k8, lift_mV, v, vn, ih']
theorem rx34 (d : Nat) (rows : List (List Cell)) (hb : rows.length ≤ 1048576) (k' : Nat) (hm : mkd 1 k' rows) : ev (d + 2) 34 [.ro 9 (shut rows), I 1] = some (I k', []) := by
  rw [s34 (d + 1) _ rfl]
  have key := lx34 d rows hb rows.length 0 1 k' (by omega) (by omega) hm
  simp at key
  simp [key]
theorem rx34n (d : Nat) : ev (d + 2) 34 [.nl, I 1] = some (I 1, []) := by
  rw [s34 (d + 1) _ rfl]
  simp
  rw [lp_step]
  simp
theorem rx32n (d : Nat) : ev (d + 4) 32 [.nl, .nl] = some (B true, []) := by
  rw [s32 (d + 3) _ rfl]
  simp
  rw [lp_step]
  simp
end Go.Proofs.Ytejffoibihbnnaa.walkS
