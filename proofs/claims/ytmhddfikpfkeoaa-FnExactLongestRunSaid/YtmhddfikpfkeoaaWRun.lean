/- The longest run of a flitch; the row LongestRun; no conditions. -/
import Derived.Test.YtmhddfikpfkeoaaWMis
namespace Go.Proofs.Ytmhddfikpfkeoaa.walkS
open Go Go.Proofs.Ytmhddfikpfkeoaa.Ev
set_option linter.unusedSimpArgs false
set_option linter.unusedVariables false
theorem rCl61 (d : Nat) (R : List Int) (hb : R.length ≤ big) : ev (d + 1) 61 [.ro 1 (R.map iC)] = some (.ow 2 1 (R.map iC), []) := by
  rw [s61 d _ rfl]
  simp [hb]
/-- the run after x -/
def rnx (key : Int → Int) (run : List Int) (x : Int) : List Int :=
  match run[run.length - 1]? with
  | some y => if key x = key y then run else if key x = key y + 1 then run ++ [x] else [x]
  | none => [x]
def lrn (key : Int → Int) : List Int → List Int → List Int → List Int
  | best, _, [] => best
  | best, run, x :: A => lrn key (if best.length < (rnx key run x).length then rnx key run x else best) (rnx key run x) A
theorem rnx_nil {key : Int → Int} {x : Int} : rnx key [] x = [x] := rfl
section
variable {key : Int → Int} {run : List Int} {x y : Int} (h : run[run.length - 1]? = some y)
include h
theorem rnx_eq (e : key x = key y) : rnx key run x = run := by simp only [rnx, h, if_pos e]
theorem rnx_nx (e : key x = key y + 1) : rnx key run x = run ++ [x] := by
  have : ¬ key x = key y := by omega
  simp only [rnx, h, if_neg this, if_pos e]
theorem rnx_no (e1 : ¬ key x = key y) (e2 : ¬ key x = key y + 1) : rnx key run x = [x] := by simp only [rnx, h, if_neg e1, if_neg e2]
end
theorem rnx_len (key : Int → Int) (run : List Int) (x : Int) : (rnx key run x).length ≤ run.length + 1 := by
  unfold rnx
  cases run[run.length - 1]? with
  | none => simp
  | some y =>
    simp only []
    split
    · omega
    · split <;> simp
theorem rnx_mem {key : Int → Int} {run : List Int} {x z : Int} (h : z ∈ rnx key run x) : z ∈ run ∨ z = x := by
  unfold rnx at h
  cases hq : run[run.length - 1]? with
  | none => rw [hq] at h; simp at h; exact .inr h
  | some y =>
    rw [hq] at h
    simp only [] at h
    split at h
    · exact .inl h
    · split at h
      · simpa using h
      · simp at h; exact .inr h
theorem lrn_len (key : Int → Int) : ∀ (A best run : List Int), (lrn key best run A).length ≤ max best.length (run.length + A.length) := by
  intro A
  induction A with
  | nil => intro best run; simp only [lrn]; omega
  | cons x A ih =>
    intro best run
    have h1 := rnx_len key run x
    simp only [lrn, List.length_cons]
    generalize rnx key run x = run' at h1 ⊢
    have h2 := fun b => ih b run'
    split
    · have := h2 run'
      omega
    · have := h2 best
      omega
theorem l12 (d : Nat) (l : List Lf) (hn : Nums l) (A : List Int) (hAb : A.length ≤ 16) (hI : InL l A) (hu : Up (nmA l) A) : ∀ (n i : Nat) (best run r : List Int), n + i = A.length → lrn (nmA l) best run (A.drop i) = r → best.length ≤ i → run.length ≤ best.length → (∀ z ∈ run, z ∈ A.take i) →
    clC [8] [4, 5] (blk 0 (lp (evC (ev (d + 1)) b12_1) (clean [0, 6, 8, 9, 10]) ⟨lookS [(0, .ro 9 (l.map lS)), (6, .rf (.sl 6) none 0 A.length), (8, .rf (.sl 8) none 0 best.length), (9, .rf (.sl 9) none 0 run.length), (10, I i)], lookM [((.sl 6), some (.arr 2 1 (A.map iC))), ((.sl 8), some (.arr 2 1 (best.map iC))), ((.sl 9), some (.arr 2 1 (run.map iC)))]⟩)) =
      some (.nm, ⟨lookS [(8, .rf (.sl 8) none 0 r.length)], lookM [((.sl 8), some (.arr 2 1 (r.map iC)))]⟩) := by
  intro n
  induction n with
  | zero =>
    intro i best run r hi hr hb1 hb2 hz
    have h0 : ¬ (i : Int) < (A.length : Int) := by omega
    rw [List.drop_eq_nil_of_le (by omega)] at hr
    have e : best = r := hr
    subst e
    rw [lp_step]
    simp [h0]
  | succ n ih =>
    intro i best run r hi hr hb1 hb2 hz
    have hlt : i < A.length := by omega
    have h0 : (i : Int) < (A.length : Int) := by omega
    obtain ⟨x, hx⟩ := get_lt (l := A) (i := i) (by omega)
    obtain ⟨x0, M, hM⟩ := hI.get hx
    have bM := nums_get hn hM
    have kx := nmA_get hM
    have hw := wrap_nat (i := i) (by omega)
    rw [drop_get hx] at hr
    simp only [lrn] at hr
    have bb1 : best.length + 1 ≤ big := by simp only [big]; omega
    have bb2 : run.length + 1 ≤ big := by simp only [big]; omega
    have bb3 : 1 ≤ big := by simp only [big]; omega
    have hxm : x ∈ A.take (i + 1) := by rw [List.take_add_one, hx]; simp
    have hzm : ∀ z ∈ run, z ∈ A.take (i + 1) := fun z h => by rw [List.take_add_one, hx]; simp [hz z h]
    have own1 := r59 d [x] (by simp [big])
    have own2 := r59 d (run ++ [x]) (by simp; omega)
    have rn1 : (List.map iC run ++ [iC x]).any (fun x => x.any roCell) = false := by simp
    have sh1 : shut (List.map iC run ++ [iC x]) = List.map iC run ++ [iC x] := by have := shut_iC (run ++ [x]); simpa using this
    have tk1 : (List.map iC run ++ [iC x]).take (run.length + 1) = List.map iC run ++ [iC x] := List.take_of_length_le (by simp)
    rw [lp_step]
    by_cases hrn : run.length = 0
    · have e0 : run = [] := List.length_eq_zero_iff.1 hrn
      subst e0
      rw [rnx_nil] at hr
      by_cases hlb : best.length < [x].length
      · rw [if_pos hlb] at hr
        have eb : best.length = 0 := by simpa using hlb
        have ih' := ih (i + 1) [x] [x] r (by omega) hr (by simp) (Nat.le_refl _) (fun z h => by simp at h; rw [h]; exact hxm)
        simp at own1 ih'
        simp [h0, hx, own1, eb, bb3, hw, shut, shutC, ih']
      · rw [if_neg hlb] at hr
        have eb : ¬ best.length = 0 := fun e => hlb (by simp [e])
        have eb2 : ¬ (best.length : Int) < 1 := by omega
        have eb3 : ¬ best = [] := fun e => eb (by rw [e]; rfl)
        have ih' := ih (i + 1) best [x] r (by omega) hr (by omega) (by simp; omega) (fun z h => by simp at h; rw [h]; exact hxm)
        simp at ih'
        simp [h0, hx, eb, eb2, eb3, bb3, hw, ih']
    have hpos : 0 < run.length := by omega
    obtain ⟨y, hy⟩ := get_lt (l := run) (i := run.length - 1) (by omega)
    have hym := hz y (List.mem_of_getElem? hy)
    obtain ⟨y0, L, hL⟩ : 0 ≤ y ∧ ∃ L, l[y.toNat]? = some L := by
      have := hI y (List.mem_of_mem_take hym)
      exact ⟨this.1, get_lt this.2⟩
    have bL := nums_get hn hL
    have ky := nmA_get hL
    have up : L.num ≤ M.num := by
      have h2 : x ∈ A.drop i := by rw [drop_get hx]; simp
      have h3 := hu
      unfold Up at h3
      rw [← List.take_append_drop i A, List.pairwise_append] at h3
      have := h3.2.2 y hym x h2
      rwa [kx, ky] at this
    have p1 : (1 : Int) ≤ (run.length : Int) := by omega
    have p2 : 1 ≤ run.length := hpos
    have p3 : (run.length : Int) - 1 < (run.length : Int) := by omega
    have p4 : (0 : Int) ≤ (run.length : Int) - 1 := by omega
    have pt : ((run.length : Int) - 1).toNat = run.length - 1 := by omega
    have pw : IntKind.i64.wrap ((run.length : Int) - 1) = (run.length : Int) - 1 := wrap_in (by omega)
    have hne : ¬ run = [] := fun e => hrn (by rw [e]; rfl)
    have wa : IntKind.i64.wrap (L.num + 1) = L.num + 1 := wrap_in (by omega)
    have wM : IntKind.i64.wrap M.num = M.num := wrap_in (by omega)
    have wb : IntKind.i64.wrap (M.num - L.num) = M.num - L.num := IntWalk.i64_in _ (by omega)
    by_cases c1 : M.num = L.num
    · rw [rnx_eq hy (by rw [kx, ky]; exact c1), if_neg (by omega)] at hr
      have ih' := ih (i + 1) best run r (by omega) hr (by omega) hb2 hzm
      have c1' : L.num = M.num := c1.symm
      have w0 : IntKind.i64.wrap (M.num - L.num) = 0 := by rw [wb]; omega
      simp only [Int.natCast_add, Int.cast_ofNat_Int] at ih'
      simp [h0, hx, hy, hL, hM, x0, y0, hpos, hne, p1, p2, p3, p4, pt, pw, c1', hw, ih']
    by_cases c2 : M.num = L.num + 1
    · rw [rnx_nx hy (by rw [kx, ky]; exact c2)] at hr
      have q1 : ¬ L.num = M.num := by omega
      have q2 : L.num + 1 = M.num := by omega
      have w1 : IntKind.i64.wrap (M.num - L.num) = 1 := by rw [wb]; omega
      by_cases hlb : best.length < (run ++ [x]).length
      · rw [if_pos hlb] at hr
        have ih' := ih (i + 1) (run ++ [x]) (run ++ [x]) r (by omega) hr (by simp; omega) (Nat.le_refl _) (fun z h => by
          rcases List.mem_append.1 h with h | h
          · exact hzm z h
          · simp at h; rw [h]; exact hxm)
        have g1 : best.length ≤ run.length := by simp at hlb; omega
        have g2 : (best.length : Int) < (run.length : Int) + 1 := by omega
        have g3 : best.length < run.length + 1 := by omega
        have g4 : (best.length : Int) ≤ (run.length : Int) := by omega
        simp at own2 ih'
        simp [h0, hx, hy, hL, hM, x0, y0, hpos, hne, p1, p2, p3, p4, pt, pw, q1, q2, wa, wM, bb2, rn1, sh1, tk1, own2, g1, g2, g3, g4, hw, ih']
      · rw [if_neg hlb] at hr
        have ih' := ih (i + 1) best (run ++ [x]) r (by omega) hr (by omega) (by omega) (fun z h => by
          rcases List.mem_append.1 h with h | h
          · exact hzm z h
          · simp at h; rw [h]; exact hxm)
        have g1 : ¬ best.length ≤ run.length := by simp at hlb; omega
        have g2 : ¬ (best.length : Int) < (run.length : Int) + 1 := by omega
        have g3 : ¬ best.length < run.length + 1 := by omega
        have g4 : ¬ (best.length : Int) ≤ (run.length : Int) := by omega
        simp at ih'
        simp [h0, hx, hy, hL, hM, x0, y0, hpos, hne, p1, p2, p3, p4, pt, pw, q1, q2, wa, wM, bb2, g1, g2, g3, g4, hw, ih']
    rw [rnx_no hy (by rw [kx, ky]; exact c1) (by rw [kx, ky]; exact c2), if_neg (by show ¬ best.length < 1; omega)] at hr
    have ih' := ih (i + 1) best [x] r (by omega) hr (by omega) (by simp; omega) (fun z h => by simp at h; rw [h]; exact hxm)
    have q1 : ¬ L.num = M.num := by omega
    have q2 : ¬ L.num + 1 = M.num := by omega
    have t0 : ¬ M.num - L.num = 0 := by omega
    have t1 : 1 < M.num - L.num := by omega
    have eb2 : ¬ (best.length : Int) < 1 := by omega
    have eb : ¬ best.length = 0 := by omega
    have eb3 : ¬ best = [] := fun e => eb (by rw [e]; rfl)
    have eb4 : ¬ best.length < 1 := by omega
    simp at ih'
    simp [h0, hx, hy, hL, hM, x0, y0, hpos, hne, p1, p2, p3, p4, pt, pw, q1, q2, wa, bb3, eb, eb2, eb3, eb4, hw, ih']
theorem l14 (d : Nat) (l : List Lf) (hn : Nums l) (A : List Int) (hAb : A.length ≤ 16) (hI : InL l A) (hu : Up (nmA l) A) : ∀ (n i : Nat) (best run r : List Int), n + i = A.length → lrn (nmA l) best run (A.drop i) = r → best.length ≤ i → run.length ≤ best.length → (∀ z ∈ run, z ∈ A.take i) →
    clC [8] [4, 5] (blk 0 (lp (evC (ev (d + 1)) b14_1) (clean [0, 8, 9, 25, 26, 27]) ⟨lookS [(0, .ro 9 (l.map lS)), (8, .rf (.sl 8) none 0 best.length), (9, .rf (.sl 9) none 0 run.length), (25, .rf (.sl 25) none 0 A.length), (26, I A.length), (27, I i)], lookM [((.sl 8), some (.arr 2 1 (best.map iC))), ((.sl 9), some (.arr 2 1 (run.map iC))), ((.sl 25), some (.arr 2 1 (A.map iC)))]⟩)) =
      some (.nm, ⟨lookS [(8, .rf (.sl 8) none 0 r.length)], lookM [((.sl 8), some (.arr 2 1 (r.map iC)))]⟩) := by
  intro n
  induction n with
  | zero =>
    intro i best run r hi hr hb1 hb2 hz
    have h0 : ¬ (i : Int) < (A.length : Int) := by omega
    rw [List.drop_eq_nil_of_le (by omega)] at hr
    have e : best = r := hr
    subst e
    rw [lp_step]
    simp [h0]
  | succ n ih =>
    intro i best run r hi hr hb1 hb2 hz
    have hlt : i < A.length := by omega
    have h0 : (i : Int) < (A.length : Int) := by omega
    obtain ⟨x, hx⟩ := get_lt (l := A) (i := i) (by omega)
    obtain ⟨x0, M, hM⟩ := hI.get hx
    have bM := nums_get hn hM
    have kx := nmA_get hM
    have hw := wrap_nat (i := i) (by omega)
    rw [drop_get hx] at hr
    simp only [lrn] at hr
    have bb1 : best.length + 1 ≤ big := by simp only [big]; omega
    have bb2 : run.length + 1 ≤ big := by simp only [big]; omega
    have bb3 : 1 ≤ big := by simp only [big]; omega
    have hxm : x ∈ A.take (i + 1) := by rw [List.take_add_one, hx]; simp
    have hzm : ∀ z ∈ run, z ∈ A.take (i + 1) := fun z h => by rw [List.take_add_one, hx]; simp [hz z h]
    have own1 := rCl61 d [x] (by simp [big])
    have own2 := rCl61 d (run ++ [x]) (by simp; omega)
    have rn1 : (List.map iC run ++ [iC x]).any (fun x => x.any roCell) = false := by simp
    have sh1 : shut (List.map iC run ++ [iC x]) = List.map iC run ++ [iC x] := by have := shut_iC (run ++ [x]); simpa using this
    have tk1 : (List.map iC run ++ [iC x]).take (run.length + 1) = List.map iC run ++ [iC x] := List.take_of_length_le (by simp)
    rw [lp_step]
    by_cases hrn : run.length = 0
    · have e0 : run = [] := List.length_eq_zero_iff.1 hrn
      subst e0
      rw [rnx_nil] at hr
      by_cases hlb : best.length < [x].length
      · rw [if_pos hlb] at hr
        have eb : best.length = 0 := by simpa using hlb
        have ih' := ih (i + 1) [x] [x] r (by omega) hr (by simp) (Nat.le_refl _) (fun z h => by simp at h; rw [h]; exact hxm)
        simp at own1 ih'
        simp [h0, hx, own1, eb, bb3, hw, shut, shutC, ih']
      · rw [if_neg hlb] at hr
        have eb : ¬ best.length = 0 := fun e => hlb (by simp [e])
        have eb2 : ¬ (best.length : Int) < 1 := by omega
        have eb3 : ¬ best = [] := fun e => eb (by rw [e]; rfl)
        have ih' := ih (i + 1) best [x] r (by omega) hr (by omega) (by simp; omega) (fun z h => by simp at h; rw [h]; exact hxm)
        simp at ih'
        simp [h0, hx, eb, eb2, eb3, bb3, hw, ih']
    have hpos : 0 < run.length := by omega
    obtain ⟨y, hy⟩ := get_lt (l := run) (i := run.length - 1) (by omega)
    have hym := hz y (List.mem_of_getElem? hy)
    obtain ⟨y0, L, hL⟩ : 0 ≤ y ∧ ∃ L, l[y.toNat]? = some L := by
      have := hI y (List.mem_of_mem_take hym)
      exact ⟨this.1, get_lt this.2⟩
    have bL := nums_get hn hL
    have ky := nmA_get hL
    have up : L.num ≤ M.num := by
      have h2 : x ∈ A.drop i := by rw [drop_get hx]; simp
      have h3 := hu
      unfold Up at h3
      rw [← List.take_append_drop i A, List.pairwise_append] at h3
      have := h3.2.2 y hym x h2
      rwa [kx, ky] at this
    have p1 : (1 : Int) ≤ (run.length : Int) := by omega
    have p2 : 1 ≤ run.length := hpos
    have p3 : (run.length : Int) - 1 < (run.length : Int) := by omega
    have p4 : (0 : Int) ≤ (run.length : Int) - 1 := by omega
    have pt : ((run.length : Int) - 1).toNat = run.length - 1 := by omega
    have pw : IntKind.i64.wrap ((run.length : Int) - 1) = (run.length : Int) - 1 := wrap_in (by omega)
    have hne : ¬ run = [] := fun e => hrn (by rw [e]; rfl)
    have wa : IntKind.i64.wrap (L.num + 1) = L.num + 1 := wrap_in (by omega)
    have wM : IntKind.i64.wrap M.num = M.num := wrap_in (by omega)
    have wb : IntKind.i64.wrap (M.num - L.num) = M.num - L.num := IntWalk.i64_in _ (by omega)
    by_cases c1 : M.num = L.num
    · rw [rnx_eq hy (by rw [kx, ky]; exact c1), if_neg (by omega)] at hr
      have ih' := ih (i + 1) best run r (by omega) hr (by omega) hb2 hzm
      have c1' : L.num = M.num := c1.symm
      have w0 : IntKind.i64.wrap (M.num - L.num) = 0 := by rw [wb]; omega
      simp only [Int.natCast_add, Int.cast_ofNat_Int] at ih'
      simp [h0, hx, hy, hL, hM, x0, y0, hpos, hne, p1, p2, p3, p4, pt, pw, w0, hw, ih']
    by_cases c2 : M.num = L.num + 1
    · rw [rnx_nx hy (by rw [kx, ky]; exact c2)] at hr
      have q1 : ¬ L.num = M.num := by omega
      have q2 : L.num + 1 = M.num := by omega
      have w1 : IntKind.i64.wrap (M.num - L.num) = 1 := by rw [wb]; omega
      by_cases hlb : best.length < (run ++ [x]).length
      · rw [if_pos hlb] at hr
        have ih' := ih (i + 1) (run ++ [x]) (run ++ [x]) r (by omega) hr (by simp; omega) (Nat.le_refl _) (fun z h => by
          rcases List.mem_append.1 h with h | h
          · exact hzm z h
          · simp at h; rw [h]; exact hxm)
        have g1 : best.length ≤ run.length := by simp at hlb; omega
        have g2 : (best.length : Int) < (run.length : Int) + 1 := by omega
        have g3 : best.length < run.length + 1 := by omega
        have g4 : (best.length : Int) ≤ (run.length : Int) := by omega
        simp at own2 ih'
        simp [h0, hx, hy, hL, hM, x0, y0, hpos, hne, p1, p2, p3, p4, pt, pw, w1, bb2, rn1, sh1, tk1, own2, g1, g2, g3, g4, hw, ih']
      · rw [if_neg hlb] at hr
        have ih' := ih (i + 1) best (run ++ [x]) r (by omega) hr (by omega) (by omega) (fun z h => by
          rcases List.mem_append.1 h with h | h
          · exact hzm z h
          · simp at h; rw [h]; exact hxm)
        have g1 : ¬ best.length ≤ run.length := by simp at hlb; omega
        have g2 : ¬ (best.length : Int) < (run.length : Int) + 1 := by omega
        have g3 : ¬ best.length < run.length + 1 := by omega
        have g4 : ¬ (best.length : Int) ≤ (run.length : Int) := by omega
        simp at ih'
        simp [h0, hx, hy, hL, hM, x0, y0, hpos, hne, p1, p2, p3, p4, pt, pw, w1, bb2, g1, g2, g3, g4, hw, ih']
    rw [rnx_no hy (by rw [kx, ky]; exact c1) (by rw [kx, ky]; exact c2), if_neg (by show ¬ best.length < 1; omega)] at hr
    have ih' := ih (i + 1) best [x] r (by omega) hr (by omega) (by simp; omega) (fun z h => by simp at h; rw [h]; exact hxm)
    have q1 : ¬ L.num = M.num := by omega
    have q2 : ¬ L.num + 1 = M.num := by omega
    have t0 : ¬ M.num - L.num = 0 := by omega
    have t1 : 1 < M.num - L.num := by omega
    have eb2 : ¬ (best.length : Int) < 1 := by omega
    have eb : ¬ best.length = 0 := by omega
    have eb3 : ¬ best = [] := fun e => eb (by rw [e]; rfl)
    have eb4 : ¬ best.length < 1 := by omega
    simp at ih'
    simp [h0, hx, hy, hL, hM, x0, y0, hpos, hne, p1, p2, p3, p4, pt, pw, wb, c1, t0, t1, bb3, eb, eb2, eb3, eb4, hw, ih']
def runOf (l : List Lf) (s : ByteArray) : Option (List Int) × Int :=
  match (flOf l s).1 with
  | none => (none, (flOf l s).2)
  | some A => (some (lrn (nmA l) [] [] A), 0)
theorem r12 (d : Nat) (l : List Lf) (hb : l.length ≤ big) (hw : ∀ L ∈ l, BdL L) (s : ByteArray) : ev (d + 7) 12 [.ro 9 (l.map lS), T s] = some (.tu [oL (runOf l s).1, I (runOf l s).2], []) := by
  rw [s12 (d + 6) _ rfl]
  have e1 := r58 d l hb hw s
  have e0 := r57 d l hb hw
  have e00 : okLs l = (okFrom l l.length 0 && decide (l.length ≤ 16)) := rfl
  rw [← e00] at e0
  unfold runOf
  cases hf : (flOf l s).1 with
  | none =>
    have hc := flOf_none hf
    rw [hf] at e1
    generalize (flOf l s).2 = c at e1 hc
    cases ho : okLs l
    · rw [ho] at e0
      simp [oL] at e1
      simp [oL, e0, hc.2 ho]
    · rw [ho] at e0
      simp [oL] at e1
      simp [oL, e0, e1, hc.1]
  | some A =>
    obtain ⟨ho, hA, hne, h2⟩ := flOf_some hf
    rw [hf, h2] at e1
    have hl : A.length ≤ 16 := by rw [hA]; exact flA_le ho
    have hI : InL l A := by rw [hA]; exact flA_in l s
    have hu : Up (nmA l) A := by rw [hA]; exact flA_up l s
    have key := l12 (d + 5) l (okLs_nums ho) A hl hI hu A.length 0 [] [] (lrn (nmA l) [] [] A) (by omega) (by simp) (by simp) (by simp) (by simp)
    rw [ho] at e0
    simp [oL] at e1
    dsimp only
    generalize lrn (nmA l) [] [] A = ms at key ⊢
    simp at key
    simp [oL, e1, e0, key]
theorem r14 (d : Nat) (l : List Lf) (hb : l.length ≤ big) (hw : ∀ L ∈ l, BdL L) (s : ByteArray) : ev (d + 9) 14 [.ro 9 (l.map lS), T s] = some (.tu [oL (runOf l s).1, I (runOf l s).2], []) := by
  rw [s14 (d + 8) _ rfl]
  have e1 := r60 d l hb hw s
  unfold runOf
  cases hf : (flOf l s).1 with
  | none =>
    have hc := flOf_none hf
    rw [hf] at e1
    generalize (flOf l s).2 = c at e1 hc
    simp [oL] at e1
    simp [oL, e1, hc.1]
  | some A =>
    obtain ⟨ho, hA, hne, h2⟩ := flOf_some hf
    rw [hf, h2] at e1
    have hl : A.length ≤ 16 := by rw [hA]; exact flA_le ho
    have hI : InL l A := by rw [hA]; exact flA_in l s
    have hu : Up (nmA l) A := by rw [hA]; exact flA_up l s
    have key := l14 (d + 7) l (okLs_nums ho) A hl hI hu A.length 0 [] [] (lrn (nmA l) [] [] A) (by omega) (by simp) (by simp) (by simp) (by simp)
    simp [oL] at e1
    dsimp only
    generalize lrn (nmA l) [] [] A = ms at key ⊢
    simp at key
    simp [oL, e1, key]
set_option maxHeartbeats 1000000 in
theorem r3 (d : Nat) (l : List (Lf × Bool)) (hb : l.length ≤ maxLen) (hw : ∀ q ∈ l, WfL q.1 ∧ (q.2 = true → q.1.df = [])) {x : LV} (hx : SV 9 (l.map lI) x) (s : ByteArray) : ev (d + 10) 3 [x, T s] = some (B true, []) := by
  rw [s3 (d + 9) _ rfl]
  by_cases hs0 : (s.size : Int) > 1048576
  · rcases hx with rfl | ⟨rfl, _⟩ <;> simp [hs0]
  obtain ⟨k, hk, hs⟩ := r11 (d + 6) l hb hw hx
  by_cases h : k < 0
  · rcases hx with rfl | ⟨rfl, _⟩ <;> simp [hs0, hk, h]
  obtain ⟨b1, b2⟩ := hs (by omega)
  have bb : l.length ≤ big := by simp only [big]; omega
  have bl : (l.map (·.1)).length ≤ big := by simpa using bb
  have bw : ∀ L ∈ l.map (·.1), BdL L := by
    intro L hL
    obtain ⟨q, hq, rfl⟩ := List.mem_map.1 hL
    exact b2 q hq
  have t1 := r13 (d + 5) l bb (fun q hq => ⟨(b2 q hq).df, (hw q hq).2⟩) hx
  have g1 := r12 (d + 2) _ bl bw s
  have g2 := r14 (d + 0) _ bl bw s
  have q1 := r16 (d + 5) _ bl (fun L hL => (bw L hL).df)
  obtain ⟨km, rows', hr', hm⟩ := v17' (l.map (·.1)) (by simpa using b1) (fun L hL => (bw L hL).df)
  have hm := hm (d + 6)
  have len : l.length = (l.map (·.1)).length := by simp
  generalize l.map (·.1) = ls at t1 g1 g2 q1 len hm bl hr'
  have hkm : ¬ (km : Int) < 0 := by omega
  have hbd : ∀ ws, (runOf ls s).1 = some ws → ws.length ≤ 1000000 := fun ws hws => by
    unfold runOf at hws
    cases hf : (flOf ls s).1 with
    | none => rw [hf] at hws; cases hws
    | some A =>
      rw [hf] at hws
      obtain ⟨ho, hA, _, _⟩ := flOf_some hf
      have h16 : A.length ≤ 16 := by rw [hA]; exact flA_le ho
      have := lrn_len (nmA ls) A [] []
      simp at hws
      rw [← hws]
      simp at this
      omega
  generalize runOf ls s = oc at g1 g2 hbd
  obtain ⟨o, c⟩ := oc
  cases o with
  | none =>
    have q2 := r15n (d + 8)
    have q3 := v18'n (d + 8) 1
    have q4 := r19 (d + 8) 0 1 (by omega) (x := .nl) (.inr ⟨rfl, rfl⟩)
    simp [oL] at q3 q4 g1 g2
    rcases hx with rfl | ⟨rfl, _⟩ <;> simp [hs0, hk, h, t1, g1, g2, q1, q2, q3, q4, hm, hkm, hr', len]
  | some ws =>
    have hw2 := hbd ws rfl
    have q2 := r15 (d + 8) ws (by simp only [big]; omega)
    have q3 := v18' (d + 8) ws 1 (by omega)
    have q4 := r19 (d + 8) ws.length 1 (by omega) (x := .ro 1 (markL mI 1 1 ws.length)) (.inl rfl)
    simp [oL] at q3 q4 g1 g2
    have q5 : ¬ (1 : Int) + (ws.length : Int) < 0 := by omega
    rcases hx with rfl | ⟨rfl, _⟩ <;> simp [hs0, hk, h, t1, g1, g2, q1, q2, q3, q4, q5, hm, hkm, hr', len]
end Go.Proofs.Ytmhddfikpfkeoaa.walkS
