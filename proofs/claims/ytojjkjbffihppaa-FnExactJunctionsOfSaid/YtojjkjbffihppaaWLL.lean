/- Lists of lists of numbers; no conditions. -/
import Derived.Test.YtojjkjbffihppaaWMark2
namespace Go.Proofs.Ytojjkjbffihppaa.walkS
open Go Go.Proofs.Ytojjkjbffihppaa.Ev
set_option linter.unusedSimpArgs false
set_option linter.unusedVariables false
theorem l36 (d : Nat) (l : List (List Int)) (hb : l.length ≤ big) (hq : ∀ q ∈ l, q.length ≤ big) : ∀ (n i : Nat), n + i = l.length →
    clC [] [4] (blk 0 (lp (evC (ev (d + 1)) b36_1) (clean [0, 1, 5]) ⟨lookS [(0, .ro 1 (l.map jR)), (1, .ro 1 (l.map jR)), (5, I i)], lookM []⟩)) =
      some (.nm, ⟨lookS [], lookM []⟩) := by
  intro n
  induction n with
  | zero =>
    intro i hi
    have h0 : ¬ (i : Int) < (l.length : Int) := by omega
    rw [lp_step]
    simp [h0]
  | succ n ih =>
    intro i hi
    have hlt : i < l.length := by omega
    have h0 : (i : Int) < (l.length : Int) := by omega
    obtain ⟨q, hx⟩ := get_lt hlt
    have hw := wrap_nat (i := i) (by simp [big] at hb; omega)
    have ih' := ih (i + 1) (by omega)
    simp only [Int.natCast_add, Int.cast_ofNat_Int] at ih'
    have hc := r27 d q (hq q (List.mem_of_getElem? hx))
    rw [lp_step]
    simp [h0, hx, hw, hc, ih']
theorem r36 (d : Nat) (l : List (List Int)) (hb : l.length ≤ big) (hq : ∀ q ∈ l, q.length ≤ big) : ev (d + 2) 36 [.ro 1 (l.map jR), .ro 1 (l.map jR)] = some (B true, []) := by
  rw [s36 (d + 1) _ rfl]
  have key := l36 d l hb hq l.length 0 (by omega)
  simp at key
  simp [key]
theorem r36n (d : Nat) : ev (d + 1) 36 [.nl, .nl] = some (B true, []) := by
  rw [s36 d _ rfl]
  simp
  rw [lp_step]
  simp
/-- how many numbers -/
def tot : List (List Int) → Nat
  | [] => 0
  | q :: l => q.length + tot l
/-- the lists, marked from k on -/
def mkA (o : Bool) : List (List Int) → Nat → List (List Cell)
  | [], _ => []
  | q :: l, k => [.sl o 2 1 (markV mIV 1 k q.length)] :: mkA o l (k + q.length)
theorem mkA_len (o : Bool) : ∀ (l : List (List Int)) (k : Nat), (mkA o l k).length = l.length := by
  intro l
  induction l with
  | nil => intro k; rfl
  | cons q l ih => intro k; simp [mkA, ih]
theorem shut_mkA (o : Bool) : ∀ (l : List (List Int)) (k : Nat), shut (mkA o l k) = mkA false l k := by
  intro l
  induction l with
  | nil => intro k; rfl
  | cons q l ih =>
    intro k
    have := ih (k + q.length)
    simp only [shut] at this ⊢
    simp only [mkA, List.map_cons, this]
    rfl
theorem mkA_take (o : Bool) (l : List (List Int)) (k : Nat) : (mkA o l k).take l.length = mkA o l k := List.take_of_length_le (by rw [mkA_len]; exact Nat.le_refl _)
attribute [simp] mkA_len shut_mkA mkA_take
theorem mkA_app (o : Bool) (k : Nat) : ∀ (l l' : List (List Int)) (k : Nat), mkA o (l ++ l') k = mkA o l k ++ mkA o l' (k + tot l) := by
  intro l l'
  induction l with
  | nil => intro k; rfl
  | cons q l ih => intro k; simp [mkA, tot, ih, Nat.add_assoc]
theorem tot_app : ∀ (l l' : List (List Int)), tot (l ++ l') = tot l + tot l' := by
  intro l l'
  induction l with
  | nil => simp [tot]
  | cons q l ih => simp [tot, ih, Nat.add_assoc]
theorem tot_take {l : List (List Int)} {i : Nat} {q : List Int} (h : l[i]? = some q) : tot (l.take (i + 1)) = tot (l.take i) + q.length := by
  rw [List.take_add_one, h, tot_app]
  simp [tot]
theorem tot_le : ∀ (l : List (List Int)) (i : Nat), tot (l.take i) ≤ tot l := by
  intro l
  induction l with
  | nil => intro i; simp [tot]
  | cons q l ih =>
    intro i
    cases i with
    | zero => simp [tot]
    | succ i => have := ih i; simp only [List.take_succ_cons, tot]; omega
def mkF (l : List (List Int)) (k i : Nat) : List (List Cell) := mkA true (l.take i) k ++ (l.drop i).map jI
section
variable {l : List (List Int)} {k i : Nat} {q : List Int}
theorem mkF_zero : l.map jI = mkF l k 0 := by simp [mkF, mkA]
theorem mkF_end : mkF l k l.length = mkA true l k := by simp [mkF]
theorem mkF_len (h : i ≤ l.length) : (mkF l k i).length = l.length := by simp [mkF, mkA_len]; omega
theorem mkF_get (h : l[i]? = some q) : (mkF l k i)[i]? = some (jI q) := by
  have hi : i < l.length := (List.getElem?_eq_some_iff.1 h).1
  unfold mkF
  rw [List.getElem?_append_right (by rw [mkA_len]; simp; omega), mkA_len, List.length_take, Nat.min_eq_left (by omega), Nat.sub_self]
  simp [h]
theorem mkF_set (h : l[i]? = some q) : (mkF l k i).set i [.sl true 2 1 (markV mIV 1 (k + tot (l.take i)) q.length)] = mkF l k (i + 1) := by
  have hi : i < l.length := (List.getElem?_eq_some_iff.1 h).1
  unfold mkF
  rw [List.set_append_right _ _ (by rw [mkA_len]; simp; omega), mkA_len, List.length_take, Nat.min_eq_left (by omega), Nat.sub_self, drop_get h, List.map_cons, List.set_cons_zero, List.take_add_one, h, mkA_app true 0, List.append_assoc]
  rfl
end
theorem l49 (d : Nat) (l : List (List Int)) (k : Nat) (hl : l.length ≤ big) (hb : k + tot l ≤ 4611686018427387904) : ∀ (n i : Nat), n + i = l.length →
    clC [1, 100000] [4, 100000] (blk 0 (lp (evC (ev (d + 1)) b49_1) (clean [0, 1, 5, 100000]) ⟨lookS [(0, .rf (.sl 0) none 0 l.length), (1, I (k + (tot (l.take i) : Int))), (5, I i), (100000, .rf (.sl 0) none 0 l.length)], lookM [(.sl 0, some (.arr 33 1 (mkF l k i)))]⟩)) =
      some (.nm, ⟨lookS [(1, I (k + (tot l : Int))), (100000, .rf (.sl 100000) none 0 l.length)], lookM [(.sl 100000, some (.arr 33 1 (mkA true l k)))]⟩) := by
  intro n
  induction n with
  | zero =>
    intro i hi
    have h0 : ¬ (i : Int) < (l.length : Int) := by omega
    have he : i = l.length := by omega
    subst he
    rw [lp_step, mkF_end]
    simp [h0]
  | succ n ih =>
    intro i hi
    have hlt : i < l.length := by omega
    have h0 : (i : Int) < (l.length : Int) := by omega
    obtain ⟨q, hx⟩ := get_lt hlt
    have hs := mkF_set (k := k) hx
    have hg := mkF_get (k := k) hx
    have hl2 : ∀ a, ((mkF l k i).set i a)[i]? = some a := fun a => List.getElem?_set_self (by rw [mkF_len (by omega)]; exact hlt)
    have hw := wrap_nat (i := i) (by simp only [big] at hl; omega)
    have t1 := tot_take hx
    have t2 := tot_le l (i + 1)
    have v := v30' d q (k + tot (l.take i)) (by omega)
    rw [show ((k + tot (l.take i) : Nat) : Int) = (k : Int) + (tot (l.take i) : Int) by omega] at v
    have e2 : (k : Int) + (tot (l.take (i + 1)) : Int) = (k : Int) + (tot (l.take i) : Int) + (q.length : Int) := by omega
    have ih' := ih (i + 1) (by omega)
    rw [← hs, e2] at ih'
    simp at ih' v
    rw [lp_step]
    simp [h0, hg, hl2, hw, v, bkC, ih']
theorem v49' (d : Nat) (l : List (List Int)) (k : Nat) (hl : l.length ≤ big) (hb : k + tot l ≤ 4611686018427387904) : ev (d + 2) (wrN + 49) [.ow 33 1 (l.map jI), I k] =
    some (I (k + (tot l : Int)), [.ow 33 1 (mkA true l k), I k]) := by
  rw [v49 (d + 1) (start_ow _ _ 0 _ _) rfl]
  have key := l49 d l k hl hb l.length 0 (by omega)
  rw [← mkF_zero] at key
  simp [tot] at key
  simp [key]
theorem v49'n (d : Nat) (k : Nat) : ev (d + 2) (wrN + 49) [.nl, I k] = some (I k, [.nl, I k]) := by
  rw [v49 (d + 1) (start_nl _) rfl]
  simp
  rw [lp_step]
  simp
theorem mkA_get (o : Bool) : ∀ (l : List (List Int)) (k i : Nat) (q : List Int), l[i]? = some q → (mkA o l k)[i]? = some [.sl o 2 1 (markV mIV 1 (k + tot (l.take i)) q.length)] := by
  intro l
  induction l with
  | nil => intro k i q h; simp at h
  | cons p l ih =>
    intro k i q h
    cases i with
    | zero => simp at h; subst h; simp [mkA, tot]
    | succ i =>
      simp only [List.getElem?_cons_succ] at h
      have := ih (k + p.length) i q h
      simp only [mkA, List.getElem?_cons_succ, this, List.take_succ_cons, tot, Nat.add_assoc]
theorem lift_mI (n k : Nat) : Ev.lift (markV mIV 1 k n) = markL mI 1 k n := lift_markV (fun _ => rfl) 1 n k
attribute [simp] lift_mI
theorem l50 (d : Nat) (l : List (List Int)) (k : Nat) (hl : l.length ≤ big) (hb : k + tot l ≤ 4611686018427387904) : ∀ (n i : Nat), n + i = l.length →
    clC [1] [4] (blk 0 (lp (evC (ev (d + 1)) b50_1) (clean [0, 1, 5]) ⟨lookS [(0, .ro 1 (mkA false l k)), (1, I (k + (tot (l.take i) : Int))), (5, I i)], lookM []⟩)) =
      some (.nm, ⟨lookS [(1, I (k + (tot l : Int)))], lookM []⟩) := by
  intro n
  induction n with
  | zero =>
    intro i hi
    have he : i = l.length := by omega
    subst he
    rw [lp_step]
    simp
  | succ n ih =>
    intro i hi
    have hlt : i < l.length := by omega
    have h0 : (i : Int) < (l.length : Int) := by omega
    obtain ⟨q, hx⟩ := get_lt hlt
    have hg := mkA_get false l k i q hx
    have hw := wrap_nat (i := i) (by simp only [big] at hl; omega)
    have t1 := tot_take hx
    have t2 := tot_le l (i + 1)
    have v := r31 d q.length (k + tot (l.take i)) (by omega) (x := .ro 1 (markL mI 1 (k + tot (l.take i)) q.length)) (.inl rfl)
    rw [show ((k + tot (l.take i) : Nat) : Int) = (k : Int) + (tot (l.take i) : Int) by omega] at v
    have e2 : (k : Int) + (tot (l.take (i + 1)) : Int) = (k : Int) + (tot (l.take i) : Int) + (q.length : Int) := by omega
    have n0 : ¬ (k : Int) + (tot (l.take i) : Int) + (q.length : Int) < 0 := by omega
    have ih' := ih (i + 1) (by omega)
    rw [e2] at ih'
    simp at ih' v
    rw [lp_step]
    simp [h0, hg, hw, v, n0, ih']
theorem r50 (d : Nat) (l : List (List Int)) (k : Nat) (hl : l.length ≤ big) (hb : k + tot l ≤ 4611686018427387904) : ev (d + 2) 50 [.ro 1 (mkA false l k), I k] = some (I (k + (tot l : Int)), []) := by
  rw [s50 (d + 1) _ rfl]
  have key := l50 d l k hl hb l.length 0 (by omega)
  simp [tot] at key
  simp [key]
theorem r50n (d : Nat) (k : Nat) : ev (d + 2) 50 [.nl, I k] = some (I k, []) := by
  rw [s50 (d + 1) _ rfl]
  simp
  rw [lp_step]
  simp
end Go.Proofs.Ytojjkjbffihppaa.walkS
