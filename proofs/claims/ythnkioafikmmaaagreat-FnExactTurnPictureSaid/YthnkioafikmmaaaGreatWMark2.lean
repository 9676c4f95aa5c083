/- The text that marks; leaves and lists of leaves, marked; no conditions. -/
import Derived.Test.YthnkioafikmmaaaGreatWMark
import Derived.Test.YthnkioafikmmaaaGreatWValid
namespace Go.Proofs.YthnkioafikmmaaaGreat.walkS
open Go Go.Proofs.YthnkioafikmmaaaGreat.Ev
set_option linter.unusedSimpArgs false
set_option linter.unusedVariables false
theorem strNum_size (n : Int) : (strOfNums [n]).size = 1 := rfl
theorem l34 : ∀ (k : Nat) (out : ByteArray), k ≤ 4611686018427387904 → out.size + k ≤ 8000000000000000000 → ∃ b : ByteArray, b.size ≤ out.size + k ∧ ∀ d,
    clC [3] [2] (blk 0 (lp (evC (ev d) b34_1) (clean [0, 3]) ⟨lookS [(0, I k), (3, T out)], lookM []⟩)) = some (.nm, ⟨lookS [(3, T b)], lookM []⟩) := by
  intro k
  induction k using Nat.strongRecOn with
  | _ k ih =>
    intro out hk hb
    by_cases h0 : k = 0
    · subst h0
      refine ⟨out, by omega, fun d => ?_⟩
      rw [lp_step]
      simp
    · have hpos : 0 < k := by omega
      have e1 : (k : Int).tmod 10 = (k : Int) % 10 := Int.tmod_eq_emod_of_nonneg (by omega)
      have e2 : (k : Int).tdiv 10 = (k : Int) / 10 := Int.tdiv_eq_ediv_of_nonneg (by omega)
      have w1 : IntKind.i64.wrap (48 + (k : Int) % 10) = 48 + (k : Int) % 10 := IntWalk.i64_in _ (by omega)
      have w3 : IntKind.i64.wrap ((k : Int) / 10) = (k : Int) / 10 := IntWalk.i64_in _ (by omega)
      generalize hc : IntKind.u8.wrap (48 + (k : Int) % 10) = c
      obtain ⟨b, b1, b2⟩ := ih (k / 10) (Nat.div_lt_self (by omega) (by omega)) (strOfNums [c] ++ out) (by omega) (by rw [ByteArray.size_append, strNum_size]; omega)
      rw [ByteArray.size_append, strNum_size] at b1
      refine ⟨b, by omega, fun d => ?_⟩
      have b3 := b2 d
      simp at b3
      have hsz : (strOfNums [c]).size + out.size ≤ 9000000000000000000 := by rw [strNum_size]; omega
      rw [lp_step]
      simp [hpos, e1, e2, w1, w3, hc, hsz, numsOf, shut, shutC, b3]
open Classical in
noncomputable def mtx (k : Nat) : ByteArray := if h : ∃ b : ByteArray, b.size ≤ k + 1 ∧ ∀ d, ev (d + 1) 34 [I k] = some (T b, []) then Classical.choose h else .empty
theorem mtx_ex (k : Nat) (h0 : 1 ≤ k) (hk : k ≤ 4611686018427387904) : ∃ b : ByteArray, b.size ≤ k + 1 ∧ ∀ d, ev (d + 1) 34 [I k] = some (T b, []) := by
  obtain ⟨b, b1, b2⟩ := l34 k ⟨#[]⟩ hk (by rw [size_nil]; omega)
  rw [size_nil] at b1
  have hs : (⟨#[109]⟩ : ByteArray).size + b.size ≤ 9000000000000000000 := by
    have : (⟨#[109]⟩ : ByteArray).size = 1 := rfl
    omega
  have hk0 : ¬ k = 0 := by omega
  refine ⟨⟨#[109]⟩ ++ b, by rw [ByteArray.size_append]; have : (⟨#[109]⟩ : ByteArray).size = 1 := rfl; omega, fun d => ?_⟩
  rw [s34 d _ rfl]
  have b3 := b2 d
  simp [hk0, b3, hs]
theorem r34 (d k : Nat) (h0 : 1 ≤ k) (hk : k ≤ 4611686018427387904) : ev (d + 1) 34 [I k] = some (T (mtx k), []) := by
  have h := mtx_ex k h0 hk
  unfold mtx
  rw [dif_pos h]
  exact (Classical.choose_spec h).2 d
theorem mtx_size (k : Nat) : (mtx k).size ≤ k + 1 := by
  unfold mtx
  split
  · rename_i h; exact (Classical.choose_spec h).1
  · show 0 ≤ _; omega
/-! ### a leaf -/
abbrev mV (k : Nat) : List Value := [.int .i64 k, .int .i64 ((k : Int) + 1), .int .i64 ((k : Int) + 1 + 1), .int .i64 ((k : Int) + 1 + 1 + 1)]
def markV (f : Nat → List Value) (c : Nat) : Nat → Nat → List (List Value)
  | _, 0 => []
  | k, n + 1 => f k :: markV f c (k + c) n
theorem lift_markV {f : Nat → List Value} {g : Nat → List Cell} (h : ∀ k, (f k).map Cell.sc = g k) (c : Nat) : ∀ n k, Ev.lift (markV f c k n) = markL g c k n := by
  intro n
  induction n with
  | zero => intro k; rfl
  | succ n ih =>
    intro k
    have := ih (k + c)
    simp only [Ev.lift] at this
    simp [markV, markL, Ev.lift, h, this]
theorem low_markL {f : Nat → List Value} {g : Nat → List Cell} (h : ∀ k, (f k).map Cell.sc = g k) (c n k : Nat) : low (markL g c k n) = some (markV f c k n) := by
  rw [← lift_markV h]
  exact low_map (f := fun r : List Value => r.map Cell.sc) (g := fun r => r) (fun r => by
    induction r with
    | nil => rfl
    | cons v r ih => rw [List.map_cons, List.mapM_cons]; simp only [lowC, Option.bind_eq_bind, Option.bind_some, ih]; rfl) _ |>.trans (by rw [List.map_id'])
theorem low_mB (k n : Nat) : low (markL mB 4 k n) = some (markV mV 4 k n) := low_markL (f := mV) (g := mB) (fun _ => rfl) 4 n k
theorem mB_shut (k n : Nat) : shut (markL mB 4 k n) = markL mB 4 k n := markL_shut (fun _ => rfl) 4 n k
attribute [simp] low_mB mB_shut
theorem markV_len (f : Nat → List Value) (c : Nat) : ∀ n k, (markV f c k n).length = n := by
  intro n
  induction n with
  | zero => intro k; rfl
  | succ n ih => intro k; simp [markV, ih]
attribute [simp] markV_len markL_len
abbrev mIV (k : Nat) : List Value := iW (k : Int)
theorem low_mI (k n : Nat) : low (markL mI 1 k n) = some (markV mIV 1 k n) := low_markL (f := mIV) (g := mI) (fun _ => rfl) 1 n k
attribute [simp] low_mI
theorem start_leaf (L : Lf) (e k : Nat) (v : Value) : startW [.ag (lA L (.ow e 4 (L.df.map bC))), .sc v] = some ([.ag (lA L (.rf (mk0 8) none 0 L.df.length)), .sc v], ⟨startS [.ag (lA L (.rf (mk0 8) none 0 L.df.length)), .sc v], updM noMem (mk0 8) (some (.arr e 4 (L.df.map bC)))⟩) := by
  rw [startW_eq («as» := [.ag (lA L (.rf (mk0 8) none 0 L.df.length)), .sc v]) (l := [(mk0 8, .arr e 4 (L.df.map bC))]) (by simp [openV, trav, travT, trav1, travL, opn, partsT, parts, parts1, partsL, thing, List.filterMap])]
  rfl
theorem start_leafN (L : Lf) (v : Value) : startW [.ag (lA L .nl), .sc v] = some ([.ag (lA L .nl), .sc v], ⟨startS [.ag (lA L .nl), .sc v], noMem⟩) := by
  rw [startW_eq («as» := [.ag (lA L .nl), .sc v]) (l := []) (by simp [openV, trav, travT, trav1, travL, opn, partsT, parts, parts1, partsL, thing, List.filterMap])]
  rfl
end Go.Proofs.YthnkioafikmmaaaGreat.walkS
