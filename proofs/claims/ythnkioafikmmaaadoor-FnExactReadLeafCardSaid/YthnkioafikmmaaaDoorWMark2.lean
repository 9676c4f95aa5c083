/- The text that marks; leaves and lists of leaves, marked; no conditions. -/
import Derived.Test.YthnkioafikmmaaaDoorWMark
import Derived.Test.YthnkioafikmmaaaDoorWValid
namespace Go.Proofs.YthnkioafikmmaaaDoor.walkS
open Go Go.Proofs.YthnkioafikmmaaaDoor.Ev
set_option linter.unusedSimpArgs false
set_option linter.unusedVariables false
theorem strNum_size (n : Int) : (strOfNums [n]).size = 1 := rfl
/-! ### a leaf -/
abbrev mV (k : Nat) : List Value := [.int .i64 k, .int .i64 ((k : Int) + 1), .int .i64 ((k : Int) + 1 + 1), .int .i64 ((k : Int) + 1 + 1 + 1)]
def markV (f : Nat → List Value) (c : Nat) : Nat → Nat → List (List Value)
  | _, 0 => []
  | k, n + 1 => f k :: markV f c (k + c) n
theorem lift_markV {f : Nat → List Value} {g : Nat → List Cell} (h : ∀ k, (f k).map Cell.sc = g k) (c : Nat) : ∀ n k, Ev.lift (markV f c k n) = markL g c k n := by
  intro n
  induction n with
  | zero => intro k; rfl
  | succ n ih =>
    intro k
    have := ih (k + c)
    simp only [Ev.lift] at this
    simp [markV, markL, Ev.lift, h, this]
theorem low_markL {f : Nat → List Value} {g : Nat → List Cell} (h : ∀ k, (f k).map Cell.sc = g k) (c n k : Nat) : low (markL g c k n) = some (markV f c k n) := by
  rw [← lift_markV h]
  exact low_map (f := fun r : List Value => r.map Cell.sc) (g := fun r => r) (fun r => by
    induction r with
    | nil => rfl
    | cons v r ih => rw [List.map_cons, List.mapM_cons]; simp only [lowC, Option.bind_eq_bind, Option.bind_some, ih]; rfl) _ |>.trans (by rw [List.map_id'])
theorem low_mB (k n : Nat) : low (markL mB 4 k n) = some (markV mV 4 k n) := low_markL (f := mV) (g := mB) (fun _ => rfl) 4 n k
theorem mB_shut (k n : Nat) : shut (markL mB 4 k n) = markL mB 4 k n := markL_shut (fun _ => rfl) 4 n k
attribute [simp] low_mB mB_shut
theorem markV_len (f : Nat → List Value) (c : Nat) : ∀ n k, (markV f c k n).length = n := by
  intro n
  induction n with
  | zero => intro k; rfl
  | succ n ih => intro k; simp [markV, ih]
attribute [simp] markV_len markL_len
abbrev mIV (k : Nat) : List Value := iW (k : Int)
theorem low_mI (k n : Nat) : low (markL mI 1 k n) = some (markV mIV 1 k n) := low_markL (f := mIV) (g := mI) (fun _ => rfl) 1 n k
attribute [simp] low_mI
theorem start_leaf (L : Lf) (e k : Nat) (v : Value) : startW [.ag (lA L (.ow e 4 (L.df.map bC))), .sc v] = some ([.ag (lA L (.rf (mk0 8) none 0 L.df.length)), .sc v], ⟨startS [.ag (lA L (.rf (mk0 8) none 0 L.df.length)), .sc v], updM noMem (mk0 8) (some (.arr e 4 (L.df.map bC)))⟩) := by
  rw [startW_eq («as» := [.ag (lA L (.rf (mk0 8) none 0 L.df.length)), .sc v]) (l := [(mk0 8, .arr e 4 (L.df.map bC))]) (by simp [openV, trav, travT, trav1, travL, opn, partsT, parts, parts1, partsL, thing, List.filterMap])]
  rfl
theorem start_leafN (L : Lf) (v : Value) : startW [.ag (lA L .nl), .sc v] = some ([.ag (lA L .nl), .sc v], ⟨startS [.ag (lA L .nl), .sc v], noMem⟩) := by
  rw [startW_eq («as» := [.ag (lA L .nl), .sc v]) (l := []) (by simp [openV, trav, travT, trav1, travL, opn, partsT, parts, parts1, partsL, thing, List.filterMap])]
  rfl
set_option maxRecDepth 100000 in
theorem v29' (d : Nat) (L : Lf) (k : Nat) (hb : k + 4 * L.df.length ≤ 4611686018427387904) : ev (d + 2) (wrN + 29) [.ag (lA L (.ow 75 4 (L.df.map bC))), I k] =
    some (I (k + 4 * (L.df.length : Int)), [.ag (lA L (.ow 75 4 (markL mB 4 k L.df.length))), I k]) := by
  rw [v29 (d + 1) (start_leaf L _ 0 _) rfl]
  simp [v55' d L.df k hb]
set_option maxRecDepth 100000 in
theorem v29'n (d : Nat) (L : Lf) (k : Nat) : ev (d + 2) (wrN + 29) [.ag (lA L .nl), I k] = some (I k, [.ag (lA L .nl), I k]) := by
  rw [v29 (d + 1) (start_leafN L _) rfl]
  simp [v55'n d k]
theorem r30 (d : Nat) (L : Lf) (m k : Nat) (hb : k + 4 * m ≤ 4611686018427387904) {x : LV} (hx : SV 4 (markL mB 4 k m) x) : ev (d + 2) 30 [.ag (lA L x), I k] = some (I (k + 4 * (m : Int)), []) := by
  rw [s30 (d + 1) _ rfl]
  have h := r56 d m k hb hx
  have hn : ¬ (k : Int) + 4 * (m : Int) < 0 := by omega
  rcases hx with rfl | ⟨rfl, _⟩ <;> simp [h, hn]
end Go.Proofs.YthnkioafikmmaaaDoor.walkS
