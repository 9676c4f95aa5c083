/- Pictures that are valid; the rows ValidPicture and PictureShade; no conditions. -/
import Derived.Test.YthnkioafikmmaaaGreatWVd
namespace Go.Proofs.YthnkioafikmmaaaGreat.walkS
open Go Go.Proofs.YthnkioafikmmaaaGreat.Ev
set_option linter.unusedSimpArgs false
set_option linter.unusedVariables false
def okVn (v : Vn) : Bool := okS v.1 v.2.1 v.2.2
def fIdx (p : Vn → Bool) : Nat → List Vn → Int
  | _, [] => -1
  | i, x :: l => ifb (p x) (i : Int) (fIdx p (i + 1) l)
theorem fIdx_neg (p : Vn → Bool) : ∀ (l : List Vn) (i : Nat), l.any p = false → fIdx p i l = -1 := by
  intro l
  induction l with
  | nil => intro i _; rfl
  | cons x l ih =>
    intro i h
    rw [List.any_cons, Bool.or_eq_false_iff] at h
    simp only [fIdx, h.1, ifb_f]
    exact ih _ h.2
theorem fIdx_pos (p : Vn → Bool) : ∀ (l : List Vn) (i : Nat), l.any p = true → 0 ≤ fIdx p i l := by
  intro l
  induction l with
  | nil => intro i h; cases h
  | cons x l ih =>
    intro i h
    rw [List.any_cons] at h
    cases hp : p x
    · simp only [fIdx, hp, ifb_f]
      rw [hp, Bool.false_or] at h
      exact ih (i + 1) h
    · simp only [fIdx, hp, ifb_t]; omega
theorem l163 (d : Nat) (f : Nat) (p : Vn → Bool) (hp : ∀ v : Vn, ev d f [.ag (V v.1 v.2.1 v.2.2)] = some (B (p v), [])) (l : List Vn) (hb : l.length ≤ big) : ∀ (n i : Nat), n + i = l.length →
    clC [] [4] (blk 0 (lp (evC (ev d) b163_1) (clean [0, 1, 7, 8]) ⟨lookS [(0, .ro 3 (l.map vC)), (1, .cl f []), (7, I l.length), (8, I i)], lookM []⟩)) =
      ifb ((l.drop i).any p) (some (.rt, ⟨lookS [(4, I (fIdx p i (l.drop i)))], lookM []⟩)) (some (.nm, ⟨lookS [], lookM []⟩)) := by
  intro n
  induction n with
  | zero =>
    intro i hi
    have h0 : ¬ (i : Int) < (l.length : Int) := by omega
    have h1 : l.drop i = [] := List.drop_eq_nil_of_le (by omega)
    rw [lp_step, h1]
    simp [h0]
  | succ n ih =>
    intro i hi
    have hlt : i < l.length := by omega
    have h0 : (i : Int) < (l.length : Int) := by omega
    obtain ⟨x, hx⟩ := get_lt hlt
    have hw := wrap_nat (i := i) (by simp [big] at hb; omega)
    have ih' := ih (i + 1) (by omega)
    have hpx := hp x
    rw [lp_step, drop_get hx, List.any_cons]
    simp only [fIdx]
    try simp at ih'
    cases hc : p x
    · rw [hc] at hpx
      simp [h0, hx, hw, hpx, ih']
    · rw [hc] at hpx
      simp [h0, hx, hpx]
theorem r163 (d : Nat) (f : Nat) (p : Vn → Bool) (hp : ∀ v : Vn, ev d f [.ag (V v.1 v.2.1 v.2.2)] = some (B (p v), [])) (l : List Vn) (hb : l.length ≤ big) : ev (d + 1) 163 [.ro 3 (l.map vC), .cl f []] = some (I (fIdx p 0 l), []) := by
  rw [s163 d _ rfl]
  have key := l163 d f p hp l hb l.length 0 (by omega)
  rw [List.drop_zero] at key
  cases h : l.any p <;> rw [h] at key <;> simp at key
  · simp [key, fIdx_neg p l 0 h]
  · simp [key]
theorem r110 (d : Nat) (f : Nat) (p : Vn → Bool) (hp : ∀ v : Vn, ev d f [.ag (V v.1 v.2.1 v.2.2)] = some (B (p v), [])) (l : List Vn) (hb : l.length ≤ big) : ev (d + 2) 110 [.ro 3 (l.map vC), .cl f []] = some (B (l.any p), []) := by
  rw [s110 (d + 1) _ rfl]
  have h1 := r163 d f p hp l hb
  cases h : l.any p
  · simp [h1, fIdx_neg p l 0 h]
  · simp [h1, fIdx_pos p l 0 h]
theorem r111 (d : Nat) (v : Vn) : ev (d + 4) 111 [.ag (V v.1 v.2.1 v.2.2)] = some (B (!okVn v), []) := by
  rw [s111 (d + 3) _ rfl]
  have h := r112 d v.1 v.2.1 v.2.2
  rw [ok_same] at h
  simp [h, okVn]
theorem r67 (d : Nat) (l : List Vn) (hb : l.length ≤ big) : ev (d + 7) 67 [.ro 3 (l.map vC)] = some (B (l.all okVn), []) := by
  rw [s67 (d + 6) _ rfl]
  have h := r110 (d + 4) 111 (fun v => !okVn v) (fun v => r111 d v) l hb
  have e : l.any (fun v => !okVn v) = !l.all okVn := by rw [List.all_eq_not_any_not, Bool.not_not]
  rw [e] at h
  simp [h]
theorem l64 (d : Nat) (l : List Vn) (hb : l.length ≤ big) : ∀ (n i : Nat), n + i = l.length →
    clC [] [2] (blk 0 (lp (evC (ev (d + 3)) b64_1) (clean [0, 3]) ⟨lookS [(0, .ro 3 (l.map vC)), (3, I i)], lookM []⟩)) =
      ifb ((l.drop i).all okVn) (some (.nm, ⟨lookS [], lookM []⟩)) (some (.rt, ⟨lookS [(2, B false)], lookM []⟩)) := by
  intro n
  induction n with
  | zero =>
    intro i hi
    have h0 : ¬ (i : Int) < (l.length : Int) := by omega
    have h1 : l.drop i = [] := List.drop_eq_nil_of_le (by omega)
    rw [lp_step, h1]
    simp [h0]
  | succ n ih =>
    intro i hi
    have hlt : i < l.length := by omega
    have h0 : (i : Int) < (l.length : Int) := by omega
    obtain ⟨x, hx⟩ := get_lt hlt
    have hw := wrap_nat (i := i) (by simp [big] at hb; omega)
    have ih' := ih (i + 1) (by omega)
    have hpx := r105 d x.1 x.2.1 x.2.2 []
    have e : okS x.1 x.2.1 x.2.2 = okVn x := rfl
    rw [e] at hpx
    rw [lp_step, drop_get hx, List.all_cons]
    try simp at ih'
    cases hc : okVn x
    · rw [hc] at hpx
      simp [h0, hx, hpx]
    · rw [hc] at hpx
      simp [h0, hx, hw, hpx, ih']
theorem r64 (d : Nat) (l : List Vn) (hb : l.length ≤ big) : ev (d + 4) 64 [.ro 3 (l.map vC)] = some (B (l.all okVn), []) := by
  rw [s64 (d + 3) _ rfl]
  have key := l64 d l hb l.length 0 (by omega)
  rw [List.drop_zero] at key
  cases h : l.all okVn <;> rw [h] at key <;> simp at key <;> simp [key]
def okPi (Q : Pi) : Bool := drOk Q.d && (decide (Q.vs.length = Q.d.fcs.length) && Q.vs.all okVn)
theorem r26 (d : Nat) (Q : Pi) (hb : BdN Q.d) (hv : Q.vs.length ≤ big) : ev (d + 7) 26 [.rp (qV Q)] = some (B (okPi Q), []) := by
  rw [s26 (d + 6) _ rfl]
  have c1 := r63 d Q.d [.ro 3 (Q.vs.map vC)] hb
  have c2 := r64 (d + 2) Q.vs hv
  have e : ((Q.vs.length : Int) = (Q.d.fcs.length : Int)) = (Q.vs.length = Q.d.fcs.length) := by apply propext; omega
  unfold okPi
  cases h1 : drOk Q.d
  · rw [h1] at c1
    simp [c1]
  rw [h1] at c1
  cases h2 : Q.vs.all okVn
  · rw [h2] at c2
    simp [c1, c2]
  rw [h2] at c2
  simp [c1, c2, e]
theorem r29 (d : Nat) (Q : Pi) (hb : BdN Q.d) (hv : Q.vs.length ≤ big) : ev (d + 8) 29 [.ag (qV Q)] = some (B (okPi Q), []) := by
  rw [s29 (d + 7) _ rfl]
  have c1 := r66 (d + 1) Q.d hb
  have c2 := r67 d Q.vs hv
  unfold okPi
  cases h1 : drOk Q.d
  · rw [h1] at c1
    simp [c1]
  rw [h1] at c1
  by_cases h3 : Q.vs.length = Q.d.fcs.length
  · have h3' : (Q.vs.length : Int) = (Q.d.fcs.length : Int) := by omega
    simp [c1, h3, h3', c2]
  · have h3' : ¬ (Q.vs.length : Int) = (Q.d.fcs.length : Int) := by omega
    simp [c1, h3, h3']
theorem BdP.n {p : Pin} (h : BdP p) : BdN (pOf p).d := ⟨h.d, fun f hf => by
  obtain ⟨q, hq, rfl⟩ := List.mem_map.1 hf
  exact h.name q hq⟩
end Go.Proofs.YthnkioafikmmaaaGreat.walkS
