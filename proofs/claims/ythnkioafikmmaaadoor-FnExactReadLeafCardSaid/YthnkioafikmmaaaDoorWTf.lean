/- The row LeafText; no conditions. -/
import Derived.Test.YthnkioafikmmaaaDoorWTk
import Derived.Test.YthnkioafikmmaaaDoorWTv
import Derived.Test.YthnkioafikmmaaaDoorWValid
import Derived.Test.YthnkioafikmmaaaDoorWRow3
namespace Go.Proofs.YthnkioafikmmaaaDoor.walkS
open Go Go.Proofs.YthnkioafikmmaaaDoor.Ev
set_option linter.unusedSimpArgs false
set_option linter.unusedVariables false
open Go.Lib
abbrev slash : ByteArray := ⟨#[47]⟩
abbrev exB : ByteArray := ⟨#[120]⟩
theorem sz47 : (⟨#[47]⟩ : ByteArray).size = 1 := rfl
theorem sz120 : (⟨#[120]⟩ : ByteArray).size = 1 := rfl
/-- a box as text -/
def bxB (b : Bx) : ByteArray := lsB [b.1, b.2.1, b.2.2.1, b.2.2.2]
def szB (a b : Int) : ByteArray := decB a ++ exB ++ decB b
/-- a leaf's parts as texts -/
def lfP (L : Lf) : List ByteArray := [L.id, L.fl, decB L.num, vnB L.sp L.sh L.gr, szB L.wd L.ln] ++ L.df.map bxB
def ltB (L : Lf) : ByteArray := ifb (okL L) (joinB (lfP L) slash) ⟨#[]⟩
theorem nameOk_size {s : ByteArray} (h : nameOk s = true) : s.size ≤ 10 := by
  unfold nameOk at h
  have hs : s.size = (by' s).length := size_list s
  rw [hs]
  split at h
  · cases h
  · rename_i u us e
    rw [e]
    simp only [Bool.and_eq_true, decide_eq_true_eq] at h
    simp only [List.length_cons]
    omega
theorem name_size : ∀ x ∈ names, x.size ≤ 10 := by decide +kernel
theorem place_in {s : ByteArray} : ∀ {l : List ByteArray} {i : Nat}, place s i l ≠ -1 → s ∈ l := by
  intro l
  induction l with
  | nil => intro i h; exact absurd rfl h
  | cons x l ih =>
    intro i h
    simp only [place] at h
    split at h
    · rename_i e; rw [e]; simp
    · exact List.mem_cons_of_mem _ (ih h)
theorem okS_size {s : ByteArray} {a g : Int} (h : okS s a g = true) : s.size ≤ 10 := by
  refine name_size s (place_in (i := 0) fun q => ?_)
  rcases found s with ⟨_, h2⟩ | ⟨k, r, h1, _, _⟩
  · unfold okS at h
    rw [h2] at h
    simp at h
  · rw [h1] at q
    omega
theorem bxIn_in {w l : Int} {b : Bx} (hw : 0 ≤ w ∧ w ≤ 20000) (hl : 0 ≤ l ∧ l ≤ 20000) (h : boxIn w l b = true) : ∀ x ∈ [b.1, b.2.1, b.2.2.1, b.2.2.2], inR x (-1000000000000) 1000000000000 = true := by
  unfold boxIn inR at h
  simp only [Bool.and_eq_true, decide_eq_true_eq] at h
  obtain ⟨⟨h1, h2⟩, ⟨h3, h4⟩, ⟨h5, h6⟩, h7, h8⟩ := h
  rw [W, IntWalk.i64_in _ (by omega)] at h6 h8
  intro x hx
  unfold inR
  simp only [Bool.and_eq_true, decide_eq_true_eq]
  simp only [List.mem_cons, List.mem_nil_iff, or_false] at hx
  rcases hx with rfl | rfl | rfl | rfl <;> omega
/-- what a valid leaf is -/
structure LfOk (L : Lf) : Prop where
  id : L.id.size ≤ 10
  fl : L.fl.size ≤ 10
  num : 0 ≤ L.num ∧ L.num ≤ 999
  ok : okS L.sp L.sh L.gr = true
  wd : 0 ≤ L.wd ∧ L.wd ≤ 20000
  ln : 0 ≤ L.ln ∧ L.ln ≤ 20000
  len : L.df.length ≤ 6
  df : ∀ b ∈ L.df, ∀ x ∈ [b.1, b.2.1, b.2.2.1, b.2.2.2], inR x (-1000000000000) 1000000000000 = true
theorem okL_lf {L : Lf} (h : okL L = true) : LfOk L := by
  unfold okL at h
  simp only [Bool.and_eq_true, decide_eq_true_eq] at h
  obtain ⟨h1, h2, h3, h4, h5, h6, h7, h8⟩ := h
  unfold inR at h3 h5 h6
  simp only [Bool.and_eq_true, decide_eq_true_eq] at h3 h5 h6
  exact ⟨nameOk_size h1, nameOk_size h2, h3, h4, by omega, by omega, h7, fun b hb => bxIn_in (by omega) (by omega) (List.all_eq_true.1 h8 b hb)⟩
theorem bxB_size {b : Bx} (h : ∀ x ∈ [b.1, b.2.1, b.2.2.1, b.2.2.2], inR x (-1000000000000) 1000000000000 = true) : (bxB b).size ≤ 1344 := lsB_size (l := [b.1, b.2.1, b.2.2.1, b.2.2.2]) (by simp) h
theorem lsB_cons (x : Int) (l : List Int) : lsB (x :: l) = joinB ((x :: l).map decB) comma := by unfold lsB; rw [if_neg (by simp)]
theorem vnB_size {L : Lf} (h : LfOk L) : (vnB L.sp L.sh L.gr).size ≤ 100 := by
  obtain ⟨h1, h2⟩ := okS_in h.ok
  have h0 := okS_size h.ok
  have d1 := decB_size (n := L.sh) (by omega) (by omega)
  have d2 := decB_size (n := L.gr) (by omega) (by omega)
  have d3 : blank.size = 1 := rfl
  unfold vnB
  simp only [ByteArray.size_append]
  omega
theorem szB_size {L : Lf} (h : LfOk L) : (szB L.wd L.ln).size ≤ 100 := by
  have h1 := h.wd
  have h2 := h.ln
  have d1 := decB_size (n := L.wd) (by omega) (by omega)
  have d2 := decB_size (n := L.ln) (by omega) (by omega)
  have d3 : exB.size = 1 := rfl
  unfold szB
  simp only [ByteArray.size_append]
  omega
theorem lfP_size {L : Lf} (h : LfOk L) (k : Nat) : (joinB ([L.id, L.fl, decB L.num, vnB L.sp L.sh L.gr, szB L.wd L.ln] ++ (L.df.take k).map bxB) slash).size ≤ 20000 := by
  have hs : slash.size = 1 := rfl
  have hh := joinB_size (B := 1344) (sep := slash) ([L.id, L.fl, decB L.num, vnB L.sp L.sh L.gr, szB L.wd L.ln] ++ (L.df.take k).map bxB) (by
    intro x hx
    rcases List.mem_append.1 hx with hx | hx
    · simp only [List.mem_cons, List.mem_nil_iff, or_false] at hx
      have e1 := h.id; have e2 := h.fl; have e3 := h.num
      rcases hx with rfl | rfl | rfl | rfl | rfl
      · omega
      · omega
      · have := decB_size (n := L.num) (by omega) (by omega); omega
      · have := vnB_size h; omega
      · have := szB_size h; omega
    · obtain ⟨b, hb, rfl⟩ := List.mem_map.1 hx
      exact bxB_size (h.df b (List.mem_of_mem_take hb)))
  have hl := h.len
  rw [hs, List.length_append, List.length_map, List.length_take] at hh
  simp only [List.length_cons, List.length_nil] at hh
  have : (0 + 1 + 1 + 1 + 1 + 1 + min k L.df.length) ≤ 11 := by omega
  have h2 : (0 + 1 + 1 + 1 + 1 + 1 + min k L.df.length) * (1344 + 1) ≤ 11 * 1345 := Nat.mul_le_mul_right _ this
  omega
theorem lf_head (a b c v z : ByteArray) : joinB [a, b, c, v, z] slash = a ++ slash ++ b ++ slash ++ c ++ slash ++ v ++ slash ++ z := by
  have e : [a, b, c, v, z] = ((([a] ++ [b]) ++ [c]) ++ [v]) ++ [z] := rfl
  rw [e, joinB_snoc (by simp), joinB_snoc (by simp), joinB_snoc (by simp), joinB_snoc (by simp), joinB_one]
theorem r44 (d : Nat) (b : Bx) (h : ∀ x ∈ [b.1, b.2.1, b.2.2.1, b.2.2.2], inR x (-1000000000000) 1000000000000 = true) : ev (d + 4) 44 [.ag (bV b)] = some (T (bxB b), []) := by
  rw [s44 (d + 3) _ rfl]
  have p2 := r38 d [b.1, b.2.1, b.2.2.1, b.2.2.2] (by simp) h
  simp [iC] at p2
  simp [shut, shutC, p2, bxB]
def lfH (L : Lf) : List ByteArray := [L.id, L.fl, decB L.num, vnB L.sp L.sh L.gr, szB L.wd L.ln]
theorem l19 (d : Nat) (l : List Bx) (hl : l.length ≤ 6) (h : ∀ b ∈ l, ∀ x ∈ [b.1, b.2.1, b.2.2.1, b.2.2.2], inR x (-1000000000000) 1000000000000 = true) : ∀ (n i : Nat) (acc r : List ByteArray), n + i = l.length → acc.length = i + 5 → acc ++ (l.drop i).map bxB = r →
    clC [3] [2] (blk 0 (lp (evC (ev (d + 4)) b19_1) (clean [3, 29, 30, 31]) ⟨lookS [(3, .rf (.sl 3) none 0 acc.length), (29, .ro 4 (l.map bC)), (30, I l.length), (31, I i)], lookM [((.sl 3), some (.arr 9 1 (acc.map sC)))]⟩)) = some (.nm, ⟨lookS [(3, .rf (.sl 3) none 0 r.length)], lookM [((.sl 3), some (.arr 9 1 (r.map sC)))]⟩) := by
  intro n
  induction n with
  | zero =>
    intro i acc r hi ha hr
    have h0 : ¬ (i : Int) < (l.length : Int) := by omega
    rw [List.drop_eq_nil_of_le (by omega), List.map_nil, List.append_nil] at hr
    subst hr
    rw [lp_step]
    simp [h0]
  | succ n ih =>
    intro i acc r hi ha hr
    have hlt : i < l.length := by omega
    have h0 : (i : Int) < (l.length : Int) := by omega
    obtain ⟨x, hx⟩ := get_lt hlt
    have p1 := r44 d x (h x (List.mem_of_getElem? hx))
    have hb : acc.length + 1 ≤ big := by simp only [big]; omega
    have hw := wrap_nat (i := i) (by omega)
    rw [drop_get hx, List.map_cons] at hr
    have ih' := ih (i + 1) (acc ++ [bxB x]) r (by omega) (by simp; omega) (by rw [List.append_assoc]; exact hr)
    simp at ih'
    rw [lp_step]
    simp [h0, hx, p1, hb, hw, ih']
theorem r19 (d : Nat) (L : Lf) (hb : L.df.length ≤ big) (h1 : L.id.size ≤ big) (h2 : L.fl.size ≤ big) : ev (d + 7) 19 [.ag (lV L)] = some (T (ltB L), []) := by
  rw [s19 (d + 6) _ rfl]
  have c1 := r43 d L hb h1 h2
  unfold ltB
  cases hk : okL L
  · rw [hk] at c1
    simp [c1]
  rw [hk] at c1
  have h := okL_lf hk
  have e3 := h.num; have e4 := h.wd; have e5 := h.ln
  have p1 := r34 (d + 5) L.num (by omega) (by omega)
  have p2 := r12 (d + 1) L.sp L.sh L.gr (by have := okS_size h.ok; omega)
  have hvt : vtB L.sp L.sh L.gr = vnB L.sp L.sh L.gr := by unfold vtB; rw [h.ok]; rfl
  rw [hvt] at p2
  have p3 := r34 (d + 5) L.wd (by omega) (by omega)
  have p4 := r34 (d + 5) L.ln (by omega) (by omega)
  have d3 := decB_size (n := L.wd) (by omega) (by omega)
  have d4 := decB_size (n := L.ln) (by omega) (by omega)
  have d6 : exB.size = 1 := rfl
  have z1 : (decB L.wd).size + 1 ≤ 9000000000000000000 := by omega
  have z2 : (decB L.wd).size + 1 + (decB L.ln).size ≤ 9000000000000000000 := by omega
  have key := l19 (d + 2) L.df h.len h.df L.df.length 0 [L.id, L.fl, decB L.num, vnB L.sp L.sh L.gr, szB L.wd L.ln] (lfP L) (by omega) rfl (by rw [List.drop_zero]; rfl)
  have hpl : (lfP L).length = 5 + L.df.length := by simp [lfP]; omega
  have hsz := lfP_size h L.df.length
  rw [List.take_length] at hsz
  have hll := h.len
  have p5 := p45 (d + 6) (lfP L) slash (by rw [hpl]; simp only [big]; omega) (by show (joinB (lfP L) slash).size ≤ big; simp only [big]; exact Nat.le_trans hsz (by decide))
  unfold szB at key
  generalize lfP L = P at key p5 hpl
  simp [exB] at key
  simp [slash] at p5
  simp [c1, p1, p2, p3, p4, z1, z2, sz120, ByteArray.size_append, key, p5, slash]
end Go.Proofs.YthnkioafikmmaaaDoor.walkS
