/- The leaves of a flitch; the row FlitchOf; no conditions. -/
import Derived.Test.YtojjkjbffihppaaWSrt
namespace Go.Proofs.Ytojjkjbffihppaa.walkS
open Go Go.Proofs.Ytojjkjbffihppaa.Ev
set_option linter.unusedSimpArgs false
set_option linter.unusedVariables false
theorem l46 (d : Nat) (l : List Lf) (hb : l.length ≤ big) (s : ByteArray) : ∀ (n i : Nat) (acc r : List Int), n + i = l.length → acc ++ wh (isFl s) (l.drop i) i = r → acc.length ≤ i →
    clC [2, 6] [4, 5] (blk 0 (lp (evC (ev d) b46_1) (clean [1, 2, 6, 13, 14, 15]) ⟨lookS [(1, T s), (2, .bp (.sl 2) 0), (6, .rf (.sl 6) none 0 acc.length), (13, .ro 9 (l.map lS)), (14, I l.length), (15, I i)], lookM [((.sl 2), some (.box [.ro 9 (l.map lS)])), ((.sl 6), some (.arr 2 1 (acc.map iC)))]⟩)) =
      some (.nm, ⟨lookS [(2, .bp (.sl 2) 0), (6, .rf (.sl 6) none 0 r.length)], lookM [((.sl 2), some (.box [.ro 9 (l.map lS)])), ((.sl 6), some (.arr 2 1 (r.map iC)))]⟩) := by
  intro n
  induction n with
  | zero =>
    intro i acc r hi hr ha
    have h0 : ¬ (i : Int) < (l.length : Int) := by omega
    have e := wh_nil (by omega) hr
    subst e
    rw [lp_step]
    simp [h0]
  | succ n ih =>
    intro i acc r hi hr ha
    have hlt : i < l.length := by omega
    have h0 : (i : Int) < (l.length : Int) := by omega
    obtain ⟨L, hx⟩ := get_lt hlt
    have hw := wrap_nat (i := i) (by simp [big] at hb; omega)
    have hb2 : acc.length + 1 ≤ big := by omega
    have hr' := wh_at hx hr
    rw [lp_step]
    by_cases hp : L.fl = s
    · have hq : isFl s L = true := by simp [isFl, hp]
      rw [hq] at hr'
      have ih' := ih (i + 1) (acc ++ [(i : Int)]) r (by omega) hr' (by simp; omega)
      simp at ih'
      simp [h0, hx, hw, hp, hb2, ih']
    · have hq : isFl s L = false := by simp [isFl, hp]
      rw [hq] at hr'
      have ih' := ih (i + 1) acc r (by omega) hr' (by omega)
      simp at ih'
      simp [h0, hx, hw, hp, ih']
theorem ok_iC (R : List Int) : (R.map iC).all (fun x => x.all okC) = true := by
  induction R with
  | nil => rfl
  | cons x R ih => rw [List.map_cons, List.all_cons, ih]; rfl
theorem ro_iC (R : List Int) : (R.map iC).any (fun x => x.any roCell) = false := by
  induction R with
  | nil => rfl
  | cons x R ih => rw [List.map_cons, List.any_cons, ih]; rfl
theorem r188 (d : Nat) (R : List Int) (hb : R.length ≤ big) : ev (d + 1) 188 [.ro 1 (R.map iC)] = some (.ow 2 1 (R.map iC), []) := by
  rw [s188 d _ rfl]
  simp [hb]
theorem l119_2 (d : Nat) (l : List Lf) (hn : Nums l) (s : ByteArray) (A : List Int) (hA : InL l A) (hb : A.length ≤ big) (i : Nat) (L : Lf) (hL : l[i]? = some L) : ∀ n, n ≤ A.length → plc (nmA l) A i n = plc (nmA l) A i A.length →
    clC [0, 1, 5, 6, 7] [4] (blk 2 (lp (evC (ev d) b119_2) (clean [0, 1, 5, 6, 7]) ⟨lookS [(0, .ro 9 (l.map lS)), (1, T s), (5, .rf (.sl 5) none 0 A.length), (6, I i), (7, I n)], lookM [((.sl 5), some (.arr 2 1 (A.map iC)))]⟩)) =
      some (.nm, ⟨lookS [(0, .ro 9 (l.map lS)), (1, T s), (5, .rf (.sl 5) none 0 A.length), (6, I i), (7, I (plc (nmA l) A i A.length))], lookM [((.sl 5), some (.arr 2 1 (A.map iC)))]⟩) := by
  intro n
  induction n with
  | zero =>
    intro hi he
    rw [lp_step, ← he]
    simp [plc]
  | succ n ih =>
    intro hi he
    obtain ⟨y, hy⟩ := get_lt (l := A) (i := n) (by omega)
    obtain ⟨hy0, M, hM⟩ := hA.get hy
    have kx : nmA l i = L.num := nmA_get (by simpa using hL)
    have ky := nmA_get hM
    have p0 : (0 : Int) < (n : Int) + 1 := by omega
    have w0 : IntKind.i64.wrap (n : Int) = (n : Int) := wrap_in (by simp only [big] at hb; omega)
    have l0 : (n : Int) < (A.length : Int) := by omega
    rw [plc_succ hy, kx, ky] at he
    rw [lp_step]
    by_cases hlt : L.num < M.num
    · rw [if_pos hlt] at he
      have ih' := ih (by omega) he
      simp [hy, hL, hM, hy0, hlt, p0, w0, l0, ih']
    · rw [if_neg hlt] at he
      simp [hy, hL, hM, hy0, hlt, p0, w0, l0, ← he]
theorem l119 (d : Nat) (l : List Lf) (hn : Nums l) (hb : l.length ≤ big) (s : ByteArray) : ∀ (n i : Nat) (A r : List Int), n + i = l.length → InL l A → A.length ≤ i → srt (nmA l) A (wh (isFl s) (l.drop i) i) = r →
    clC [5] [4] (blk 0 (lp (evC (ev (d + 1)) b119_1) (clean [0, 1, 5, 6]) ⟨lookS [(0, .ro 9 (l.map lS)), (1, T s), (5, .rf (.sl 5) none 0 A.length), (6, I i)], lookM [((.sl 5), some (.arr 2 1 (A.map iC)))]⟩)) =
      some (.nm, ⟨lookS [(5, .rf (.sl 5) none 0 r.length)], lookM [((.sl 5), some (.arr 2 1 (r.map iC)))]⟩) := by
  intro n
  induction n with
  | zero =>
    intro i A r hi hA hl hr
    have h0 : ¬ (i : Int) < (l.length : Int) := by omega
    rw [List.drop_eq_nil_of_le (by omega)] at hr
    have e : A = r := hr
    subst e
    rw [lp_step]
    simp [h0]
  | succ n ih =>
    intro i A r hi hA hl hr
    have hlt : i < l.length := by omega
    have h0 : (i : Int) < (l.length : Int) := by omega
    obtain ⟨L, hx⟩ := get_lt hlt
    have hw := wrap_nat (i := i) (by simp only [big] at hb; omega)
    rw [drop_get hx] at hr
    rw [lp_step]
    by_cases hp : L.fl = s
    · have hq : isFl s L = true := by simp [isFl, hp]
      simp only [wh, hq, ifb_t, srt] at hr
      have key := l119_2 (d + 1) l hn s A hA (by omega) i L hx A.length (Nat.le_refl _) rfl
      have hle := plc_le (nmA l) A i A.length
      have hI : InL l (ins (nmA l) A i) := fun k hk => by
        rcases mem_ins.1 hk with rfl | hk
        · exact ⟨by omega, by simpa using hlt⟩
        · exact hA k hk
      have ih' := ih (i + 1) (ins (nmA l) A i) r (by omega) hI (by rw [ins_len]; omega) hr
      have hil := ins_len (nmA l) A i
      unfold ins at ih' hil
      generalize plc (nmA l) A i A.length = j at key hle ih' hil
      have own := r188 d (A.take j) (by rw [List.length_take]; omega)
      have mn : min j A.length = j := by omega
      have hsh : shut (List.take j (List.map iC A)) = List.take j (List.map iC A) := by rw [← List.map_take, shut_iC]
      have hsh2 : shut (List.drop j (List.map iC A)) = List.drop j (List.map iC A) := by rw [← List.map_drop, shut_iC]
      have hro : (List.take j (List.map iC A)).any (fun x => x.any roCell) = false := by rw [← List.map_take]; exact ro_iC _
      have hok : (List.drop j (List.map iC A)).all (fun x => x.all okC) = true := by rw [← List.map_drop]; exact ok_iC _
      have e5 : j + (A.length - j) = A.length := by omega
      have dt : List.take (A.length - j) (List.drop j (List.map iC A)) = List.drop j (List.map iC A) := List.take_of_length_le (by simp)
      have e3 : j + (A.length - j + 1) = A.length + 1 := by omega
      have e4 : j + 1 + (A.length - j) = A.length + 1 := by omega
      have jb3 : A.length + 1 ≤ big := by omega
      have jb : j + 1 ≤ big := by omega
      have jb2 : j + 1 + (A.length - j) ≤ big := by omega
      have jc : (j : Int) ≤ (A.length : Int) := by omega
      have pe : put A i j = A.take j ++ [(i : Int)] ++ A.drop j := by simp [put]
      rw [pe] at ih' hil
      simp at key hil own
      simp [mn, e3] at ih'
      simp [h0, hx, hp, key, own, mn, hsh, hsh2, hro, hok, e5, dt, e3, e4, jb, jb2, jb3, jc, hw, hle, ih']
    · have hq : isFl s L = false := by simp [isFl, hp]
      simp only [wh, hq, ifb_f] at hr
      have ih' := ih (i + 1) A r (by omega) hA (by omega) hr
      simp at ih'
      simp [h0, hx, hp, hw, ih']
def oL : Option (List Int) → LV
  | none => .nl
  | some ws => .ow 2 1 (ws.map iC)
def flA (l : List Lf) (s : ByteArray) : List Int := srt (nmA l) [] (wh (isFl s) l 0)
theorem flA_len (l : List Lf) (s : ByteArray) : (flA l s).length = (wh (isFl s) l 0).length := by
  unfold flA
  rw [srt_len]
  simp
theorem flA_in (l : List Lf) (s : ByteArray) : InL l (flA l s) := fun k hk => by
  unfold flA at hk
  rcases mem_srt.1 hk with h | h
  · simp at h
  · exact wh_in _ l l 0 (by simp) k h
theorem flA_up (l : List Lf) (s : ByteArray) : Up (nmA l) (flA l s) := up_srt (by simp [Up])
def flOf (l : List Lf) (s : ByteArray) : Option (List Int) × Int := ifb (okLs l) (ifb (decide (wh (isFl s) l 0 = [])) (none, 3) (some (flA l s), 0)) (none, 1)
theorem okLs_nums {l : List Lf} (h : okLs l = true) : Nums l := by
  unfold okLs at h
  rw [Bool.and_eq_true] at h
  have hok := okFrom_all l l.length 0 (by omega) h.1
  rw [List.drop_zero] at hok
  intro L hL
  have := hok L hL
  simp only [okL, inR, Bool.and_eq_true, decide_eq_true_eq] at this
  exact this.2.2.1
theorem okLs_len {l : List Lf} (h : okLs l = true) : l.length ≤ 16 := by
  unfold okLs at h
  simp only [Bool.and_eq_true, decide_eq_true_eq] at h
  exact h.2
theorem r119 (d : Nat) (l : List Lf) (hn : Nums l) (hb : l.length ≤ big) (s : ByteArray) : ev (d + 2) 119 [.ro 9 (l.map lS), T s] = some (.ow 2 1 ((flA l s).map iC), []) := by
  rw [s119 (d + 1) _ rfl]
  have key := l119 d l hn hb s l.length 0 [] (flA l s) (by omega) (fun k hk => by simp at hk) (by simp) (by simp [flA])
  simp at key
  simp [key]
theorem r45 (d : Nat) (l : List Lf) (hb : l.length ≤ big) (hw : ∀ L ∈ l, BdL L) (s : ByteArray) : ev (d + 6) 45 [.ro 9 (l.map lS), T s] = some (.tu [oL (flOf l s).1, I (flOf l s).2], []) := by
  rw [s45 (d + 5) _ rfl]
  have e1 := r68 d l hb hw
  have e0 : okLs l = (okFrom l l.length 0 && decide (l.length ≤ 16)) := rfl
  rw [← e0] at e1
  unfold flOf
  cases h : okLs l
  · rw [h] at e1
    simp [e1, oL]
  · rw [h] at e1
    have e2 := r119 (d + 3) l (okLs_nums h) hb s
    have hl := flA_len l s
    by_cases he : wh (isFl s) l 0 = []
    · have hA : flA l s = [] := List.length_eq_zero_iff.1 (by rw [hl, he]; rfl)
      rw [hA] at e2
      simp at e2
      simp [e1, e2, he, oL]
    · have hA : flA l s ≠ [] := fun e => he (List.length_eq_zero_iff.1 (by rw [← hl, e]; rfl))
      generalize flA l s = A at e2 hA
      simp [e1, e2, he, oL, hA]
theorem r46 (d : Nat) (l : List Lf) (hb : l.length ≤ big) (hw : ∀ L ∈ l, BdL L) (s : ByteArray) : ev (d + 8) 46 [.ro 9 (l.map lS), T s] = some (.tu [oL (flOf l s).1, I (flOf l s).2], []) := by
  rw [s46 (d + 7) _ rfl]
  have e1 := r72 d l hb hw
  have e0 : okLs l = (okFrom l l.length 0 && decide (l.length ≤ 16)) := rfl
  rw [← e0] at e1
  unfold flOf
  cases h : okLs l
  · rw [h] at e1
    simp [e1, oL]
  · rw [h] at e1
    have key := l46 (d + 7) l hb s l.length 0 [] (wh (isFl s) l 0) (by omega) (by simp) (by simp)
    have hwl := wh_len (isFl s) l 0
    have hin := wh_in (isFl s) l l 0 (by simp)
    have h16 := okLs_len h
    have hl := flA_len l s
    unfold flA at hl ⊢
    generalize wh (isFl s) l 0 = ws at key hwl hin hl
    simp at key
    cases ws with
    | nil => simp at key; simp [e1, key, oL]
    | cons x R =>
      have e2 := v120' (d + 3) l (okLs_nums h) x R hin (by simp at hwl; omega)
      generalize srt (nmA l) [] (x :: R) = A at e2 hl
      simp at e2 hl key
      have hne : ¬ (R.length : Int) + 1 = 0 := by omega
      simp [e1, key, e2, oL, hl, hne]
end Go.Proofs.Ytojjkjbffihppaa.walkS
