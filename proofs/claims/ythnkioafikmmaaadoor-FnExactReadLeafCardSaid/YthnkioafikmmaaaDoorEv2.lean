/- What a call is given: read out of the row's data. -/
import Derived.Test.YthnkioafikmmaaaDoorEv1
import Derived.Deep.Slices
import Derived.ChangeArms
import Derived.RowKit
namespace Go.Proofs.YthnkioafikmmaaaDoor.Ev
open Go
set_option linter.unusedVariables false
set_option linter.unusedSimpArgs false

/-- the types of a value's cells, one cell each -/
def leafF (f : TypeId → Option (List TypeId)) (P : Program) : Nat → List Field → Option (List TypeId)
  | _, [] => some []
  | off, x :: xs =>
    match f x.type with
    | some l => if x.offset = off ∧ P.cellsOf x.type = l.length then (match leafF f P (off + l.length) xs with | some r => some (l ++ r) | none => none) else none
    | none => none
def leafs (P : Program) : Nat → TypeId → Option (List TypeId)
  | 0, _ => none
  | k + 1, t =>
    match P.underlying t with
    | some .bool | some (.int _) | some .string | some (.slice _) => some [t]
    | some (.struct fs) => match leafF (leafs P k) P 0 fs.toList with | some r => if P.cellsOf t = r.length then some r else none | none => none
    | _ => none

/-- a value of a plain type -/
def IsT (P : Program) (t : TypeId) (v : Value) : Prop :=
  match P.underlying t with
  | some .bool => ∃ b, v = .bool b
  | some (.int k) => ∃ n, v = .int k n ∧ (Lit.int k n).wf = true
  | some .string => ∃ s, v = .string s ∧ s.size ≤ maxLen
  | _ => False
def All2 {α β : Type} (R : α → β → Prop) : List α → List β → Prop
  | [], [] => True
  | x :: xs, y :: ys => R x y ∧ All2 R xs ys
  | _, _ => False
/-- a cell of an element -/
def CellT (P : Program) (t : TypeId) (x : Cell) : Prop :=
  match P.underlying t with
  | some (.slice e) => x = .nl ∨ ∃ ls rows, leafs P 8 e = some ls ∧ x = .sl false 0 ls.length rows ∧ rows.length ≤ maxLen ∧ ∀ row ∈ rows, All2 (IsT P) ls row
  | _ => ∃ v, x = .sc v ∧ IsT P t v
/-- a cell of an argument -/
def LvT (P : Program) (t : TypeId) (x : LV) : Prop :=
  match P.underlying t with
  | some (.slice e) => x = .nl ∨ ∃ ls rows, leafs P 8 e = some ls ∧ x = .ro ls.length rows ∧ rows.length ≤ maxLen ∧ ∀ row ∈ rows, All2 (CellT P) ls row
  | _ => ∃ v, x = .sc v ∧ IsT P t v

section
variable {H : Type} {enc : TypeId × Value → H} {P : Program} {w : World} {sp : Nat → Bool} {held : Bool} {S : Nat → Prop} {G : Gh}

theorem all2_iff {α β : Type} {R : α → β → Prop} : ∀ {xs : List α} {ys : List β}, All2 R xs ys ↔ xs.length = ys.length ∧ ∀ (k : Nat) (x : α) (y : β), xs[k]? = some x → ys[k]? = some y → R x y := by
  intro xs
  induction xs with
  | nil => intro ys; cases ys <;> simp [All2]
  | cons x xs ih =>
    intro ys
    cases ys with
    | nil => simp [All2]
    | cons y ys =>
      simp only [All2, ih, List.length_cons, Nat.add_right_cancel_iff]
      constructor
      · rintro ⟨h1, h2, h3⟩
        refine ⟨h2, fun k a b ha hb => ?_⟩
        cases k with
        | zero => simp at ha hb; subst ha; subst hb; exact h1
        | succ k => exact h3 k a b (by simpa using ha) (by simpa using hb)
      · rintro ⟨h2, h3⟩
        exact ⟨h3 0 x y (by simp) (by simp), h2, fun k a b ha hb => h3 (k + 1) a b (by simpa using ha) (by simpa using hb)⟩

/-- cells, read type by type -/
theorem trod_leafs : ∀ (k : Nat) {t : TypeId} {ls : List TypeId}, leafs P k t = some ls → ∀ {fuel : Nat} {cs : List Value} {x : DataW H × List MemPlace}, DataW.trod enc P w 0 sp held fuel t cs = some x →
    cs.length = ls.length ∧ ∀ (j : Nat) (lt : TypeId), ls[j]? = some lt → ∃ c fuel' y, cs[j]? = some c ∧ DataW.trod enc P w 0 sp held fuel' lt [c] = some y := by
  intro k
  induction k with
  | zero => intro t ls h; cases h
  | succ k ih =>
    intro t ls h fuel cs x hx
    have one : ∀ v, cs = [v] → ls = [t] → cs.length = ls.length ∧ ∀ (j : Nat) (lt : TypeId), ls[j]? = some lt → ∃ c fuel' y, cs[j]? = some c ∧ DataW.trod enc P w 0 sp held fuel' lt [c] = some y := by
      intro v h1 h2
      subst h1 h2
      refine ⟨rfl, fun j lt hj => ?_⟩
      cases j with
      | zero => simp at hj; subst hj; exact ⟨v, fuel, x, rfl, hx⟩
      | succ j => simp at hj
    simp only [leafs] at h
    split at h
    · rename_i hu; cases h; obtain ⟨b, rfl, _⟩ := DataW.trod_bool hu hx; exact one _ rfl rfl
    · rename_i hu; cases h; obtain ⟨b, rfl, _⟩ := DataW.trod_int hu hx; exact one _ rfl rfl
    · rename_i hu; cases h; obtain ⟨b, rfl, _⟩ := DataW.trod_string hu hx; exact one _ rfl rfl
    · rename_i hu
      cases h
      rcases DataW.trod_slice hu hx with ⟨rfl, _⟩ | ⟨a, len, cap, _, _, _, _, rfl, _⟩ <;> exact one _ rfl rfl
    · rename_i fs hu
      split at h
      case h_2 => cases h
      rename_i r hleaf
      split at h
      case isFalse => cases h
      rename_i hcells
      cases h
      obtain ⟨xs, n, rfl, _, hlen, hxl, hf⟩ := DataW.trod_struct hu hx
      have key : ∀ (l : List Field) (off : Nat) (r : List TypeId), leafF (leafs P k) P off l = some r → (∀ f ∈ l, ∃ y, DataW.trod enc P w 0 sp held n f.type ((cs.drop f.offset).take (P.cellsOf f.type)) = some y) →
          (∀ (j : Nat) (lt : TypeId), r[j]? = some lt → ∃ c fuel' y, cs[off + j]? = some c ∧ DataW.trod enc P w 0 sp held fuel' lt [c] = some y) := by
        intro l
        induction l with
        | nil => intro off r h _ j lt hj; cases h; simp at hj
        | cons f l ihl =>
          intro off r h hall j lt hj
          simp only [leafF] at h
          split at h
          case h_2 => cases h
          rename_i lf hlf
          split at h
          case isFalse => cases h
          rename_i hc
          split at h
          case h_2 => cases h
          rename_i r' hr'
          cases h
          by_cases hjl : j < lf.length
          · rw [List.getElem?_append_left hjl] at hj
            obtain ⟨y, hy⟩ := hall f (by simp)
            obtain ⟨g1, g2⟩ := ih hlf hy
            obtain ⟨c, fuel', z, c1, c2⟩ := g2 j lt hj
            refine ⟨c, fuel', z, ?_, c2⟩
            rw [List.getElem?_take] at c1
            split at c1
            · rw [List.getElem?_drop, hc.1] at c1; exact c1
            · cases c1
          · rw [List.getElem?_append_right (by omega)] at hj
            obtain ⟨c, fuel', z, c1, c2⟩ := ihl _ _ hr' (fun f hf => hall f (by simp [hf])) _ lt hj
            exact ⟨c, fuel', z, by rw [← c1]; congr 1; omega, c2⟩
      have hall : ∀ f ∈ fs.toList, ∃ y, DataW.trod enc P w 0 sp held n f.type ((cs.drop f.offset).take (P.cellsOf f.type)) = some y := by
        intro f hfm
        obtain ⟨i, hi⟩ := List.getElem?_of_mem hfm
        have hi' : fs[i]? = some f := by simpa using hi
        have hil : i < xs.length := by rw [hxl]; exact (Array.getElem?_eq_some_iff.1 hi').1
        exact ⟨xs[i], by rw [hf i f hi', List.getElem?_eq_getElem hil]⟩
      exact ⟨by rw [hlen, hcells], fun j lt hj => by simpa using key fs.toList 0 ls hleaf hall j lt hj⟩
    · cases h

def scal (P : Program) (t : TypeId) : Bool := match P.underlying t with | some .bool | some (.int _) | some .string => true | _ => false
def sliceOk (P : Program) (f : TypeId → Bool) (t : TypeId) : Bool :=
  match P.underlying t with
  | some (.slice e) => (match leafs P 8 e with | some ls => ls.all f && decide (P.cellsOf e = ls.length) && decide (0 < ls.length) | none => false)
  | _ => false
def ok2 (P : Program) (t : TypeId) : Bool := scal P t || sliceOk P (scal P) t
def ok1 (P : Program) (t : TypeId) : Bool := scal P t || sliceOk P (ok2 P) t

theorem leaf_isT {t : TypeId} (hs : scal P t = true) {fuel : Nat} {c : Value} {y : DataW H × List MemPlace} (h : DataW.trod enc P w 0 sp held fuel t [c] = some y) : IsT P t c ∧ ScR c c := by
  unfold scal at hs
  split at hs
  · rename_i hu
    obtain ⟨b, h1, _⟩ := DataW.trod_bool hu h
    cases h1
    exact ⟨by unfold IsT; rw [hu]; exact ⟨b, rfl⟩, rfl, rfl⟩
  · rename_i hu
    obtain ⟨b, h1, _, h2⟩ := DataW.trod_int hu h
    cases h1
    exact ⟨by unfold IsT; rw [hu]; exact ⟨b, rfl, h2⟩, rfl, rfl⟩
  · rename_i hu
    obtain ⟨b, h1, _, h2⟩ := DataW.trod_string hu h
    cases h1
    exact ⟨by unfold IsT; rw [hu]; exact ⟨b, rfl, h2⟩, rfl, rfl⟩
  · cases hs

theorem list_of {α : Type} {p : Nat → α → Prop} : ∀ (n : Nat), (∀ i, i < n → ∃ x, p i x) → ∃ l : List α, l.length = n ∧ ∀ (i : Nat) (x : α), l[i]? = some x → p i x := by
  intro n
  induction n with
  | zero => intro _; exact ⟨[], rfl, fun i x hi => by simp at hi⟩
  | succ n ih =>
    intro h
    obtain ⟨l, l1, l2⟩ := ih fun i hi => h i (by omega)
    obtain ⟨x, hx⟩ := h n (by omega)
    refine ⟨l ++ [x], by simp [l1], fun i y hi => ?_⟩
    by_cases hil : i < n
    · rw [List.getElem?_append_left (by omega)] at hi; exact l2 i y hi
    · rw [List.getElem?_append_right (by omega)] at hi
      have : i = n := by
        have := (List.getElem?_eq_some_iff.1 hi).1
        simp at this; omega
      subst this
      rw [l1, Nat.sub_self] at hi
      simp at hi
      subst hi; exact hx

theorem open_rows {α : Type} {R : α → Value → Prop} {T : TypeId → α → Prop} {t e : TypeId} {ls : List TypeId} (ht : P.underlying t = some (.slice e)) (hls : leafs P 8 e = some ls) (hc : P.cellsOf e = ls.length) (h0 : 0 < ls.length)
    (hleaf : ∀ lt ∈ ls, ∀ (fuel : Nat) (c : Value) (y : DataW H × List MemPlace), DataW.trod enc P w 0 sp held fuel lt [c] = some y → ∃ x, T lt x ∧ R x c)
    {fuel : Nat} {v : Value} {y : DataW H × List MemPlace} (h : DataW.trod enc P w 0 sp held fuel t [v] = some y) :
    v = .slice none 0 0 ∨ ∃ rows : List (List α), RdG R (fun b => b < w.heap.size) w ls.length rows v ∧ rows.length ≤ maxLen ∧ ∀ row ∈ rows, All2 T ls row := by
  rcases Go.Deep.open_slice ht h with ⟨h1, _⟩ | ⟨a, len, cap, m, n, D, Pl, h1, _, hle, hmax, hm, _, hx⟩
  · left; simpa using h1
  right
  have hv : v = .slice (some a) len cap := by simpa using h1
  subst hv
  have hlm : len ≤ m := by rw [hm]; split <;> omega
  have hrow : ∀ i, i < len → ∃ row : List α, All2 T ls row ∧ ∀ (k : Nat) (x : α), row[k]? = some x → ∃ u, w.cell? (a.add (i * ls.length + k)) = some u ∧ R x u := by
    intro i hi
    obtain ⟨cs, c1, c2⟩ := hx i (by omega)
    rw [hc] at c1
    obtain ⟨_, cl, cg⟩ := World.cells?_some c1
    obtain ⟨g1, g2⟩ := trod_leafs 8 hls c2
    have hcell : ∀ k, k < ls.length → ∃ x : α, T (ls.getD k 0) x ∧ ∃ u, w.cell? (a.add (i * ls.length + k)) = some u ∧ R x u := by
      intro k hk
      obtain ⟨c, fuel', z, z1, z2⟩ := g2 k ls[k] (List.getElem?_eq_getElem hk)
      obtain ⟨x, x1, x2⟩ := hleaf ls[k] (List.getElem_mem hk) fuel' c z z2
      refine ⟨x, by simpa [hk] using x1, c, ?_, x2⟩
      have h3 := cg k hk
      rw [z1] at h3
      have h4 := spot_of_cell h3
      have : (a.add (i * ls.length)).add k = a.add (i * ls.length + k) := by
        by_cases ha : a.spot = none
        · exact add_add a ha _ _
        · unfold Addr.add at h4 h3 ⊢
          by_cases hi0 : i * ls.length = 0
          · by_cases hk0 : k = 0
            · simp [hi0, hk0]
            · simp [hi0, hk0]
          · by_cases hk0 : k = 0
            · simp [hi0, hk0]
            · simp [hi0, hk0, Nat.add_assoc]
      rw [← this]; exact h3
    obtain ⟨row, r1, r2⟩ := list_of ls.length hcell
    refine ⟨row, all2_iff.2 ⟨r1.symm, fun k lt x hlt hx => ?_⟩, fun k x hk => (r2 k x hk).2⟩
    have := (r2 k x hx).1
    rw [List.getD_eq_getElem?_getD, hlt] at this
    exact this
  obtain ⟨rows, r1, r2⟩ := list_of len hrow
  refine ⟨rows, ⟨a, cap, by rw [r1], by rw [r1]; exact hle, fun r row hr => ?_⟩, by rw [r1]; omega, fun row hm => ?_⟩
  · obtain ⟨k1, k2⟩ := r2 r row hr
    have hl := (all2_iff.1 k1).1
    have hr0 : 0 < rows.length := by have := (List.getElem?_eq_some_iff.1 hr).1; omega
    obtain ⟨j1, j2⟩ := r2 0 rows[0] (List.getElem?_eq_getElem hr0)
    have hl0 := (all2_iff.1 j1).1
    have h00 : (rows[0])[0]? = some (rows[0])[0] := List.getElem?_eq_getElem (by omega)
    obtain ⟨u, u1, _⟩ := j2 0 _ h00
    have ea : a.add (0 * ls.length + 0) = a := by simp [Addr.add]
    rw [ea] at u1
    exact ⟨hl.symm, a, rfl, ⟨World.block_lt_of_cell? w a u1, spot_of_cell u1⟩, k2⟩
  · obtain ⟨r, hr⟩ := List.getElem?_of_mem hm
    exact (r2 r row hr).1

theorem sliceOk_inv {f : TypeId → Bool} {t : TypeId} (h : sliceOk P f t = true) : ∃ e ls, P.underlying t = some (.slice e) ∧ leafs P 8 e = some ls ∧ (∀ lt ∈ ls, f lt = true) ∧ P.cellsOf e = ls.length ∧ 0 < ls.length := by
  unfold sliceOk at h
  split at h
  · rename_i e hu
    split at h
    · rename_i ls hls
      simp only [Bool.and_eq_true, List.all_eq_true, decide_eq_true_eq] at h
      exact ⟨e, ls, hu, hls, h.1.1, h.1.2, h.2⟩
    · cases h
  · cases h
theorem scal_not {t : TypeId} (h : scal P t = true) : ∀ e, P.underlying t ≠ some (.slice e) := by
  intro e he
  unfold scal at h
  rw [he] at h
  cases h

theorem leaf_cell {t : TypeId} (hs : ok2 P t = true) {fuel : Nat} {c : Value} {y : DataW H × List MemPlace} (h : DataW.trod enc P w 0 sp held fuel t [c] = some y) : ∃ x, CellT P t x ∧ RdC (fun b => b < w.heap.size) w x c := by
  unfold ok2 at hs
  rw [Bool.or_eq_true] at hs
  rcases hs with hs | hs
  · obtain ⟨h1, h2⟩ := leaf_isT hs h
    refine ⟨.sc c, ?_, h2⟩
    unfold CellT
    split
    · rename_i e he; exact absurd he (scal_not hs e)
    · exact ⟨c, rfl, h1⟩
  · obtain ⟨e, ls, hu, hls, hall, hc, h0⟩ := sliceOk_inv hs
    rcases open_rows (R := ScR) (T := IsT P) hu hls hc h0 (fun lt hlt fuel c y hy => ⟨c, leaf_isT (hall lt hlt) hy⟩) h with rfl | ⟨rows, r1, r2, r3⟩
    · exact ⟨.nl, by unfold CellT; rw [hu]; exact .inl rfl, rfl⟩
    · exact ⟨.sl false 0 ls.length rows, by unfold CellT; rw [hu]; exact .inr ⟨ls, rows, hls, rfl, r2, r3⟩, r1⟩

theorem leaf_lv {t : TypeId} (hs : ok1 P t = true) {fuel : Nat} {c : Value} {y : DataW H × List MemPlace} (h : DataW.trod enc P w 0 sp held fuel t [c] = some y) : ∃ x, LvT P t x ∧ R0 G (fun b => b < w.heap.size) noMem w x c ∧ wf0 noMem x := by
  unfold ok1 at hs
  rw [Bool.or_eq_true] at hs
  rcases hs with hs | hs
  · obtain ⟨h1, h2⟩ := leaf_isT hs h
    refine ⟨.sc c, ?_, h2, trivial⟩
    unfold LvT
    split
    · rename_i e he; exact absurd he (scal_not hs e)
    · exact ⟨c, rfl, h1⟩
  · obtain ⟨e, ls, hu, hls, hall, hc, h0⟩ := sliceOk_inv hs
    rcases open_rows (R := RdC (fun b => b < w.heap.size) w) (T := CellT P) hu hls hc h0 (fun lt hlt fuel c y hy => leaf_cell (hall lt hlt) hy) h with rfl | ⟨rows, r1, r2, r3⟩
    · exact ⟨.nl, by unfold LvT; rw [hu]; exact .inl rfl, rfl, trivial⟩
    · exact ⟨.ro ls.length rows, by unfold LvT; rw [hu]; exact .inr ⟨ls, rows, hls, rfl, r2, r3⟩, r1, trivial⟩

/-- an argument of one cell -/
theorem open_one {t : TypeId} (hs : ok1 P t = true) {r : Reach} {b0 : Nat} {v : Value} {d : DataW H} {ps : List MemPlace} (_hval : Value.okWide P w r b0 t v) (hd : DataW.Trod enc P w 0 sp held t v d ps) (hv : v.cells = #[v]) :
    ∃ x, LvT P t x ∧ R G (fun b => b < w.heap.size) noMem w x v ∧ wf noMem x := by
  obtain ⟨fuel, hf⟩ := hd
  rw [hv] at hf
  obtain ⟨x, x1, x2, x3⟩ := leaf_lv (G := G) hs hf
  have := R0_notag x2
  exact ⟨x, x1, by cases x <;> first | exact x2 | exact this.elim | exact x2.elim, by cases x <;> first | exact x3 | exact this.elim | exact x2.elim⟩
/-- an argument that is a struct -/
theorem open_agg {t : TypeId} {fs : Array Field} {ls : List TypeId} (ht : P.underlying t = some (.struct fs)) (hls : leafs P 8 t = some ls) (hall : ls.all (ok1 P) = true) {r : Reach} {b0 : Nat} {v : Value} {d : DataW H} {ps : List MemPlace}
    (hval : Value.okWide P w r b0 t v) (hd : DataW.Trod enc P w 0 sp held t v d ps) : ∃ xs, All2 (LvT P) ls xs ∧ R G (fun b => b < w.heap.size) noMem w (.ag xs) v ∧ wf noMem (.ag xs) := by
  unfold Value.okWide at hval
  rw [ht] at hval
  obtain ⟨cs, rfl, hsz, _⟩ := hval
  obtain ⟨fuel, hf⟩ := hd
  obtain ⟨g1, g2⟩ := trod_leafs 8 hls hf
  have gl : cs.size = ls.length := by simpa [Value.cells] using g1
  have hcell : ∀ k, k < ls.length → ∃ x : LV, LvT P (ls.getD k 0) x ∧ ∃ u, cs[k]? = some u ∧ R0 G (fun b => b < w.heap.size) noMem w x u ∧ wf0 noMem x := by
    intro k hk
    obtain ⟨c, fuel', z, z1, z2⟩ := g2 k ls[k] (List.getElem?_eq_getElem hk)
    obtain ⟨x, x1, x2⟩ := leaf_lv (G := G) (List.all_eq_true.1 hall ls[k] (List.getElem_mem hk)) z2
    exact ⟨x, by simpa [hk] using x1, c, by simpa [Value.cells] using z1, x2⟩
  obtain ⟨xs, x1, x2⟩ := list_of ls.length hcell
  refine ⟨xs, all2_iff.2 ⟨x1.symm, fun k lt x hlt hx => ?_⟩, ⟨cs, rfl, by rw [gl, x1], fun k x hk => ?_⟩, fun x hx => ?_⟩
  · have := (x2 k x hx).1
    rw [List.getD_eq_getElem?_getD, hlt] at this
    exact this
  · obtain ⟨_, u, u1, u2, _⟩ := x2 k x hk; exact ⟨u, u1, u2⟩
  · obtain ⟨k, hk⟩ := List.getElem?_of_mem hx
    obtain ⟨_, u, u1, u2, u3⟩ := x2 k x hk; exact u3

/-- from a contract to the row's walk -/
theorem Contract.walk {f : Nat} {args : List LV} {vals : Array Value} {b : Value} {T : Tab} (hT : Tb T (fun b => w.heap.size ≤ b) w) (h : Contract T P f args (.sc b)) (hargs : RL (fun x u => R G (fun b => b < w.heap.size) noMem w x u ∧ wf noMem x) args vals) :
    Calls P f vals w fun e w' => e = .returned b ∧ Go.RowKit.Below w.heap.size w w' := by
  refine Calls.mono (h (fun b => b < w.heap.size) w vals G (fun _ h => h) hargs hT) fun e w' => ?_
  rintro ⟨v, rfl, hfr, hres⟩
  obtain ⟨G', m', _, _, hR, _⟩ := hres (Id.rs 0) (fun a b e => by cases e; rfl)
  have : v = b := hR.1
  subst this
  exact ⟨rfl, hfr.os, hfr.tape, hfr.output, hfr.size, fun k hk => hfr.block k hk (by omega)⟩
end
theorem evF_fn {F : Nat → Option Ev.Fn} {prim : CallF} {f : Nat} {fn : Ev.Fn} (h : F f = some fn) (d : Nat) (args : List LV) (hl : args.length = fn.nargs) : evF F prim (d + 1) f args = Ev.finish fn.res (evC (evF F prim d) fn.body (Ev.start args)) := by
  simp only [evF, h, hl, if_true]
/-- a table of functions -/
def getF : List (Nat × Ev.Fn) → Nat → Option Ev.Fn
  | [], _ => none
  | p :: l, f => if p.1 = f then some p.2 else getF l f
def AllF (P : Program) : List (Nat × Ev.Fn) → Prop
  | [] => True
  | p :: l => (enterOk P p.1 = true ∧ ∃ ks, cFn P p.1 ks = some p.2) ∧ AllF P l
theorem tabF {P : Program} : ∀ {L : List (Nat × Ev.Fn)}, AllF P L → ∀ f fn, getF L f = some fn → enterOk P f = true ∧ ∃ ks, cFn P f ks = some fn := by
  intro L
  induction L with
  | nil => intro _ f fn h; cases h
  | cons p l ih =>
    intro ha f fn h
    simp only [getF] at h
    split at h
    · rename_i e; cases h; subst e; exact ha.1
    · exact ih ha.2 f fn h
theorem tabN : ∀ {L : List (Nat × Ev.Fn)}, (L.all fun p => decide (p.1 < wrN)) = true → ∀ f fn, getF L f = some fn → f < wrN := by
  intro L
  induction L with
  | nil => intro _ f fn h; cases h
  | cons p l ih =>
    intro ha f fn h
    simp only [List.all_cons, Bool.and_eq_true, decide_eq_true_eq] at ha
    simp only [getF] at h
    split at h
    · rename_i e; subst e; exact ha.1
    · exact ih ha.2 f fn h
theorem evF_fnW {F : Nat → Option Ev.Fn} {prim : CallF} {f : Nat} {fn : Ev.Fn} (h : F f = some fn) (hN : ∀ f fn, F f = some fn → f < wrN) (d : Nat) {args as : List LV} {st : St} (hs : startW args = some (as, st)) (hl : as.length = fn.nargs) :
    evF F prim (d + 1) (wrN + f) args = finishW as fn.res (evC (evF F prim d) fn.body st) := by
  have hn : F (wrN + f) = none := by
    cases hq : F (wrN + f) with
    | none => rfl
    | some q => have := hN _ _ hq; omega
  have hmv : mvN = 2000000 := rfl
  have hwr : wrN = 1000000 := rfl
  have hf := hN f fn h
  have hpu : puN = 3000000 := rfl
  have hlt : ¬ mvN ≤ wrN + f := by omega
  have hlp : ¬ puN ≤ wrN + f := by omega
  have hge : wrN ≤ wrN + f := by omega
  simp only [evF, hn, Nat.add_sub_cancel_left, h, hs, hl, if_true, if_neg hlp, if_neg hlt, if_pos hge]
theorem evF_fnM {F : Nat → Option Ev.Fn} {prim : CallF} {f : Nat} {fn : Ev.Fn} (h : F f = some fn) (hN : ∀ f fn, F f = some fn → f < wrN) (d : Nat) {args as : List LV} {st : St} (hs : startW args = some (as, st)) (hl : as.length = fn.nargs) :
    evF F prim (d + 1) (mvN + f) args = finishM fn.res (evC (evF F prim d) fn.body st) := by
  have hmv : mvN = 2000000 := rfl
  have hwr : wrN = 1000000 := rfl
  have hn : F (mvN + f) = none := by
    cases hq : F (mvN + f) with
    | none => rfl
    | some q => have := hN _ _ hq; omega
  have hge : mvN ≤ mvN + f := by omega
  have hpu : puN = 3000000 := rfl
  have hf := hN f fn h
  have hlp : ¬ puN ≤ mvN + f := by omega
  simp only [evF, hn, Nat.add_sub_cancel_left, h, hs, hl, if_true, if_neg hlp, if_pos hge]
theorem evF_fnP {F : Nat → Option Ev.Fn} {prim : CallF} {f : Nat} {fn : Ev.Fn} (h : F f = some fn) (hN : ∀ f fn, F f = some fn → f < wrN) (d : Nat) {args as : List LV} {st : St} (hs : startV 1 args = some (as, st)) (hl : as.length = fn.nargs) :
    evF F prim (d + 1) (puN + f) (.sc (.int .i64 1) :: args) = finishW as fn.res (evC (evF F prim d) fn.body st) := by
  have hwr : wrN = 1000000 := rfl
  have hpu : puN = 3000000 := rfl
  have hn : F (puN + f) = none := by
    cases hq : F (puN + f) with
    | none => rfl
    | some q => have := hN _ _ hq; omega
  have hge : puN ≤ puN + f := by omega
  have hs : startV (1 : Int).toNat args = some (as, st) := hs
  simp only [evF, hn, Nat.add_sub_cancel_left, h, hs, hl, if_true, if_pos hge]
end Go.Proofs.YthnkioafikmmaaaDoor.Ev
