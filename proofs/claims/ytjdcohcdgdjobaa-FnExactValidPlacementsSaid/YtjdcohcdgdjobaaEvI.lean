/- Values built, compared, turned to strings. -/
import Derived.Test.YtjdcohcdgdjobaaEvH
import Derived.Laws.Tables
namespace Go.Proofs.Ytjdcohcdgdjobaa.Ev
open Go
set_option linter.unusedVariables false
set_option linter.unusedSimpArgs false

section
variable {P : Program} {S N : Nat → Prop} {G : Gh} {m : Mem} {st : St} {a : Act} {w : World}

theorem foldl_set (cells : Array Value) (off : Nat) : ∀ (l : List Value) (k0 : Nat), off + k0 + l.length ≤ cells.size → ∀ cs : Array Value, cs.size = cells.size →
    ((l.zipIdx k0).foldl (fun cs (c, j) => cs.setIfInBounds (off + j) c) cs).size = cells.size ∧
    ∀ q : Nat, ((l.zipIdx k0).foldl (fun cs (c, j) => cs.setIfInBounds (off + j) c) cs)[q]? = if off + k0 ≤ q ∧ q < off + k0 + l.length then l[q - (off + k0)]? else cs[q]? := by
  intro l
  induction l with
  | nil => intro k0 _ cs hcs; exact ⟨by simpa using hcs, fun q => by simp; omega⟩
  | cons x xs ih =>
    intro k0 hk cs hcs
    simp only [List.length_cons] at hk
    obtain ⟨h1, h2⟩ := ih (k0 + 1) (by omega) (cs.setIfInBounds (off + k0) x) (by simpa using hcs)
    refine ⟨by simpa using h1, fun q => ?_⟩
    simp only [List.zipIdx_cons, List.foldl_cons, List.length_cons]
    rw [h2 q]
    by_cases hq : q = off + k0
    · subst hq
      rw [if_neg (by omega), if_pos (by omega)]
      simp [Array.getElem?_setIfInBounds, hcs]; omega
    · by_cases hq2 : off + (k0 + 1) ≤ q ∧ q < off + (k0 + 1) + xs.length
      · rw [if_pos hq2, if_pos (by omega)]
        rw [show q - (off + k0) = (q - (off + (k0 + 1))) + 1 from by omega, List.getElem?_cons_succ]
      · rw [if_neg hq2, if_neg (by omega), Array.getElem?_setIfInBounds_ne (by omega)]

theorem fold_put {R : LV → Value → Prop} {cells vs : List LV} {cs vc : Array Value} (h1 : RL R cells cs) (h2 : RL R vs vc) {off : Nat} {out : List LV} (hp : putL cells off vs = some out) :
    off + vc.size ≤ cs.size ∧ RL R out (vc.zipIdx.foldl (fun cs (c, j) => cs.setIfInBounds (off + j) c) cs) ∧ out.length = cells.length := by
  unfold putL at hp
  split at hp
  · rename_i hle
    cases hp
    have e1 : cs.size = cells.length := h1.1
    have e2 : vc.size = vs.length := h2.1
    obtain ⟨g1, g2⟩ := foldl_set cs off vc.toList 0 (by simp; omega) cs rfl
    have ef : vc.zipIdx.foldl (fun cs (c, j) => cs.setIfInBounds (off + j) c) cs = (vc.toList.zipIdx 0).foldl (fun cs (c, j) => cs.setIfInBounds (off + j) c) cs := by
      rw [← Array.foldl_toList, Array.toList_zipIdx]
    rw [ef]
    refine ⟨by omega, ⟨by rw [g1, e1]; simp; omega, fun k x hk => ?_⟩, by simp; omega⟩
    rw [g2 k]
    simp only [Nat.add_zero, Array.length_toList]
    by_cases hk1 : k < off
    · rw [if_neg (by omega)]
      rw [List.append_assoc, List.getElem?_append_left (by simp; omega), List.getElem?_take, if_pos hk1] at hk
      exact h1.2 k x hk
    · by_cases hk2 : k < off + vs.length
      · rw [if_pos (by omega)]
        rw [List.append_assoc, List.getElem?_append_right (by simp; omega), List.getElem?_append_left (by simp; omega)] at hk
        have el : (cells.take off).length = off := by simp; omega
        rw [el] at hk
        obtain ⟨u, hu, hx⟩ := h2.2 (k - off) x hk
        exact ⟨u, by simpa using hu, hx⟩
      · rw [if_neg (by omega)]
        have el : (cells.take off ++ vs).length = off + vs.length := by simp; omega
        rw [List.getElem?_append_right (by omega), el, List.getElem?_drop] at hk
        rw [show off + vs.length + (k - (off + vs.length)) = k from by omega] at hk
        exact h1.2 k x hk
  · cases hp

/-- a list of cells that stand for zero values -/
def fZ : List LV → List Value → Bool
  | [], [] => true
  | x :: xs, v :: vs => fK x v && fZ xs vs
  | _, _ => false
theorem fK_R0 {x : LV} {v : Value} (h : fK x v = true) : R0 G S m w x v ∧ wf0 m x ∧ plainB x = true := by
  cases x with
  | sc u => exact ⟨vEq_eq (by simpa [fK] using h), trivial, rfl⟩
  | nl =>
    have : v = .slice none 0 0 := by simp only [fK] at h; split at h <;> simp_all
    exact ⟨this, trivial, rfl⟩
  | _ => simp [fK] at h
theorem fZ_RL : ∀ {z : List LV} {cs : List Value}, fZ z cs = true → RL (R0 G S m w) z cs.toArray ∧ ∀ x ∈ z, wf0 m x ∧ plainB x = true := by
  intro z
  induction z with
  | nil => intro cs h; cases cs with
    | nil => exact ⟨⟨rfl, fun k x hk => by simp at hk⟩, fun x hx => by simp at hx⟩
    | cons _ _ => simp [fZ] at h
  | cons x xs ih => intro cs h; cases cs with
    | nil => simp [fZ] at h
    | cons v vs =>
      simp only [fZ, Bool.and_eq_true] at h
      obtain ⟨i1, i2⟩ := ih h.2
      obtain ⟨k1, k2, k3⟩ := fK_R0 (G := G) (S := S) (m := m) (w := w) h.1
      refine ⟨⟨by simp [← i1.1], fun k y hk => ?_⟩, fun y hy => ?_⟩
      · cases k with
        | zero => simp at hk; subst hk; exact ⟨v, by simp, k1⟩
        | succ k => obtain ⟨u, hu, hx⟩ := i1.2 k y (by simpa using hk); exact ⟨u, by simpa using hu, hx⟩
      · simp at hy; rcases hy with rfl | hy
        · exact ⟨k2, k3⟩
        · exact i2 y hy
def zeroT (P : Program) (t : TypeId) : Option (List Value) := (P.info? t).bind fun i => i.zero.map fun z => z.cells.toList
theorem zeroT_run {t : TypeId} {z : List Value} (h : zeroT P t = some z) : ∃ v, (zeroValue t).run P w = .ok v w ∧ v.cells = z.toArray := by
  unfold zeroT at h
  cases hi : P.info? t with
  | none => rw [hi] at h; simp at h
  | some i =>
    simp only [hi, Option.bind_some] at h
    cases hz : i.zero with
    | none => simp [hz] at h
    | some v => simp only [hz, Option.map_some, Option.some.injEq] at h; exact ⟨v, by simp [zeroValue, typeInfo, hi, hz], by rw [← h]⟩

/-- the places of a struct's or an array's parts -/
def placeT (P : Program) (t : TypeId) (i : Nat) : Option (Nat × Nat) :=
  match P.underlying t with
  | some (.struct fs) => (fs.toList.mapM (fun f => (P.info? f.type).map fun i => (f.offset, i.size))).bind (·[i]?)
  | some (.array _ e) => (sizeT P e).map fun n => (i * n, n)
  | _ => none
def fParts (P : Program) (t : TypeId) : List (Nat × Nat × Opd) → List (Nat × Operand) → Bool
  | [], [] => true
  | (off, n, x) :: l, (i, x') :: l' => (placeT P t i == some (off, n)) && fO x x' && fParts P t l l'
  | _, _ => false

theorem run_fill (h : SR S N G st a w) {t : TypeId} {place : Nat → Option (Nat × Nat)} (hplace : ∀ i q, placeT P t i = some q → place i = some q) : ∀ {ps : List (Nat × Nat × Opd)} {ps' : List (Nat × Operand)} {cells out : List LV} {cs : Array Value},
    fParts P t ps ps' = true → fillL st.s cells ps = some out → RL (R0 G S st.m w) cells cs → (∀ x ∈ cells, wf0 st.m x) →
    ∃ cs', Instr.fill place cs (ps'.map fun (i, x) => (i, a.eval x)) = some cs' ∧ RL (R0 G S st.m w) out cs' ∧ ∀ x ∈ out, wf0 st.m x := by
  intro ps
  induction ps with
  | nil =>
    intro ps' cells out cs hf hv hr hw
    cases ps' with
    | nil => cases hv; exact ⟨cs, rfl, hr, hw⟩
    | cons _ _ => simp [fParts] at hf
  | cons p ps ih =>
    intro ps' cells out cs hf hv hr hw
    obtain ⟨off, n, x⟩ := p
    cases ps' with
    | nil => simp [fParts] at hf
    | cons p' ps' =>
      obtain ⟨i, x'⟩ := p'
      simp only [fParts, Bool.and_eq_true, beq_iff_eq] at hf
      obtain ⟨⟨f1, f2⟩, f3⟩ := hf
      obtain ⟨r1, r2⟩ := h.opd f2
      simp only [fillL] at hv
      cases hu : unpack (opd st.s x) with
      | none => rw [hu] at hv; cases hv
      | some vs =>
        rw [hu] at hv
        simp only [] at hv
        split at hv
        · rename_i hl
          cases hp : putL cells off vs with
          | none => rw [hp] at hv; cases hv
          | some c =>
            rw [hp] at hv
            simp only [] at hv
            obtain ⟨q1, q2⟩ := unpack_R hu r1 r2
            obtain ⟨g1, g2, g3⟩ := fold_put hr q1 hp
            have hwc : ∀ y ∈ c, wf0 st.m y := by
              unfold putL at hp
              split at hp
              · cases hp
                intro y hy
                simp only [List.mem_append] at hy
                rcases hy with (hy | hy) | hy
                · exact hw y (List.mem_of_mem_take hy)
                · exact q2 y hy
                · exact hw y (List.mem_of_mem_drop hy)
              · cases hp
            obtain ⟨cs', k1, k2, k3⟩ := ih f3 hv g2 hwc
            refine ⟨cs', ?_, k2, k3⟩
            simp only [List.map_cons, Instr.fill, hplace i _ f1]
            have hsz : (a.eval x').cells.size = n := by rw [q1.1]; exact hl
            rw [if_neg (by simp [hsz]; omega)]
            exact k1
        · cases hv

theorem do_bd (h : SR S N G st a w) {t : TypeId} {z : List LV} {zv : List Value} {ps : List (Nat × Nat × Opd)} {ps' : Array (Nat × Operand)} {o : Oper} (ho : o.op = .build t ps')
    (hz : zeroT P t = some zv) (hzz : fZ z zv = true) (hf : fParts P t ps ps'.toList = true) (ht : (∃ fs places, P.underlying t = some (.struct fs) ∧ fs.toList.mapM (fun f => (P.info? f.type).map fun i => (f.offset, i.size)) = some places) ∨ ∃ n e s, P.underlying t = some (.array n e) ∧ sizeT P e = some s)
    {out : List LV} (hv : fillL st.s z ps = some out) : Does P o a w (Next S N G st w (.ag out) st.m) := by
  obtain ⟨v0, e1, e2⟩ := zeroT_run (P := P) (w := w) hz
  obtain ⟨z1, z2⟩ := fZ_RL (G := G) (S := S) (m := st.m) (w := w) hzz
  have hw0 : ∀ x ∈ z, wf0 st.m x := fun x hx => (z2 x hx).1
  have hmap : (ps'.map fun (i, x) => (i, a.eval x)).toList = ps'.toList.map fun (i, x) => (i, a.eval x) := by simp
  rcases ht with ⟨fs, places, hu, hall⟩ | ⟨n, e, s, hu, hs⟩
  · have hq := run_places (P := P) w fs.toList places hall
    obtain ⟨cs', k1, k2, k3⟩ := run_fill (P := P) h (t := t) (place := (places.toArray[·]?)) (fun i q hq => by
      simp only [placeT, hu, hall, Option.bind_some] at hq
      simpa using hq) hf hv z1 hw0
    refine Does.same h (v' := .agg cs') ?_ ⟨_, rfl, k2⟩ k3
    simp only [execOp, ho, Instr.build, Sem.run_bind, e1, Result.andThen_ok, run_underlying hu, e2, Array.mapM_eq_mapM_toList]
    have k1' : Instr.fill (fun x => places[x]?) zv.toArray (List.map (fun x => (x.fst, a.eval x.snd)) ps'.toList) = some cs' := by simpa using k1
    simp [hq, k1']
  · obtain ⟨cs', k1, k2, k3⟩ := run_fill (P := P) h (t := t) (place := fun i => some (i * s, s)) (fun i q hq => by
      simp only [placeT, hu, hs] at hq; exact hq) hf hv z1 hw0
    refine Does.same h (v' := .agg cs') ?_ ⟨_, rfl, k2⟩ k3
    simp only [execOp, ho, Instr.build, Sem.run_bind, e1, Result.andThen_ok, run_underlying hu, e2, sizeT_run hs, hmap, k1, Sem.run_pure]

/-! ### comparisons of structs and arrays -/
/-- a scalar's type -/
def scT (P : Program) (t : TypeId) : Bool := match P.underlying t with | some .bool | some (.int _) | some .string => true | _ => false

theorem run_eqV {d : Nat} {t : TypeId} {x y : LV} {u v : Value} {b : Bool} (h : eqV x y = some b) (hx : R0 G S m w x u) (hy : R0 G S m w y v) (ht : scT P t = true)
    (hk : (∀ c, u = .bool c → P.underlying t = some .bool) ∧ (∀ k n, u = .int k n → ∃ k', P.underlying t = some (.int k')) ∧ ∀ s, u = .string s → P.underlying t = some .string) :
    (Op.equalIn (d + 1) t u v).run P w = .ok b w := by
  cases x <;> cases y <;> simp only [eqV] at h <;> try cases h
  case sc.sc p q =>
    obtain ⟨rfl, _⟩ := hx
    obtain ⟨rfl, _⟩ := hy
    cases u <;> cases v <;> simp only [eqV] at h <;> try cases h
    case int.int k n k' n' =>
      split at h
      · rename_i e; subst e; cases h
        obtain ⟨k2, hk2⟩ := hk.2.1 _ _ rfl
        rw [run_equalIn_int w d t _ k2 _ _ hk2, Bool.beq_eq_decide_eq]
      · cases h
    case string.string a' b' => rw [run_equalIn_string w d t _ _ (hk.2.2 _ rfl), toList_beq]
    case bool.bool a' b' => rw [run_equalIn_bool' w d t _ _ (hk.1 _ rfl), Bool.beq_eq_decide_eq]

/-- the fields of a struct, each of one cell and in its place -/
def flatT (P : Program) : Nat → List Field → Bool
  | _, [] => true
  | k, f :: fs => (f.name != "_") && (f.offset == k) && (sizeT P f.type == some 1) && scT P f.type && flatT P (k + 1) fs
/-- do values fit the fields' types? -/
def fitT (P : Program) : List Field → List LV → Bool
  | [], [] => true
  | f :: fs, x :: xs => (match x, P.underlying f.type with | .sc (.bool _), some .bool => true | .sc (.int _ _), some (.int _) => true | .sc (.string _), some .string => true | _, _ => false) && fitT P fs xs
  | _, _ => false

theorem scT_agg {t : TypeId} (h : scT P t = true) : aggT P t = some false := by
  unfold scT at h
  unfold aggT
  cases hu : P.underlying t with
  | none => rw [hu] at h; cases h
  | some d => cases d <;> simp_all

theorem run_eqL {d : Nat} {cx cy : Array Value} : ∀ {fs : List Field} {k : Nat} {xs ys : List LV} {b : Bool}, flatT P k fs = true → fitT P fs xs = true → eqL xs ys = some b →
    (∀ (j : Nat) (x : LV), xs[j]? = some x → ∃ u, cx[k + j]? = some u ∧ R0 G S m w x u) → (∀ (j : Nat) (x : LV), ys[j]? = some x → ∃ u, cy[k + j]? = some u ∧ R0 G S m w x u) →
    (Op.eqFields (d + 1) cx cy fs).run P w = .ok b w := by
  intro fs
  induction fs with
  | nil =>
    intro k xs ys b _ hf he _ _
    cases xs with
    | cons _ _ => simp [fitT] at hf
    | nil => cases ys with
      | nil => cases he; simp [Op.eqFields]
      | cons _ _ => simp [eqL] at he
  | cons f fs ih =>
    intro k xs ys b hfl hf he hx hy
    cases xs with
    | nil => simp [fitT] at hf
    | cons x xs => cases ys with
      | nil => simp [eqL] at he
      | cons y ys =>
        simp only [eqL] at he
        cases h1 : eqV x y with
        | none => rw [h1] at he; cases he
        | some b1 => cases h2 : eqL xs ys with
          | none => rw [h1, h2] at he; cases he
          | some b2 =>
            rw [h1, h2] at he
            cases he
            simp only [flatT, Bool.and_eq_true, bne_iff_ne, beq_iff_eq] at hfl
            obtain ⟨⟨⟨⟨g1, g2⟩, g3⟩, g4⟩, g5⟩ := hfl
            simp only [fitT, Bool.and_eq_true] at hf
            obtain ⟨u, hu, hxu⟩ := hx 0 x (by simp)
            obtain ⟨v, hv, hyv⟩ := hy 0 y (by simp)
            have p1 : (part f.type cx f.offset).run P w = .ok u w := by
              have hu' : cx[k]? = some u := hu
              simp [part, aggT_run (scT_agg g4), g2, hu']
            have p2 : (part f.type cy f.offset).run P w = .ok v w := by
              have hv' : cy[k]? = some v := hv
              simp [part, aggT_run (scT_agg g4), g2, hv']
            have p3 : (Op.equalIn (d + 1) f.type u v).run P w = .ok b1 w := by
              refine run_eqV h1 hxu hyv g4 ?_
              have hf1 := hf.1
              split at hf1 <;> try cases hf1
              all_goals (rename_i hut; obtain ⟨rfl, _⟩ := hxu)
              · exact ⟨fun _ _ => hut, fun _ _ e => by (cases e), fun _ e => by (cases e)⟩
              · exact ⟨fun _ e => by (cases e), fun _ _ _ => ⟨_, hut⟩, fun _ e => by (cases e)⟩
              · exact ⟨fun _ e => by (cases e), fun _ _ e => by (cases e), fun _ _ => hut⟩
            have p4 := ih g5 hf.2 h2 (fun j z hz => by
              obtain ⟨u, h1, h2⟩ := hx (j + 1) z (by simpa using hz)
              exact ⟨u, by rw [← h1]; congr 1; omega, h2⟩) (fun j z hz => by
              obtain ⟨u, h1, h2⟩ := hy (j + 1) z (by simpa using hz)
              exact ⟨u, by rw [← h1]; congr 1; omega, h2⟩)
            simp only [Op.eqFields, if_pos g1, Sem.run_bind, p1, p2, p3, Result.andThen_ok]
            cases b1
            · simp
            · simpa using p4

theorem do_eq (h : SR S N G st a w) {neg : Bool} {x y : Opd} {x' y' : Operand} {t t2 : TypeId} {o : Oper} (hx : fO x x' = true) (hy : fO y y' = true) (ho : o.op = .binOp (if neg = true then .neq else .eql) t x' y' t2)
    {fs : Array Field} (hu : P.underlying t = some (.struct fs)) (hp : P.stoodInHeld t = false) (hg : P.eqGuardType P.depth t = false) (hfl : flatT P 0 fs.toList = true)
    {xs ys : List LV} (ex : opd st.s x = .ag xs) (ey : opd st.s y = .ag ys) (hft : fitT P fs.toList xs = true) {b : Bool} (hb : eqL xs ys = some b) :
    Does P o a w (Next S N G st w (.sc (.bool (if neg = true then !b else b))) st.m) := by
  have r1 := (h.opd hx).1
  have r2 := (h.opd hy).1
  rw [ex] at r1
  rw [ey] at r2
  obtain ⟨cx, e1, q1⟩ := r1
  obtain ⟨cy, e2, q2⟩ := r2
  have hfo : P.fieldsOf t = fs := by simp [Program.fieldsOf, hu]
  have run : (Op.equalIn 10000 t (.agg cx) (.agg cy)).run P w = .ok b w := by
    rw [run_equalIn_struct (P := P) w 9999 t cx cy (by rw [hfo]; exact hu) hp, hfo]
    exact run_eqL (G := G) (S := S) (m := st.m) hfl hft hb (fun j z hz => by simpa using q1.2 j z hz) (fun j z hz => by simpa using q2.2 j z hz)
  refine Does.same h (v' := .bool (if neg = true then !b else b)) ?_ ⟨rfl, rfl⟩ trivial
  cases neg
  · simp only [Bool.false_eq_true, if_false] at ho ⊢
    simp only [execOp, ho, Sem.run_bind, e1, e2, run_eqGuard_agg w .eql t x' y' cx cy hg, Result.andThen_ok, run_eql_struct, run, Sem.run_pure]
  · simp only [if_true] at ho ⊢
    simp only [execOp, ho, Sem.run_bind, e1, e2, run_eqGuard_agg w .neq t x' y' cx cy hg, Result.andThen_ok, run_neq_struct, run, Sem.run_pure]
end
end Go.Proofs.Ytjdcohcdgdjobaa.Ev
