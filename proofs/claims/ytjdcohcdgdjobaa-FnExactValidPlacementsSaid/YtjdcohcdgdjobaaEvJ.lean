/- New memory of the call's own. -/
import Derived.Test.YtjdcohcdgdjobaaEvI
namespace Go.Proofs.Ytjdcohcdgdjobaa.Ev
open Go
set_option linter.unusedVariables false
set_option linter.unusedSimpArgs false

def Gh.put (G : Gh) (i : Id) (b c : Nat) : Gh := { G with blk := fun j => if j = i then b else G.blk j, cap := fun j => if j = i then c else G.cap j }

section
variable {P : Program} {S N : Nat → Prop} {G : Gh} {m : Mem} {st : St} {a : Act} {w : World}

theorem updM_ne {i j : Id} {x : Option Thing} (h : j ≠ i) : updM m i x j = m j := by simp [updM, h]
theorem updM_eq {i : Id} {x : Option Thing} : updM m i x i = x := by simp [updM]
theorem Gh.put_ne {i j : Id} {b c : Nat} (h : j ≠ i) : (G.put i b c).blk j = G.blk j ∧ (G.put i b c).cap j = G.cap j := by simp [Gh.put, h]

theorem Ext.add {i : Id} (hi : m i = none) (x : Thing) (b c : Nat) (o : Obj) : Ext G m w (G.put i b c) (updM m i (some x)) (w.alloc o) := by
  refine ⟨fun j hj => updM_ne (fun (e : j = i) => hj (by rw [e]; exact hi)), fun j hj => ?_, fun b hb => heap_alloc_old w o b hb, by simp⟩
  obtain ⟨h1, h2⟩ := Gh.put_ne (G := G) (i := i) (b := b) (c := c) (fun (e : j = i) => hj (by rw [e]; exact hi))
  exact ⟨h1, h2, rfl, rfl⟩

/-- what lives when a thing without own elements is added -/
theorem live_add {i : Id} {x : Thing} (hx : ∀ e n rows, x = .arr e n rows → ∀ row ∈ rows, ∀ y ∈ row, ∀ e' n' l, y ≠ .sl true e' n' l) {p : Res} (h : live (updM m i (some x)) p) : p = .root i ∨ live m p := by
  cases p with
  | root j =>
    by_cases hj : j = i
    · exact .inl (by rw [hj])
    · right
      simp only [live] at h ⊢
      rw [updM_ne hj] at h
      exact h
  | chld j r c =>
    right
    by_cases hj : j = i
    · subst hj
      obtain ⟨e, n, rows, row, e', n', l, h1, h2, h3⟩ := h
      rw [updM_eq] at h1
      exact absurd rfl (hx e n rows (by simpa using h1) row (List.mem_of_getElem? h2) _ (List.mem_of_getElem? h3) e' n' l)
    · simp only [live] at h ⊢
      rw [updM_ne hj] at h
      exact h

theorem Inv.add (h : Inv S N G m w) (hn : ∀ b, w.heap.size ≤ b → N b) {i : Id} (hi : m i = none) {x : Thing} {o : Obj} {c : Nat}
    (hx : ∀ e n rows, x = .arr e n rows → ∀ row ∈ rows, ∀ y ∈ row, ∀ e' n' l, y ≠ .sl true e' n' l)
    (ha : ∀ e n rows, x = .arr e n rows → OwG (OwC (G.put i w.heap.size c) S (w.alloc o) i) (w.alloc o) w.heap.size e c n rows)
    (hb : ∀ cells, x = .box cells → ∃ cs e, o = .cells cs e (0, 0) ∧ RL (fun x u => R0 G S m w x u ∧ plainB x = true ∧ wf0 m x) cells cs) :
    Inv S N (G.put i w.heap.size c) (updM m i (some x)) (w.alloc o) := by
  have ext := Ext.add (G := G) (w := w) hi x w.heap.size c o
  have h' := h.ext (w' := w.alloc o) (fun b hb => heap_alloc_old w o b hb) (by simp)
  have hput : (G.put i w.heap.size c).blk i = w.heap.size ∧ (G.put i w.heap.size c).cap i = c := by simp [Gh.put]
  have hat : ∀ p, live m p → (G.put i w.heap.size c).at p = G.at p := by
    intro p hp
    cases p with
    | root j =>
      have : j ≠ i := fun e => by subst e; rcases hp with ⟨_, q⟩ | ⟨_, _, _, q⟩ <;> rw [hi] at q <;> cases q
      exact (Gh.put_ne this).1
    | chld j r c => rfl
  refine ⟨fun j e n rows hj => ?_, fun j cells hj => ?_, fun p q hp hq he => ?_, fun p hp => ?_, h'.old⟩
  · by_cases hji : j = i
    · subst hji
      rw [updM_eq] at hj
      rw [hput.1, hput.2]
      exact ha e n rows (by simpa using hj)
    · rw [updM_ne hji] at hj
      obtain ⟨p1, p2⟩ := Gh.put_ne (G := G) (b := w.heap.size) (c := c) hji
      rw [p1, p2]
      exact OwG.mono (h'.arr j e n rows hj) rfl fun r c row x u _ _ ho => OwC.mono ho ⟨rfl, rfl⟩ (fun _ _ => rfl) fun _ _ _ _ => rfl
  · by_cases hji : j = i
    · subst hji
      rw [updM_eq] at hj
      obtain ⟨cs, e, rfl, k2⟩ := hb cells (by simpa using hj)
      refine ⟨cs, e, by rw [hput.1]; simpa using heap_alloc_new w _, k2.mono fun x u _ hx => ⟨R0.ext h.old ext hx.2.2 hx.1, hx.2.1, wf0.ext ext.ne hx.2.2⟩⟩
    · rw [updM_ne hji] at hj
      obtain ⟨p1, p2⟩ := Gh.put_ne (G := G) (b := w.heap.size) (c := c) hji
      obtain ⟨cs, e, k1, k2⟩ := h.box j cells hj
      refine ⟨cs, e, by rw [p1, heap_alloc_old w o _ (Array.getElem?_eq_some_iff.1 k1).1]; exact k1, k2.mono fun x u _ hx => ⟨R0.ext h.old ext hx.2.2 hx.1, hx.2.1, wf0.ext ext.ne hx.2.2⟩⟩
  · rcases live_add hx hp with rfl | hp' <;> rcases live_add hx hq with rfl | hq'
    · rfl
    · rw [hat q hq'] at he
      have h1 := h.lt hq'
      have h2 : (G.put i w.heap.size c).at (.root i) = w.heap.size := hput.1
      omega
    · rw [hat p hp'] at he
      have h1 := h.lt hp'
      have h2 : (G.put i w.heap.size c).at (.root i) = w.heap.size := hput.1
      omega
    · rw [hat p hp', hat q hq'] at he
      exact h.inj p q hp' hq' he
  · rcases live_add hx hp with rfl | hp'
    · simp only [Gh.at, hput.1]
      exact ⟨fun hs => by have := h.old _ hs; omega, hn _ (Nat.le_refl _)⟩
    · rw [hat p hp']
      exact h.sep p hp'

/-- a value and a piece of memory more -/
theorem Does.more (h : SR S N G st a w) {o : Oper} {i : Id} (hi : st.m i = none) {x : Thing} {ob : Obj} {c : Nat} {v : LV} {v' : Value} (hr : (execOp a.eval o).run P w = .ok (.value v') (w.alloc ob))
    (hx : ∀ e n rows, x = .arr e n rows → ∀ row ∈ rows, ∀ y ∈ row, ∀ e' n' l, y ≠ .sl true e' n' l)
    (ha : ∀ e n rows, x = .arr e n rows → OwG (OwC (G.put i w.heap.size c) S (w.alloc ob) i) (w.alloc ob) w.heap.size e c n rows)
    (hb : ∀ cells, x = .box cells → ∃ cs e, ob = .cells cs e (0, 0) ∧ RL (fun x u => R0 G S st.m w x u ∧ plainB x = true ∧ wf0 st.m x) cells cs)
    (hv : R (G.put i w.heap.size c) S (updM st.m i (some x)) (w.alloc ob) v v') (hw : wf (updM st.m i (some x)) v) : Does P o a w (Next S N G st w v (updM st.m i (some x))) :=
  ⟨v', w.alloc ob, hr, G.put i w.heap.size c, Ext.add hi x w.heap.size c ob, h.inv.add h.new hi hx ha hb, hv, hw, rfl, rfl, rfl, by simp, fun b hb _ => heap_alloc_old w ob b hb⟩

theorem do_bx (h : SR S N G st a w) {x : Opd} {x' : Operand} {t : TypeId} {o : Oper} (hx : fO x x' = true) (ho : o.op = .box t x') {vs : List LV} (hu : unpack (opd st.s x) = some vs) (hp : vs.all plainB = true)
    {i : Id} (hi : st.m i = none) : Does P o a w (Next S N G st w (.bp i 0) (updM st.m i (some (.box vs)))) := by
  obtain ⟨r1, r2⟩ := h.opd hx
  obtain ⟨q1, q2⟩ := unpack_R hu r1 r2
  refine Does.more h (c := 0) hi (ob := .cells (a.eval x').cells t) (v' := .pointer (some ⟨w.heap.size, 0, none⟩)) ?_ (fun _ _ _ e => by cases e) (fun _ _ _ e => by cases e) (fun cells e => ?_) ?_ ?_
  · simp [execOp, ho, Instr.box, newVar, newRow]
  · cases e
    exact ⟨_, _, rfl, q1.mono fun y u hy hr => ⟨hr, List.all_eq_true.1 hp y hy, q2 y hy⟩⟩
  · simp [R, R1, R0, updM, Gh.put]
  · simp [wf, wf1, wf0, updM]

theorem do_al (h : SR S N G st a w) {t : TypeId} {z : List LV} {zv : List Value} {o : Oper} (ho : o.op = .alloc t) (hz : zeroT P t = some zv) (hzz : fZ z zv = true)
    {i : Id} (hi : st.m i = none) : Does P o a w (Next S N G st w (.bp i 0) (updM st.m i (some (.box z)))) := by
  obtain ⟨v0, e1, e2⟩ := zeroT_run (P := P) (w := w) hz
  obtain ⟨z1, z2⟩ := fZ_RL (G := G) (S := S) (m := st.m) (w := w) hzz
  refine Does.more h (c := 0) hi (ob := .cells zv.toArray t) (v' := .pointer (some ⟨w.heap.size, 0, none⟩)) ?_ (fun _ _ _ e => by cases e) (fun _ _ _ e => by cases e) (fun cells e => ?_) ?_ ?_
  · simp [execOp, ho, Instr.alloc, newVar, newRow, e1, e2]
  · cases e
    exact ⟨_, _, rfl, z1.mono fun y u hy hr => ⟨hr, (z2 y hy).2, (z2 y hy).1⟩⟩
  · simp [R, R1, R0, updM, Gh.put]
  · simp [wf, wf1, wf0, updM]

/-! ### rows -/
def noOwn : Cell → Bool
  | .sl true _ _ _ => false | _ => true
/-- the cells of rows, one row behind the other -/
def Flat (S : Nat → Prop) (w : World) (n : Nat) (rows : List (List Cell)) (cs : Array Value) : Prop :=
  cs.size = rows.length * n ∧ ∀ (r : Nat) (row : List Cell), rows[r]? = some row → row.length = n ∧ ∀ (k : Nat) (x : Cell), row[k]? = some x → noOwn x = true ∧ ∃ u, cs[r * n + k]? = some u ∧ RdC S w x u

theorem low_get {rows : List (List Cell)} {l : List (List Value)} (h : low rows = some l) : rows = Ev.lift l := by
  unfold low at h
  induction rows generalizing l with
  | nil => simp at h; subst h; rfl
  | cons row rows ih =>
    simp only [List.mapM_cons, Option.pure_def, Option.bind_eq_bind, Option.bind_eq_some_iff, Option.some.injEq] at h
    obtain ⟨r0, h1, l', h2, rfl⟩ := h
    rw [ih h2]
    have : row = r0.map Cell.sc := by
      clear ih h2
      induction row generalizing r0 with
      | nil => simp at h1; subst h1; rfl
      | cons c cs ih2 =>
        simp only [List.mapM_cons, Option.pure_def, Option.bind_eq_bind, Option.bind_eq_some_iff, Option.some.injEq] at h1
        obtain ⟨v, g1, vs, g2, rfl⟩ := h1
        rw [ih2 vs g2]
        cases c <;> simp [lowC] at g1
        subst g1; rfl
    rw [this]; rfl

theorem RdG.unlift {n : Nat} {l : List (List Value)} {v : Value} (h : RdG (RdC S w) S w n (Ev.lift l) v) : RdG ScR S w n l v := by
  obtain ⟨A, c, rfl, hc, h⟩ := h
  rw [lift_length] at hc
  refine ⟨A, c, by rw [lift_length], hc, fun r row hr => ?_⟩
  obtain ⟨k1, a, k2, k3, k4⟩ := h r (row.map Cell.sc) (by simp [Ev.lift, hr])
  refine ⟨by simpa using k1, a, k2, k3, fun k x hx => ?_⟩
  exact k4 k (.sc x) (by simp [hx])

theorem toCell_R {v : LV} {x : Cell} {u : Value} (hx : toCell v = some x) (h : R0 G S m w v u) : noOwn x = true ∧ RdC S w x u := by
  cases v <;> simp only [toCell] at hx <;> try cases hx
  case sc => exact ⟨rfl, h⟩
  case nl => exact ⟨rfl, h⟩
  case ro n rows =>
    cases hl : low rows with
    | none => rw [hl] at hx; cases hx
    | some l =>
      rw [hl] at hx
      cases hx
      have e := low_get hl
      subst e
      exact ⟨rfl, RdG.unlift h⟩

theorem mapM_get {α β : Type} {f : α → Option β} : ∀ {l : List α} {r : List β}, l.mapM f = some r → r.length = l.length ∧ ∀ (k : Nat) (y : β), r[k]? = some y → ∃ x, l[k]? = some x ∧ f x = some y := by
  intro l
  induction l with
  | nil => intro r h; simp at h; subst h; exact ⟨rfl, fun k y hk => by simp at hk⟩
  | cons a as ih =>
    intro r h
    simp only [List.mapM_cons, Option.pure_def, Option.bind_eq_bind, Option.bind_eq_some_iff, Option.some.injEq] at h
    obtain ⟨b, h1, bs, h2, rfl⟩ := h
    obtain ⟨i1, i2⟩ := ih h2
    refine ⟨by simp [i1], fun k y hk => ?_⟩
    cases k with
    | zero => simp at hk; subst hk; exact ⟨a, by simp, h1⟩
    | succ k => simpa using i2 k y (by simpa using hk)

/-- one row filled -/
theorem Flat.set {n : Nat} {rows : List (List Cell)} {cs vc : Array Value} (h : Flat S w n rows cs) {vs : List LV} (hv : RL (R0 G S m w) vs vc) {row : List Cell} (hr : vs.mapM toCell = some row) (hl : row.length = n) {i : Nat} (hi : i < rows.length) :
    vc.size = n ∧ i * n + vc.size ≤ cs.size ∧ Flat S w n (rows.set i row) (vc.zipIdx.foldl (fun cs (c, j) => cs.setIfInBounds (i * n + j) c) cs) := by
  obtain ⟨g1, g2⟩ := mapM_get hr
  have hvc : vc.size = n := by rw [hv.1, ← g1, hl]
  have hle : i * n + n ≤ cs.size := by
    have : (i + 1) * n ≤ rows.length * n := Nat.mul_le_mul_right n hi
    rw [Nat.add_mul, Nat.one_mul] at this
    rw [h.1]; exact this
  have ef : vc.zipIdx.foldl (fun cs (c, j) => cs.setIfInBounds (i * n + j) c) cs = (vc.toList.zipIdx 0).foldl (fun cs (c, j) => cs.setIfInBounds (i * n + j) c) cs := by
    rw [← Array.foldl_toList, Array.toList_zipIdx]
  obtain ⟨f1, f2⟩ := foldl_set cs (i * n) vc.toList 0 (by simp; omega) cs rfl
  rw [ef]
  refine ⟨hvc, by omega, by rw [f1, h.1]; simp, fun r row' hr' => ?_⟩
  rw [List.getElem?_set] at hr'
  split at hr'
  · rename_i e
    subst e
    cases hr'
    refine ⟨hl, fun k x hk => ?_⟩
    have hkn : k < n := by have := (List.getElem?_eq_some_iff.1 hk).1; omega
    obtain ⟨y, y1, y2⟩ := g2 k x hk
    obtain ⟨u, u1, u2⟩ := hv.2 k y y1
    obtain ⟨t1, t2⟩ := toCell_R y2 u2
    refine ⟨t1, u, ?_, t2⟩
    rw [f2, if_pos (by simp; omega)]
    simpa using u1
  · rename_i hne
    obtain ⟨k1, k2⟩ := h.2 r row' hr'
    refine ⟨k1, fun k x hk => ?_⟩
    obtain ⟨t1, u, t2, t3⟩ := k2 k x hk
    refine ⟨t1, u, ?_, t3⟩
    have hkn : k < n := by have := (List.getElem?_eq_some_iff.1 hk).1; omega
    rw [f2, if_neg ?_]
    · exact t2
    · simp only [Nat.add_zero, Array.length_toList, hvc]
      intro ⟨q1, q2⟩
      rcases Nat.lt_or_gt_of_ne hne with hlt | hlt
      · have : (i + 1) * n ≤ r * n := Nat.mul_le_mul_right n hlt
        rw [Nat.add_mul, Nat.one_mul] at this; omega
      · have : (r + 1) * n ≤ i * n := Nat.mul_le_mul_right n hlt
        rw [Nat.add_mul, Nat.one_mul] at this; omega

def fPs : List (Nat × Opd) → List (Nat × Operand) → Bool
  | [], [] => true
  | (i, x) :: l, (i', x') :: l' => (i == i') && fO x x' && fPs l l'
  | _, _ => false

theorem run_fillR (h : SR S N G st a w) {n : Nat} : ∀ {ps : List (Nat × Opd)} {ps' : List (Nat × Operand)} {rows out : List (List Cell)} {cs : Array Value},
    fPs ps ps' = true → fillR st.s n rows ps = some out → Flat S w n rows cs →
    ∃ cs', Instr.fill (fun i => some (i * n, n)) cs (ps'.map fun (i, x) => (i, a.eval x)) = some cs' ∧ Flat S w n out cs' ∧ out.length = rows.length := by
  intro ps
  induction ps with
  | nil =>
    intro ps' rows out cs hf hv hr
    cases ps' with
    | nil => cases hv; exact ⟨cs, rfl, hr, rfl⟩
    | cons _ _ => simp [fPs] at hf
  | cons p ps ih =>
    intro ps' rows out cs hf hv hr
    obtain ⟨i, x⟩ := p
    cases ps' with
    | nil => simp [fPs] at hf
    | cons p' ps' =>
      obtain ⟨i', x'⟩ := p'
      simp only [fPs, Bool.and_eq_true, beq_iff_eq] at hf
      obtain ⟨⟨rfl, f2⟩, f3⟩ := hf
      obtain ⟨r1, r2⟩ := h.opd f2
      simp only [fillR] at hv
      cases hu : unpack (opd st.s x) with
      | none => rw [hu] at hv; cases hv
      | some vs =>
        rw [hu] at hv
        simp only [] at hv
        cases hm : vs.mapM toCell with
        | none => rw [hm] at hv; cases hv
        | some row =>
          rw [hm] at hv
          simp only [] at hv
          split at hv
          · rename_i hc
            obtain ⟨q1, q2⟩ := unpack_R hu r1 r2
            obtain ⟨g0, g1, g2⟩ := hr.set q1 hm hc.1 hc.2
            obtain ⟨cs', k1, k2, k3⟩ := ih f3 hv g2
            refine ⟨cs', ?_, k2, by rw [k3]; simp⟩
            simp only [List.map_cons, Instr.fill]
            rw [if_neg (by simp [g0]; omega)]
            exact k1
          · cases hv

def fZC : List Cell → List Value → Bool
  | [], [] => true
  | .sc u :: xs, v :: vs => vEq u v && fZC xs vs
  | .nl :: xs, v :: vs => (match v with | .slice none 0 0 => true | _ => false) && fZC xs vs
  | _, _ => false
theorem fZC_get : ∀ {z : List Cell} {zv : List Value}, fZC z zv = true → zv.length = z.length ∧ ∀ (k : Nat) (x : Cell), z[k]? = some x → noOwn x = true ∧ ∃ u, zv[k]? = some u ∧ RdC S w x u := by
  intro z
  induction z with
  | nil => intro zv h; cases zv with
    | nil => exact ⟨rfl, fun k x hk => by simp at hk⟩
    | cons _ _ => simp [fZC] at h
  | cons x xs ih => intro zv h; cases zv with
    | nil => cases x <;> simp [fZC] at h
    | cons v vs =>
      have key : fZC xs vs = true ∧ noOwn x = true ∧ RdC S w x v := by
        cases x <;> simp only [fZC, Bool.and_eq_true] at h
        case sc u => exact ⟨h.2, rfl, vEq_eq h.1⟩
        case nl =>
          refine ⟨h.2, rfl, ?_⟩
          have := h.1
          split at this
          · rfl
          · cases this
        all_goals cases h
      obtain ⟨i1, i2⟩ := ih key.1
      refine ⟨by simp [i1], fun k y hk => ?_⟩
      cases k with
      | zero => simp at hk; subst hk; exact ⟨key.2.1, v, by simp, key.2.2⟩
      | succ k => simpa using i2 k y (by simpa using hk)

theorem Flat.zero {z : List Cell} {zv : List Value} (h : fZC z zv = true) (len : Nat) :
    Flat S w z.length (List.replicate len z) ((Array.range (len * z.length)).map (zv.toArray[· % zv.toArray.size]!)) := by
  obtain ⟨g1, g2⟩ := fZC_get (S := S) (w := w) h
  refine ⟨by simp, fun r row hr => ?_⟩
  rw [List.getElem?_replicate] at hr
  split at hr
  · rename_i hlt
    cases hr
    refine ⟨rfl, fun k x hk => ?_⟩
    obtain ⟨t1, u, t2, t3⟩ := g2 k x hk
    have hkn : k < z.length := (List.getElem?_eq_some_iff.1 hk).1
    refine ⟨t1, u, ?_, t3⟩
    have hb : r * z.length + k < len * z.length := by
      have : (r + 1) * z.length ≤ len * z.length := Nat.mul_le_mul_right _ hlt
      rw [Nat.add_mul, Nat.one_mul] at this; omega
    have hmod : (r * z.length + k) % z.length = k := by
      rw [Nat.mul_comm, Nat.mul_add_mod, Nat.mod_eq_of_lt hkn]
    rw [Array.getElem?_map, Array.getElem?_range, if_pos hb]
    simp only [Option.map_some, List.size_toArray, g1, hmod, Option.some.injEq]
    obtain ⟨hz, hzz⟩ := List.getElem?_eq_some_iff.1 t2
    simp [hz, hzz]
  · cases hr

theorem Flat.own {n : Nat} {rows : List (List Cell)} {cs : Array Value} (h : Flat S w n rows cs) {G : Gh} {i : Id} {e b : Nat} {w' : World} (hb : w'.heap[b]? = some (.cells cs e (0, 0))) (hS : ∀ b, S b → w'.heap[b]? = w.heap[b]?) (hm : rows.length ≤ maxLen) :
    OwG (OwC G S w' i) w' b e rows.length n rows := by
  refine ⟨cs, hb, h.1, Nat.le_refl _, hm, fun r row hr => ?_⟩
  obtain ⟨k1, k2⟩ := h.2 r row hr
  refine ⟨k1, fun k x hk => ?_⟩
  obtain ⟨t1, u, t2, t3⟩ := k2 k x hk
  refine ⟨u, t2, ?_⟩
  cases x with
  | un => trivial
  | sc v => exact t3
  | nl => exact t3
  | sl o e' n' l =>
    cases o with
    | true => cases t1
    | false => exact RdG.mono t3 (fun _ _ h => h) (fun _ h => h) hS
theorem Flat.noOwn {n : Nat} {rows : List (List Cell)} {cs : Array Value} (h : Flat S w n rows cs) : ∀ row ∈ rows, ∀ y ∈ row, ∀ e' n' l, y ≠ .sl true e' n' l := by
  intro row hr y hy e' n' l e
  obtain ⟨r, hr⟩ := List.getElem?_of_mem hr
  obtain ⟨k, hk⟩ := List.getElem?_of_mem hy
  have := ((h.2 r row hr).2 k y hk).1
  subst e
  cases this

theorem Does.rows (h : SR S N G st a w) {o : Oper} {i : Id} (hi : st.m i = none) {e n : Nat} {rows : List (List Cell)} {cs : Array Value} (hf : Flat S w n rows cs) (hm : rows.length ≤ maxLen)
    (hr : (execOp a.eval o).run P w = .ok (.value (.slice (some ⟨w.heap.size, 0, none⟩) rows.length rows.length)) (w.alloc (.cells cs e))) :
    Does P o a w (Next S N G st w (.rf i none 0 rows.length) (updM st.m i (some (.arr e n rows)))) := by
  have hS : ∀ b, S b → (w.alloc (.cells cs e)).heap[b]? = w.heap[b]? := fun b hb => heap_alloc_old w _ b (h.inv.old b hb)
  refine Does.more h (c := rows.length) hi hr (fun e' n' rows' q => by cases q; exact hf.noOwn) (fun e' n' rows' q => ?_) (fun _ q => by cases q) ?_ ?_
  · cases q
    exact hf.own (heap_alloc_new w _) hS hm
  · simp only [R, R1, R0, look, updM_eq]
    exact ⟨_, _, rfl, Nat.le_refl _, by simp [Gh.capOf, Gh.put], fun _ => by simp [Gh.blkOf, Gh.put]⟩
  · simp [wf, wf1, wf0, updM]

theorem do_bs (h : SR S N G st a w) {t el : TypeId} {n len : Nat} {z : List Cell} {zv : List Value} {ps : List (Nat × Opd)} {ps' : Array (Nat × Operand)} {o : Oper} (ho : o.op = .buildSlice t len ps')
    (ht : P.underlying t = some (.slice el)) (hs : sizeT P el = some n) (hz : zeroT P el = some zv) (hzz : fZC z zv = true) (hn : z.length = n) (hf : fPs ps ps'.toList = true) (hl : len * n ≤ 16777216) (hn0 : 0 < n)
    {out : List (List Cell)} (hv : fillR st.s n (List.replicate len z) ps = some out) {i : Id} (hi : st.m i = none) :
    Does P o a w (Next S N G st w (.rf i none 0 len) (updM st.m i (some (.arr el n out)))) := by
  obtain ⟨v0, e1, e2⟩ := zeroT_run (P := P) (w := w) hz
  subst hn
  have hlen : len ≤ 16777216 := Nat.le_trans (Nat.le_mul_of_pos_right len hn0) hl
  obtain ⟨cs', k1, k2, k3⟩ := run_fillR h hf hv (Flat.zero hzz len)
  have k1' : Instr.fill (fun i => some (i * z.length, z.length)) ((Array.range (len * z.length)).map (zv.toArray[· % zv.toArray.size]!)) (ps'.toList.map fun x => (x.1, a.eval x.2)) = some cs' := by simpa using k1
  have ol : out.length = len := by rw [k3]; simp
  have res := Does.rows (P := P) (o := o) h hi (e := el) k2 (by rw [ol]; simp only [maxLen]; omega)
  rw [ol] at res
  refine res ?_
  simp only [execOp, ho, Instr.buildSlice, Sem.run_bind, run_underlying ht, Result.andThen_ok, sizeT_run hs]
  rw [if_neg (by omega)]
  have k2' : Instr.fill (fun i => some (i * z.length, z.length)) ((Array.range (len * z.length)).map (fun x => zv.toArray[x % zv.toArray.size]!)) (ps'.map fun x => (x.1, a.eval x.2)).toList = some cs' := by
    rw [Array.toList_map]; exact k1'
  by_cases h0 : len * z.length = 0
  · rw [if_pos h0]
    have e0 : ∀ f g : Nat → Value, (Array.range (len * z.length)).map f = (Array.range (len * z.length)).map g := fun f g => Array.ext (by simp) (fun i h1 _ => by simp [h0] at h1)
    simp only [Sem.run_bind, Sem.run_pure, Result.andThen_ok]
    rw [e0 (fun x => (#[] : Array Value)[x % (#[] : Array Value).size]!) (fun x => zv.toArray[x % zv.toArray.size]!), k2']
    simp [newRow]
  · rw [if_neg h0]
    simp only [Sem.run_bind, Sem.run_pure, Result.andThen_ok, e1, e2]
    rw [k2']
    simp [newRow]
end
end Go.Proofs.Ytjdcohcdgdjobaa.Ev
