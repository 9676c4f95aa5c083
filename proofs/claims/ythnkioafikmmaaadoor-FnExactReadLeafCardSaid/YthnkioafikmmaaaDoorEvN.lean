/- New memory of the call's own. -/
import Derived.Test.YthnkioafikmmaaaDoorEvI
namespace Go.Proofs.YthnkioafikmmaaaDoor.Ev
open Go
set_option linter.unusedVariables false
set_option linter.unusedSimpArgs false

def Gh.put (G : Gh) (i : Id) (b c : Nat) : Gh := { G with blk := fun j => if j = i then b else G.blk j, cap := fun j => if j = i then c else G.cap j }

section
variable {P : Program} {ov : Ov} {S N : Nat → Prop} {G : Gh} {m : Mem} {st : St} {a : Act} {w : World}

theorem updM_ne {i j : Id} {x : Option Thing} (h : j ≠ i) : updM m i x j = m j := by simp [updM, h]
theorem updM_eq {i : Id} {x : Option Thing} : updM m i x i = x := by simp [updM]
theorem Gh.put_ne {i j : Id} {b c : Nat} (h : j ≠ i) : (G.put i b c).blk j = G.blk j ∧ (G.put i b c).cap j = G.cap j := by simp [Gh.put, h]

theorem Ext.add {i : Id} (hi : m i = none) (x : Thing) (b c : Nat) (o : Obj) : Ext G m w (G.put i b c) (updM m i (some x)) (w.alloc o) := by
  refine ⟨fun j hj => updM_ne (fun (e : j = i) => hj (by rw [e]; exact hi)), fun j hj => ?_, fun b hb => heap_alloc_old w o b hb, by simp⟩
  obtain ⟨h1, h2⟩ := Gh.put_ne (G := G) (i := i) (b := b) (c := c) (fun (e : j = i) => hj (by rw [e]; exact hi))
  exact ⟨h1, h2, rfl, rfl⟩

/-- what lives when a thing without own elements is added -/
theorem live_add {i : Id} {x : Thing} (hx : ∀ e n rows, x = .arr e n rows → ∀ row ∈ rows, ∀ y ∈ row, ∀ e' n' l, y ≠ .sl true e' n' l) {p : Res} (h : live (updM m i (some x)) p) : p = .root i ∨ live m p := by
  cases p with
  | root j =>
    by_cases hj : j = i
    · exact .inl (by rw [hj])
    · right
      simp only [live] at h ⊢
      rw [updM_ne hj] at h
      exact h
  | chld j r c =>
    right
    by_cases hj : j = i
    · subst hj
      obtain ⟨e, n, rows, row, e', n', l, h1, h2, h3⟩ := h
      rw [updM_eq] at h1
      exact absurd rfl (hx e n rows (by simpa using h1) row (List.mem_of_getElem? h2) _ (List.mem_of_getElem? h3) e' n' l)
    · simp only [live] at h ⊢
      rw [updM_ne hj] at h
      exact h

theorem Inv.add (h : Inv S N G m w) (hn : ∀ b, w.heap.size ≤ b → N b) {i : Id} (hi : m i = none) {x : Thing} {o : Obj} {c : Nat}
    (hx : ∀ e n rows, x = .arr e n rows → ∀ row ∈ rows, ∀ y ∈ row, ∀ e' n' l, y ≠ .sl true e' n' l)
    (ha : ∀ e n rows, x = .arr e n rows → OwG (OwC (G.put i w.heap.size c) S (w.alloc o) i) (w.alloc o) w.heap.size e c n rows)
    (hb : ∀ cells, x = .box cells → ∃ cs e, o = .cells cs e (0, 0) ∧ RL (fun x u => R0 G S m w x u ∧ plainB x = true ∧ wf0 m x) cells cs) :
    Inv S N (G.put i w.heap.size c) (updM m i (some x)) (w.alloc o) := by
  have ext := Ext.add (G := G) (w := w) hi x w.heap.size c o
  have h' := h.ext (w' := w.alloc o) (fun b hb => heap_alloc_old w o b hb) (by simp)
  have hput : (G.put i w.heap.size c).blk i = w.heap.size ∧ (G.put i w.heap.size c).cap i = c := by simp [Gh.put]
  have hat : ∀ p, live m p → (G.put i w.heap.size c).at p = G.at p := by
    intro p hp
    cases p with
    | root j =>
      have : j ≠ i := fun e => by subst e; rcases hp with ⟨_, q⟩ | ⟨_, _, _, q⟩ <;> rw [hi] at q <;> cases q
      exact (Gh.put_ne this).1
    | chld j r c => rfl
  refine ⟨fun j e n rows hj => ?_, fun j cells hj => ?_, fun p q hp hq he => ?_, fun p hp => ?_, h'.old⟩
  · by_cases hji : j = i
    · subst hji
      rw [updM_eq] at hj
      rw [hput.1, hput.2]
      exact ha e n rows (by simpa using hj)
    · rw [updM_ne hji] at hj
      obtain ⟨p1, p2⟩ := Gh.put_ne (G := G) (b := w.heap.size) (c := c) hji
      rw [p1, p2]
      exact OwG.mono (h'.arr j e n rows hj) rfl fun r c row x u _ _ ho => OwC.mono ho ⟨rfl, rfl⟩ (fun _ _ => rfl) fun _ _ _ _ => rfl
  · by_cases hji : j = i
    · subst hji
      rw [updM_eq] at hj
      obtain ⟨cs, e, rfl, k2⟩ := hb cells (by simpa using hj)
      refine ⟨cs, e, by rw [hput.1]; simpa using heap_alloc_new w _, k2.mono fun x u _ hx => ⟨R0.ext h.old ext hx.2.2 hx.1, hx.2.1, wf0.ext ext.ne hx.2.2⟩⟩
    · rw [updM_ne hji] at hj
      obtain ⟨p1, p2⟩ := Gh.put_ne (G := G) (b := w.heap.size) (c := c) hji
      obtain ⟨cs, e, k1, k2⟩ := h.box j cells hj
      refine ⟨cs, e, by rw [p1, heap_alloc_old w o _ (Array.getElem?_eq_some_iff.1 k1).1]; exact k1, k2.mono fun x u _ hx => ⟨R0.ext h.old ext hx.2.2 hx.1, hx.2.1, wf0.ext ext.ne hx.2.2⟩⟩
  · rcases live_add hx hp with rfl | hp' <;> rcases live_add hx hq with rfl | hq'
    · rfl
    · rw [hat q hq'] at he
      have h1 := h.lt hq'
      have h2 : (G.put i w.heap.size c).at (.root i) = w.heap.size := hput.1
      omega
    · rw [hat p hp'] at he
      have h1 := h.lt hp'
      have h2 : (G.put i w.heap.size c).at (.root i) = w.heap.size := hput.1
      omega
    · rw [hat p hp', hat q hq'] at he
      exact h.inj p q hp' hq' he
  · rcases live_add hx hp with rfl | hp'
    · simp only [Gh.at, hput.1]
      exact ⟨fun hs => by have := h.old _ hs; omega, hn _ (Nat.le_refl _)⟩
    · rw [hat p hp']
      exact h.sep p hp'

/-- a value and a piece of memory more -/
theorem Does.more (h : SR ov S N G st a w) {o : Oper} {i : Id} (hi : st.m i = none) {x : Thing} {ob : Obj} {c : Nat} {v : LV} {v' : Value} (hr : (execOp a.eval o).run P w = .ok (.value v') (w.alloc ob))
    (hx : ∀ e n rows, x = .arr e n rows → ∀ row ∈ rows, ∀ y ∈ row, ∀ e' n' l, y ≠ .sl true e' n' l)
    (ha : ∀ e n rows, x = .arr e n rows → OwG (OwC (G.put i w.heap.size c) S (w.alloc ob) i) (w.alloc ob) w.heap.size e c n rows)
    (hb : ∀ cells, x = .box cells → ∃ cs e, ob = .cells cs e (0, 0) ∧ RL (fun x u => R0 G S st.m w x u ∧ plainB x = true ∧ wf0 st.m x) cells cs)
    (hv : R (G.put i w.heap.size c) S (updM st.m i (some x)) (w.alloc ob) v v') (hw : wf (updM st.m i (some x)) v) : Does P o a w (Next S N G st w v (updM st.m i (some x))) :=
  ⟨v', w.alloc ob, hr, G.put i w.heap.size c, Ext.add hi x w.heap.size c ob, h.inv.add h.new hi hx ha hb, hv, hw, rfl, rfl, rfl, by simp, fun b hb _ => heap_alloc_old w ob b hb⟩

theorem do_bx (h : SR ov S N G st a w) {x : Opd} {x' : Operand} {t : TypeId} {o : Oper} (hx : fO x x' = true) (ho : o.op = .box t x') {vs : List LV} (hu : unpack (opd st.s x) = some vs) (hp : vs.all plainB = true)
    {i : Id} (hi : st.m i = none) : Does P o a w (Next S N G st w (.bp i 0) (updM st.m i (some (.box vs)))) := by
  obtain ⟨r1, r2⟩ := h.opd hx
  obtain ⟨q1, q2⟩ := unpack_R hu r1 r2
  refine Does.more h (c := 0) hi (ob := .cells (a.eval x').cells t) (v' := .pointer (some ⟨w.heap.size, 0, none⟩)) ?_ (fun _ _ _ e => by cases e) (fun _ _ _ e => by cases e) (fun cells e => ?_) ?_ ?_
  · simp [execOp, ho, Instr.box, newVar, newRow]
  · cases e
    exact ⟨_, _, rfl, q1.mono fun y u hy hr => ⟨hr, List.all_eq_true.1 hp y hy, q2 y hy⟩⟩
  · simp [R, R1, R0, updM, Gh.put]
  · simp [wf, wf1, wf0, updM]

theorem do_al (h : SR ov S N G st a w) {t : TypeId} {z : List LV} {zv : List Value} {o : Oper} (ho : o.op = .alloc t) (hz : zeroT P t = some zv) (hzz : fZ z zv = true)
    {i : Id} (hi : st.m i = none) : Does P o a w (Next S N G st w (.bp i 0) (updM st.m i (some (.box z)))) := by
  obtain ⟨v0, e1, e2⟩ := zeroT_run (P := P) (w := w) hz
  obtain ⟨z1, z2⟩ := fZ_RL (G := G) (S := S) (m := st.m) (w := w) hzz
  refine Does.more h (c := 0) hi (ob := .cells zv.toArray t) (v' := .pointer (some ⟨w.heap.size, 0, none⟩)) ?_ (fun _ _ _ e => by cases e) (fun _ _ _ e => by cases e) (fun cells e => ?_) ?_ ?_
  · simp [execOp, ho, Instr.alloc, newVar, newRow, e1, e2]
  · cases e
    exact ⟨_, _, rfl, z1.mono fun y u hy hr => ⟨hr, (z2 y hy).2, (z2 y hy).1⟩⟩
  · simp [R, R1, R0, updM, Gh.put]
  · simp [wf, wf1, wf0, updM]

/-! ### rows -/
def noOwn : Cell → Bool
  | .sl true _ _ _ => false | _ => true
/-- the cells of rows, one row behind the other -/
def Flat (S : Nat → Prop) (w : World) (n : Nat) (rows : List (List Cell)) (cs : Array Value) : Prop :=
  cs.size = rows.length * n ∧ ∀ (r : Nat) (row : List Cell), rows[r]? = some row → row.length = n ∧ ∀ (k : Nat) (x : Cell), row[k]? = some x → noOwn x = true ∧ ∃ u, cs[r * n + k]? = some u ∧ RdC S w x u

theorem low_get {rows : List (List Cell)} {l : List (List Value)} (h : low rows = some l) : rows = Ev.lift l := by
  unfold low at h
  induction rows generalizing l with
  | nil => simp at h; subst h; rfl
  | cons row rows ih =>
    simp only [List.mapM_cons, Option.pure_def, Option.bind_eq_bind, Option.bind_eq_some_iff, Option.some.injEq] at h
    obtain ⟨r0, h1, l', h2, rfl⟩ := h
    rw [ih h2]
    have : row = r0.map Cell.sc := by
      clear ih h2
      induction row generalizing r0 with
      | nil => simp at h1; subst h1; rfl
      | cons c cs ih2 =>
        simp only [List.mapM_cons, Option.pure_def, Option.bind_eq_bind, Option.bind_eq_some_iff, Option.some.injEq] at h1
        obtain ⟨v, g1, vs, g2, rfl⟩ := h1
        rw [ih2 vs g2]
        cases c <;> simp [lowC] at g1
        subst g1; rfl
    rw [this]; rfl

theorem RdG.unlift {n : Nat} {l : List (List Value)} {v : Value} (h : RdG (RdC S w) S w n (Ev.lift l) v) : RdG ScR S w n l v := by
  obtain ⟨A, c, rfl, hc, h⟩ := h
  rw [lift_length] at hc
  refine ⟨A, c, by rw [lift_length], hc, fun r row hr => ?_⟩
  obtain ⟨k1, a, k2, k3, k4⟩ := h r (row.map Cell.sc) (by simp [Ev.lift, hr])
  refine ⟨by simpa using k1, a, k2, k3, fun k x hx => ?_⟩
  exact k4 k (.sc x) (by simp [hx])

theorem toCell_R {v : LV} {x : Cell} {u : Value} (hx : toCell v = some x) (h : R0 G S m w v u) : noOwn x = true ∧ RdC S w x u := by
  cases v <;> simp only [toCell] at hx <;> try cases hx
  case sc => exact ⟨rfl, h⟩
  case nl => exact ⟨rfl, h⟩
  case ro n rows =>
    cases hl : low rows with
    | none => rw [hl] at hx; cases hx
    | some l =>
      rw [hl] at hx
      cases hx
      have e := low_get hl
      subst e
      exact ⟨rfl, RdG.unlift h⟩

theorem mapM_get {α β : Type} {f : α → Option β} : ∀ {l : List α} {r : List β}, l.mapM f = some r → r.length = l.length ∧ ∀ (k : Nat) (y : β), r[k]? = some y → ∃ x, l[k]? = some x ∧ f x = some y := by
  intro l
  induction l with
  | nil => intro r h; simp at h; subst h; exact ⟨rfl, fun k y hk => by simp at hk⟩
  | cons a as ih =>
    intro r h
    simp only [List.mapM_cons, Option.pure_def, Option.bind_eq_bind, Option.bind_eq_some_iff, Option.some.injEq] at h
    obtain ⟨b, h1, bs, h2, rfl⟩ := h
    obtain ⟨i1, i2⟩ := ih h2
    refine ⟨by simp [i1], fun k y hk => ?_⟩
    cases k with
    | zero => simp at hk; subst hk; exact ⟨a, by simp, h1⟩
    | succ k => simpa using i2 k y (by simpa using hk)

/-- one row filled -/
theorem Flat.set {n : Nat} {rows : List (List Cell)} {cs vc : Array Value} (h : Flat S w n rows cs) {vs : List LV} (hv : RL (R0 G S m w) vs vc) {row : List Cell} (hr : vs.mapM toCell = some row) (hl : row.length = n) {i : Nat} (hi : i < rows.length) :
    vc.size = n ∧ i * n + vc.size ≤ cs.size ∧ Flat S w n (rows.set i row) (vc.zipIdx.foldl (fun cs (c, j) => cs.setIfInBounds (i * n + j) c) cs) := by
  obtain ⟨g1, g2⟩ := mapM_get hr
  have hvc : vc.size = n := by rw [hv.1, ← g1, hl]
  have hle : i * n + n ≤ cs.size := by
    have : (i + 1) * n ≤ rows.length * n := Nat.mul_le_mul_right n hi
    rw [Nat.add_mul, Nat.one_mul] at this
    rw [h.1]; exact this
  have ef : vc.zipIdx.foldl (fun cs (c, j) => cs.setIfInBounds (i * n + j) c) cs = (vc.toList.zipIdx 0).foldl (fun cs (c, j) => cs.setIfInBounds (i * n + j) c) cs := by
    rw [← Array.foldl_toList, Array.toList_zipIdx]
  obtain ⟨f1, f2⟩ := foldl_set cs (i * n) vc.toList 0 (by simp; omega) cs rfl
  rw [ef]
  refine ⟨hvc, by omega, by rw [f1, h.1]; simp, fun r row' hr' => ?_⟩
  rw [List.getElem?_set] at hr'
  split at hr'
  · rename_i e
    subst e
    cases hr'
    refine ⟨hl, fun k x hk => ?_⟩
    have hkn : k < n := by have := (List.getElem?_eq_some_iff.1 hk).1; omega
    obtain ⟨y, y1, y2⟩ := g2 k x hk
    obtain ⟨u, u1, u2⟩ := hv.2 k y y1
    obtain ⟨t1, t2⟩ := toCell_R y2 u2
    refine ⟨t1, u, ?_, t2⟩
    rw [f2, if_pos (by simp; omega)]
    simpa using u1
  · rename_i hne
    obtain ⟨k1, k2⟩ := h.2 r row' hr'
    refine ⟨k1, fun k x hk => ?_⟩
    obtain ⟨t1, u, t2, t3⟩ := k2 k x hk
    refine ⟨t1, u, ?_, t3⟩
    have hkn : k < n := by have := (List.getElem?_eq_some_iff.1 hk).1; omega
    rw [f2, if_neg ?_]
    · exact t2
    · simp only [Nat.add_zero, Array.length_toList, hvc]
      intro ⟨q1, q2⟩
      rcases Nat.lt_or_gt_of_ne hne with hlt | hlt
      · have : (i + 1) * n ≤ r * n := Nat.mul_le_mul_right n hlt
        rw [Nat.add_mul, Nat.one_mul] at this; omega
      · have : (r + 1) * n ≤ i * n := Nat.mul_le_mul_right n hlt
        rw [Nat.add_mul, Nat.one_mul] at this; omega

def fPs : List (Nat × Opd) → List (Nat × Operand) → Bool
  | [], [] => true
  | (i, x) :: l, (i', x') :: l' => (i == i') && fO x x' && fPs l l'
  | _, _ => false

theorem run_fillR (h : SR ov S N G st a w) {n : Nat} : ∀ {ps : List (Nat × Opd)} {ps' : List (Nat × Operand)} {rows out : List (List Cell)} {cs : Array Value},
    fPs ps ps' = true → fillR st.s n rows ps = some out → Flat S w n rows cs →
    ∃ cs', Instr.fill (fun i => some (i * n, n)) cs (ps'.map fun (i, x) => (i, a.eval x)) = some cs' ∧ Flat S w n out cs' ∧ out.length = rows.length := by
  intro ps
  induction ps with
  | nil =>
    intro ps' rows out cs hf hv hr
    cases ps' with
    | nil => cases hv; exact ⟨cs, rfl, hr, rfl⟩
    | cons _ _ => simp [fPs] at hf
  | cons p ps ih =>
    intro ps' rows out cs hf hv hr
    obtain ⟨i, x⟩ := p
    cases ps' with
    | nil => simp [fPs] at hf
    | cons p' ps' =>
      obtain ⟨i', x'⟩ := p'
      simp only [fPs, Bool.and_eq_true, beq_iff_eq] at hf
      obtain ⟨⟨rfl, f2⟩, f3⟩ := hf
      obtain ⟨r1, r2⟩ := h.opd f2
      simp only [fillR] at hv
      cases hu : unpack (opd st.s x) with
      | none => rw [hu] at hv; cases hv
      | some vs =>
        rw [hu] at hv
        simp only [] at hv
        cases hm : vs.mapM toCell with
        | none => rw [hm] at hv; cases hv
        | some row =>
          rw [hm] at hv
          simp only [] at hv
          split at hv
          · rename_i hc
            obtain ⟨q1, q2⟩ := unpack_R hu r1 r2
            obtain ⟨g0, g1, g2⟩ := hr.set q1 hm hc.1 hc.2
            obtain ⟨cs', k1, k2, k3⟩ := ih f3 hv g2
            refine ⟨cs', ?_, k2, by rw [k3]; simp⟩
            simp only [List.map_cons, Instr.fill]
            rw [if_neg (by simp [g0]; omega)]
            exact k1
          · cases hv

def fZC : List Cell → List Value → Bool
  | [], [] => true
  | .sc u :: xs, v :: vs => vEq u v && fZC xs vs
  | .nl :: xs, v :: vs => (match v with | .slice none 0 0 => true | _ => false) && fZC xs vs
  | _, _ => false
theorem fZC_get : ∀ {z : List Cell} {zv : List Value}, fZC z zv = true → zv.length = z.length ∧ ∀ (k : Nat) (x : Cell), z[k]? = some x → noOwn x = true ∧ ∃ u, zv[k]? = some u ∧ RdC S w x u := by
  intro z
  induction z with
  | nil => intro zv h; cases zv with
    | nil => exact ⟨rfl, fun k x hk => by simp at hk⟩
    | cons _ _ => simp [fZC] at h
  | cons x xs ih => intro zv h; cases zv with
    | nil => cases x <;> simp [fZC] at h
    | cons v vs =>
      have key : fZC xs vs = true ∧ noOwn x = true ∧ RdC S w x v := by
        cases x <;> simp only [fZC, Bool.and_eq_true] at h
        case sc u => exact ⟨h.2, rfl, vEq_eq h.1⟩
        case nl =>
          refine ⟨h.2, rfl, ?_⟩
          have := h.1
          split at this
          · rfl
          · cases this
        all_goals cases h
      obtain ⟨i1, i2⟩ := ih key.1
      refine ⟨by simp [i1], fun k y hk => ?_⟩
      cases k with
      | zero => simp at hk; subst hk; exact ⟨key.2.1, v, by simp, key.2.2⟩
      | succ k => simpa using i2 k y (by simpa using hk)

theorem Flat.zero {z : List Cell} {zv : List Value} (h : fZC z zv = true) (len : Nat) :
    Flat S w z.length (List.replicate len z) ((Array.range (len * z.length)).map (zv.toArray[· % zv.toArray.size]!)) := by
  obtain ⟨g1, g2⟩ := fZC_get (S := S) (w := w) h
  refine ⟨by simp, fun r row hr => ?_⟩
  rw [List.getElem?_replicate] at hr
  split at hr
  · rename_i hlt
    cases hr
    refine ⟨rfl, fun k x hk => ?_⟩
    obtain ⟨t1, u, t2, t3⟩ := g2 k x hk
    have hkn : k < z.length := (List.getElem?_eq_some_iff.1 hk).1
    refine ⟨t1, u, ?_, t3⟩
    have hb : r * z.length + k < len * z.length := by
      have : (r + 1) * z.length ≤ len * z.length := Nat.mul_le_mul_right _ hlt
      rw [Nat.add_mul, Nat.one_mul] at this; omega
    have hmod : (r * z.length + k) % z.length = k := by
      rw [Nat.mul_comm, Nat.mul_add_mod, Nat.mod_eq_of_lt hkn]
    rw [Array.getElem?_map, Array.getElem?_range, if_pos hb]
    simp only [Option.map_some, List.size_toArray, g1, hmod, Option.some.injEq]
    obtain ⟨hz, hzz⟩ := List.getElem?_eq_some_iff.1 t2
    simp [hz, hzz]
  · cases hr

theorem Flat.own {n : Nat} {rows : List (List Cell)} {cs : Array Value} (h : Flat S w n rows cs) {G : Gh} {i : Id} {e b : Nat} {w' : World} (hb : w'.heap[b]? = some (.cells cs e (0, 0))) (hS : ∀ b, S b → w'.heap[b]? = w.heap[b]?) (hm : rows.length ≤ maxLen) :
    OwG (OwC G S w' i) w' b e rows.length n rows := by
  refine ⟨cs, hb, h.1, Nat.le_refl _, hm, fun r row hr => ?_⟩
  obtain ⟨k1, k2⟩ := h.2 r row hr
  refine ⟨k1, fun k x hk => ?_⟩
  obtain ⟨t1, u, t2, t3⟩ := k2 k x hk
  refine ⟨u, t2, ?_⟩
  cases x with
  | un => trivial
  | sc v => exact t3
  | nl => exact t3
  | sl o e' n' l =>
    cases o with
    | true => cases t1
    | false => exact RdG.mono t3 (fun _ _ h => h) (fun _ h => h) hS
theorem Flat.noOwn {n : Nat} {rows : List (List Cell)} {cs : Array Value} (h : Flat S w n rows cs) : ∀ row ∈ rows, ∀ y ∈ row, ∀ e' n' l, y ≠ .sl true e' n' l := by
  intro row hr y hy e' n' l e
  obtain ⟨r, hr⟩ := List.getElem?_of_mem hr
  obtain ⟨k, hk⟩ := List.getElem?_of_mem hy
  have := ((h.2 r row hr).2 k y hk).1
  subst e
  cases this

theorem Does.rows (h : SR ov S N G st a w) {o : Oper} {i : Id} (hi : st.m i = none) {e n : Nat} {rows : List (List Cell)} {cs : Array Value} (hf : Flat S w n rows cs) (hm : rows.length ≤ maxLen)
    (hr : (execOp a.eval o).run P w = .ok (.value (.slice (some ⟨w.heap.size, 0, none⟩) rows.length rows.length)) (w.alloc (.cells cs e))) :
    Does P o a w (Next S N G st w (.rf i none 0 rows.length) (updM st.m i (some (.arr e n rows)))) := by
  have hS : ∀ b, S b → (w.alloc (.cells cs e)).heap[b]? = w.heap[b]? := fun b hb => heap_alloc_old w _ b (h.inv.old b hb)
  refine Does.more h (c := rows.length) hi hr (fun e' n' rows' q => by cases q; exact hf.noOwn) (fun e' n' rows' q => ?_) (fun _ q => by cases q) ?_ ?_
  · cases q
    exact hf.own (heap_alloc_new w _) hS hm
  · simp only [R, R1, R0, look, updM_eq]
    exact ⟨_, _, rfl, Nat.le_refl _, by simp [Gh.capOf, Gh.put], fun _ => by simp [Gh.blkOf, Gh.put]⟩
  · simp [wf, wf1, wf0, updM]

theorem do_bs (h : SR ov S N G st a w) {t el : TypeId} {n len : Nat} {z : List Cell} {zv : List Value} {ps : List (Nat × Opd)} {ps' : Array (Nat × Operand)} {o : Oper} (ho : o.op = .buildSlice t len ps')
    (ht : P.underlying t = some (.slice el)) (hs : sizeT P el = some n) (hz : zeroT P el = some zv) (hzz : fZC z zv = true) (hn : z.length = n) (hf : fPs ps ps'.toList = true) (hl : len * n ≤ 16777216) (hn0 : 0 < n)
    {out : List (List Cell)} (hv : fillR st.s n (List.replicate len z) ps = some out) {i : Id} (hi : st.m i = none) :
    Does P o a w (Next S N G st w (.rf i none 0 len) (updM st.m i (some (.arr el n out)))) := by
  obtain ⟨v0, e1, e2⟩ := zeroT_run (P := P) (w := w) hz
  subst hn
  have hlen : len ≤ 16777216 := Nat.le_trans (Nat.le_mul_of_pos_right len hn0) hl
  obtain ⟨cs', k1, k2, k3⟩ := run_fillR h hf hv (Flat.zero hzz len)
  have k1' : Instr.fill (fun i => some (i * z.length, z.length)) ((Array.range (len * z.length)).map (zv.toArray[· % zv.toArray.size]!)) (ps'.toList.map fun x => (x.1, a.eval x.2)) = some cs' := by simpa using k1
  have ol : out.length = len := by rw [k3]; simp
  have res := Does.rows (P := P) (o := o) h hi (e := el) k2 (by rw [ol]; simp only [maxLen]; omega)
  rw [ol] at res
  refine res ?_
  simp only [execOp, ho, Instr.buildSlice, Sem.run_bind, run_underlying ht, Result.andThen_ok, sizeT_run hs]
  rw [if_neg (by omega)]
  have k2' : Instr.fill (fun i => some (i * z.length, z.length)) ((Array.range (len * z.length)).map (fun x => zv.toArray[x % zv.toArray.size]!)) (ps'.map fun x => (x.1, a.eval x.2)).toList = some cs' := by
    rw [Array.toList_map]; exact k1'
  by_cases h0 : len * z.length = 0
  · rw [if_pos h0]
    have e0 : ∀ f g : Nat → Value, (Array.range (len * z.length)).map f = (Array.range (len * z.length)).map g := fun f g => Array.ext (by simp) (fun i h1 _ => by simp [h0] at h1)
    simp only [Sem.run_bind, Sem.run_pure, Result.andThen_ok]
    rw [e0 (fun x => (#[] : Array Value)[x % (#[] : Array Value).size]!) (fun x => zv.toArray[x % zv.toArray.size]!), k2']
    simp [newRow]
  · rw [if_neg h0]
    simp only [Sem.run_bind, Sem.run_pure, Result.andThen_ok, e1, e2]
    rw [k2']
    simp [newRow]
end
end Go.Proofs.YthnkioafikmmaaaDoor.Ev

namespace Go.Proofs.YthnkioafikmmaaaDoor.Ev
open Go
set_option linter.unusedVariables false
set_option linter.unusedSimpArgs false
section
variable {P : Program} {ov : Ov} {S N : Nat → Prop} {G : Gh} {m : Mem} {st : St} {a : Act} {w : World}

theorem numsOf_get : ∀ {rows : List (List Cell)} {l : List Int}, numsOf rows = some l → l.length = rows.length ∧ ∀ (k : Nat) (n : Int), l[k]? = some n → rows[k]? = some [.sc (.int .u8 n)] := by
  intro rows
  induction rows with
  | nil => intro l h; cases h; exact ⟨rfl, fun k n hk => by simp at hk⟩
  | cons row rows ih =>
    intro l h
    unfold numsOf at h
    split at h
    · rename_i e; cases e
    · rename_i n l' e
      cases e
      split at h
      · rename_i r hr
        cases h
        obtain ⟨i1, i2⟩ := ih hr
        refine ⟨by simp [i1], fun k n' hk => ?_⟩
        cases k with
        | zero => simp at hk; subst hk; rfl
        | succ k => simpa using i2 k n' (by simpa using hk)
      · cases h
    · cases h

theorem do_by (h : SR ov S N G st a w) {x : Opd} {x' : Operand} {t u e : TypeId} {o : Oper} (hx : fO x x' = true) (ho : o.op = .convert t u x') (ht : P.underlying t = some (.slice e)) (he : P.underlying e = some (.int .u8))
    (hu : P.underlying u = some .string) {l : List Int}
    (hv : (∃ rows, opd st.s x = .ro 1 rows ∧ numsOf rows = some l) ∨ (∃ i ch lo n e' rows, opd st.s x = .rf i ch lo n ∧ look st.m i ch = some (e', 1, rows) ∧ lo + n ≤ rows.length ∧ numsOf (shut ((rows.drop lo).take n)) = some l) ∨ (opd st.s x = .nl ∧ l = [])) :
    Does P o a w (Next S N G st w (.sc (.string (strOfNums l))) st.m) := by
  have r1 := (h.opd hx).1
  refine Does.same h (v' := .string (strOfNums l)) ?_ ⟨rfl, rfl⟩ trivial
  have empty : ∀ A c, (convert t u (.slice A 0 c)).run P w = .ok (.string (strOfNums [])) w := by
    intro A c
    rw [run_convert_bytes_string w t u e A 0 c ht he hu]
    cases A with
    | none => simp [Conv.bytesToString, strOfNums]; rfl
    | some ad =>
      rw [run_bytesToString w ad 0 c [] (by simp [loadCells, loadCellsFrom])]
      rfl
  rcases hv with ⟨rows, ex, hn⟩ | ⟨i, ch, lo, n, e', rows, ex, hl, hle, hn⟩ | ⟨ex, rfl⟩
  · rw [ex] at r1
    obtain ⟨A, c, e1, hc, hrow⟩ := r1
    obtain ⟨n1, n2⟩ := numsOf_get hn
    cases hrows : rows with
    | nil =>
      have : l = [] := List.eq_nil_of_length_eq_zero (by rw [n1, hrows]; rfl)
      subst this
      simp [execOp, ho, e1, hrows, empty]
    | cons r0 rest =>
      obtain ⟨_, ⟨b, off, sp⟩, rfl, ⟨_, hs⟩, _⟩ := hrow 0 r0 (by rw [hrows]; rfl)
      simp only at hs
      subst hs
      have hc2 := run_convert_bytes_arg (P := P) w t e ht he b off rows.length c l n1 (fun j hj => by
        have hl : l[j]? = some (l.getD j 0) := by
          rw [List.getD_eq_getElem?_getD, List.getElem?_eq_getElem (by omega)]; rfl
        obtain ⟨_, ad, had, _, hcell⟩ := hrow j _ (n2 j _ hl)
        cases had
        obtain ⟨v, hv1, hv2⟩ := hcell 0 _ rfl
        rw [add_lit] at hv1
        simp only [Nat.mul_one, Nat.add_zero] at hv1
        rw [hv1, hv2.1]) u hu
      rw [hrows] at hc2 e1
      simp [execOp, ho, e1]
      simp at hc2
      simp [hc2]
  · rw [ex] at r1
    simp only [R, R1, R0] at r1; rw [hl] at r1
    obtain ⟨A, c, e1, hnc, hcap, hA⟩ := r1
    obtain ⟨n1, n2⟩ := numsOf_get hn
    have hlen : (shut ((rows.drop lo).take n)).length = n := by simp [shut]; omega
    by_cases hn0 : n = 0
    · subst hn0
      have : l = [] := List.eq_nil_of_length_eq_zero (by rw [n1, hlen])
      subst this
      simp [execOp, ho, e1, empty]
    · have hA' := hA (by omega)
      subst hA'
      obtain ⟨cs, k1, k2, k3, k4, k5⟩ := own_rows h.inv hl
      have hc2 := run_convert_bytes_arg (P := P) w t e ht he (G.blkOf i ch) (lo * 1) n c l (by rw [n1, hlen]) (fun j hj => by
        have hll : l[j]? = some (l.getD j 0) := by
          rw [List.getD_eq_getElem?_getD, List.getElem?_eq_getElem (by omega)]; rfl
        have hr := n2 j _ hll
        simp only [shut, List.getElem?_map, List.getElem?_take, Option.map_eq_some_iff] at hr
        obtain ⟨row, hrow, hsh⟩ := hr
        rw [if_pos hj, List.getElem?_drop] at hrow
        obtain ⟨g1, g2⟩ := k5 _ row hrow
        obtain ⟨y, rfl⟩ : ∃ y, row = [y] := by
          match row, g1 with
          | [y], _ => exact ⟨y, rfl⟩
        simp only [List.map_cons, List.map_nil, List.cons.injEq, and_true] at hsh
        obtain ⟨v, v1, v2⟩ := g2 0 y rfl
        have hy : y = .sc (.int .u8 (l.getD j 0)) := by cases y <;> simp_all [shutC]
        subst hy
        rw [cell_lit k1]
        rcases v2 with v2 | v2 | ⟨_, _, _, v2, _⟩
        · rw [← v2.1]; simpa using v1
        · cases v2
        · cases v2) u hu
      simp [execOp, ho, e1]
      simp at hc2
      simp [hc2]
  · rw [ex] at r1
    have r2 : a.eval x' = .slice none 0 0 := r1
    simp [execOp, ho, r2, empty]
end
end Go.Proofs.YthnkioafikmmaaaDoor.Ev

namespace Go.Proofs.YthnkioafikmmaaaDoor.Ev
open Go
set_option linter.unusedVariables false
set_option linter.unusedSimpArgs false

def noMem : Mem := fun _ => none

section
variable {P : Program} {ov : Ov} {S N : Nat → Prop} {G : Gh} {m : Mem} {st : St} {a : Act} {w : World}

/-! ### two memories side by side -/
def unionM (m m' : Mem) : Mem := fun i => match m' i with | some x => some x | none => m i
def unionG (G G' : Gh) (m' : Mem) : Gh where
  blk i := if (m' i).isSome then G'.blk i else G.blk i
  cap i := if (m' i).isSome then G'.cap i else G.cap i
  cblk i := if (m' i).isSome then G'.cblk i else G.cblk i
  ccap i := if (m' i).isSome then G'.ccap i else G.ccap i

theorem Inv.union {w' : World} {G' : Gh} {m' : Mem} (h : Inv S N G m w) (hb : ∀ b, b < w.heap.size → w'.heap[b]? = w.heap[b]?) (hz : w.heap.size ≤ w'.heap.size) (hn : ∀ b, w.heap.size ≤ b → N b)
    (h' : Inv S (fun b => w.heap.size ≤ b) G' m' w') (hd : ∀ i, m' i ≠ none → m i = none) :
    Ext G m w (unionG G G' m') (unionM m m') w' ∧ Ext G' m' w' (unionG G G' m') (unionM m m') w' ∧ Inv S N (unionG G G' m') (unionM m m') w' := by
  have n1 : ∀ i, m i ≠ none → m' i = none := fun i hi => by
    cases hq : m' i with
    | none => rfl
    | some x => exact absurd (hd i (by rw [hq]; simp)) hi
  have e1 : Ext G m w (unionG G G' m') (unionM m m') w' := ⟨fun i hi => by simp [unionM, n1 i hi], fun i hi => by simp [unionG, n1 i hi], hb, hz⟩
  have e2 : Ext G' m' w' (unionG G G' m') (unionM m m') w' := by
    refine ⟨fun i hi => ?_, fun i hi => ?_, fun _ _ => rfl, Nat.le_refl _⟩
    · cases hq : m' i with
      | none => exact absurd hq hi
      | some x => simp [unionM, hq]
    · cases hq : m' i with
      | none => exact absurd hq hi
      | some x => simp [unionG, hq]
  have hw := h.ext (w' := w') hb hz
  have split : ∀ i x, unionM m m' i = some x → (m' i = some x) ∨ (m' i = none ∧ m i = some x) := by
    intro i x hx
    unfold unionM at hx
    cases hq : m' i with
    | none => rw [hq] at hx; exact .inr ⟨rfl, hx⟩
    | some y => rw [hq] at hx; exact .inl hx
  have lv : ∀ p, live (unionM m m') p → (live m' p ∧ (unionG G G' m').at p = G'.at p) ∨ (live m p ∧ (unionG G G' m').at p = G.at p) := by
    intro p hp
    cases p with
    | root i =>
      rcases hp with ⟨c, hc⟩ | ⟨e, n, rows, hc⟩ <;> rcases split i _ hc with h1 | ⟨h1, h2⟩
      · exact .inl ⟨.inl ⟨c, h1⟩, by simp [Gh.at, unionG, h1]⟩
      · exact .inr ⟨.inl ⟨c, h2⟩, by simp [Gh.at, unionG, h1]⟩
      · exact .inl ⟨.inr ⟨e, n, rows, h1⟩, by simp [Gh.at, unionG, h1]⟩
      · exact .inr ⟨.inr ⟨e, n, rows, h2⟩, by simp [Gh.at, unionG, h1]⟩
    | chld i r c =>
      obtain ⟨e, n, rows, row, e', n', rows', hc, q1, q2⟩ := hp
      rcases split i _ hc with h1 | ⟨h1, h2⟩
      · exact .inl ⟨⟨e, n, rows, row, e', n', rows', h1, q1, q2⟩, by simp [Gh.at, unionG, h1]⟩
      · exact .inr ⟨⟨e, n, rows, row, e', n', rows', h2, q1, q2⟩, by simp [Gh.at, unionG, h1]⟩
  refine ⟨e1, e2, fun i e n rows hi => ?_, fun i cells hi => ?_, fun p q hp hq he => ?_, fun p hp => ?_, h'.old⟩
  · rcases split i _ hi with h1 | ⟨h1, h2⟩
    · have := h'.arr i e n rows h1
      obtain ⟨g1, g2, g3, g4⟩ := e2.blk i (by rw [h1]; simp)
      rw [g1, g2]
      exact OwG.mono this rfl fun r c row x u _ _ ho => OwC.mono ho ⟨by rw [g3], by rw [g4]⟩ (fun _ _ => rfl) (fun _ _ _ _ => rfl)
    · have := hw.arr i e n rows h2
      obtain ⟨g1, g2, g3, g4⟩ := e1.blk i (by rw [h2]; simp)
      rw [g1, g2]
      exact OwG.mono this rfl fun r c row x u _ _ ho => OwC.mono ho ⟨by rw [g3], by rw [g4]⟩ (fun _ _ => rfl) (fun _ _ _ _ => rfl)
  · rcases split i _ hi with h1 | ⟨h1, h2⟩
    · obtain ⟨cs, e, k1, k2⟩ := h'.box i cells h1
      obtain ⟨g1, _⟩ := e2.blk i (by rw [h1]; simp)
      exact ⟨cs, e, by rw [g1]; exact k1, k2.mono fun x u _ hx => ⟨R0.ext h'.old e2 hx.2.2 hx.1, hx.2.1, wf0.ext e2.ne hx.2.2⟩⟩
    · obtain ⟨cs, e, k1, k2⟩ := h.box i cells h2
      obtain ⟨g1, _⟩ := e1.blk i (by rw [h2]; simp)
      exact ⟨cs, e, by rw [g1, hb _ (Array.getElem?_eq_some_iff.1 k1).1]; exact k1, k2.mono fun x u _ hx => ⟨R0.ext h.old e1 hx.2.2 hx.1, hx.2.1, wf0.ext e1.ne hx.2.2⟩⟩
  · rcases lv p hp with ⟨p1, p2⟩ | ⟨p1, p2⟩ <;> rcases lv q hq with ⟨q1, q2⟩ | ⟨q1, q2⟩ <;> rw [p2, q2] at he
    · exact h'.inj p q p1 q1 he
    · have := (h'.sep p p1).2
      have := h.lt q1
      omega
    · have := (h'.sep q q1).2
      have := h.lt p1
      omega
    · exact h.inj p q p1 q1 he
  · rcases lv p hp with ⟨p1, p2⟩ | ⟨p1, p2⟩ <;> rw [p2]
    · exact ⟨(h'.sep p p1).1, hn _ (h'.sep p p1).2⟩
    · exact h.sep p p1

theorem adds_union : ∀ {l : List (Id × Thing)} {m0 m1 m' m2 : Mem}, adds m0 l = some m' → adds m1 l = some m2 → (∀ i, m0 i ≠ none → m1 i = m0 i) → (∀ i, m' i ≠ none → m0 i = none → m1 i = none) ∧ m2 = fun i => match m' i with | some x => some x | none => m1 i := by
  intro l
  induction l with
  | nil =>
    intro m0 m1 m' m2 h1 h2 hc
    cases h1; cases h2
    refine ⟨fun i h1 h2 => absurd h2 h1, funext fun i => ?_⟩
    cases hq : m0 i with
    | none => rfl
    | some x => rw [hc i (by rw [hq]; simp), hq]
  | cons p l ih =>
    intro m0 m1 m' m2 h1 h2 hc
    obtain ⟨j, x⟩ := p
    simp only [adds] at h1 h2
    split at h1
    · rename_i hj0
      split at h2
      · rename_i hj1
        obtain ⟨i1, i2⟩ := ih h1 h2 (fun i hi => by
          unfold updM at hi ⊢
          split
          · rfl
          · rename_i hne; rw [if_neg hne] at hi; exact hc i hi)
        refine ⟨fun i hi h0 => ?_, ?_⟩
        · by_cases hij : i = j
          · rw [hij]; exact hj1
          · have := i1 i hi (by rw [updM_ne hij]; exact h0)
            rwa [updM_ne hij] at this
        · rw [i2]
          funext i
          cases hq : m' i with
          | some y => rfl
          | none =>
            simp only
            by_cases hij : i = j
            · -- j was added, so m' j is not none
              exfalso
              have : ∀ {l : List (Id × Thing)} {m0 m' : Mem}, adds m0 l = some m' → ∀ i, m0 i ≠ none → m' i ≠ none := by
                intro l
                induction l with
                | nil => intro m0 m' h i hi; cases h; exact hi
                | cons p l ih =>
                  intro m0 m' h i hi
                  obtain ⟨j, x⟩ := p
                  simp only [adds] at h
                  split at h
                  · refine ih h i ?_
                    unfold updM; split
                    · simp
                    · exact hi
                  · cases h
              exact this h1 i (by rw [hij, updM_eq]; simp) hq
            · rw [updM_ne hij]
      · cases h2
    · cases h1
end
end Go.Proofs.YthnkioafikmmaaaDoor.Ev

namespace Go.Proofs.YthnkioafikmmaaaDoor.Ev
open Go
set_option linter.unusedVariables false
set_option linter.unusedSimpArgs false

section
variable {P : Program} {ov : Ov} {S N : Nat → Prop} {G G0 : Gh} {m : Mem} {st : St} {a : Act} {w : World}

/-- what was read alone, and what is one's own -/
def wide (S : Nat → Prop) (G : Gh) (m : Mem) : Nat → Prop := fun b => S b ∨ ∃ p, live m p ∧ G.at p = b
theorem wide_lt (h : Inv S N G m w) : ∀ b, wide S G m b → b < w.heap.size := by
  rintro b (hb | ⟨p, hp, rfl⟩)
  · exact h.old b hb
  · exact h.lt hp

theorem own_shut (h : Inv S N G m w) {i : Id} {ch : Option (Nat × Nat)} {e n : Nat} {rows : List (List Cell)} (hl : look m i ch = some (e, n, rows)) :
    wide S G m (G.blkOf i ch) ∧ OwG (fun _ _ x u => RdC (wide S G m) w (shutC x) u) w (G.blkOf i ch) e (G.capOf i ch) n rows := by
  have sub : ∀ b, S b → wide S G m b := fun b hb => .inl hb
  rcases look_inv hl with ⟨rfl, hm⟩ | ⟨r, c, e0, n0, rows0, row0, rows', rfl, hm, hr, hc, rfl⟩
  · refine ⟨.inr ⟨.root i, .inr ⟨e, n, rows, hm⟩, rfl⟩, OwG.mono (h.arr i e n rows hm) rfl fun r c row x u hr hc ho => ?_⟩
    cases x with
    | un => trivial
    | sc v => exact ho
    | nl => exact ho
    | sl o e' n' l =>
      cases o with
      | false => exact RdG.mono ho (fun _ _ h => h) sub (fun _ _ => rfl)
      | true =>
        obtain ⟨rfl, cs, k1, k2, k3, k4, k5⟩ := ho
        refine ⟨_, _, rfl, k3, fun r2 row2 hr2 => ?_⟩
        obtain ⟨g1, g2⟩ := k5 r2 row2 hr2
        refine ⟨g1, _, rfl, ⟨.inr ⟨.chld i r c, ⟨e, n, rows, row, e', n', l, hm, hr, hc⟩, rfl⟩, rfl⟩, fun k y hy => ?_⟩
        obtain ⟨v, v1, v2⟩ := g2 k y hy
        exact ⟨v, by rw [add_lit, cell_lit k1]; simpa using v1, v2⟩
  · refine ⟨.inr ⟨.chld i r c, ⟨e0, n0, rows0, row0, e, n, rows', hm, hr, hc⟩, rfl⟩, ?_⟩
    obtain ⟨cs, _, _, _, _, k⟩ := h.arr i e0 n0 rows0 hm
    obtain ⟨u, _, -, ho⟩ := (k r row0 hr).2 c _ hc
    obtain ⟨cs, h1, h2, h3, h4, h5⟩ := ho
    refine ⟨cs, h1, h2, by rw [lift_length]; exact h3, h4, fun r2 row hr2 => ?_⟩
    obtain ⟨vs, g1, rfl⟩ := lift_get hr2
    obtain ⟨g2, g3⟩ := h5 r2 vs g1
    refine ⟨by simpa using g2, fun k x hx => ?_⟩
    simp only [List.getElem?_map, Option.map_eq_some_iff] at hx
    obtain ⟨u, hu, rfl⟩ := hx
    exact g3 k u hu

theorem shut_get {rows : List (List Cell)} {r : Nat} {row : List Cell} (h : (shut rows)[r]? = some row) : ∃ row0, rows[r]? = some row0 ∧ row = row0.map shutC := by
  simp only [shut, List.getElem?_map, Option.map_eq_some_iff] at h
  obtain ⟨r0, h1, rfl⟩ := h
  exact ⟨r0, h1, rfl⟩

theorem snap0_R (h : Inv S N G m w) {v y : LV} {V : Value} (hr : R0 G S m w v V) (hy : snap0 m v = some y) : RpC (wide S G m) w y V ∧ y ≠ .un := by
  have sub : ∀ b, S b → wide S G m b := fun b hb => .inl hb
  cases v <;> simp only [snap0] at hy <;> try cases hy
  case sc => exact ⟨hr, by simp⟩
  case nl => exact ⟨hr, by simp⟩
  case ro n rows => exact ⟨RdG.mono hr (fun _ _ q => RdC.mono q sub (fun _ _ => rfl)) sub (fun _ _ => rfl), by simp⟩
  case rf i ch lo n =>
    cases hl : look m i ch with
    | none => rw [hl] at hy; cases hy
    | some q =>
      obtain ⟨e, n1, rows⟩ := q
      rw [hl] at hy
      simp only [] at hy
      split at hy
      · rename_i hle
        cases hy
        simp only [R0] at hr; rw [hl] at hr
        obtain ⟨A, c, rfl, hnc, hcap, hA⟩ := hr
        obtain ⟨hb, cs, k1, k2, k3, k4, k5⟩ := own_shut h hl
        have hlen : (shut ((rows.drop lo).take n)).length = n := by simp [shut]; omega
        refine ⟨⟨A, c, by rw [hlen], by rw [hlen]; exact hnc, fun r row hrow => ?_⟩, by simp⟩
        obtain ⟨row0, hr0, rfl⟩ := shut_get hrow
        have hrn : r < n := by have := (List.getElem?_eq_some_iff.1 hrow).1; omega
        rw [List.getElem?_take, if_pos hrn, List.getElem?_drop] at hr0
        obtain ⟨g1, g2⟩ := k5 _ row0 hr0
        refine ⟨by simpa using g1, _, (hA (by omega)).symm, ⟨hb, rfl⟩, fun k x hx => ?_⟩
        simp only [List.getElem?_map, Option.map_eq_some_iff] at hx
        obtain ⟨z, hz, rfl⟩ := hx
        obtain ⟨u, u1, u2⟩ := g2 k z hz
        refine ⟨u, ?_, u2⟩
        rw [add_lit, cell_lit k1, ← u1]
        congr 1
        rw [Nat.add_mul]; omega
      · cases hy

theorem RpC.to {y : LV} {V : Value} {S' : Nat → Prop} (h : RpC S' w y V) (hne : y ≠ .un) : Ev.R G0 S' noMem w y V ∧ wf noMem y ∧ wf0 noMem y ∧ Ev.R0 G0 S' noMem w y V := by
  cases y <;> first | exact absurd rfl hne | exact h.elim | exact ⟨h, trivial, trivial, h⟩

theorem snap1_R (h : Inv S N G m w) {v y : LV} {V : Value} (hr : R0 G S m w v V) (hy : snap1 m v = some y) : R0 G0 (wide S G m) noMem w y V ∧ wf0 noMem y ∧ R G0 (wide S G m) noMem w y V ∧ wf noMem y := by
  have sub : ∀ b, S b → wide S G m b := fun b hb => .inl hb
  have base : snap0 m v = some y → R0 G0 (wide S G m) noMem w y V ∧ wf0 noMem y ∧ R G0 (wide S G m) noMem w y V ∧ wf noMem y := fun hq => by
    obtain ⟨h1, h2⟩ := snap0_R h hr hq
    obtain ⟨k1, k2, k3, k4⟩ := RpC.to (G0 := G0) h1 h2
    exact ⟨k4, k3, k1, k2⟩
  cases v <;> simp only [snap1] at hy <;> try exact base hy
  case bp i off =>
    cases hm : m i with
    | none => rw [hm] at hy; cases hy
    | some t =>
      rw [hm] at hy
      cases t <;> simp only [] at hy <;> try cases hy
      case box cells =>
        split at hy
        · rename_i hle
          simp only [Option.map_eq_some_iff] at hy
          obtain ⟨vs, hvs, rfl⟩ := hy
          simp only [R0] at hr; rw [hm] at hr
          subst hr
          obtain ⟨cs, e, k1, k2⟩ := h.box i cells hm
          obtain ⟨g1, g2⟩ := mapM_get hvs
          have main : ∀ (k : Nat) (x : LV), vs[k]? = some x → wide S G m (G.blk i) ∧ ∃ u, w.cell? ((⟨G.blk i, off, none⟩ : Addr).add k) = some u ∧ RpC (wide S G m) w x u := by
            intro k x hk
            obtain ⟨z, hz, hsz⟩ := g2 k x hk
            rw [List.getElem?_drop] at hz
            obtain ⟨u, u1, u2⟩ := k2.2 _ z hz
            exact ⟨.inr ⟨.root i, .inl ⟨cells, hm⟩, rfl⟩, u, by rw [add_lit, cell_lit k1]; exact u1, (snap0_R h u2.1 hsz).1⟩
          exact ⟨⟨_, rfl, main⟩, trivial, ⟨_, rfl, main⟩, trivial⟩
        · cases hy
  case ep i ch r c =>
    cases hl : look m i ch with
    | none => rw [hl] at hy; cases hy
    | some q =>
      obtain ⟨e, n1, rows⟩ := q
      rw [hl] at hy
      simp only [] at hy
      cases hrow : rows[r]? with
      | none => rw [hrow] at hy; cases hy
      | some row =>
        rw [hrow] at hy
        simp only [] at hy
        split at hy
        · rename_i hle
          cases hy
          simp only [R0] at hr; rw [hl] at hr
          subst hr
          obtain ⟨hb, cs, k1, k2, k3, k4, k5⟩ := own_shut h hl
          obtain ⟨g1, g2⟩ := k5 r row hrow
          have main : ∀ (k : Nat) (x : LV), ((row.drop c).map fun x => roC x)[k]? = some x → wide S G m (G.blkOf i ch) ∧ ∃ u, w.cell? ((⟨G.blkOf i ch, r * n1 + c, none⟩ : Addr).add k) = some u ∧ RpC (wide S G m) w x u := by
            intro k x hk
            simp only [List.getElem?_map, List.getElem?_drop, Option.map_eq_some_iff] at hk
            obtain ⟨z, hz, rfl⟩ := hk
            obtain ⟨u, u1, u2⟩ := g2 _ z hz
            refine ⟨hb, u, by rw [add_lit, cell_lit k1, Nat.add_assoc]; exact u1, ?_⟩
            have : roC z = roC (shutC z) := by cases z <;> rfl
            rw [this]
            exact roC_R0 u2
          exact ⟨⟨_, rfl, main⟩, trivial, ⟨_, rfl, main⟩, trivial⟩
        · cases hy
  case rp vs =>
    cases hy
    obtain ⟨ad, rfl, q⟩ := hr
    have main : ∀ (k : Nat) (x : LV), vs[k]? = some x → wide S G m ad.block ∧ ∃ u, w.cell? (ad.add k) = some u ∧ RpC (wide S G m) w x u := fun k x hk =>
      let ⟨q1, u, q2, q3⟩ := q k x hk; ⟨sub _ q1, u, q2, q3.mono sub (fun _ _ => rfl)⟩
    exact ⟨⟨_, rfl, main⟩, trivial, ⟨_, rfl, main⟩, trivial⟩

theorem snap_R (h : Inv S N G m w) {v y : LV} {V : Value} (hr : R G S m w v V) (hy : snap m v = some y) : R G0 (wide S G m) noMem w y V ∧ wf noMem y := by
  have lst : ∀ {f : LV → Option LV} {vs ys : List LV} {cs : Array Value}, (∀ x z u, R0 G S m w x u → f x = some z → R0 G0 (wide S G m) noMem w z u ∧ wf0 noMem z) → RL (R0 G S m w) vs cs → vs.mapM f = some ys →
      RL (R0 G0 (wide S G m) noMem w) ys cs ∧ ∀ x ∈ ys, wf0 noMem x := by
    intro f vs ys cs hf hq hm
    obtain ⟨g1, g2⟩ := mapM_get hm
    refine ⟨⟨by rw [hq.1, g1], fun k x hk => ?_⟩, fun x hx => ?_⟩
    · obtain ⟨z, hz, hfz⟩ := g2 k x hk
      obtain ⟨u, u1, u2⟩ := hq.2 k z hz
      exact ⟨u, u1, (hf z x u u2 hfz).1⟩
    · obtain ⟨k, hk⟩ := List.getElem?_of_mem hx
      obtain ⟨z, hz, hfz⟩ := g2 k x hk
      obtain ⟨u, u1, u2⟩ := hq.2 k z hz
      exact (hf z x u u2 hfz).2
  cases v
  case ag vs =>
    simp only [snap, Option.map_eq_some_iff] at hy
    obtain ⟨ys, h1, rfl⟩ := hy
    obtain ⟨cs, rfl, q⟩ := hr
    obtain ⟨k1, k2⟩ := lst (fun x z u hx hz => by
      obtain ⟨a1, a2⟩ := snap0_R h hx hz
      obtain ⟨b1, b2, b3, b4⟩ := RpC.to (G0 := G0) a1 a2
      exact ⟨b4, b3⟩) q h1
    exact ⟨⟨cs, rfl, k1⟩, k2⟩
  case cl f vs =>
    simp only [snap, Option.map_eq_some_iff] at hy
    obtain ⟨ys, h1, rfl⟩ := hy
    obtain ⟨cs, rfl, q⟩ := hr
    obtain ⟨k1, k2⟩ := lst (fun x z u hx hz => by
      obtain ⟨b1, b2, _, _⟩ := snap1_R (G0 := G0) h hx hz
      exact ⟨b1, b2⟩) q h1
    exact ⟨⟨cs, rfl, k1⟩, k2⟩
  case tu vs => simp [snap, snap1, snap0] at hy
  all_goals (simp only [snap] at hy; simp only [R, R1] at hr; exact (snap1_R (G0 := G0) h hr hy).2.2)
end
end Go.Proofs.YthnkioafikmmaaaDoor.Ev

namespace Go.Proofs.YthnkioafikmmaaaDoor.Ev
open Go
set_option linter.unusedVariables false
set_option linter.unusedSimpArgs false

section
variable {P : Program} {ov : Ov} {S N : Nat → Prop} {G G0 : Gh} {m : Mem} {st : St} {a : Act} {w : World}

/-- neither a struct nor a tuple -/
def flat0 : LV → Prop
  | .ag _ => False | .tu _ => False | _ => True

theorem partsL_travL {f : Nat → LV → LV} : ∀ (l : List LV) (k : Nat), partsL k (travL f k l) = (partsL k l).map fun p => (p.1, f p.1 p.2) := by
  intro l; induction l with
  | nil => intro k; rfl
  | cons x xs ih => intro k; simp [travL, partsL, ih]
theorem three (x : LV) : (∃ vs, x = .ag vs) ∨ (∃ vs, x = .tu vs) ∨ flat0 x := by
  cases x <;> first | exact .inl ⟨_, rfl⟩ | exact .inr (.inl ⟨_, rfl⟩) | exact .inr (.inr trivial)
theorem trav1_flat {f : Nat → LV → LV} {k : Nat} {x : LV} (h : flat0 x) : trav1 f k x = f k x := by
  cases x <;> first | rfl | exact h.elim
theorem parts1_flat {k : Nat} {x : LV} (h : flat0 x) : parts1 k x = [(k, x)] := by
  cases x <;> first | rfl | exact h.elim
theorem trav_flat {f : Nat → LV → LV} {x : LV} (h : ∀ vs, x ≠ .tu vs) : trav f x = trav1 f 0 x := by
  cases x <;> first | rfl | exact absurd rfl (h _)
theorem parts_flat {x : LV} (h : ∀ vs, x ≠ .tu vs) : parts x = parts1 0 x := by
  cases x <;> first | rfl | exact absurd rfl (h _)
theorem small_flat {x : LV} (h : ∀ vs, x ≠ .tu vs) : small x = small1 x := by
  cases x <;> first | rfl | exact absurd rfl (h _)
theorem parts1_trav1 {f : Nat → LV → LV} (hf : ∀ k x, flat0 x → flat0 (f k x)) {k : Nat} {x : LV} (hx : small1 x = true) : parts1 k (trav1 f k x) = (parts1 k x).map fun p => (p.1, f p.1 p.2) := by
  rcases three x with ⟨vs, rfl⟩ | ⟨vs, rfl⟩ | h
  · exact partsL_travL vs k
  · simp [small1] at hx
  · rw [trav1_flat h, parts1_flat h, parts1_flat (hf k x h)]; rfl
theorem partsT_travT {f : Nat → LV → LV} (hf : ∀ k x, flat0 x → flat0 (f k x)) : ∀ (l : List LV) (k : Nat), (∀ x ∈ l, small1 x = true) → partsT k (travT f k l) = (partsT k l).map fun p => (p.1, f p.1 p.2) := by
  intro l; induction l with
  | nil => intro k _; rfl
  | cons x xs ih =>
    intro k h
    simp only [travT, partsT, List.map_append]
    rw [parts1_trav1 hf (h x (by simp)), ih (k + 100) (fun y hy => h y (by simp [hy]))]
theorem parts_trav {f : Nat → LV → LV} (hf : ∀ k x, flat0 x → flat0 (f k x)) {r : LV} (hs : small r = true) : parts (trav f r) = (parts r).map fun p => (p.1, f p.1 p.2) := by
  by_cases ht : ∃ vs, r = .tu vs
  · obtain ⟨vs, rfl⟩ := ht
    exact partsT_travT hf vs 0 (fun x hx => List.all_eq_true.1 (by simpa [small] using hs) x hx)
  · have ht' : ∀ vs, r ≠ .tu vs := fun vs e => ht ⟨vs, e⟩
    rw [small_flat ht'] at hs
    rw [trav_flat ht', parts_flat ht', ← parts1_trav1 hf hs]
    refine parts_flat fun vs e => ?_
    rcases three r with ⟨us, rfl⟩ | ⟨us, rfl⟩ | h
    · cases e
    · exact ht' us rfl
    · rw [trav1_flat h] at e
      have := hf 0 r h
      rw [e] at this
      exact this
theorem partsL_keys : ∀ (l : List LV) (k : Nat), (∀ p ∈ partsL k l, k ≤ p.1 ∧ p.1 < k + l.length) ∧ ((partsL k l).map (·.1)).Nodup := by
  intro l; induction l with
  | nil => intro k; simp [partsL]
  | cons x xs ih =>
    intro k
    obtain ⟨i1, i2⟩ := ih (k + 1)
    refine ⟨fun p hp => ?_, ?_⟩
    · simp only [partsL, List.mem_cons] at hp
      rcases hp with rfl | hp
      · simp
      · have := i1 p hp; simp; omega
    · simp only [partsL, List.map_cons, List.nodup_cons]
      refine ⟨fun hm => ?_, i2⟩
      simp only [List.mem_map] at hm
      obtain ⟨p, hp, e⟩ := hm
      have := i1 p hp
      omega
theorem parts1_keys {x : LV} {k : Nat} (hx : small1 x = true) : (∀ p ∈ parts1 k x, k ≤ p.1 ∧ p.1 < k + 100) ∧ ((parts1 k x).map (·.1)).Nodup := by
  cases x
  case ag vs =>
    obtain ⟨h1, h2⟩ := partsL_keys vs k
    have hl : vs.length ≤ 100 := by simpa [small1] using hx
    exact ⟨fun p hp => by have := h1 p hp; omega, h2⟩
  all_goals exact ⟨fun p hp => by simp only [parts1, List.mem_singleton] at hp; subst hp; simp, by simp [parts1]⟩
theorem partsT_keys : ∀ (l : List LV) (k : Nat), (∀ x ∈ l, small1 x = true) → (∀ p ∈ partsT k l, k ≤ p.1) ∧ ((partsT k l).map (·.1)).Nodup := by
  intro l; induction l with
  | nil => intro k _; simp [partsT]
  | cons x xs ih =>
    intro k h
    obtain ⟨i1, i2⟩ := ih (k + 100) (fun y hy => h y (by simp [hy]))
    obtain ⟨j1, j2⟩ := parts1_keys (k := k) (h x (by simp))
    refine ⟨fun p hp => ?_, ?_⟩
    · simp only [partsT, List.mem_append] at hp
      rcases hp with hp | hp
      · exact (j1 p hp).1
      · have := i1 p hp; omega
    · simp only [partsT, List.map_append, List.nodup_append]
      refine ⟨j2, i2, fun a ha b hb e => ?_⟩
      simp only [List.mem_map] at ha hb
      obtain ⟨p, hp, rfl⟩ := ha
      obtain ⟨q, hq, rfl⟩ := hb
      have := j1 p hp
      have := i1 q hq
      omega
theorem parts_keys {r : LV} (hs : small r = true) : ((parts r).map (·.1)).Nodup := by
  by_cases ht : ∃ vs, r = .tu vs
  · obtain ⟨vs, rfl⟩ := ht
    exact (partsT_keys vs 0 (fun x hx => List.all_eq_true.1 (by simpa [small] using hs) x hx)).2
  · have ht' : ∀ vs, r ≠ .tu vs := fun vs e => ht ⟨vs, e⟩
    rw [small_flat ht'] at hs
    rw [parts_flat ht']
    exact (parts1_keys hs).2

theorem adds_nodup : ∀ {l : List (Id × Thing)} {m0 : Mem}, (l.map (·.1)).Nodup → (∀ p ∈ l, m0 p.1 = none) → ∃ m', adds m0 l = some m' ∧ ∀ i, (∀ x, (i, x) ∈ l → m' i = some x) ∧ ((∀ x, (i, x) ∉ l) → m' i = m0 i) := by
  intro l; induction l with
  | nil => intro m0 _ _; exact ⟨m0, rfl, fun i => ⟨fun x hx => by simp at hx, fun _ => rfl⟩⟩
  | cons p l ih =>
    intro m0 hn h0
    obtain ⟨j, x⟩ := p
    simp only [List.map_cons, List.nodup_cons, List.mem_map, not_exists, not_and] at hn
    obtain ⟨m', e1, e2⟩ := ih (m0 := updM m0 j (some x)) hn.2 (fun p hp => by
      rw [updM_ne (fun e => hn.1 p hp e)]
      exact h0 p (by simp [hp]))
    refine ⟨m', by simp only [adds, h0 (j, x) (by simp)]; exact e1, fun i => ⟨fun y hy => ?_, fun hy => ?_⟩⟩
    · simp only [List.mem_cons] at hy
      rcases hy with hy | hy
      · cases hy
        rw [(e2 j).2 (fun z hz => hn.1 _ hz rfl), updM_eq]
      · exact (e2 i).1 y hy
    · rw [(e2 i).2 (fun z hz => hy z (by simp [hz])), updM_ne (fun (e : i = j) => hy x (by simp [e]))]

theorem noDup_get : ∀ {l : List (Nat × LV)}, noDup (l.filterMap rootOf) = true → ∀ (a b : Nat) (p q : Nat × LV), l[a]? = some p → l[b]? = some q → ∀ i, rootOf p = some i → rootOf q = some i → a = b := by
  intro l; induction l with
  | nil => intro _ a b p q h; simp at h
  | cons x xs ih =>
    intro h a b p q ha hb i hp hq
    have hrest : noDup (xs.filterMap rootOf) = true := by
      simp only [List.filterMap_cons] at h
      cases hx : rootOf x with
      | none => rw [hx] at h; exact h
      | some j => rw [hx] at h; simp only [noDup, Bool.and_eq_true] at h; exact h.2
    have hfst : ∀ j, rootOf x = some j → ∀ y ∈ xs, rootOf y ≠ some j := by
      intro j hj y hy hyj
      simp only [List.filterMap_cons, hj, noDup, Bool.and_eq_true, List.all_eq_true, decide_eq_true_eq] at h
      exact h.1 j (List.mem_filterMap.2 ⟨y, hy, hyj⟩) rfl
    cases a with
    | zero =>
      cases b with
      | zero => rfl
      | succ b => simp at ha hb; subst ha; exact absurd hq (hfst i hp q (List.mem_of_getElem? hb))
    | succ a =>
      cases b with
      | zero => simp at ha hb; subst hb; exact absurd hp (hfst i hq p (List.mem_of_getElem? ha))
      | succ b => congr 1; exact ih hrest a b p q (by simpa using ha) (by simpa using hb) i hp hq

theorem RL_trav {R R' : LV → Value → Prop} {f : Nat → LV → LV} : ∀ {vs : List LV} {k : Nat} {cs : Array Value}, RL R vs cs → (∀ p ∈ partsL k vs, ∀ u, R p.2 u → R' (f p.1 p.2) u) → RL R' (travL f k vs) cs := by
  intro vs
  have len : ∀ (l : List LV) (k : Nat), (travL f k l).length = l.length := by
    intro l; induction l with
    | nil => intro k; rfl
    | cons x xs ih => intro k; simp [travL, ih]
  have get : ∀ (l : List LV) (k j : Nat) (y : LV), (travL f k l)[j]? = some y → ∃ x, l[j]? = some x ∧ y = f (k + j) x ∧ (k + j, x) ∈ partsL k l := by
    intro l; induction l with
    | nil => intro k j y h; simp [travL] at h
    | cons x xs ih =>
      intro k j y h
      cases j with
      | zero => simp [travL] at h; exact ⟨x, by simp, h.symm, by simp [partsL]⟩
      | succ j =>
        obtain ⟨z, h1, h2, h3⟩ := ih (k + 1) j y (by simpa [travL] using h)
        refine ⟨z, by simpa using h1, by rw [h2]; congr 1; omega, ?_⟩
        simp only [partsL, List.mem_cons]
        right
        have : k + (j + 1) = k + 1 + j := by omega
        rw [this]; exact h3
  intro k cs h hf
  refine ⟨by rw [h.1, len], fun j y hj => ?_⟩
  obtain ⟨x, h1, rfl, h3⟩ := get vs k j y hj
  obtain ⟨u, u1, u2⟩ := h.2 j x h1
  exact ⟨u, u1, hf _ h3 u u2⟩

end
end Go.Proofs.YthnkioafikmmaaaDoor.Ev
