/- Regions. -/
import Derived.Test.YthnkioafikmmaaaDoorEv5
namespace Go.Proofs.YthnkioafikmmaaaDoor.Ev
open Go
set_option linter.unusedVariables false
set_option linter.unusedSimpArgs false

def cList (f : Oper → Option OpI) : List Oper → Option (List OpI)
  | [] => some []
  | o :: l => match f o, cList f l with | some x, some xs => some (x :: xs) | _, _ => none
theorem cList_get {f : Oper → Option OpI} : ∀ {l : List Oper} {xs : List OpI}, cList f l = some xs → xs.length = l.length ∧ ∀ (i : Nat) (x : OpI), xs[i]? = some x → ∃ o, l[i]? = some o ∧ f o = some x := by
  intro l
  induction l with
  | nil => intro xs h; cases h; exact ⟨rfl, fun i x hi => by simp at hi⟩
  | cons o l ih =>
    intro xs h
    simp only [cList] at h
    split at h
    · rename_i x ys h1 h2
      cases h
      obtain ⟨i1, i2⟩ := ih h2
      refine ⟨by simp [i1], fun i y hi => ?_⟩
      cases i with
      | zero => simp at hi; subst hi; exact ⟨o, by simp, h1⟩
      | succ i => simpa using i2 i y (by simpa using hi)
    · cases h

/-! what comes before an operation, whatever the order -/
def dirs (o : Oper) : List Nat := o.after.toList.filterMap fun e => if Region.binds .any e = true then some e.on else none
def insN (x : Nat) (l : List Nat) : List Nat := if l.contains x = true then l else x :: l
def uniN (a b : List Nat) : List Nat := a.foldr insN b
def ancOf (acc : List (List Nat)) (l : List Nat) : List Nat := l.foldr (fun j r => insN j (uniN (acc.getD j []) r)) []
def ancs : List Oper → List (List Nat) → List (List Nat)
  | [], acc => acc
  | o :: l, acc => ancs l (acc ++ [ancOf acc (dirs o)])

theorem insN_mem {x y : Nat} {l : List Nat} (h : y ∈ insN x l) : y = x ∨ y ∈ l := by
  unfold insN at h
  split at h
  · exact .inr h
  · simpa using h
theorem uniN_mem {y : Nat} {b : List Nat} : ∀ {a : List Nat}, y ∈ uniN a b → y ∈ a ∨ y ∈ b := by
  intro a
  induction a with
  | nil => intro h; exact .inr h
  | cons x xs ih =>
    intro h
    simp only [uniN, List.foldr_cons] at h
    rcases insN_mem h with rfl | h
    · exact .inl (by simp)
    · rcases ih h with h | h
      · exact .inl (by simp [h])
      · exact .inr h
theorem ancOf_mem {y : Nat} {acc : List (List Nat)} : ∀ {l : List Nat}, y ∈ ancOf acc l → y ∈ l ∨ ∃ k ∈ l, y ∈ acc.getD k [] := by
  intro l
  induction l with
  | nil => intro h; simp [ancOf] at h
  | cons x xs ih =>
    intro h
    simp only [ancOf, List.foldr_cons] at h
    rcases insN_mem h with rfl | h
    · exact .inl (by simp)
    · rcases uniN_mem h with h | h
      · exact .inr ⟨x, by simp, h⟩
      · rcases ih h with h | ⟨k, k1, k2⟩
        · exact .inl (by simp [h])
        · exact .inr ⟨k, by simp [k1], k2⟩
theorem getD_app {acc : List (List Nat)} {x : List Nat} {k y : Nat} (h : y ∈ acc.getD k []) : y ∈ (acc ++ [x]).getD k [] := by
  by_cases hk : k < acc.length
  · rw [List.getD_eq_getElem?_getD, List.getElem?_append_left hk, ← List.getD_eq_getElem?_getD]; exact h
  · rw [List.getD_eq_getElem?_getD, List.getElem?_eq_none (by omega)] at h
    simp at h
theorem ancs_spec : ∀ (l pre : List Oper) (acc : List (List Nat)), acc.length = pre.length → (∀ (i : Nat) (o : Oper), pre[i]? = some o → ∀ y ∈ acc.getD i [], y ∈ dirs o ∨ ∃ k ∈ dirs o, y ∈ acc.getD k []) →
    ∀ (i : Nat) (o : Oper), (pre ++ l)[i]? = some o → ∀ y ∈ (ancs l acc).getD i [], y ∈ dirs o ∨ ∃ k ∈ dirs o, y ∈ (ancs l acc).getD k [] := by
  intro l
  induction l with
  | nil => intro pre acc _ h i o hi y hy; exact h i o (by simpa using hi) y hy
  | cons o l ih =>
    intro pre acc hl h i o' hi y hy
    refine ih (pre ++ [o]) (acc ++ [ancOf acc (dirs o)]) (by simp [hl]) (fun i o' hi y hy => ?_) i o' (by simpa using hi) y hy
    by_cases hil : i < pre.length
    · rw [List.getElem?_append_left hil] at hi
      rw [List.getD_eq_getElem?_getD, List.getElem?_append_left (by omega), ← List.getD_eq_getElem?_getD] at hy
      rcases h i o' hi y hy with h1 | ⟨k, k1, k2⟩
      · exact .inl h1
      · exact .inr ⟨k, k1, getD_app k2⟩
    · rw [List.getElem?_append_right (by omega)] at hi
      have he : i = pre.length := by
        have := (List.getElem?_eq_some_iff.1 hi).1
        simp at this; omega
      subst he
      simp at hi
      subst hi
      rw [List.getD_eq_getElem?_getD, List.getElem?_append_right (by omega), hl, Nat.sub_self] at hy
      simp at hy
      rcases ancOf_mem hy with h1 | ⟨k, k1, k2⟩
      · exact .inl h1
      · exact .inr ⟨k, k1, getD_app k2⟩

/-- beside an operation that looks at no memory, in any state -/
def swapN (x y : OpI) : Bool :=
  match isSt x, isSt y with
  | some _, none => rdOk y && (noLook y.op && !(looks x).contains y.d)
  | none, some _ => rdOk x && (noLook x.op && !(looks y).contains x.d)
  | some _, some _ => false
  | none, none => !(looks x).contains y.d && (!(looks y).contains x.d && (decide (x.d ≠ y.d) && (match isWo x, isWo y with
      | true, false => rdOk y && noLook y.op
      | false, true => rdOk x && noLook x.op
      | _, _ => false)))
def swOk (x y : OpI) : Bool := swapOk x y || swapN x y
theorem swapG {ov : Ov} {S N : Nat → Prop} {G : Gh} {a : Act} {w : World} {st : St} {call : CallF} (h : SR ov S N G st a w) {x y : OpI} (hq : swOk x y = true) {s1 s2 : St} (h1 : evO call x st = some s1) (h2 : evO call y s1 = some s2) :
    ∃ s1', evO call y st = some s1' ∧ evO call x s1' = some s2 := by
  unfold swOk at hq
  rw [Bool.or_eq_true] at hq
  rcases hq with hq | hq
  · exact swap h hq h1 h2
  unfold swapN at hq
  have offb : ∀ {s : Nat → LV} {p : Nat} {z : OpI}, noLook z.op = true → offB s p z := fun hl => by unfold offB; rw [if_pos hl]; trivial
  have offw : ∀ {s : Nat → LV} {u z : OpI}, noLook z.op = true → offW s u z := fun hl => by unfold offW; rw [if_pos hl]; trivial
  split at hq
  · rename_i p hp _
    simp only [Bool.and_eq_true, Bool.not_eq_true'] at hq
    exact swap_sr h hp hq.1 (by simpa using hq.2.2) (offb hq.2.1) h1 h2
  · rename_i p _ hp
    simp only [Bool.and_eq_true, Bool.not_eq_true'] at hq
    exact swap_rs h hp hq.1 (by simpa using hq.2.2) (offb hq.2.1) h1 h2
  · cases hq
  · simp only [Bool.and_eq_true, Bool.not_eq_true', decide_eq_true_eq] at hq
    obtain ⟨q1, q2, q3, q4⟩ := hq
    split at q4
    · rename_i hw _
      rw [Bool.and_eq_true] at q4
      exact swap_wr h hw q4.1 (by simpa using q1) (by simpa using q2) q3 (offw q4.2) h1 h2
    · rename_i _ hw
      rw [Bool.and_eq_true] at q4
      exact swap_rw h hw q4.1 (by simpa using q2) (by simpa using q1) q3 (offw q4.2) h1 h2
    · cases q4
/-- no store moves anything -/
def strip (x : OpI) : OpI := if x.w = true then { x with d := 0 } else x
/-- is a slot's content final, as far as what is still to come goes? -/
def still (anc : List Nat) (ios : List OpI) (j b : Nat) : Bool :=
  (List.range ios.length).all fun k => decide (k < j) || anc.contains k || (match ios[k]? with | some z => z.w || decide (z.d ≠ b) | none => true)
def sep2 (anc : List Nat) (ios : List OpI) (cs : List Ck) (j : Nat) (x y : OpI) : Bool :=
  match isSt x, isSt y with
  | some p, none => rdOk y && !(looks x).contains y.d && (cks p y).all fun c => cs.contains c && (ckS c).all (still anc ios j)
  | none, some p => rdOk x && !(looks y).contains x.d && (cks p x).all fun c => cs.contains c && (ckS c).all (still anc ios j)
  | some _, some _ => false
  | none, none => !(looks x).contains y.d && (!(looks y).contains x.d && (decide (x.d ≠ y.d) &&
      (match isWo x, isWo y with
      | true, false => rdOk y && (ckw x y).all fun c => cs.contains c && (ckS c).all (still anc ios j)
      | false, true => rdOk x && (ckw y x).all fun c => cs.contains c && (ckS c).all (still anc ios j)
      | _, _ => false)))
/-- is every two's order told, or of no account? -/
def ordOk (sw : Bool) (ops : Array Oper) (ios : List OpI) (cs : List Ck) : Bool :=
  (List.range ops.size).all fun i =>
    match ops[i]?, ios[i]? with
    | some o, some y => (dirs o).all (fun k => decide (k < i)) && (List.range i).all fun j => ((ancs ops.toList []).getD i []).contains j || (match ios[j]? with | some x => swOk x y || (sw && sep2 ((ancs ops.toList []).getD i []) ios cs j x y) | none => false)
    | _, _ => false
/-- what must be looked at -/
def mkCks (ops : Array Oper) (ios : List OpI) : List Ck :=
  (List.range ops.size).foldl (fun acc i =>
    match ios[i]? with
    | some y => (List.range i).foldl (fun acc j =>
        if ((ancs ops.toList []).getD i []).contains j = true then acc else
        match ios[j]? with
        | some x => if swOk x y = true then acc else
            ((match isSt x, isSt y with | some p, none => cks p y | none, some p => cks p x | some _, some _ => [] | none, none => (match isWo x, isWo y with | true, false => ckw x y | false, true => ckw y x | _, _ => [])).foldl (fun acc c => if acc.contains c = true then acc else acc ++ [c]) acc)
        | none => acc) acc
    | none => acc) []

section
variable {P : Program} {ov : Ov} {S N : Nat → Prop} {G G0 : Gh} {m : Mem} {st st' : St} {a : Act} {w : World} {nt : Nat} {ops : Array Oper} {ios : List OpI} {call : CallF} {Q : Exit → Act → World → Prop}

def CameO (P : Program) (nt : Nat) (ops : Array Oper) (o : Oper) (x : OpI) : Prop := ∃ y, cIO P nt ops o = some y ∧ (x = y ∨ x = strip y)
def Came (P : Program) (nt : Nat) (ops : Array Oper) (ios : List OpI) : Prop := ios.length = ops.size ∧ ∀ (i : Nat) (x : OpI), ios[i]? = some x → ∃ o, ops[i]? = some o ∧ CameO P nt ops o x
theorem strip_evO {call : CallF} {x : OpI} (hso : x.w = true → isSo x.op = true) (h : evO call (strip x) st = some st') : evO call x st = some st' := by
  unfold strip at h
  split at h
  case isFalse => exact h
  rename_i hw
  have hop := hso hw
  obtain ⟨d, op, g, w⟩ := x
  simp only at hw hop h
  subst hw
  have hD : ∀ {s1 : St}, evD call ⟨0, op, g, true⟩ st = some s1 → evD call ⟨d, op, g, true⟩ st = some s1 := by
    intro s1 h1
    cases op <;> try (cases hop; done)
    case so n a b =>
      simp only [evD] at h1 ⊢
      have e : evW d st (.so n a b) = evW 0 st (.so n a b) := rfl
      rw [e]
      cases hq : evW 0 st (.so n a b) with
      | none => rw [hq] at h1; cases h1
      | some q => rw [hq] at h1; exact h1
  cases g with
  | none => simp only [evO] at h ⊢; exact hD h
  | some p =>
    obtain ⟨t, want⟩ := p
    simp only [evO] at h ⊢
    split at h
    · rename_i b hb
      split at h
      · rename_i hbw; rw [if_pos hbw]; exact hD h
      · rename_i hbw; rw [if_neg hbw]; exact h
    · exact h
    · cases h
theorem cIO_so {o : Oper} {y : OpI} (h : cIO P nt ops o = some y) (hw : y.w = true) : isSo y.op = true := by
  unfold cIO at h
  split at h
  case h_2 => cases h
  split at h
  · split at h <;> cases h
    cases hw
  · split at h
    · rename_i hso; cases h; exact hso
    · cases h
theorem camed {call : CallF} {o : Oper} {x : OpI} (hc : CameO P nt ops o x) (hv : evO call x st = some st') : ∃ y, cIO P nt ops o = some y ∧ evO call y st = some st' := by
  obtain ⟨y, h1, rfl | rfl⟩ := hc
  · exact ⟨x, h1, hv⟩
  · exact ⟨y, h1, strip_evO (cIO_so h1) hv⟩
theorem came_of (h : cList (cIO P nt ops) ops.toList = some ios) : Came P nt ops ios := by
  obtain ⟨h1, h2⟩ := cList_get h
  exact ⟨by simpa using h1, fun i x hi => by obtain ⟨o, q1, q2⟩ := h2 i x hi; exact ⟨o, by simpa using q1, x, q2, .inl rfl⟩⟩
theorem came_strip (h : cList (cIO P nt ops) ops.toList = some ios) : Came P nt ops (ios.map strip) := by
  obtain ⟨h1, h2⟩ := cList_get h
  refine ⟨by simpa using h1, fun i x hi => ?_⟩
  rw [List.getElem?_map] at hi
  cases hx : ios[i]? with
  | none => rw [hx] at hi; cases hi
  | some y =>
    rw [hx] at hi
    cases hi
    obtain ⟨o, q1, q2⟩ := h2 i y hx
    exact ⟨o, by simpa using q1, y, q2, .inr rfl⟩
theorem strip_flat : ∀ z ∈ ios.map strip, z.w = true → z.d = 0 := by
  intro z hz hw
  obtain ⟨x, _, rfl⟩ := List.mem_map.1 hz
  unfold strip at hw ⊢
  split
  · rfl
  · rename_i h; rw [if_neg h] at hw; exact absurd hw h

def sel (ios : List OpI) (l : List Nat) : List OpI := l.filterMap (ios[·]?)

theorem ops_wp (hcall : CallOk ov.tb P call) (hc : Came P nt ops ios) : ∀ (l : List Nat) {st : St} {G : Gh} {a : Act} {w : World}, (∀ i ∈ l, i < ios.length) → SA nt ov S N G st a w → evL call (sel ios l) st = some st' →
    (∀ G' a' w', SA nt ov S N G' st' a' w' → FrN N w w' → Q .normal a' w') → wpOps P ops Q l a w := by
  intro l
  induction l with
  | nil => intro st G a w _ h hv hQ; cases hv; exact hQ G a w h (FrN.refl _ _)
  | cons i l ih =>
    intro st G a w hl h hv hQ
    have hi : i < ios.length := hl i (by simp)
    have hx : ios[i]? = some ios[i] := List.getElem?_eq_getElem hi
    obtain ⟨o, q1, q2⟩ := hc.2 i _ hx
    simp only [sel, List.filterMap_cons, hx] at hv
    simp only [evL] at hv
    split at hv
    case h_2 => cases hv
    rename_i s1 h1
    rw [wpOps_cons]
    obtain ⟨y, y1, y2⟩ := camed q2 h1
    exact evO_wpOp h hcall q1 y1 y2 fun G' a' w' hs hf => ih (fun j hj => hl j (by simp [hj])) hs hv fun G2 a2 w2 hs2 hf2 => hQ G2 a2 w2 hs2 (hf.trans hf2)

theorem sel_range (ios : List OpI) : sel ios (List.range ios.length) = ios := by
  have key : ∀ (l pre : List OpI), (List.range' pre.length l.length).filterMap ((pre ++ l)[·]?) = l := by
    intro l
    induction l with
    | nil => intro pre; rfl
    | cons x xs ih =>
      intro pre
      simp only [List.length_cons, List.range'_succ, List.filterMap_cons]
      rw [List.getElem?_append_right (Nat.le_refl _), Nat.sub_self, List.getElem?_cons_zero]
      simp only []
      have := ih (pre ++ [x])
      simp only [List.length_append, List.length_cons, List.length_nil, List.append_assoc, List.singleton_append, Nat.zero_add] at this
      rw [this]
  have := key ios []
  simpa [sel, List.range_eq_range'] using this

theorem reg_wp (h : SA nt ov S N G st a w) (hcall : CallOk ov.tb P call) (hc : Came P nt ops ios) (hv : evL call ios st = some st') {id : Nat} (hQ : ∀ G' a' w', SA nt ov S N G' st' a' w' → FrN N w w' → Q .normal a' w') : (Code.region id ops false).wp P Q a w := by
  refine wp_region ?_
  rw [← hc.1]
  exact ops_wp hcall hc _ (fun i hi => by simpa using hi) h (by rw [sel_range]; exact hv) hQ

def Sep (s2 : St) (L : List OpI) (x y : OpI) : Prop :=
  (∃ p, isSt x = some p ∧ rdOk y = true ∧ y.d ∉ looks x ∧ ∀ c ∈ cks p y, ckB s2.s c = true ∧ ∀ b ∈ ckS c, ∀ z ∈ L, z.w = true ∨ z.d ≠ b) ∨
  (∃ p, isSt y = some p ∧ rdOk x = true ∧ x.d ∉ looks y ∧ ∀ c ∈ cks p x, ckB s2.s c = true ∧ ∀ b ∈ ckS c, ∀ z ∈ L, z.w = true ∨ z.d ≠ b) ∨
  (y.d ∉ looks x ∧ x.d ∉ looks y ∧ x.d ≠ y.d ∧ ((isWo x = true ∧ rdOk y = true ∧ ∀ c ∈ ckw x y, ckB s2.s c = true ∧ ∀ b ∈ ckS c, ∀ z ∈ L, z.w = true ∨ z.d ≠ b) ∨
    (isWo y = true ∧ rdOk x = true ∧ ∀ c ∈ ckw y x, ckB s2.s c = true ∧ ∀ b ∈ ckS c, ∀ z ∈ L, z.w = true ∨ z.d ≠ b)))
theorem ckB_same {s s' : Nat → LV} {c : Ck} (h : ∀ b ∈ ckS c, s' b = s b) : ckB s' c = ckB s c := by
  cases c with
  | ne p b => simp only [ckB, h p (by simp [ckS]), h b (by simp [ckS])]
  | no b => simp only [ckB, h b (by simp [ckS])]
  | nx p b => simp only [ckB, h p (by simp [ckS]), h b (by simp [ckS])]
theorem sep_off {call : CallF} {L : List OpI} {st s2 : St} {p : Nat} {y : OpI} (oy : rdOk y = true) (h0 : ∀ z ∈ L, z.w = true → z.d = 0) (hL : evL call L st = some s2) (h : ∀ c ∈ cks p y, ckB s2.s c = true ∧ ∀ b ∈ ckS c, ∀ z ∈ L, z.w = true ∨ z.d ≠ b) : offB st.s p y :=
  off_of (rd_of oy) fun c hc => by
    obtain ⟨h1, h2⟩ := h c hc
    rw [← ckB_same (s := st.s) (s' := s2.s) fun b hb => evL_slot hL h0 (h2 b hb)]
    exact h1

theorem sep_offW {call : CallF} {L : List OpI} {st s2 : St} {x y : OpI} (oy : rdOk y = true) (h0 : ∀ z ∈ L, z.w = true → z.d = 0) (hL : evL call L st = some s2) (h : ∀ c ∈ ckw x y, ckB s2.s c = true ∧ ∀ b ∈ ckS c, ∀ z ∈ L, z.w = true ∨ z.d ≠ b) : offW st.s x y :=
  offW_of (rd_of oy) fun c hc => by
    obtain ⟨h1, h2⟩ := h c hc
    rw [← ckB_same (s := st.s) (s' := s2.s) fun b hb => evL_slot hL h0 (h2 b hb)]
    exact h1

/-- one moves to the front -/
theorem bubble (hcall : CallOk ov.tb P call) {y : OpI} {zs : List OpI} {s2 : St} : ∀ (xs : List OpI) {st : St} {G : Gh} {a : Act} {w : World}, SA nt ov S N G st a w → (∀ x ∈ xs, ∃ o, CameO P nt ops o x) →
    (∀ xs1 x xs2, xs = xs1 ++ x :: xs2 → swOk x y = true ∨ ((∀ z ∈ x :: (xs2 ++ y :: zs), z.w = true → z.d = 0) ∧ Sep s2 (x :: (xs2 ++ y :: zs)) x y)) →
    evL call (xs ++ y :: zs) st = some s2 → evL call (y :: (xs ++ zs)) st = some s2 := by
  intro xs
  induction xs with
  | nil => intro st G a w _ _ _ hv; exact hv
  | cons x xs ih =>
    intro st G a w h hcx hok hv
    have hv0 := hv
    simp only [List.cons_append, evL] at hv
    split at hv
    case h_2 => cases hv
    rename_i s1 h1
    obtain ⟨o, ho⟩ := hcx x (by simp)
    obtain ⟨y0, ho1, ho2⟩ := camed ho h1
    obtain ⟨G', a', w', hs⟩ := evO_ok h hcall ho1 ho2
    have := ih hs (fun z hz => hcx z (by simp [hz])) (fun xs1 z xs2 e => hok (x :: xs1) z xs2 (by rw [e]; rfl)) hv
    simp only [evL] at this
    split at this
    case h_2 => cases this
    rename_i s1y h2
    have sw : ∃ t, evO call y st = some t ∧ evO call x t = some s1y := by
      rcases hok [] x xs rfl with hq | ⟨hz, ⟨p, p1, p2, p3, p4⟩ | ⟨p, p1, p2, p3, p4⟩ | ⟨p1, p2, p3, ⟨p4, p5, p6⟩ | ⟨p4, p5, p6⟩⟩⟩
      · exact swapG h.toSR hq h1 h2
      · exact swap_sr h.toSR p1 p2 p3 (sep_off p2 hz hv0 p4) h1 h2
      · exact swap_rs h.toSR p1 p2 p3 (sep_off p2 hz hv0 p4) h1 h2
      · exact swap_wr h.toSR p4 p5 p1 p2 p3 (sep_offW p5 hz hv0 p6) h1 h2
      · exact swap_rw h.toSR p4 p5 p2 p1 p3 (sep_offW p5 hz hv0 p6) h1 h2
    obtain ⟨t, t1, t2⟩ := sw
    simp only [List.cons_append, evL, t1, t2]
    exact this

theorem sel_split {l : List Nat} : ∀ {xs1 : List OpI} {x : OpI} {xs2 : List OpI}, sel ios l = xs1 ++ x :: xs2 → ∃ l1 j l2, l = l1 ++ j :: l2 ∧ ios[j]? = some x ∧ sel ios l2 = xs2 := by
  induction l with
  | nil => intro xs1 x xs2 h; simp [sel] at h
  | cons k l ih =>
    intro xs1 x xs2 h
    simp only [sel, List.filterMap_cons] at h
    cases hk : ios[k]? with
    | none =>
      rw [hk] at h
      obtain ⟨l1, j, l2, rfl, q1, q2⟩ := ih h
      exact ⟨k :: l1, j, l2, rfl, q1, q2⟩
    | some z =>
      rw [hk] at h
      cases xs1 with
      | nil =>
        simp only [List.nil_append, List.cons.injEq] at h
        obtain ⟨rfl, h⟩ := h
        exact ⟨[], k, l, rfl, hk, h⟩
      | cons z1 xs1 =>
        simp only [List.cons_append, List.cons.injEq] at h
        obtain ⟨l1, j, l2, rfl, q1, q2⟩ := ih (xs1 := xs1) h.2
        exact ⟨k :: l1, j, l2, rfl, q1, q2⟩
theorem sep_of {anc : List Nat} {cs : List Ck} {j : Nat} {x y : OpI} {s2 : St} (hcs : ∀ c ∈ cs, ckB s2.s c = true) (h : sep2 anc ios cs j x y = true) {L : List OpI} (hL : ∀ z ∈ L, ∃ k, ios[k]? = some z ∧ j ≤ k ∧ k ∉ anc) : Sep s2 L x y := by
  have st : ∀ b, still anc ios j b = true → ∀ z ∈ L, z.w = true ∨ z.d ≠ b := by
    intro b hb z hz
    obtain ⟨k, k1, k2, k3⟩ := hL z hz
    have hk : k < ios.length := (List.getElem?_eq_some_iff.1 k1).1
    have := List.all_eq_true.1 hb k (by simpa using hk)
    rw [k1] at this
    simp only [Bool.or_eq_true, decide_eq_true_eq] at this
    rcases this with (h1 | h1) | h1
    · omega
    · exact absurd (by simpa using h1) k3
    · exact h1
  unfold sep2 at h
  split at h
  · rename_i p hp _
    simp only [Bool.and_eq_true, Bool.not_eq_true', List.all_eq_true] at h
    obtain ⟨⟨h1, h2⟩, h3⟩ := h
    exact .inl ⟨p, hp, h1, by simpa using h2, fun c hc => ⟨hcs c (by simpa using (h3 c hc).1), fun b hb => st b ((h3 c hc).2 b hb)⟩⟩
  · rename_i p _ hp
    simp only [Bool.and_eq_true, Bool.not_eq_true', List.all_eq_true] at h
    obtain ⟨⟨h1, h2⟩, h3⟩ := h
    exact .inr (.inl ⟨p, hp, h1, by simpa using h2, fun c hc => ⟨hcs c (by simpa using (h3 c hc).1), fun b hb => st b ((h3 c hc).2 b hb)⟩⟩)
  · cases h
  · simp only [Bool.and_eq_true, Bool.not_eq_true', decide_eq_true_eq] at h
    obtain ⟨a1, a2, a3, h⟩ := h
    refine .inr (.inr ⟨by simpa using a1, by simpa using a2, a3, ?_⟩)
    split at h
    · rename_i e1 _
      simp only [Bool.and_eq_true, List.all_eq_true] at h
      exact .inl ⟨e1, h.1, fun c hc => ⟨hcs c (by simpa using (h.2 c hc).1), fun b hb => st b ((h.2 c hc).2 b hb)⟩⟩
    · rename_i _ e1
      simp only [Bool.and_eq_true, List.all_eq_true] at h
      exact .inr ⟨e1, h.1, fun c hc => ⟨hcs c (by simpa using (h.2 c hc).1), fun b hb => st b ((h.2 c hc).2 b hb)⟩⟩
    · cases h

theorem any_wp (hcall : CallOk ov.tb P call) (hc : Came P nt ops ios) {cs : List Ck} {sw : Bool} (hflat : sw = true → ∀ z ∈ ios, z.w = true → z.d = 0) (hord : ordOk sw ops ios cs = true) (hcs : ∀ c ∈ cs, ckB st'.s c = true) : ∀ (fuel : Nat) (rest : List Nat) (listed : Array Bool) {st : St} {G : Gh} {a : Act} {w : World}, rest.length = fuel → rest.Pairwise (· < ·) →
    (∀ i ∈ rest, i < ops.size) → (∀ i, i < ops.size → (i ∈ rest ↔ listed.getD i true = false)) → (∀ i, i ∉ rest → ∀ o, ops[i]? = some o → ∀ k ∈ dirs o, k ∉ rest) → listed.size = ops.size → SA nt ov S N G st a w → evL call (sel ios rest) st = some st' →
    (∀ G' a' w', SA nt ov S N G' st' a' w' → FrN N w w' → Q .normal a' w') → wpAny P .any ops Q fuel listed a w := by
  have dmem : ∀ (o : Oper) (e : Edge), e ∈ o.after → Region.binds .any e = true → e.on ∈ dirs o := by
    intro o e he hb
    refine List.mem_filterMap.2 ⟨e, by simpa using he, by simp [hb]⟩
  have dinv : ∀ (o : Oper) (k : Nat), k ∈ dirs o → ∃ e ∈ o.after, Region.binds .any e = true ∧ e.on = k := by
    intro o k hk
    obtain ⟨e, he, hq⟩ := List.mem_filterMap.1 hk
    split at hq
    · rename_i hb; cases hq; exact ⟨e, by simpa using he, hb, rfl⟩
    · cases hq
  have ord : ∀ i o, ops[i]? = some o → ∃ y, ios[i]? = some y ∧ (∀ k ∈ dirs o, k < i) ∧ ∀ j, j < i → (j ∈ (ancs ops.toList []).getD i []) ∨ ∃ x, ios[j]? = some x ∧ (swOk x y = true ∨ (sw = true ∧ sep2 ((ancs ops.toList []).getD i []) ios cs j x y = true)) := by
    intro i o hi
    have hlt : i < ops.size := (Array.getElem?_eq_some_iff.1 hi).1
    have h1 := List.all_eq_true.1 hord i (by simpa using hlt)
    have hy : ios[i]? = some (ios[i]'(by rw [hc.1]; exact hlt)) := List.getElem?_eq_getElem _
    rw [hi, hy] at h1
    simp only [Bool.and_eq_true, List.all_eq_true, List.mem_range, Bool.or_eq_true, decide_eq_true_eq] at h1
    refine ⟨_, hy, h1.1, fun j hj => ?_⟩
    rcases h1.2 j hj with h2 | h2
    · exact .inl (by simpa using h2)
    · split at h2
      · rename_i x hx; exact .inr ⟨x, hx, by simpa using h2⟩
      · cases h2
  have spec := ancs_spec ops.toList [] [] rfl (fun i o hi => by simp at hi)
  simp only [List.nil_append] at spec
  -- what comes before what is listed is listed
  have down : ∀ (rest : List Nat), (∀ i, i ∉ rest → ∀ o, ops[i]? = some o → ∀ k ∈ dirs o, k ∉ rest) → ∀ (i : Nat), i ∉ rest → ∀ j ∈ (ancs ops.toList []).getD i [], i < ops.size → j ∉ rest := by
    intro rest hd i
    induction i using Nat.strongRecOn with
    | _ i ih =>
      intro hi j hj hlt
      have ho : ops[i]? = some ops[i] := Array.getElem?_eq_getElem hlt
      obtain ⟨_, _, hlow, _⟩ := ord i _ ho
      rcases spec i ops[i] (by simp) j hj with h1 | ⟨k, k1, k2⟩
      · exact hd i hi _ ho j h1
      · exact ih k (hlow k k1) (hd i hi _ ho k k1) j k2 (by have := hlow k k1; omega)
  intro fuel
  induction fuel with
  | zero =>
    intro rest listed st G a w hlen _ _ hmem _ hls h hv hQ
    have : rest = [] := List.eq_nil_of_length_eq_zero hlen
    subst this
    cases hv
    refine ⟨?_, hQ G a w h (FrN.refl _ _)⟩
    refine List.eq_nil_iff_forall_not_mem.2 fun j hj => ?_
    obtain ⟨h0, o, ho, _⟩ := mem_ready.1 hj
    have := (hmem j (Array.getElem?_eq_some_iff.1 ho).1).2 h0
    simp at this
  | succ fuel ih =>
    intro rest listed st G a w hlen hsort hin hmem hdown hls h hv hQ
    refine ⟨fun hnil => ?_, fun i hi => ?_⟩
    · exfalso
      cases rest with
      | nil => simp at hlen
      | cons i rest =>
        have hi : i < ops.size := hin i (by simp)
        have hio : ops[i]? = some ops[i] := Array.getElem?_eq_getElem hi
        have : i ∈ Region.ready .any ops listed := by
          refine mem_ready.2 ⟨(hmem i hi).1 (by simp), _, hio, fun e he hb => ?_⟩
          obtain ⟨y, _, h2, _⟩ := ord i _ hio
          have hlt := h2 e.on (dmem _ e he hb)
          have hes : e.on < ops.size := by omega
          have hnm : e.on ∉ i :: rest := by
            intro hm
            rcases List.mem_cons.1 hm with h3 | h3
            · omega
            · have := List.rel_of_pairwise_cons hsort h3; omega
          have h4 : ¬ listed.getD e.on true = false := fun q => hnm ((hmem e.on hes).2 q)
          have hlt2 : e.on < listed.size := by omega
          simp only [Array.getD_eq_getD_getElem?, Array.getElem?_eq_getElem hlt2, Option.getD_some] at h4 ⊢
          simpa using h4
        rw [hnil] at this
        cases this
    · obtain ⟨h0, o, ho, hall⟩ := mem_ready.1 hi
      have hlt : i < ops.size := (Array.getElem?_eq_some_iff.1 ho).1
      have him : i ∈ rest := (hmem i hlt).2 h0
      obtain ⟨pre, post, rfl⟩ := List.append_of_mem him
      obtain ⟨y, hy, _, hy2⟩ := ord i o ho
      obtain ⟨o', ho', hcy⟩ := hc.2 i y hy
      rw [ho] at ho'
      cases ho'
      have hsel : sel ios (pre ++ i :: post) = sel ios pre ++ y :: sel ios post := by simp [sel, hy]
      rw [hsel] at hv
      have hanc : ∀ j ∈ (ancs ops.toList []).getD i [], j ∉ pre ++ i :: post := by
        intro j hanc hjm
        have hdir : ∀ k ∈ dirs o, k ∉ pre ++ i :: post := by
          intro k hk hkm
          obtain ⟨e, he, hb, rfl⟩ := dinv o k hk
          have h1 := hall e he hb
          have hlk := hin e.on hkm
          have h2 := (hmem e.on hlk).1 hkm
          have hlt2 : e.on < listed.size := by omega
          simp only [Array.getD_eq_getD_getElem?, Array.getElem?_eq_getElem hlt2, Option.getD_some] at h1 h2
          rw [h1] at h2; cases h2
        rcases spec i o (by simpa using ho) j hanc with h1 | ⟨k, k1, k2⟩
        · exact hdir j h1 hjm
        · have hk := hdir k k1
          obtain ⟨_, _, hlow, _⟩ := ord i o ho
          exact down _ hdown k hk j k2 (by have := hlow k k1; omega) hjm
      have hpre : ∀ x ∈ sel ios pre, ∃ o, CameO P nt ops o x := by
        intro x hx
        simp only [sel, List.mem_filterMap] at hx
        obtain ⟨j, hj, hjx⟩ := hx
        obtain ⟨oj, _, hcj⟩ := hc.2 j x hjx
        exact ⟨oj, hcj⟩
      have hsep : ∀ xs1 x xs2, sel ios pre = xs1 ++ x :: xs2 → swOk x y = true ∨ ((∀ z ∈ x :: (xs2 ++ y :: sel ios post), z.w = true → z.d = 0) ∧ Sep st' (x :: (xs2 ++ y :: sel ios post)) x y) := by
        intro xs1 x xs2 e
        obtain ⟨l1, j, l2, rfl, q1, rfl⟩ := sel_split e
        have hji : j < i := (List.pairwise_append.1 hsort).2.2 j (by simp) i (by simp)
        rcases hy2 j hji with h1 | ⟨x', hx', hs⟩
        · exact absurd (by simp) (hanc j h1)
        · rw [q1] at hx'
          cases hx'
          rcases hs with hs | ⟨hsw, hs⟩
          · exact .inl hs
          · have inL : ∀ z ∈ x :: (sel ios l2 ++ y :: sel ios post), ∃ k, k ∈ j :: (l2 ++ i :: post) ∧ ios[k]? = some z := by
              intro z hz
              have hz' : z ∈ sel ios (j :: (l2 ++ i :: post)) := by simpa [sel, q1, hy] using hz
              simp only [sel, List.mem_filterMap] at hz'
              exact hz'
            refine .inr ⟨fun z hz => ?_, sep_of hcs hs fun z hz => ?_⟩
            · obtain ⟨k, _, hk⟩ := inL z hz
              exact hflat hsw z (List.mem_of_getElem? hk)
            obtain ⟨k, hk, hkz⟩ := inL z hz
            have hs2 : (j :: (l2 ++ i :: post)).Pairwise (· < ·) := by
              rw [List.append_assoc] at hsort
              exact (List.pairwise_append.1 hsort).2.1
            refine ⟨k, hkz, ?_, fun hka => hanc k hka ?_⟩
            · rcases List.mem_cons.1 hk with rfl | hk
              · exact Nat.le_refl _
              · exact Nat.le_of_lt (List.rel_of_pairwise_cons hs2 hk)
            · rw [List.append_assoc]
              exact List.mem_append_right _ hk
      have hb := bubble (ops := ops) hcall (sel ios pre) h hpre hsep hv
      simp only [evL] at hb
      split at hb
      case h_2 => cases hb
      rename_i s1 h1
      obtain ⟨y0, hcy1, hcy2⟩ := camed hcy h1
      refine evO_wpOp h hcall ho hcy1 hcy2 fun G' a' w' hs hf => ?_
      have hnd : (pre ++ i :: post).Nodup := hsort.imp (fun h => Nat.ne_of_lt h)
      refine ih (pre ++ post) _ (by simp at hlen ⊢; omega) ?_ (fun j hj => hin j ?_) (fun j hj => ?_) (fun j hj oj hoj k hk => ?_) (by simp [hls]) hs (by simpa [sel] using hb) fun G2 a2 w2 hs2 hf2 => hQ G2 a2 w2 hs2 (hf.trans hf2)
      · rw [List.pairwise_append] at hsort ⊢
        refine ⟨hsort.1, (List.pairwise_cons.1 hsort.2.1).2, fun x hx z hz => hsort.2.2 x hx z (by simp [hz])⟩
      · simp only [List.mem_append, List.mem_cons] at hj ⊢
        rcases hj with hj | hj
        · exact .inl hj
        · exact .inr (.inr hj)
      · have hm := hmem j hj
        by_cases hji : j = i
        · subst hji
          have : j < listed.size := by omega
          constructor
          · intro hjm
            rw [List.nodup_append] at hnd
            simp only [List.mem_append] at hjm
            rcases hjm with hjm | hjm
            · exact absurd rfl (hnd.2.2 j hjm j (by simp))
            · exact absurd hjm (List.nodup_cons.1 hnd.2.1).1
          · intro hq
            simp [this] at hq
        · rw [getD_set_ne true (Ne.symm hji), ← hm]
          simp [hji]
      · -- down-closed behind i
        intro hkm
        have hkm' : k ∈ pre ++ i :: post := by
          simp only [List.mem_append, List.mem_cons] at hkm ⊢
          rcases hkm with h | h
          · exact .inl h
          · exact .inr (.inr h)
        by_cases hji : j = i
        · subst hji
          rw [ho] at hoj
          cases hoj
          obtain ⟨e, he, hb, rfl⟩ := dinv o k hk
          have h1 := hall e he hb
          have hlk := hin e.on hkm'
          have h2 := (hmem e.on hlk).1 hkm'
          have hlt2 : e.on < listed.size := by omega
          simp only [Array.getD_eq_getD_getElem?, Array.getElem?_eq_getElem hlt2, Option.getD_some] at h1 h2
          rw [h1] at h2; cases h2
        · exact hdown j (by simpa [hji] using hj) oj hoj k hk hkm'

theorem reg_wp_any (h : SA nt ov S N G st a w) (hm : P.follows .mixedOrders = true) (hcall : CallOk ov.tb P call) (hc : Came P nt ops ios) {cs : List Ck} {sw : Bool} (hflat : sw = true → ∀ z ∈ ios, z.w = true → z.d = 0) (hord : ordOk sw ops ios cs = true) (hcs : ∀ c ∈ cs, ckB st'.s c = true) (hv : evL call ios st = some st') {id : Nat}
    (hQ : ∀ G' a' w', SA nt ov S N G' st' a' w' → FrN N w w' → Q .normal a' w') : (Code.region id ops true).wp P Q a w := by
  refine wp_region_any hm ?_
  have h' : SA nt ov S N G st a { w with drawn := w.drawn + 1 } :=
    ⟨⟨h.inv.ext (fun _ _ => rfl) (Nat.le_refl _), fun t => ⟨R.ext h.inv.old ⟨fun _ _ => rfl, fun _ _ => ⟨rfl, rfl, rfl, rfl⟩, fun _ _ => rfl, Nat.le_refl _⟩ (h.slot t).2 (h.slot t).1, (h.slot t).2⟩, h.df, h.new, h.tb⟩, h.size, h.few⟩
  refine any_wp hcall hc hflat hord hcs ops.size (List.range ops.size) _ (by simp) List.pairwise_lt_range (fun i hi => by simpa using hi) (fun i hi => by simp [hi]) (fun i hi o ho => absurd (by simpa using (Array.getElem?_eq_some_iff.1 ho).1) hi) (by simp) h' (by rw [← hc.1, sel_range]; exact hv) fun G' a' w' hs hf => hQ G' a' w' hs ⟨hf.os, hf.tape, hf.output, hf.size, hf.block⟩
end
end Go.Proofs.YthnkioafikmmaaaDoor.Ev

namespace Go.Proofs.YthnkioafikmmaaaDoor.Ev
open Go
set_option linter.unusedVariables false
set_option linter.unusedSimpArgs false

def gathL (f : Nat → Id) : Nat → List LV → List (Id × Id)
  | _, [] => []
  | k, x :: xs => match idOf x with | some i => (i, f k) :: gathL f (k + 1) xs | none => gathL f (k + 1) xs
def gath1 (t : Nat) : LV → List (Id × Id)
  | .ag vs | .cl _ vs => gathL (.ce t) 0 vs
  | v => match idOf v with | some i => [(i, .sl t)] | none => []
def gath (s : Nat → LV) : List Nat → List (Id × Id)
  | [] => []
  | t :: ts => gath1 t (s t) ++ gath s ts
def subI : Id → Nat → Id
  | .sl t, k => .ce t k
  | .ce t k0, k => .ce (t + 1000 * (k0 + 1)) k
  | i, _ => i
def gathM (m : Mem) : List (Id × Id) → List (Id × Id)
  | [] => []
  | (i, j) :: l => (match m i with | some (.box cells) => gathL (subI j) 0 cells | _ => []) ++ gathM m l
def ded : List (Id × Id) → List (Id × Id)
  | [] => []
  | p :: l => p :: (ded l).filter fun q => decide (q.1 ≠ p.1)

def toN (lk : List (Id × Id)) (i : Id) : Option Id :=
  match lk with
  | [] => none
  | p :: l => if p.1 = i then some p.2 else toN l i
def toO (lk : List (Id × Id)) (j : Id) : Option Id :=
  match lk with
  | [] => none
  | p :: l => if p.2 = j then some p.1 else toO l j
def renO (lk : List (Id × Id)) : LV → Option LV
  | .rf i ch lo n => match toN lk i with | some j => some (.rf j ch lo n) | none => none
  | .bp i o => match toN lk i with | some j => some (.bp j o) | none => none
  | .ep i ch r c => match toN lk i with | some j => some (.ep j ch r c) | none => none
  | v => some v
def renL (lk : List (Id × Id)) : List LV → Option (List LV)
  | [] => some []
  | x :: xs => match renO lk x, renL lk xs with | some y, some ys => some (y :: ys) | _, _ => none
def renV (lk : List (Id × Id)) : LV → LV
  | .ag vs => match renL lk vs with | some l => .ag l | none => .un
  | .cl f vs => match renL lk vs with | some l => .cl f l | none => .un
  | .tu [] => .tu []
  | .tu _ => .un
  | v => match renO lk v with | some y => y | none => .un
def renT (lk : List (Id × Id)) : Thing → Option Thing
  | .box cells => match renL lk cells with | some l => some (.box l) | none => none
  | t => some t
def newM (lk : List (Id × Id)) (m : Mem) : Mem := fun j =>
  match toO lk j with
  | some i => (match m i with | some t => renT lk t | none => none)
  | none => none
def thOk (lk : List (Id × Id)) (m : Mem) : List (Id × Id) → Bool
  | [] => true
  | p :: l => (match m p.1 with | some t => (renT lk t).isSome | none => true) && thOk lk m l
def has (l : List Nat) (t : Nat) : Bool := match l with | [] => false | x :: xs => if x = t then true else has xs t

def cleanBy (lk : List (Id × Id)) (keep : List Nat) (st : St) : Option St :=
  if (noDup (lk.map (·.2)) && thOk lk st.m lk) = true then some ⟨fun t => if has keep t = true then renV lk (st.s t) else .un, newM lk st.m⟩ else none
def clean (keep : List Nat) (st : St) : Option St :=
  cleanBy (ded (gath st.s keep ++ gathM st.m (gath st.s keep))) keep st

section
variable {P : Program} {ov : Ov} {S N : Nat → Prop} {G G0 : Gh} {m : Mem} {st st' : St} {a : Act} {w : World} {nt : Nat} {lk : List (Id × Id)}

theorem toN_mem {i j : Id} : ∀ {lk : List (Id × Id)}, toN lk i = some j → (i, j) ∈ lk := by
  intro lk
  induction lk with
  | nil => intro h; cases h
  | cons p l ih =>
    intro h
    simp only [toN] at h
    split at h
    · rename_i e; cases h; obtain ⟨x, y⟩ := p; simp at e; subst e; simp
    · exact List.mem_cons_of_mem _ (ih h)
theorem toO_mem {i j : Id} : ∀ {lk : List (Id × Id)}, toO lk j = some i → (i, j) ∈ lk := by
  intro lk
  induction lk with
  | nil => intro h; cases h
  | cons p l ih =>
    intro h
    simp only [toO] at h
    split at h
    · rename_i e; cases h; obtain ⟨x, y⟩ := p; simp at e; subst e; simp
    · exact List.mem_cons_of_mem _ (ih h)
theorem noDup_nodup : ∀ {l : List Id}, noDup l = true → l.Nodup := by
  intro l
  induction l with
  | nil => intro _; simp
  | cons x xs ih =>
    intro h
    simp only [noDup, Bool.and_eq_true, List.all_eq_true, decide_eq_true_eq] at h
    rw [List.nodup_cons]
    exact ⟨fun hm => h.1 x hm rfl, ih h.2⟩
theorem toO_of {i j : Id} : ∀ {lk : List (Id × Id)}, (lk.map (·.2)).Nodup → (i, j) ∈ lk → toO lk j = some i := by
  intro lk
  induction lk with
  | nil => intro _ h; simp at h
  | cons p l ih =>
    intro hn hm
    simp only [List.map_cons, List.nodup_cons, List.mem_map, not_exists, not_and] at hn
    simp only [toO]
    rcases List.mem_cons.1 hm with rfl | hm'
    · simp
    · rw [if_neg (fun e => hn.1 (i, j) hm' e.symm)]
      exact ih hn.2 hm'

theorem ded_nodup : ∀ (l : List (Id × Id)), ((ded l).map (·.1)).Nodup := by
  intro l
  induction l with
  | nil => simp [ded]
  | cons p l ih =>
    simp only [ded, List.map_cons, List.nodup_cons, List.mem_map, List.mem_filter, decide_eq_true_eq]
    refine ⟨fun ⟨q, hq, e⟩ => hq.2 e, ?_⟩
    exact List.Nodup.sublist (List.Sublist.map _ List.filter_sublist) ih

theorem thOk_get : ∀ {l : List (Id × Id)}, thOk lk m l = true → ∀ p ∈ l, ∀ t, m p.1 = some t → (renT lk t).isSome = true := by
  intro l
  induction l with
  | nil => intro _ p hp; simp at hp
  | cons q l ih =>
    intro h p hp t ht
    simp only [thOk, Bool.and_eq_true] at h
    rcases List.mem_cons.1 hp with rfl | hp
    · have := h.1; rw [ht] at this; exact this
    · exact ih h.2 p hp t ht
theorem has_mem {l : List Nat} {t : Nat} : has l t = true → t ∈ l := by
  induction l with
  | nil => intro h; cases h
  | cons x xs ih =>
    intro h
    simp only [has] at h
    split at h
    · rename_i e; subst e; simp
    · exact List.mem_cons_of_mem _ (ih h)

def newGh (lk : List (Id × Id)) (G : Gh) : Gh where
  blk j := match toO lk j with | some i => G.blk i | none => 0
  cap j := match toO lk j with | some i => G.cap i | none => 0
  cblk j := match toO lk j with | some i => G.cblk i | none => fun _ _ => 0
  ccap j := match toO lk j with | some i => G.ccap i | none => fun _ _ => 0

theorem renL_get : ∀ {vs ys : List LV}, renL lk vs = some ys → ys.length = vs.length ∧ ∀ (k : Nat) (y : LV), ys[k]? = some y → ∃ x, vs[k]? = some x ∧ renO lk x = some y := by
  intro vs
  induction vs with
  | nil => intro ys h; cases h; exact ⟨rfl, fun k y hk => by simp at hk⟩
  | cons v vs ih =>
    intro ys h
    simp only [renL] at h
    split at h
    · rename_i y ys' h1 h2
      cases h
      obtain ⟨i1, i2⟩ := ih h2
      refine ⟨by simp [i1], fun k z hk => ?_⟩
      cases k with
      | zero => simp at hk; subst hk; exact ⟨v, by simp, h1⟩
      | succ k => simpa using i2 k z (by simpa using hk)
    · cases h

theorem fst_unique {i j j' : Id} : ∀ {lk : List (Id × Id)}, (lk.map (·.1)).Nodup → (i, j) ∈ lk → (i, j') ∈ lk → j = j' := by
  intro lk
  induction lk with
  | nil => intro _ h; simp at h
  | cons p l ih =>
    intro hn h1 h2
    simp only [List.map_cons, List.nodup_cons, List.mem_map, not_exists, not_and] at hn
    rcases List.mem_cons.1 h1 with e1 | h1 <;> rcases List.mem_cons.1 h2 with e2 | h2
    · rw [← e1] at e2; cases e2; rfl
    · exact absurd (by rw [← e1]) (hn.1 (i, j') h2)
    · exact absurd (by rw [← e2]) (hn.1 (i, j) h1)
    · exact ih hn.2 h1 h2
theorem OwC.named {G' : Gh} {i j : Id} {r c : Nat} {x : Cell} {v : Value} (h : OwC G S w i r c x v) (h1 : G'.cblk j = G.cblk i) (h2 : G'.ccap j = G.ccap i) : OwC G' S w j r c x v := by
  cases x with
  | un => trivial
  | sc u => exact h
  | nl => exact h
  | sl o e n rows =>
    cases o with
    | false => exact h
    | true => obtain ⟨k1, k2⟩ := h; exact ⟨by rw [h1, h2]; exact k1, by rw [h1, h2]; exact k2⟩

theorem clean_SA (h : SA nt ov S N G st a w) (hd1 : (lk.map (·.1)).Nodup) {keep : List Nat} (hc : cleanBy lk keep st = some st') : ∃ G', SA nt ov S N G' st' a w := by
  unfold cleanBy at hc
  split at hc
  case isFalse => cases hc
  rename_i hcond
  simp only [Bool.and_eq_true] at hcond
  obtain ⟨hnd, hth⟩ := hcond
  have hd2 := noDup_nodup hnd
  cases hc
  have look_new : ∀ i j ch, (i, j) ∈ lk → look (newM lk st.m) j ch = look st.m i ch := by
    intro i j ch hij
    have hO := toO_of hd2 hij
    unfold look newM
    simp only [hO]
    cases hm : st.m i with
    | none => rfl
    | some t =>
      cases t with
      | box cells =>
        simp only [renT]
        cases renL lk cells <;> rfl
      | arr e n rows => rfl
      | dead => rfl
  have gh_new : ∀ i j, (i, j) ∈ lk → (newGh lk G).blk j = G.blk i ∧ (newGh lk G).cap j = G.cap i ∧ (newGh lk G).cblk j = G.cblk i ∧ (newGh lk G).ccap j = G.ccap i := by
    intro i j hij
    have hO := toO_of hd2 hij
    simp only [newGh, hO, and_self]
  have blk_new : ∀ i j ch, (i, j) ∈ lk → (newGh lk G).blkOf j ch = G.blkOf i ch ∧ (newGh lk G).capOf j ch = G.capOf i ch := by
    intro i j ch hij
    obtain ⟨g1, g2, g3, g4⟩ := gh_new i j hij
    cases ch with
    | none => exact ⟨g1, g2⟩
    | some rc => exact ⟨by simp only [Gh.blkOf, g3], by simp only [Gh.capOf, g4]⟩
  have ne_new : ∀ i j, (i, j) ∈ lk → st.m i ≠ none → newM lk st.m j ≠ none := by
    intro i j hij hi
    have hO := toO_of hd2 hij
    unfold newM
    simp only [hO]
    cases hm : st.m i with
    | none => exact absurd hm hi
    | some t =>
      have := thOk_get hth (i, j) hij t hm
      simp only []
      intro e; rw [e] at this; cases this
  have r0 : ∀ x y u, R0 G S st.m w x u → wf0 st.m x → renO lk x = some y → R0 (newGh lk G) S (newM lk st.m) w y u ∧ wf0 (newM lk st.m) y := by
    intro x y u hx hw hy
    cases x <;> simp only [renO] at hy <;> try (cases hy; exact ⟨hx, trivial⟩)
    case rf i ch lo n =>
      split at hy
      case h_2 => cases hy
      rename_i j hj
      cases hy
      have hm := toN_mem hj
      simp only [R0] at hx ⊢
      rw [look_new i j ch hm, (blk_new i j ch hm).1, (blk_new i j ch hm).2]
      exact ⟨hx, ne_new i j hm hw⟩
    case bp i off =>
      split at hy
      case h_2 => cases hy
      rename_i j hj
      cases hy
      have hm := toN_mem hj
      refine ⟨?_, ne_new i j hm hw⟩
      have one := R0_one hx (by simp)
      simp only [R0]
      split
      · rename_i c' hc'
        unfold newM at hc'
        simp only [toO_of hd2 hm] at hc'
        cases hmi : st.m i with
        | none => rw [hmi] at hc'; cases hc'
        | some t =>
          rw [hmi] at hc'
          cases t with
          | box cells =>
            simp only [R0, hmi] at hx
            rw [(gh_new i j hm).1]; exact hx
          | arr e n rows => simp only [renT] at hc'; cases hc'
          | dead => simp only [renT] at hc'; cases hc'
      · exact one
    case ep i ch r c =>
      split at hy
      case h_2 => cases hy
      rename_i j hj
      cases hy
      have hm := toN_mem hj
      simp only [R0] at hx ⊢
      rw [look_new i j ch hm, (blk_new i j ch hm).1]
      exact ⟨hx, ne_new i j hm hw⟩
  have rl : ∀ vs ys cs, RL (R0 G S st.m w) vs cs → (∀ x ∈ vs, wf0 st.m x) → renL lk vs = some ys → RL (R0 (newGh lk G) S (newM lk st.m) w) ys cs ∧ ∀ y ∈ ys, wf0 (newM lk st.m) y := by
    intro vs ys cs hr hw hy
    obtain ⟨g1, g2⟩ := renL_get hy
    refine ⟨⟨by rw [hr.1, g1], fun k y hk => ?_⟩, fun y hy' => ?_⟩
    · obtain ⟨x, hx, hxy⟩ := g2 k y hk
      obtain ⟨u, u1, u2⟩ := hr.2 k x hx
      exact ⟨u, u1, (r0 x y u u2 (hw x (List.mem_of_getElem? hx)) hxy).1⟩
    · obtain ⟨k, hk⟩ := List.getElem?_of_mem hy'
      obtain ⟨x, hx, hxy⟩ := g2 k y hk
      obtain ⟨u, u1, u2⟩ := hr.2 k x hx
      exact (r0 x y u u2 (hw x (List.mem_of_getElem? hx)) hxy).2
  have rv : ∀ x u, R G S st.m w x u → wf st.m x → R (newGh lk G) S (newM lk st.m) w (renV lk x) u ∧ wf (newM lk st.m) (renV lk x) := by
    intro x u hx hw
    cases x
    case ag vs =>
      simp only [renV]
      split
      · rename_i l hl
        obtain ⟨cs, rfl, q⟩ := hx
        obtain ⟨k1, k2⟩ := rl vs l cs q hw hl
        exact ⟨⟨cs, rfl, k1⟩, k2⟩
      · exact ⟨trivial, trivial⟩
    case cl f vs =>
      simp only [renV]
      split
      · rename_i l hl
        obtain ⟨cs, rfl, q⟩ := hx
        obtain ⟨k1, k2⟩ := rl vs l cs q hw hl
        exact ⟨⟨cs, rfl, k1⟩, k2⟩
      · exact ⟨trivial, trivial⟩
    case tu vs =>
      cases vs with
      | nil =>
        obtain ⟨cs, rfl, q1, q2⟩ := hx
        exact ⟨⟨cs, rfl, q1, fun k x hk => by simp at hk⟩, fun x hx => by simp at hx⟩
      | cons _ _ => exact ⟨trivial, trivial⟩
    all_goals
      simp only [R, R1] at hx
      simp only [wf, wf1] at hw
      simp only [renV]
      split
      · rename_i y hy
        obtain ⟨k1, k2⟩ := r0 _ y u hx hw hy
        have hfl := R0_notag k1
        cases y <;> first | exact ⟨k1, k2⟩ | exact hfl.elim | exact k1.elim
      · exact ⟨trivial, trivial⟩
  have lv : ∀ p, live (newM lk st.m) p → ∃ q, live st.m q ∧ (newGh lk G).at p = G.at q ∧ ((∃ i j, (i, j) ∈ lk ∧ p = .root j ∧ q = .root i) ∨ ∃ i j r c, (i, j) ∈ lk ∧ p = .chld j r c ∧ q = .chld i r c) := by
    intro p hp
    cases p with
    | root j =>
      have hne : newM lk st.m j ≠ none := by rcases hp with ⟨_, q⟩ | ⟨_, _, _, q⟩ <;> rw [q] <;> simp
      cases hO : toO lk j with
      | none => unfold newM at hne; simp [hO] at hne
      | some i =>
        have hij := toO_mem hO
        refine ⟨.root i, ?_, (gh_new i j hij).1, .inl ⟨i, j, hij, rfl, rfl⟩⟩
        rcases hp with ⟨c, q⟩ | ⟨e, n, rows, q⟩
        · unfold newM at q
          simp only [hO] at q
          cases hm : st.m i with
          | none => rw [hm] at q; cases q
          | some t =>
            rw [hm] at q
            cases t with
            | box cells => exact .inl ⟨cells, hm⟩
            | arr e n rows => exact .inr ⟨e, n, rows, hm⟩
            | dead => simp only [renT] at q; cases q
        · unfold newM at q
          simp only [hO] at q
          cases hm : st.m i with
          | none => rw [hm] at q; cases q
          | some t =>
            rw [hm] at q
            cases t with
            | box cells => exact .inl ⟨cells, hm⟩
            | arr e n rows => exact .inr ⟨e, n, rows, hm⟩
            | dead => simp only [renT] at q; cases q
    | chld j r c =>
      obtain ⟨e, n, rows, row, e', n', l, q1, q2, q3⟩ := hp
      cases hO : toO lk j with
      | none => unfold newM at q1; simp [hO] at q1
      | some i =>
        have hij := toO_mem hO
        have hm : st.m i = some (.arr e n rows) := by
          unfold newM at q1
          simp only [hO] at q1
          cases hm : st.m i with
          | none => rw [hm] at q1; cases q1
          | some t =>
            rw [hm] at q1
            cases t with
            | box cells => simp only [renT] at q1; split at q1 <;> cases q1
            | arr e n rows => simp only [renT] at q1; cases q1; rfl
            | dead => simp only [renT] at q1; cases q1
        exact ⟨.chld i r c, ⟨e, n, rows, row, e', n', l, hm, q2, q3⟩, by simp only [Gh.at, (gh_new i j hij).2.2.1], .inr ⟨i, j, r, c, hij, rfl, rfl⟩⟩
  have olds : ∀ {i j j'}, (i, j) ∈ lk → (i, j') ∈ lk → j = j' := by
    intro i j j' h1 h2
    exact fst_unique hd1 h1 h2
  refine ⟨newGh lk G, ⟨⟨⟨fun j e n rows hj => ?_, fun j cells hj => ?_, fun p q hp hq he => ?_, fun p hp => ?_, h.inv.old⟩, fun t => ?_, h.df, h.new, h.tb⟩, h.size, h.few⟩⟩
  · cases hO : toO lk j with
    | none => unfold newM at hj; simp [hO] at hj
    | some i =>
      have hij := toO_mem hO
      have hm : st.m i = some (.arr e n rows) := by
        unfold newM at hj
        simp only [hO] at hj
        cases hm : st.m i with
        | none => rw [hm] at hj; cases hj
        | some t =>
          rw [hm] at hj
          cases t with
          | box cells => simp only [renT] at hj; split at hj <;> cases hj
          | arr e n rows => simp only [renT] at hj; cases hj; rfl
          | dead => simp only [renT] at hj; cases hj
      obtain ⟨g1, g2, g3, g4⟩ := gh_new i j hij
      rw [g1, g2]
      exact OwG.mono (h.inv.arr i e n rows hm) rfl fun r c row x u _ _ ho => OwC.named ho g3 g4
  · cases hO : toO lk j with
    | none => unfold newM at hj; simp [hO] at hj
    | some i =>
      have hij := toO_mem hO
      unfold newM at hj
      simp only [hO] at hj
      cases hm : st.m i with
      | none => rw [hm] at hj; cases hj
      | some t =>
        rw [hm] at hj
        cases t with
        | arr e n rows => simp only [renT] at hj; cases hj
        | dead => simp only [renT] at hj; cases hj
        | box old =>
          simp only [renT] at hj
          split at hj
          case h_2 => cases hj
          rename_i l hl
          cases hj
          obtain ⟨cs, e, k1, k2⟩ := h.inv.box i old hm
          obtain ⟨g1, g2⟩ := renL_get hl
          refine ⟨cs, e, by rw [(gh_new i j hij).1]; exact k1, by rw [k2.1, g1], fun k y hk => ?_⟩
          obtain ⟨x, hx, hxy⟩ := g2 k y hk
          obtain ⟨u, u1, u2, u3, u4⟩ := k2.2 k x hx
          obtain ⟨q1, q2⟩ := r0 x y u u2 u4 hxy
          refine ⟨u, u1, q1, ?_, q2⟩
          cases x <;> simp only [renO] at hxy <;> first | (cases hxy; exact u3) | (split at hxy <;> cases hxy; rfl)
  · obtain ⟨p', p1, p2, p3⟩ := lv p hp
    obtain ⟨q', q1, q2, q3⟩ := lv q hq
    have := h.inv.inj p' q' p1 q1 (by rw [← p2, ← q2, he])
    subst this
    rcases p3 with ⟨i, j, h1, rfl, rfl⟩ | ⟨i, j, r, c, h1, rfl, rfl⟩ <;> rcases q3 with ⟨i', j', h2, rfl, e⟩ | ⟨i', j', r', c', h2, rfl, e⟩ <;> cases e
    · rw [olds h1 h2]
    · rw [olds h1 h2]
  · obtain ⟨p', p1, p2, _⟩ := lv p hp
    rw [p2]
    exact h.inv.sep p' p1
  · obtain ⟨q1, q2⟩ := h.slot t
    simp only []
    split
    · exact rv _ _ q1 q2
    · exact ⟨trivial, trivial⟩
end
/-! ### a slice's memory, cut to what the slice sees -/
def trmY (i : Id) (n : Nat) (s : Nat → LV) (m : Mem) : Option Thing → St
  | some (.arr e k rows) => if n < rows.length then ⟨s, updM m i (some (.arr e k (rows.take n)))⟩ else ⟨s, m⟩
  | _ => ⟨s, m⟩
def trmX (s : Nat → LV) (m : Mem) : LV → St
  | .rf i none 0 n => trmY i n s m (m i)
  | _ => ⟨s, m⟩
def trmS (t : Nat) (st : St) : St := trmX st.s st.m (st.s t)
section
variable {P : Program} {ov : Ov} {S N : Nat → Prop} {G : Gh} {st : St} {a : Act} {w : World} {nt : Nat}
theorem trm_SA (h : SA nt ov S N G st a w) (t : Nat) : SA nt ov S N G (trmS t st) a w := by
  unfold trmS trmX
  split
  case h_2 => exact h
  rename_i i n _
  unfold trmY
  split
  case h_2 => exact h
  rename_i e k rows hi
  split
  case isFalse => exact h
  rename_i hn
  have hlook : ∀ j ch q', look (updM st.m i (some (.arr e k (rows.take n)))) j ch = some q' → ∃ q, look st.m j ch = some q ∧ q.2.1 = q'.2.1 := by
    intro j ch q' hq
    by_cases hj : j = i
    · subst hj
      simp only [look, updM_eq] at hq
      simp only [look, hi]
      cases ch with
      | none => cases hq; exact ⟨_, rfl, rfl⟩
      | some rc =>
        obtain ⟨r, c⟩ := rc
        simp only at hq ⊢
        by_cases hr : r < n
        · rw [List.getElem?_take, if_pos hr] at hq
          exact ⟨q', hq, rfl⟩
        · rw [List.getElem?_take, if_neg hr] at hq
          cases hq
    · refine ⟨q', ?_, rfl⟩
      simp only [look, updM_ne hj] at hq
      simp only [look]
      exact hq
  have hk : Keep G st.m G (updM st.m i (some (.arr e k (rows.take n)))) := by
    refine ⟨fun j hj => ?_, fun j ch q' _ hq => ?_, fun j c' _ hj => ?_⟩
    · by_cases hji : j = i
      · subst hji; rw [updM_eq]; simp
      · rw [updM_ne hji]; exact hj
    · obtain ⟨q, h1, h2⟩ := hlook j ch q' hq
      exact ⟨q, h1, h2, rfl, rfl⟩
    · by_cases hji : j = i
      · subst hji; rw [updM_eq] at hj; cases hj
      · rw [updM_ne hji] at hj; exact ⟨⟨c', hj⟩, rfl⟩
  have hlive : ∀ p, live (updM st.m i (some (.arr e k (rows.take n)))) p → live st.m p := by
    intro p hp
    cases p with
    | root j =>
      by_cases hj : j = i
      · subst hj; exact .inr ⟨e, k, rows, hi⟩
      · simp only [live] at hp ⊢; rw [updM_ne hj] at hp; exact hp
    | chld j r c =>
      obtain ⟨e', n', R1, row, e2, n2, l, h1, h2, h3⟩ := hp
      by_cases hj : j = i
      · subst hj
        rw [updM_eq] at h1
        cases h1
        rw [List.getElem?_take] at h2
        split at h2
        · exact ⟨e, k, rows, row, e2, n2, l, hi, h2, h3⟩
        · cases h2
      · rw [updM_ne hj] at h1; exact ⟨e', n', R1, row, e2, n2, l, h1, h2, h3⟩
  have hS : ∀ b, S b → w.heap[b]? = w.heap[b]? := fun _ _ => rfl
  refine ⟨⟨⟨fun j e2 n2 R1 hj => ?_, fun j c hj => ?_, fun p q hp hq he => h.inv.inj p q (hlive p hp) (hlive q hq) he, fun p hp => h.inv.sep p (hlive p hp), h.inv.old⟩, fun t' => ⟨R.write hS hk (h.slot t').2 (h.slot t').1, wf.ext hk.ne (h.slot t').2⟩, h.df, h.new, h.tb⟩, h.size, h.few⟩
  · have hj : updM st.m i (some (.arr e k (rows.take n))) j = some (.arr e2 n2 R1) := hj
    by_cases hji : j = i
    · subst hji
      rw [updM_eq] at hj
      cases hj
      obtain ⟨cs, k1, k2, k3, k4, k5⟩ := h.inv.arr j e k rows hi
      refine ⟨cs, k1, k2, by rw [List.length_take]; omega, k4, fun r row hr => ?_⟩
      rw [List.getElem?_take] at hr
      split at hr
      · exact k5 r row hr
      · cases hr
    · rw [updM_ne hji] at hj; exact h.inv.arr j e2 n2 R1 hj
  · have hj : updM st.m i (some (.arr e k (rows.take n))) j = some (.box c) := hj
    by_cases hji : j = i
    · subst hji; rw [updM_eq] at hj; cases hj
    · rw [updM_ne hji] at hj
      obtain ⟨cs0, e0, k1, k2⟩ := h.inv.box j c hj
      exact ⟨cs0, e0, k1, k2.mono fun x u _ hx => ⟨R0.write hS hk hx.2.2 hx.1, hx.2.1, wf0.ext hk.ne hx.2.2⟩⟩
end
end Go.Proofs.YthnkioafikmmaaaDoor.Ev
