/- Regions. -/
import Derived.Test.YtjdcohcdgdjobaaEvV
namespace Go.Proofs.Ytjdcohcdgdjobaa.Ev
open Go
set_option linter.unusedVariables false
set_option linter.unusedSimpArgs false

def cList (f : Oper → Option OpI) : List Oper → Option (List OpI)
  | [] => some []
  | o :: l => match f o, cList f l with | some x, some xs => some (x :: xs) | _, _ => none
theorem cList_get {f : Oper → Option OpI} : ∀ {l : List Oper} {xs : List OpI}, cList f l = some xs → xs.length = l.length ∧ ∀ (i : Nat) (x : OpI), xs[i]? = some x → ∃ o, l[i]? = some o ∧ f o = some x := by
  intro l
  induction l with
  | nil => intro xs h; cases h; exact ⟨rfl, fun i x hi => by simp at hi⟩
  | cons o l ih =>
    intro xs h
    simp only [cList] at h
    split at h
    · rename_i x ys h1 h2
      cases h
      obtain ⟨i1, i2⟩ := ih h2
      refine ⟨by simp [i1], fun i y hi => ?_⟩
      cases i with
      | zero => simp at hi; subst hi; exact ⟨o, by simp, h1⟩
      | succ i => simpa using i2 i y (by simpa using hi)
    · cases h

/-! what comes before an operation, whatever the order -/
def dirs (o : Oper) : List Nat := o.after.toList.filterMap fun e => if Region.binds .any e = true then some e.on else none
def insN (x : Nat) (l : List Nat) : List Nat := if l.contains x = true then l else x :: l
def uniN (a b : List Nat) : List Nat := a.foldr insN b
def ancOf (acc : List (List Nat)) (l : List Nat) : List Nat := l.foldr (fun j r => insN j (uniN (acc.getD j []) r)) []
def ancs : List Oper → List (List Nat) → List (List Nat)
  | [], acc => acc
  | o :: l, acc => ancs l (acc ++ [ancOf acc (dirs o)])

theorem insN_mem {x y : Nat} {l : List Nat} (h : y ∈ insN x l) : y = x ∨ y ∈ l := by
  unfold insN at h
  split at h
  · exact .inr h
  · simpa using h
theorem uniN_mem {y : Nat} {b : List Nat} : ∀ {a : List Nat}, y ∈ uniN a b → y ∈ a ∨ y ∈ b := by
  intro a
  induction a with
  | nil => intro h; exact .inr h
  | cons x xs ih =>
    intro h
    simp only [uniN, List.foldr_cons] at h
    rcases insN_mem h with rfl | h
    · exact .inl (by simp)
    · rcases ih h with h | h
      · exact .inl (by simp [h])
      · exact .inr h
theorem ancOf_mem {y : Nat} {acc : List (List Nat)} : ∀ {l : List Nat}, y ∈ ancOf acc l → y ∈ l ∨ ∃ k ∈ l, y ∈ acc.getD k [] := by
  intro l
  induction l with
  | nil => intro h; simp [ancOf] at h
  | cons x xs ih =>
    intro h
    simp only [ancOf, List.foldr_cons] at h
    rcases insN_mem h with rfl | h
    · exact .inl (by simp)
    · rcases uniN_mem h with h | h
      · exact .inr ⟨x, by simp, h⟩
      · rcases ih h with h | ⟨k, k1, k2⟩
        · exact .inl (by simp [h])
        · exact .inr ⟨k, by simp [k1], k2⟩
theorem getD_app {acc : List (List Nat)} {x : List Nat} {k y : Nat} (h : y ∈ acc.getD k []) : y ∈ (acc ++ [x]).getD k [] := by
  by_cases hk : k < acc.length
  · rw [List.getD_eq_getElem?_getD, List.getElem?_append_left hk, ← List.getD_eq_getElem?_getD]; exact h
  · rw [List.getD_eq_getElem?_getD, List.getElem?_eq_none (by omega)] at h
    simp at h
theorem ancs_spec : ∀ (l pre : List Oper) (acc : List (List Nat)), acc.length = pre.length → (∀ (i : Nat) (o : Oper), pre[i]? = some o → ∀ y ∈ acc.getD i [], y ∈ dirs o ∨ ∃ k ∈ dirs o, y ∈ acc.getD k []) →
    ∀ (i : Nat) (o : Oper), (pre ++ l)[i]? = some o → ∀ y ∈ (ancs l acc).getD i [], y ∈ dirs o ∨ ∃ k ∈ dirs o, y ∈ (ancs l acc).getD k [] := by
  intro l
  induction l with
  | nil => intro pre acc _ h i o hi y hy; exact h i o (by simpa using hi) y hy
  | cons o l ih =>
    intro pre acc hl h i o' hi y hy
    refine ih (pre ++ [o]) (acc ++ [ancOf acc (dirs o)]) (by simp [hl]) (fun i o' hi y hy => ?_) i o' (by simpa using hi) y hy
    by_cases hil : i < pre.length
    · rw [List.getElem?_append_left hil] at hi
      rw [List.getD_eq_getElem?_getD, List.getElem?_append_left (by omega), ← List.getD_eq_getElem?_getD] at hy
      rcases h i o' hi y hy with h1 | ⟨k, k1, k2⟩
      · exact .inl h1
      · exact .inr ⟨k, k1, getD_app k2⟩
    · rw [List.getElem?_append_right (by omega)] at hi
      have he : i = pre.length := by
        have := (List.getElem?_eq_some_iff.1 hi).1
        simp at this; omega
      subst he
      simp at hi
      subst hi
      rw [List.getD_eq_getElem?_getD, List.getElem?_append_right (by omega), hl, Nat.sub_self] at hy
      simp at hy
      rcases ancOf_mem hy with h1 | ⟨k, k1, k2⟩
      · exact .inl h1
      · exact .inr ⟨k, k1, getD_app k2⟩

/-- is every two's order told, or of no account? -/
def ordOk (ops : Array Oper) (ios : List OpI) : Bool :=
  (List.range ops.size).all fun i =>
    match ops[i]?, ios[i]? with
    | some o, some y => (dirs o).all (fun k => decide (k < i)) && (List.range i).all fun j => ((ancs ops.toList []).getD i []).contains j || (match ios[j]? with | some x => swapOk x y | none => false)
    | _, _ => false

section
variable {P : Program} {S N : Nat → Prop} {G G0 : Gh} {m : Mem} {st st' : St} {a : Act} {w : World} {nt : Nat} {ops : Array Oper} {ios : List OpI} {call : CallF} {Q : Exit → Act → World → Prop}

def Came (P : Program) (nt : Nat) (ops : Array Oper) (ios : List OpI) : Prop := ios.length = ops.size ∧ ∀ (i : Nat) (x : OpI), ios[i]? = some x → ∃ o, ops[i]? = some o ∧ cIO P nt ops o = some x
theorem came_of (h : cList (cIO P nt ops) ops.toList = some ios) : Came P nt ops ios := by
  obtain ⟨h1, h2⟩ := cList_get h
  exact ⟨by simpa using h1, fun i x hi => by obtain ⟨o, q1, q2⟩ := h2 i x hi; exact ⟨o, by simpa using q1, q2⟩⟩

def sel (ios : List OpI) (l : List Nat) : List OpI := l.filterMap (ios[·]?)

theorem ops_wp (hcall : CallOk P call) (hc : Came P nt ops ios) : ∀ (l : List Nat) {st : St} {G : Gh} {a : Act} {w : World}, (∀ i ∈ l, i < ios.length) → SA nt S N G st a w → evL call (sel ios l) st = some st' →
    (∀ G' a' w', SA nt S N G' st' a' w' → FrN N w w' → Q .normal a' w') → wpOps P ops Q l a w := by
  intro l
  induction l with
  | nil => intro st G a w _ h hv hQ; cases hv; exact hQ G a w h (FrN.refl _ _)
  | cons i l ih =>
    intro st G a w hl h hv hQ
    have hi : i < ios.length := hl i (by simp)
    have hx : ios[i]? = some ios[i] := List.getElem?_eq_getElem hi
    obtain ⟨o, q1, q2⟩ := hc.2 i _ hx
    simp only [sel, List.filterMap_cons, hx] at hv
    simp only [evL] at hv
    split at hv
    case h_2 => cases hv
    rename_i s1 h1
    rw [wpOps_cons]
    exact evO_wpOp h hcall q1 q2 h1 fun G' a' w' hs hf => ih (fun j hj => hl j (by simp [hj])) hs hv fun G2 a2 w2 hs2 hf2 => hQ G2 a2 w2 hs2 (hf.trans hf2)

theorem sel_range (ios : List OpI) : sel ios (List.range ios.length) = ios := by
  have key : ∀ (l pre : List OpI), (List.range' pre.length l.length).filterMap ((pre ++ l)[·]?) = l := by
    intro l
    induction l with
    | nil => intro pre; rfl
    | cons x xs ih =>
      intro pre
      simp only [List.length_cons, List.range'_succ, List.filterMap_cons]
      rw [List.getElem?_append_right (Nat.le_refl _), Nat.sub_self, List.getElem?_cons_zero]
      simp only []
      have := ih (pre ++ [x])
      simp only [List.length_append, List.length_cons, List.length_nil, List.append_assoc, List.singleton_append, Nat.zero_add] at this
      rw [this]
  have := key ios []
  simpa [sel, List.range_eq_range'] using this

theorem reg_wp (h : SA nt S N G st a w) (hcall : CallOk P call) (hc : Came P nt ops ios) (hv : evL call ios st = some st') {id : Nat} (hQ : ∀ G' a' w', SA nt S N G' st' a' w' → FrN N w w' → Q .normal a' w') : (Code.region id ops false).wp P Q a w := by
  refine wp_region ?_
  rw [← hc.1]
  exact ops_wp hcall hc _ (fun i hi => by simpa using hi) h (by rw [sel_range]; exact hv) hQ

/-- one moves to the front -/
theorem bubble (hcall : CallOk P call) {y : OpI} {zs : List OpI} {s2 : St} : ∀ (xs : List OpI) {st : St} {G : Gh} {a : Act} {w : World}, SA nt S N G st a w → (∀ x ∈ xs, ∃ o, cIO P nt ops o = some x) → (∀ x ∈ xs, swapOk x y = true) →
    evL call (xs ++ y :: zs) st = some s2 → evL call (y :: (xs ++ zs)) st = some s2 := by
  intro xs
  induction xs with
  | nil => intro st G a w _ _ _ hv; exact hv
  | cons x xs ih =>
    intro st G a w h hcx hok hv
    simp only [List.cons_append, evL] at hv
    split at hv
    case h_2 => cases hv
    rename_i s1 h1
    obtain ⟨o, ho⟩ := hcx x (by simp)
    obtain ⟨G', a', w', hs⟩ := evO_ok h hcall ho h1
    have := ih hs (fun z hz => hcx z (by simp [hz])) (fun z hz => hok z (by simp [hz])) hv
    simp only [evL] at this
    split at this
    case h_2 => cases this
    rename_i s1y h2
    obtain ⟨t, t1, t2⟩ := swap h.toSR (hok x (by simp)) h1 h2
    simp only [List.cons_append, evL, t1, t2]
    exact this

theorem any_wp (hcall : CallOk P call) (hc : Came P nt ops ios) (hord : ordOk ops ios = true) : ∀ (fuel : Nat) (rest : List Nat) (listed : Array Bool) {st : St} {G : Gh} {a : Act} {w : World}, rest.length = fuel → rest.Pairwise (· < ·) →
    (∀ i ∈ rest, i < ops.size) → (∀ i, i < ops.size → (i ∈ rest ↔ listed.getD i true = false)) → (∀ i, i ∉ rest → ∀ o, ops[i]? = some o → ∀ k ∈ dirs o, k ∉ rest) → listed.size = ops.size → SA nt S N G st a w → evL call (sel ios rest) st = some st' →
    (∀ G' a' w', SA nt S N G' st' a' w' → FrN N w w' → Q .normal a' w') → wpAny P .any ops Q fuel listed a w := by
  have dmem : ∀ (o : Oper) (e : Edge), e ∈ o.after → Region.binds .any e = true → e.on ∈ dirs o := by
    intro o e he hb
    refine List.mem_filterMap.2 ⟨e, by simpa using he, by simp [hb]⟩
  have dinv : ∀ (o : Oper) (k : Nat), k ∈ dirs o → ∃ e ∈ o.after, Region.binds .any e = true ∧ e.on = k := by
    intro o k hk
    obtain ⟨e, he, hq⟩ := List.mem_filterMap.1 hk
    split at hq
    · rename_i hb; cases hq; exact ⟨e, by simpa using he, hb, rfl⟩
    · cases hq
  have ord : ∀ i o, ops[i]? = some o → ∃ y, ios[i]? = some y ∧ (∀ k ∈ dirs o, k < i) ∧ ∀ j, j < i → (j ∈ (ancs ops.toList []).getD i []) ∨ ∃ x, ios[j]? = some x ∧ swapOk x y = true := by
    intro i o hi
    have hlt : i < ops.size := (Array.getElem?_eq_some_iff.1 hi).1
    have h1 := List.all_eq_true.1 hord i (by simpa using hlt)
    have hy : ios[i]? = some (ios[i]'(by rw [hc.1]; exact hlt)) := List.getElem?_eq_getElem _
    rw [hi, hy] at h1
    simp only [Bool.and_eq_true, List.all_eq_true, List.mem_range, Bool.or_eq_true, decide_eq_true_eq] at h1
    refine ⟨_, hy, h1.1, fun j hj => ?_⟩
    rcases h1.2 j hj with h2 | h2
    · exact .inl (by simpa using h2)
    · split at h2
      · rename_i x hx; exact .inr ⟨x, hx, h2⟩
      · cases h2
  have spec := ancs_spec ops.toList [] [] rfl (fun i o hi => by simp at hi)
  simp only [List.nil_append] at spec
  -- what comes before what is listed is listed
  have down : ∀ (rest : List Nat), (∀ i, i ∉ rest → ∀ o, ops[i]? = some o → ∀ k ∈ dirs o, k ∉ rest) → ∀ (i : Nat), i ∉ rest → ∀ j ∈ (ancs ops.toList []).getD i [], i < ops.size → j ∉ rest := by
    intro rest hd i
    induction i using Nat.strongRecOn with
    | _ i ih =>
      intro hi j hj hlt
      have ho : ops[i]? = some ops[i] := Array.getElem?_eq_getElem hlt
      obtain ⟨_, _, hlow, _⟩ := ord i _ ho
      rcases spec i ops[i] (by simp) j hj with h1 | ⟨k, k1, k2⟩
      · exact hd i hi _ ho j h1
      · exact ih k (hlow k k1) (hd i hi _ ho k k1) j k2 (by have := hlow k k1; omega)
  intro fuel
  induction fuel with
  | zero =>
    intro rest listed st G a w hlen _ _ hmem _ hls h hv hQ
    have : rest = [] := List.eq_nil_of_length_eq_zero hlen
    subst this
    cases hv
    refine ⟨?_, hQ G a w h (FrN.refl _ _)⟩
    refine List.eq_nil_iff_forall_not_mem.2 fun j hj => ?_
    obtain ⟨h0, o, ho, _⟩ := mem_ready.1 hj
    have := (hmem j (Array.getElem?_eq_some_iff.1 ho).1).2 h0
    simp at this
  | succ fuel ih =>
    intro rest listed st G a w hlen hsort hin hmem hdown hls h hv hQ
    refine ⟨fun hnil => ?_, fun i hi => ?_⟩
    · exfalso
      cases rest with
      | nil => simp at hlen
      | cons i rest =>
        have hi : i < ops.size := hin i (by simp)
        have hio : ops[i]? = some ops[i] := Array.getElem?_eq_getElem hi
        have : i ∈ Region.ready .any ops listed := by
          refine mem_ready.2 ⟨(hmem i hi).1 (by simp), _, hio, fun e he hb => ?_⟩
          obtain ⟨y, _, h2, _⟩ := ord i _ hio
          have hlt := h2 e.on (dmem _ e he hb)
          have hes : e.on < ops.size := by omega
          have hnm : e.on ∉ i :: rest := by
            intro hm
            rcases List.mem_cons.1 hm with h3 | h3
            · omega
            · have := List.rel_of_pairwise_cons hsort h3; omega
          have h4 : ¬ listed.getD e.on true = false := fun q => hnm ((hmem e.on hes).2 q)
          have hlt2 : e.on < listed.size := by omega
          simp only [Array.getD_eq_getD_getElem?, Array.getElem?_eq_getElem hlt2, Option.getD_some] at h4 ⊢
          simpa using h4
        rw [hnil] at this
        cases this
    · obtain ⟨h0, o, ho, hall⟩ := mem_ready.1 hi
      have hlt : i < ops.size := (Array.getElem?_eq_some_iff.1 ho).1
      have him : i ∈ rest := (hmem i hlt).2 h0
      obtain ⟨pre, post, rfl⟩ := List.append_of_mem him
      obtain ⟨y, hy, _, hy2⟩ := ord i o ho
      obtain ⟨o', ho', hcy⟩ := hc.2 i y hy
      rw [ho] at ho'
      cases ho'
      have hsel : sel ios (pre ++ i :: post) = sel ios pre ++ y :: sel ios post := by simp [sel, hy]
      rw [hsel] at hv
      have hpre : ∀ x ∈ sel ios pre, (∃ o, cIO P nt ops o = some x) ∧ swapOk x y = true := by
        intro x hx
        simp only [sel, List.mem_filterMap] at hx
        obtain ⟨j, hj, hjx⟩ := hx
        obtain ⟨oj, _, hcj⟩ := hc.2 j x hjx
        have hji : j < i := (List.pairwise_append.1 hsort).2.2 j hj i (by simp)
        refine ⟨⟨oj, hcj⟩, ?_⟩
        rcases hy2 j hji with hanc | ⟨x', hx', hs⟩
        · exfalso
          have hdir : ∀ k ∈ dirs o, k ∉ pre ++ i :: post := by
            intro k hk hkm
            obtain ⟨e, he, hb, rfl⟩ := dinv o k hk
            have h1 := hall e he hb
            have hlk := hin e.on hkm
            have h2 := (hmem e.on hlk).1 hkm
            have hlt2 : e.on < listed.size := by omega
            simp only [Array.getD_eq_getD_getElem?, Array.getElem?_eq_getElem hlt2, Option.getD_some] at h1 h2
            rw [h1] at h2; cases h2
          have hjm : j ∈ pre ++ i :: post := by simp [hj]
          rcases spec i o (by simpa using ho) j hanc with h1 | ⟨k, k1, k2⟩
          · exact hdir j h1 hjm
          · have hk := hdir k k1
            obtain ⟨_, _, hlow, _⟩ := ord i o ho
            exact down _ hdown k hk j k2 (by have := hlow k k1; omega) hjm
        · rw [hjx] at hx'; cases hx'; exact hs
      have hb := bubble (ops := ops) hcall (sel ios pre) h (fun x hx => (hpre x hx).1) (fun x hx => (hpre x hx).2) hv
      simp only [evL] at hb
      split at hb
      case h_2 => cases hb
      rename_i s1 h1
      refine evO_wpOp h hcall ho hcy h1 fun G' a' w' hs hf => ?_
      have hnd : (pre ++ i :: post).Nodup := hsort.imp (fun h => Nat.ne_of_lt h)
      refine ih (pre ++ post) _ (by simp at hlen ⊢; omega) ?_ (fun j hj => hin j ?_) (fun j hj => ?_) (fun j hj oj hoj k hk => ?_) (by simp [hls]) hs (by simpa [sel] using hb) fun G2 a2 w2 hs2 hf2 => hQ G2 a2 w2 hs2 (hf.trans hf2)
      · rw [List.pairwise_append] at hsort ⊢
        refine ⟨hsort.1, (List.pairwise_cons.1 hsort.2.1).2, fun x hx z hz => hsort.2.2 x hx z (by simp [hz])⟩
      · simp only [List.mem_append, List.mem_cons] at hj ⊢
        rcases hj with hj | hj
        · exact .inl hj
        · exact .inr (.inr hj)
      · have hm := hmem j hj
        by_cases hji : j = i
        · subst hji
          have : j < listed.size := by omega
          constructor
          · intro hjm
            rw [List.nodup_append] at hnd
            simp only [List.mem_append] at hjm
            rcases hjm with hjm | hjm
            · exact absurd rfl (hnd.2.2 j hjm j (by simp))
            · exact absurd hjm (List.nodup_cons.1 hnd.2.1).1
          · intro hq
            simp [this] at hq
        · rw [getD_set_ne true (Ne.symm hji), ← hm]
          simp [hji]
      · -- down-closed behind i
        intro hkm
        have hkm' : k ∈ pre ++ i :: post := by
          simp only [List.mem_append, List.mem_cons] at hkm ⊢
          rcases hkm with h | h
          · exact .inl h
          · exact .inr (.inr h)
        by_cases hji : j = i
        · subst hji
          rw [ho] at hoj
          cases hoj
          obtain ⟨e, he, hb, rfl⟩ := dinv o k hk
          have h1 := hall e he hb
          have hlk := hin e.on hkm'
          have h2 := (hmem e.on hlk).1 hkm'
          have hlt2 : e.on < listed.size := by omega
          simp only [Array.getD_eq_getD_getElem?, Array.getElem?_eq_getElem hlt2, Option.getD_some] at h1 h2
          rw [h1] at h2; cases h2
        · exact hdown j (by simpa [hji] using hj) oj hoj k hk hkm'

theorem reg_wp_any (h : SA nt S N G st a w) (hm : P.follows .mixedOrders = true) (hcall : CallOk P call) (hc : Came P nt ops ios) (hord : ordOk ops ios = true) (hv : evL call ios st = some st') {id : Nat}
    (hQ : ∀ G' a' w', SA nt S N G' st' a' w' → FrN N w w' → Q .normal a' w') : (Code.region id ops true).wp P Q a w := by
  refine wp_region_any hm ?_
  have h' : SA nt S N G st a { w with drawn := w.drawn + 1 } :=
    ⟨⟨h.inv.ext (fun _ _ => rfl) (Nat.le_refl _), fun t => ⟨R.ext h.inv.old ⟨fun _ _ => rfl, fun _ _ => ⟨rfl, rfl, rfl, rfl⟩, fun _ _ => rfl, Nat.le_refl _⟩ (h.slot t).2 (h.slot t).1, (h.slot t).2⟩, h.df, h.new⟩, h.size⟩
  refine any_wp hcall hc hord ops.size (List.range ops.size) _ (by simp) List.pairwise_lt_range (fun i hi => by simpa using hi) (fun i hi => by simp [hi]) (fun i hi o ho => absurd (by simpa using (Array.getElem?_eq_some_iff.1 ho).1) hi) (by simp) h' (by rw [← hc.1, sel_range]; exact hv) fun G' a' w' hs hf => hQ G' a' w' hs ⟨hf.os, hf.tape, hf.output, hf.size, hf.block⟩
end
end Go.Proofs.Ytjdcohcdgdjobaa.Ev
