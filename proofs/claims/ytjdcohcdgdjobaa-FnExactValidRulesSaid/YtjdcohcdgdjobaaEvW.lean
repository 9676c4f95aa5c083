/- Regions. -/
import Derived.Test.YtjdcohcdgdjobaaEvV
namespace Go.Proofs.Ytjdcohcdgdjobaa.Ev
open Go
set_option linter.unusedVariables false
set_option linter.unusedSimpArgs false

def cList (f : Oper → Option OpI) : List Oper → Option (List OpI)
  | [] => some []
  | o :: l => match f o, cList f l with | some x, some xs => some (x :: xs) | _, _ => none
theorem cList_get {f : Oper → Option OpI} : ∀ {l : List Oper} {xs : List OpI}, cList f l = some xs → xs.length = l.length ∧ ∀ (i : Nat) (x : OpI), xs[i]? = some x → ∃ o, l[i]? = some o ∧ f o = some x := by
  intro l
  induction l with
  | nil => intro xs h; cases h; exact ⟨rfl, fun i x hi => by simp at hi⟩
  | cons o l ih =>
    intro xs h
    simp only [cList] at h
    split at h
    · rename_i x ys h1 h2
      cases h
      obtain ⟨i1, i2⟩ := ih h2
      refine ⟨by simp [i1], fun i y hi => ?_⟩
      cases i with
      | zero => simp at hi; subst hi; exact ⟨o, by simp, h1⟩
      | succ i => simpa using i2 i y (by simpa using hi)
    · cases h

/-- is every two's order told, or of no account? -/
def ordOk (ops : Array Oper) (ios : List OpI) : Bool :=
  (List.range ops.size).all fun i =>
    match ops[i]?, ios[i]? with
    | some o, some y => (o.after.all fun e => !Region.binds .any e || decide (e.on < i)) && (List.range i).all fun j => o.after.any (fun e => Region.binds .any e && e.on == j) || (match ios[j]? with | some x => swapOk x y | none => false)
    | _, _ => false

section
variable {P : Program} {S N : Nat → Prop} {G G0 : Gh} {m : Mem} {st st' : St} {a : Act} {w : World} {nt : Nat} {ops : Array Oper} {ios : List OpI} {call : CallF} {Q : Exit → Act → World → Prop}

def Came (P : Program) (nt : Nat) (ops : Array Oper) (ios : List OpI) : Prop := ios.length = ops.size ∧ ∀ (i : Nat) (x : OpI), ios[i]? = some x → ∃ o, ops[i]? = some o ∧ cIO P nt ops o = some x
theorem came_of (h : cList (cIO P nt ops) ops.toList = some ios) : Came P nt ops ios := by
  obtain ⟨h1, h2⟩ := cList_get h
  exact ⟨by simpa using h1, fun i x hi => by obtain ⟨o, q1, q2⟩ := h2 i x hi; exact ⟨o, by simpa using q1, q2⟩⟩

def sel (ios : List OpI) (l : List Nat) : List OpI := l.filterMap (ios[·]?)

theorem ops_wp (hcall : CallOk P call) (hc : Came P nt ops ios) : ∀ (l : List Nat) {st : St} {G : Gh} {a : Act} {w : World}, (∀ i ∈ l, i < ios.length) → SA nt S N G st a w → evL call (sel ios l) st = some st' →
    (∀ G' a' w', SA nt S N G' st' a' w' → FrN N w w' → Q .normal a' w') → wpOps P ops Q l a w := by
  intro l
  induction l with
  | nil => intro st G a w _ h hv hQ; cases hv; exact hQ G a w h (FrN.refl _ _)
  | cons i l ih =>
    intro st G a w hl h hv hQ
    have hi : i < ios.length := hl i (by simp)
    have hx : ios[i]? = some ios[i] := List.getElem?_eq_getElem hi
    obtain ⟨o, q1, q2⟩ := hc.2 i _ hx
    simp only [sel, List.filterMap_cons, hx] at hv
    simp only [evL] at hv
    split at hv
    case h_2 => cases hv
    rename_i s1 h1
    rw [wpOps_cons]
    exact evO_wpOp h hcall q1 q2 h1 fun G' a' w' hs hf => ih (fun j hj => hl j (by simp [hj])) hs hv fun G2 a2 w2 hs2 hf2 => hQ G2 a2 w2 hs2 (hf.trans hf2)

theorem sel_range (ios : List OpI) : sel ios (List.range ios.length) = ios := by
  have key : ∀ (l pre : List OpI), (List.range' pre.length l.length).filterMap ((pre ++ l)[·]?) = l := by
    intro l
    induction l with
    | nil => intro pre; rfl
    | cons x xs ih =>
      intro pre
      simp only [List.length_cons, List.range'_succ, List.filterMap_cons]
      rw [List.getElem?_append_right (Nat.le_refl _), Nat.sub_self, List.getElem?_cons_zero]
      simp only []
      have := ih (pre ++ [x])
      simp only [List.length_append, List.length_cons, List.length_nil, List.append_assoc, List.singleton_append, Nat.zero_add] at this
      rw [this]
  have := key ios []
  simpa [sel, List.range_eq_range'] using this

theorem reg_wp (h : SA nt S N G st a w) (hcall : CallOk P call) (hc : Came P nt ops ios) (hv : evL call ios st = some st') {id : Nat} (hQ : ∀ G' a' w', SA nt S N G' st' a' w' → FrN N w w' → Q .normal a' w') : (Code.region id ops false).wp P Q a w := by
  refine wp_region ?_
  rw [← hc.1]
  exact ops_wp hcall hc _ (fun i hi => by simpa using hi) h (by rw [sel_range]; exact hv) hQ

/-- one moves to the front -/
theorem bubble (hcall : CallOk P call) {y : OpI} {zs : List OpI} {s2 : St} : ∀ (xs : List OpI) {st : St} {G : Gh} {a : Act} {w : World}, SA nt S N G st a w → (∀ x ∈ xs, ∃ o, cIO P nt ops o = some x) → (∀ x ∈ xs, swapOk x y = true) →
    evL call (xs ++ y :: zs) st = some s2 → evL call (y :: (xs ++ zs)) st = some s2 := by
  intro xs
  induction xs with
  | nil => intro st G a w _ _ _ hv; exact hv
  | cons x xs ih =>
    intro st G a w h hcx hok hv
    simp only [List.cons_append, evL] at hv
    split at hv
    case h_2 => cases hv
    rename_i s1 h1
    obtain ⟨o, ho⟩ := hcx x (by simp)
    obtain ⟨G', a', w', hs⟩ := evO_ok h hcall ho h1
    have := ih hs (fun z hz => hcx z (by simp [hz])) (fun z hz => hok z (by simp [hz])) hv
    simp only [evL] at this
    split at this
    case h_2 => cases this
    rename_i s1y h2
    obtain ⟨t, t1, t2⟩ := swap h.toSR (hok x (by simp)) h1 h2
    simp only [List.cons_append, evL, t1, t2]
    exact this

theorem any_wp (hcall : CallOk P call) (hc : Came P nt ops ios) (hord : ordOk ops ios = true) : ∀ (fuel : Nat) (rest : List Nat) (listed : Array Bool) {st : St} {G : Gh} {a : Act} {w : World}, rest.length = fuel → rest.Pairwise (· < ·) →
    (∀ i ∈ rest, i < ops.size) → (∀ i, i < ops.size → (i ∈ rest ↔ listed.getD i true = false)) → listed.size = ops.size → SA nt S N G st a w → evL call (sel ios rest) st = some st' →
    (∀ G' a' w', SA nt S N G' st' a' w' → FrN N w w' → Q .normal a' w') → wpAny P .any ops Q fuel listed a w := by
  have ord : ∀ i o, ops[i]? = some o → ∃ y, ios[i]? = some y ∧ (∀ e ∈ o.after, Region.binds .any e = true → e.on < i) ∧ ∀ j, j < i → (∃ e ∈ o.after, Region.binds .any e = true ∧ e.on = j) ∨ ∃ x, ios[j]? = some x ∧ swapOk x y = true := by
    intro i o hi
    have hlt : i < ops.size := (Array.getElem?_eq_some_iff.1 hi).1
    have h1 := List.all_eq_true.1 hord i (by simpa using hlt)
    have hy : ios[i]? = some (ios[i]'(by rw [hc.1]; exact hlt)) := List.getElem?_eq_getElem _
    rw [hi, hy] at h1
    simp only [Bool.and_eq_true, List.all_eq_true, List.mem_range, Bool.or_eq_true, Array.any_eq_true'] at h1
    refine ⟨_, hy, fun e he hb => ?_, fun j hj => ?_⟩
    · have h2 := Array.all_eq_true_iff_forall_mem.1 h1.1 e he
      simpa [hb] using h2
    · rcases h1.2 j hj with ⟨e, he, hb⟩ | h2
      · simp only [Bool.and_eq_true, beq_iff_eq] at hb
        exact .inl ⟨e, he, hb.1, hb.2⟩
      · split at h2
        · rename_i x hx; exact .inr ⟨x, hx, h2⟩
        · cases h2
  intro fuel
  induction fuel with
  | zero =>
    intro rest listed st G a w hlen _ _ hmem hls h hv hQ
    have : rest = [] := List.eq_nil_of_length_eq_zero hlen
    subst this
    cases hv
    refine ⟨?_, hQ G a w h (FrN.refl _ _)⟩
    refine List.eq_nil_iff_forall_not_mem.2 fun j hj => ?_
    obtain ⟨h0, o, ho, _⟩ := mem_ready.1 hj
    have := (hmem j (Array.getElem?_eq_some_iff.1 ho).1).2 h0
    simp at this
  | succ fuel ih =>
    intro rest listed st G a w hlen hsort hin hmem hls h hv hQ
    refine ⟨fun hnil => ?_, fun i hi => ?_⟩
    · exfalso
      cases rest with
      | nil => simp at hlen
      | cons i rest =>
        have hi : i < ops.size := hin i (by simp)
        have hio : ops[i]? = some ops[i] := Array.getElem?_eq_getElem hi
        have : i ∈ Region.ready .any ops listed := by
          refine mem_ready.2 ⟨(hmem i hi).1 (by simp), _, hio, fun e he hb => ?_⟩
          obtain ⟨y, _, h2, _⟩ := ord i _ hio
          have hlt := h2 e he hb
          have hes : e.on < ops.size := by omega
          have hnm : e.on ∉ i :: rest := by
            intro hm
            rcases List.mem_cons.1 hm with h3 | h3
            · omega
            · have := List.rel_of_pairwise_cons hsort h3; omega
          have h4 : ¬ listed.getD e.on true = false := fun q => hnm ((hmem e.on hes).2 q)
          have hlt2 : e.on < listed.size := by omega
          simp only [Array.getD_eq_getD_getElem?, Array.getElem?_eq_getElem hlt2, Option.getD_some] at h4 ⊢
          simpa using h4
        rw [hnil] at this
        cases this
    · obtain ⟨h0, o, ho, hall⟩ := mem_ready.1 hi
      have hlt : i < ops.size := (Array.getElem?_eq_some_iff.1 ho).1
      have him : i ∈ rest := (hmem i hlt).2 h0
      obtain ⟨pre, post, rfl⟩ := List.append_of_mem him
      obtain ⟨y, hy, _, hy2⟩ := ord i o ho
      obtain ⟨o', ho', hcy⟩ := hc.2 i y hy
      rw [ho] at ho'
      cases ho'
      have hsel : sel ios (pre ++ i :: post) = sel ios pre ++ y :: sel ios post := by simp [sel, hy]
      rw [hsel] at hv
      have hpre : ∀ x ∈ sel ios pre, (∃ o, cIO P nt ops o = some x) ∧ swapOk x y = true := by
        intro x hx
        simp only [sel, List.mem_filterMap] at hx
        obtain ⟨j, hj, hjx⟩ := hx
        obtain ⟨oj, _, hcj⟩ := hc.2 j x hjx
        have hji : j < i := (List.pairwise_append.1 hsort).2.2 j hj i (by simp)
        refine ⟨⟨oj, hcj⟩, ?_⟩
        rcases hy2 j hji with ⟨e, he, hb, rfl⟩ | ⟨x', hx', hs⟩
        · have h1 := hall e he hb
          have h2 := (hmem e.on (by omega)).1 (by simp [hj])
          have hlt2 : e.on < listed.size := by omega
          simp only [Array.getD_eq_getD_getElem?, Array.getElem?_eq_getElem hlt2, Option.getD_some] at h1 h2
          rw [h1] at h2; cases h2
        · rw [hjx] at hx'; cases hx'; exact hs
      have hb := bubble (ops := ops) hcall (sel ios pre) h (fun x hx => (hpre x hx).1) (fun x hx => (hpre x hx).2) hv
      simp only [evL] at hb
      split at hb
      case h_2 => cases hb
      rename_i s1 h1
      refine evO_wpOp h hcall ho hcy h1 fun G' a' w' hs hf => ?_
      have hnd : (pre ++ i :: post).Nodup := hsort.imp (fun h => Nat.ne_of_lt h)
      refine ih (pre ++ post) _ (by simp at hlen ⊢; omega) ?_ (fun j hj => hin j ?_) (fun j hj => ?_) (by simp [hls]) hs (by simpa [sel] using hb) fun G2 a2 w2 hs2 hf2 => hQ G2 a2 w2 hs2 (hf.trans hf2)
      · rw [List.pairwise_append] at hsort ⊢
        refine ⟨hsort.1, (List.pairwise_cons.1 hsort.2.1).2, fun x hx z hz => hsort.2.2 x hx z (by simp [hz])⟩
      · simp only [List.mem_append, List.mem_cons] at hj ⊢
        rcases hj with hj | hj
        · exact .inl hj
        · exact .inr (.inr hj)
      · have hm := hmem j hj
        by_cases hji : j = i
        · subst hji
          have : j < listed.size := by omega
          constructor
          · intro hjm
            rw [List.nodup_append] at hnd
            simp only [List.mem_append] at hjm
            rcases hjm with hjm | hjm
            · exact absurd rfl (hnd.2.2 j hjm j (by simp))
            · exact absurd hjm (List.nodup_cons.1 hnd.2.1).1
          · intro hq
            simp [this] at hq
        · rw [getD_set_ne true (Ne.symm hji), ← hm]
          simp [hji]

theorem reg_wp_any (h : SA nt S N G st a w) (hm : P.follows .mixedOrders = true) (hcall : CallOk P call) (hc : Came P nt ops ios) (hord : ordOk ops ios = true) (hv : evL call ios st = some st') {id : Nat}
    (hQ : ∀ G' a' w', SA nt S N G' st' a' w' → FrN N w w' → Q .normal a' w') : (Code.region id ops true).wp P Q a w := by
  refine wp_region_any hm ?_
  have h' : SA nt S N G st a { w with drawn := w.drawn + 1 } :=
    ⟨⟨h.inv.ext (fun _ _ => rfl) (Nat.le_refl _), fun t => ⟨R.ext h.inv.old ⟨fun _ _ => rfl, fun _ _ => ⟨rfl, rfl, rfl, rfl⟩, fun _ _ => rfl, Nat.le_refl _⟩ (h.slot t).2 (h.slot t).1, (h.slot t).2⟩, h.df, h.new⟩, h.size⟩
  refine any_wp hcall hc hord ops.size (List.range ops.size) _ (by simp) List.pairwise_lt_range (fun i hi => by simpa using hi) (fun i hi => by simp [hi]) (by simp) h' (by rw [← hc.1, sel_range]; exact hv) fun G' a' w' hs hf => hQ G' a' w' hs ⟨hf.os, hf.tape, hf.output, hf.size, hf.block⟩
end
end Go.Proofs.Ytjdcohcdgdjobaa.Ev
