/- Code, and functions. -/
import Derived.Test.YthnkioafikmmaaaDoorEv8
namespace Go.Proofs.YthnkioafikmmaaaDoor.Ev
open Go
set_option linter.unusedVariables false
set_option linter.unusedSimpArgs false

inductive IC where
  | skip
  | reg (draw : Bool) (l : List OpI)
  | rgc (cs : List Ck) (l : List OpI)
  | rgw (l : List OpI)
  | seq (a b : IC)
  | ite (c : Opd) (a b : IC)
  | block (id : Nat) (c : IC)
  | loop (keep : List Nat) (c : IC)
  | cln (k kr : List Nat) (c : IC)
  | exit (id : Nat)
  | ret
  | trm (t : Nat)

/-- the slot that is cut to a part of itself: v = v[:h] -/
def cutOf (l : List OpI) : Option Nat :=
  l.findSome? fun y => match y.op with
    | .sl _ (.t x) none (some _) => l.findSome? fun a => match a.op with
      | .mv (.t v) => if a.d = x ∧ (l.any fun b => match b.op with | .mv (.t z) => decide (z = y.d) && decide (b.d = v) | _ => false) = true then some v else none
      | _ => none
    | _ => none
def cut (l : List OpI) (c : IC) : IC := match cutOf l with | some v => .seq c (.trm v) | none => c
def isLp : IC → Bool
  | .loop _ _ => true | _ => false
/-- code, turned; each loop takes the next list of what it keeps -/
def cC (P : Program) (W : List Nat) (nt : Nat) : Code → List (List Nat) → Option (IC × List (List Nat))
  | .skip, ks => some (.skip, ks)
  | .region _ ops draw, ks =>
    match cList (cIO P nt ops) ops.toList with
    | some l => if draw = true then (if (l.any (isCw W) && ordW W ops l) = true then some (.rgw (toXs W ops l), ks) else if ordOk false ops l [] = true then some (cut l (.reg true l), ks) else if ordOk true ops (l.map strip) (mkCks ops (l.map strip)) = true then some (.rgc (mkCks ops (l.map strip)) (l.map strip), ks) else none) else if l.any (isCw W) = true then some (.rgw (l.map (toW W)), ks) else some (cut l (.reg false l), ks)
    | none => none
  | .seq a b, ks =>
    match cC P W nt a ks with
    | some (a', ks1) => (match cC P W nt b ks1 with | some (b', ks2) => some (.seq a' b', ks2) | none => none)
    | none => none
  | .cond c a b, ks =>
    match cO c, cC P W nt a ks with
    | some c', some (a', ks1) => (match cC P W nt b ks1 with | some (b', ks2) => some (.ite c' a' b', ks2) | none => none)
    | _, _ => none
  | .block id c, ks =>
    match cC P W nt c ks with
    | some (c', ks1) =>
      if isLp c' = true then (match ks1 with | k1 :: k2 :: ks2 => some (.cln k1 k2 (.block id c'), ks2) | _ => none) else some (.block id c', ks1)
    | none => none
  | .loop c, ks =>
    match ks with
    | k :: ks1 => (match cC P W nt c ks1 with | some (c', ks2) => some (.loop k c', ks2) | none => none)
    | [] => none
  | .exit id, ks => some (.exit id, ks)
  | .ret, ks => some (.ret, ks)
  | _, _ => none

inductive Ex where
  | nm | ex (id : Nat) | rt

def itn (body : St → Option (Ex × St)) (cl : St → Option St) : Nat → St → Option (Ex × St)
  | 0, _ => none
  | n + 1, st =>
    match body st with
    | some (.nm, st1) => (match cl st1 with | some st2 => itn body cl n st2 | none => none)
    | r => r
open Classical in
/-- rounds, as many as it takes -/
noncomputable def lp (body : St → Option (Ex × St)) (cl : St → Option St) (st : St) : Option (Ex × St) :=
  if h : ∃ n, (itn body cl n st).isSome = true then itn body cl (Classical.choose h) st else none

section
variable {body : St → Option (Ex × St)} {cl : St → Option St}
theorem itn_det : ∀ {n k : Nat} {st : St} {r r' : Ex × St}, itn body cl n st = some r → itn body cl k st = some r' → r = r' := by
  intro n
  induction n with
  | zero => intro k st r r' h; cases h
  | succ n ih =>
    intro k st r r' h h'
    cases k with
    | zero => cases h'
    | succ k =>
      simp only [itn] at h h'
      cases hb : body st with
      | none => rw [hb] at h; cases h
      | some p =>
        obtain ⟨e, st1⟩ := p
        rw [hb] at h h'
        cases e with
        | nm =>
          simp only [] at h h'
          cases hc : cl st1 with
          | none => rw [hc] at h; cases h
          | some st2 =>
            rw [hc] at h h'
            exact ih h h'
        | ex id => simp only [] at h h'; cases h; cases h'; rfl
        | rt => simp only [] at h h'; cases h; cases h'; rfl
theorem lp_of {n : Nat} {st : St} {r : Ex × St} (h : itn body cl n st = some r) : lp body cl st = some r := by
  have hex : ∃ n, (itn body cl n st).isSome = true := ⟨n, by rw [h]; rfl⟩
  unfold lp
  rw [dif_pos hex]
  obtain ⟨r', hr'⟩ := Option.isSome_iff_exists.1 (Classical.choose_spec hex)
  rw [hr', itn_det h hr']
theorem lp_itn {st : St} {r : Ex × St} (h : lp body cl st = some r) : ∃ n, itn body cl n st = some r := by
  unfold lp at h
  split at h
  · exact ⟨_, h⟩
  · cases h
/-- one round more -/
theorem lp_eq (st : St) : lp body cl st = match body st with | some (.nm, st1) => (match cl st1 with | some st2 => lp body cl st2 | none => none) | r => r := by
  have step : ∀ n, itn body cl (n + 1) st = match body st with | some (.nm, st1) => (match cl st1 with | some st2 => itn body cl n st2 | none => none) | r => r := fun n => rfl
  cases hb : body st with
  | none =>
    simp only []
    cases hl : lp body cl st with
    | none => rfl
    | some r =>
      obtain ⟨n, hn⟩ := lp_itn hl
      cases n with
      | zero => cases hn
      | succ n => rw [step, hb] at hn; cases hn
  | some p =>
    obtain ⟨e, st1⟩ := p
    cases e with
    | nm =>
      simp only []
      cases hc : cl st1 with
      | none =>
        simp only []
        cases hl : lp body cl st with
        | none => rfl
        | some r =>
          obtain ⟨n, hn⟩ := lp_itn hl
          cases n with
          | zero => cases hn
          | succ n => rw [step, hb] at hn; simp only [hc] at hn; cases hn
      | some st2 =>
        simp only []
        cases hl : lp body cl st2 with
        | some r =>
          obtain ⟨n, hn⟩ := lp_itn hl
          exact lp_of (n := n + 1) (by rw [step, hb]; simp only [hc]; exact hn)
        | none =>
          cases hl2 : lp body cl st with
          | none => rfl
          | some r =>
            obtain ⟨n, hn⟩ := lp_itn hl2
            cases n with
            | zero => cases hn
            | succ n =>
              rw [step, hb] at hn
              simp only [hc] at hn
              rw [lp_of hn] at hl
              cases hl
    | ex id => exact lp_of (n := 1) (by rw [step, hb])
    | rt => exact lp_of (n := 1) (by rw [step, hb])
end

noncomputable def evC (call : CallF) : IC → St → Option (Ex × St)
  | .skip, st => some (.nm, st)
  | .reg _ l, st => match evL call l st with | some st' => some (.nm, st') | none => none
  | .rgc cs l, st => match evL call l st with | some st' => if cs.all (ckB st'.s) = true then some (.nm, st') else none | none => none
  | .rgw l, st => match evLw call l st with | some st' => some (.nm, st') | none => none
  | .seq a b, st => match evC call a st with | some (.nm, st1) => evC call b st1 | r => r
  | .ite c a b, st => match opd st.s c with | .sc (.bool t) => if t = true then evC call a st else evC call b st | _ => none
  | .block id c, st => match evC call c st with | some (.ex i, st1) => if i = id then some (.nm, st1) else some (.ex i, st1) | r => r
  | .loop keep c, st => match clean keep st with | some st0 => lp (evC call c) (clean keep) st0 | none => none
  | .cln k kr c, st =>
    match evC call c st with
    | some (.nm, st1) => (match clean k st1 with | some st2 => some (.nm, st2) | none => none)
    | some (.rt, st1) => (match clean kr st1 with | some st2 => some (.rt, st2) | none => none)
    | r => r
  | .exit id, st => some (.ex id, st)
  | .ret, st => some (.rt, st)
  | .trm t, st => some (.nm, trmS t st)

def toExit : Ex → Exit
  | .nm => .normal | .ex id => .exit id | .rt => .ret

open Classical in
noncomputable def least (p : Nat → Prop) : Nat := if h : ∃ n, p n ∧ ∀ k, p k → n ≤ k then Classical.choose h else 0
theorem least_spec {p : Nat → Prop} (h : ∃ n, p n) : p (least p) ∧ ∀ k, p k → least p ≤ k := by
  have hex : ∃ n, p n ∧ ∀ k, p k → n ≤ k := by
    obtain ⟨n, hn⟩ := h
    induction n using Nat.strongRecOn with
    | _ n ih =>
      by_cases hs : ∃ m, m < n ∧ p m
      · obtain ⟨m, h1, h2⟩ := hs; exact ih m h1 h2
      · exact ⟨n, hn, fun k hk => by rcases Nat.lt_or_ge k n with h1 | h1; exact absurd ⟨k, h1, hk⟩ hs; exact h1⟩
  unfold least
  rw [dif_pos hex]
  exact Classical.choose_spec hex

section
variable {P : Program} {ov : Ov} {S N : Nat → Prop} {G G0 : Gh} {m : Mem} {st st' : St} {a : Act} {w : World} {nt : Nat} {call : CallF} {Q : Exit → Act → World → Prop}

theorem cut_inv {l : List OpI} {c : IC} {e : Ex} (h : evC call (cut l c) st = some (e, st')) : ∃ e1 st1, evC call c st = some (e1, st1) ∧ ((e = e1 ∧ st' = st1) ∨ (e1 = .nm ∧ e = .nm ∧ ∃ v, st' = trmS v st1)) := by
  unfold cut at h
  split at h
  · rename_i v _
    simp only [evC] at h
    cases hx : evC call c st with
    | none => rw [hx] at h; cases h
    | some p =>
      obtain ⟨e1, st1⟩ := p
      rw [hx] at h
      cases e1 with
      | nm => simp only [evC] at h; cases h; exact ⟨_, _, rfl, .inr ⟨rfl, rfl, v, rfl⟩⟩
      | ex id => cases h; exact ⟨_, _, rfl, .inl ⟨rfl, rfl⟩⟩
      | rt => cases h; exact ⟨_, _, rfl, .inl ⟨rfl, rfl⟩⟩
  · exact ⟨e, st', h, .inl ⟨rfl, rfl⟩⟩
theorem code_wp (hcall : CallOk ov.tb P call) (hcw : CallW ov.tb P call) {W : List Nat} (hm : P.follows .mixedOrders = true) : ∀ (c : Code) {ks ks' : List (List Nat)} {ic : IC} {e : Ex} {st st' : St} {G : Gh} {a : Act} {w : World} {Q : Exit → Act → World → Prop}, cC P W nt c ks = some (ic, ks') → SA nt ov S N G st a w →
    evC call ic st = some (e, st') → (∀ G' a' w', SA nt ov S N G' st' a' w' → FrN N w w' → Q (toExit e) a' w') → c.wp P Q a w := by
  intro c
  induction c with
  | skip =>
    intro ks ks' ic e st st' G a w Q hc h hv hQ
    cases hc; cases hv
    exact wp_skip (hQ G a w h (FrN.refl _ _))
  | region id ops draw =>
    intro ks ks' ic e st st' G a w Q hc h hv hQ
    simp only [cC] at hc
    split at hc
    case h_2 => cases hc
    rename_i l hl
    split at hc
    · rename_i hd
      subst hd
      split at hc
      · rename_i ho
        rw [Bool.and_eq_true] at ho
        cases hc
        simp only [evC] at hv
        split at hv
        case h_2 => cases hv
        rename_i st1 h1
        cases hv
        exact regw_wp_any h hm hcall hcw hl ho.2 h1 hQ
      split at hc
      · rename_i ho
        cases hc
        obtain ⟨e1, s1, hx, hor⟩ := cut_inv hv
        simp only [evC] at hx
        split at hx
        case h_2 => cases hx
        rename_i st1 h1
        cases hx
        refine reg_wp_any h hm hcall (came_of hl) (fun e => by cases e) ho (fun c hc => by simp at hc) h1 fun G' a' w' hs hf => ?_
        rcases hor with ⟨rfl, rfl⟩ | ⟨_, rfl, v, rfl⟩
        · exact hQ G' a' w' hs hf
        · exact hQ G' a' w' (trm_SA hs v) hf
      · split at hc
        case isFalse => cases hc
        rename_i ho
        cases hc
        simp only [evC] at hv
        split at hv
        case h_2 => cases hv
        rename_i st1 h1
        split at hv
        case isFalse => cases hv
        rename_i hck
        cases hv
        exact reg_wp_any h hm hcall (came_strip hl) (fun _ => strip_flat) ho (List.all_eq_true.1 hck) h1 hQ
    · rename_i hd
      have : draw = false := by simpa using hd
      subst this
      split at hc
      · cases hc
        simp only [evC] at hv
        split at hv
        case h_2 => cases hv
        rename_i st1 h1
        cases hv
        exact regw_wp h hcall hcw hl h1 hQ
      cases hc
      obtain ⟨e1, s1, hx, hor⟩ := cut_inv hv
      simp only [evC] at hx
      split at hx
      case h_2 => cases hx
      rename_i st1 h1
      cases hx
      refine reg_wp h hcall (came_of hl) h1 fun G' a' w' hs hf => ?_
      rcases hor with ⟨rfl, rfl⟩ | ⟨_, rfl, v, rfl⟩
      · exact hQ G' a' w' hs hf
      · exact hQ G' a' w' (trm_SA hs v) hf
  | seq x y ihx ihy =>
    intro ks ks' ic e st st' G a w Q hc h hv hQ
    simp only [cC] at hc
    split at hc
    case h_2 => cases hc
    rename_i a' ks1 h1
    split at hc
    case h_2 => cases hc
    rename_i b' ks2 h2
    cases hc
    simp only [evC] at hv
    cases hx : evC call a' st with
    | none => rw [hx] at hv; cases hv
    | some p =>
      obtain ⟨e1, st1⟩ := p
      rw [hx] at hv
      refine wp_seq (ihx h1 h hx fun G' a1 w1 hs hf => ?_)
      cases e1 with
      | nm => exact ihy h2 hs hv fun G2 a2 w2 hs2 hf2 => hQ G2 a2 w2 hs2 (hf.trans hf2)
      | ex id => cases hv; exact hQ G' a1 w1 hs hf
      | rt => cases hv; exact hQ G' a1 w1 hs hf
  | cond c x y ihx ihy =>
    intro ks ks' ic e st st' G a w Q hc h hv hQ
    simp only [cC] at hc
    split at hc
    case h_2 => cases hc
    rename_i c' a' ks1 h0 h1
    split at hc
    case h_2 => cases hc
    rename_i b' ks2 h2
    cases hc
    simp only [evC] at hv
    split at hv
    case h_2 => cases hv
    rename_i t ht
    have hr := (h.opd (cO_fO h0)).1
    rw [ht] at hr
    refine wp_cond hr.1 ?_
    split at hv
    · rename_i htt; subst htt; exact ihx h1 h hv hQ
    · rename_i htt
      have : t = false := by simpa using htt
      subst this; exact ihy h2 h hv hQ
  | block id c ih =>
    intro ks ks' ic e st st' G a w Q hc h hv hQ
    simp only [cC] at hc
    split at hc
    case h_2 => cases hc
    rename_i c' ks1 h1
    have key : ∀ {e : Ex} {st' : St}, evC call (.block id c') st = some (e, st') → (∀ G' a' w', SA nt ov S N G' st' a' w' → FrN N w w' → Q (toExit e) a' w') → (Code.block id c).wp P Q a w := by
      intro e st' hv hQ
      simp only [evC] at hv
      cases hx : evC call c' st with
      | none => rw [hx] at hv; cases hv
      | some p =>
        obtain ⟨e1, st1⟩ := p
        rw [hx] at hv
        refine wp_block (ih h1 h hx fun G' a1 w1 hs hf => ?_)
        cases e1 with
        | nm => cases hv; exact hQ G' a1 w1 hs hf
        | ex i =>
          simp only [] at hv
          simp only [toExit, Exit.inBlock]
          split at hv
          · rename_i hi
            cases hv
            rw [if_pos hi]; exact hQ G' a1 w1 hs hf
          · rename_i hi
            cases hv
            rw [if_neg hi]; exact hQ G' a1 w1 hs hf
        | rt => cases hv; exact hQ G' a1 w1 hs hf
    split at hc
    · split at hc
      case h_2 => cases hc
      cases hc
      rw [evC] at hv
      cases hx : evC call (.block id c') st with
      | none => rw [hx] at hv; cases hv
      | some p =>
        obtain ⟨e1, st1⟩ := p
        rw [hx] at hv
        cases e1 with
        | nm =>
          simp only [] at hv
          split at hv
          case h_2 => cases hv
          rename_i st2 hcl
          cases hv
          refine key hx fun G' a1 w1 hs hf => ?_
          obtain ⟨G3, hs3⟩ := clean_SA hs (ded_nodup _) hcl
          exact hQ G3 a1 w1 hs3 hf
        | ex i => cases hv; exact key hx hQ
        | rt =>
          simp only [] at hv
          split at hv
          case h_2 => cases hv
          rename_i st2 hcl
          cases hv
          refine key hx fun G' a1 w1 hs hf => ?_
          obtain ⟨G3, hs3⟩ := clean_SA hs (ded_nodup _) hcl
          exact hQ G3 a1 w1 hs3 hf
    · cases hc
      exact key hv hQ
  | loop c ih =>
    intro ks ks' ic e st st' G a w Q hc h hv hQ
    simp only [cC] at hc
    split at hc
    case h_2 => cases hc
    rename_i k ks1
    split at hc
    case h_2 => cases hc
    rename_i c' ks2 h1
    cases hc
    simp only [evC] at hv
    split at hv
    case h_2 => cases hv
    rename_i st0 h0
    obtain ⟨n, hn⟩ := lp_itn hv
    obtain ⟨G0, hs0⟩ := clean_SA h (ded_nodup _) h0
    refine wp_loop (fun a' w' => ∃ n, ∃ st G, SA nt ov S N G st a' w' ∧ FrN N w w' ∧ itn (evC call c') (clean k) n st = some (e, st'))
      (fun a' w' => least fun n => ∃ st G, SA nt ov S N G st a' w' ∧ FrN N w w' ∧ itn (evC call c') (clean k) n st = some (e, st')) ⟨n, st0, G0, hs0, FrN.refl _ _, hn⟩ fun a1 w1 hI => ?_
    obtain ⟨⟨st1, G1, hs1, hf1, hit⟩, _⟩ := least_spec hI
    generalize hq : (least fun n => ∃ st G, SA nt ov S N G st a1 w1 ∧ FrN N w w1 ∧ itn (evC call c') (clean k) n st = some (e, st')) = q at hit
    cases q with
    | zero => cases hit
    | succ q =>
      simp only [itn] at hit
      cases hb : evC call c' st1 with
      | none => rw [hb] at hit; cases hit
      | some p =>
        obtain ⟨e1, st2⟩ := p
        rw [hb] at hit
        refine ih h1 hs1 hb fun G2 a2 w2 hs2 hf2 => ?_
        cases e1 with
        | nm =>
          simp only [] at hit
          split at hit
          case h_2 => cases hit
          rename_i st3 hcl
          obtain ⟨G3, hs3⟩ := clean_SA hs2 (ded_nodup _) hcl
          have mem : ∃ st G, SA nt ov S N G st a2 w2 ∧ FrN N w w2 ∧ itn (evC call c') (clean k) q st = some (e, st') := ⟨st3, G3, hs3, hf1.trans hf2, hit⟩
          refine ⟨⟨q, mem⟩, ?_⟩
          have := (least_spec (p := fun n => ∃ st G, SA nt ov S N G st a2 w2 ∧ FrN N w w2 ∧ itn (evC call c') (clean k) n st = some (e, st')) ⟨q, mem⟩).2 q mem
          omega
        | ex id => cases hit; exact hQ G2 a2 w2 hs2 (hf1.trans hf2)
        | rt => cases hit; exact hQ G2 a2 w2 hs2 (hf1.trans hf2)
  | exit id =>
    intro ks ks' ic e st st' G a w Q hc h hv hQ
    cases hc; cases hv
    exact wp_exit (hQ G a w h (FrN.refl _ _))
  | ret =>
    intro ks ks' ic e st st' G a w Q hc h hv hQ
    cases hc; cases hv
    exact wp_ret (hQ G a w h (FrN.refl _ _))
  | _ => intro ks ks' ic e st st' G a w Q hc; cases hc

/-! ### functions -/
inductive RV where
  | tmp (t : Nat) | cell (t n : Nat) (g : Bool)
structure Fn where
  nargs : Nat
  nt : Nat
  res : List RV
  body : IC

def cRes (P : Program) (nt : Nat) : List ResultVar → Option (List RV)
  | [] => some []
  | .tmp t :: l => if t < 100000 then (match cRes P nt l with | some r => some (.tmp t :: r) | none => none) else none
  | .cell t ty :: l => if t < 100000 then (match sizeT P ty, aggT P ty, cRes P nt l with | some n, some g, some r => some (.cell t n g :: r) | _, _, _ => none) else none
def cFn (P : Program) (f : Nat) (ks : List (List Nat)) : Option Fn :=
  match P.funcs[f]?, ks with
  | some fn, W :: ks =>
    match fn.body with
    | some c =>
      match cC P W fn.ntmps c ks, cRes P fn.ntmps fn.results.toList with
      | some (b, _), some r => if fn.params.size + fn.nfree ≤ fn.ntmps ∧ fn.ntmps ≤ 100000 then some ⟨fn.params.size + fn.nfree, fn.ntmps, r, b⟩ else none
      | _, _ => none
    | none => none
  | _, _ => none

def res1 (st : St) : RV → Option LV
  | .tmp t => some (st.s t)
  | .cell t n g => match st.s t with | .bp i off => loadAt st.m n g (.bp i off) | _ => none
def resL (st : St) : List RV → Option (List LV)
  | [] => some []
  | r :: l => match res1 st r, resL st l with | some x, some xs => some (x :: xs) | _, _ => none
def resV (st : St) (l : List RV) : Option LV :=
  match resL st l with
  | some [x] => some x
  | some xs => some (.tu xs)
  | none => none
def argS (args : List LV) (t : Nat) : LV := match args[t]? with | some x => x | none => .un
def start (args : List LV) : St := ⟨argS args, noMem⟩
def finish (r : List RV) : Option (Ex × St) → Option (LV × List LV)
  | some (.ex _, _) => none
  | some (_, st) => match resV st r with | some x => (match closeV st.m x with | some c => some (c, []) | none => none) | none => none
  | none => none
/-! functions that are lent slices -/
def outV (k : Nat) : LV → LV
  | .rf i none 0 n => if i = mk0 k then .rf i none 0 n else .un
  | _ => .un
def outS : List (Nat × LV) → Nat → LV
  | [], _ => .un
  | (k, x) :: l, t => if t = k then outV k x else outS l t
def startW (args : List LV) : Option (List LV × St) :=
  match openV mk0 (.tu args) with
  | (.tu as, l) => (match adds noMem l with | some m => if small (.tu as) = true then some (as, ⟨fun t => if t < 100000 then argS as t else outS (partsT 0 as) (t - 100000), m⟩) else none | none => none)
  | _ => none
def startV (lo : Nat) (args : List LV) : Option (List LV × St) :=
  match openV mk0 (.tu args) with
  | (.tu as, l) => (match adds noMem l with | some m => if small (.tu as) = true then some (as, ⟨fun t => if t < 100000 then argS (cutA lo as) t else outS (partsT 0 as) (t - 100000), m⟩) else none | none => none)
  | _ => none
theorem startV_zero (args : List LV) : startV 0 args = startW args := by
  unfold startV startW
  split
  · simp only [cutA_zero]
  · rfl
def backV (s : Nat → LV) (k : Nat) : LV → LV
  | .rf i none 0 _ => if i = mk0 k then (match s (100000 + k) with | .rf i ch lo n => .rf i ch lo n | _ => .un) else .un
  | .sc v => .sc v | .nl => .nl | .ro n r => .ro n r
  | _ => .un
def finishW (as : List LV) (r : List RV) : Option (Ex × St) → Option (LV × List LV)
  | some (.ex _, _) => none
  | some (_, st) => (match resV st r, closeV st.m (trav (backV st.s) (.tu (preA as))) with | some v, some (.tu (y :: ys)) => if isRV v = true then some (v, y :: ys) else none | _, _ => none)
  | none => none
def finishM (r : List RV) (o : Option (Ex × St)) : Option (LV × List LV) :=
  match finish r o with
  | some (v, []) => some (v, [.un])
  | _ => none
/-- a call: d functions deep at most -/
noncomputable def evF (F : Nat → Option Fn) (prim : CallF) : Nat → CallF
  | 0 => prim
  | d + 1 => fun f args =>
    match F f with
    | some fn => if args.length = fn.nargs then finish fn.res (evC (evF F prim d) fn.body (start args)) else none
    | none =>
      if puN ≤ f then
        (match args with
        | .sc (.int .i64 lo) :: ys =>
          (match F (f - puN), startV lo.toNat ys with
          | some fn, some (as, st) => if as.length = fn.nargs then finishW as fn.res (evC (evF F prim d) fn.body st) else none
          | _, _ => prim f args)
        | _ => prim f args)
      else if mvN ≤ f then
        (match F (f - mvN), startW args with
        | some fn, some (as, st) => if as.length = fn.nargs then finishM fn.res (evC (evF F prim d) fn.body st) else none
        | _, _ => prim f args)
      else if wrN ≤ f then
        (match F (f - wrN), startW args with
        | some fn, some (as, st) => if as.length = fn.nargs then finishW as fn.res (evC (evF F prim d) fn.body st) else none
        | _, _ => prim f args)
      else prim f args

def resM (a : Act) : ResultVar → Sem Value
  | .tmp t => pure (a.tmps.getD t undef)
  | .cell ad t => do loadVar t (← asAddr (a.tmps.getD ad undef))

theorem do_res1 (h : SA nt ov S N G st a w) {x : RV} {r : ResultVar} {v : LV} (hc : cRes P nt [r] = some [x]) (hv : res1 st x = some v) :
    ∃ u, (resM a r).run P w = .ok u w ∧ R G S st.m w v u ∧ wf st.m v := by
  cases r with
  | tmp t =>
    simp only [cRes] at hc
    split at hc
    case isFalse => cases hc
    rename_i ht
    cases hc
    cases hv
    have := h.slot t
    rw [slotV_lt ht] at this
    exact ⟨_, rfl, this⟩
  | cell ad t =>
    simp only [cRes] at hc
    split at hc
    case isFalse => cases hc
    rename_i ht
    split at hc
    case h_2 => cases hc
    rename_i n g r' h1 h2 h3
    cases hc
    simp only [res1] at hv
    split at hv
    case h_2 => cases hv
    rename_i i off hb
    obtain ⟨s1, s2⟩ := h.slot ad
    rw [slotV_lt ht] at s1
    rw [hb] at s1 s2
    simp only [loadAt] at hv
    split at hv
    case h_2 => cases hv
    rename_i cells hcells
    split at hv
    case isFalse => cases hv
    rename_i hn
    obtain ⟨cs, e, k1, k2⟩ := h.inv.box i cells hcells
    obtain ⟨q1, q2⟩ := RL_take k2 hn
    have e1 : a.tmps.getD ad undef = .pointer (some ⟨G.blk i, off, none⟩) := by simp only [R, R1, R0] at s1; rw [hcells] at s1; exact s1
    obtain ⟨u, g1, g2, g3⟩ := run_load_pack (P := P) (w := w) (ad := ⟨G.blk i, off, none⟩) h2 h1 q2 (fun j u hj => by
      rw [add_lit, cell_lit k1]
      rw [List.getElem?_take] at hj
      split at hj
      · rw [List.getElem?_drop] at hj; simpa using hj
      · cases hj) hv (q1.mono fun _ _ _ z => z.1) (fun x hxm => by
      have := List.mem_of_mem_drop (List.mem_of_mem_take hxm)
      obtain ⟨k, hk⟩ := List.getElem?_of_mem this
      obtain ⟨u, _, hu⟩ := k2.2 k x hk
      exact hu.2.2)
    refine ⟨u, ?_, g2, g3⟩
    simp only [resM, e1, asAddr, Sem.run_bind, Sem.run_pure, Result.andThen_ok, g1]

theorem cRes_cons {r : ResultVar} {l : List ResultVar} {xs : List RV} (h : cRes P nt (r :: l) = some xs) : ∃ x ys, xs = x :: ys ∧ cRes P nt [r] = some [x] ∧ cRes P nt l = some ys := by
  cases r with
  | tmp t =>
    simp only [cRes] at h ⊢
    split at h
    case isFalse => cases h
    rename_i ht
    split at h
    · rename_i r' hr; cases h; exact ⟨_, _, rfl, by rw [if_pos ht], hr⟩
    · cases h
  | cell ad t =>
    simp only [cRes] at h ⊢
    split at h
    case isFalse => cases h
    rename_i ht
    split at h
    · rename_i n g r' h1 h2 h3
      cases h
      exact ⟨_, _, rfl, by simp only [h1, h2, if_pos ht], h3⟩
    · cases h

theorem do_resL (h : SA nt ov S N G st a w) : ∀ {l : List ResultVar} {xs : List RV} {vs : List LV}, cRes P nt l = some xs → resL st xs = some vs →
    ∃ us : List Value, (l.mapM (resM a)).run P w = .ok us w ∧ us.length = vs.length ∧ (∀ (k : Nat) (v : LV), vs[k]? = some v → ∃ u, us[k]? = some u ∧ R G S st.m w v u ∧ wf st.m v) := by
  intro l
  induction l with
  | nil => intro xs vs hc hv; cases hc; cases hv; exact ⟨[], rfl, rfl, fun k v hk => by simp at hk⟩
  | cons r l ih =>
    intro xs vs hc hv
    obtain ⟨x, ys, rfl, c1, c2⟩ := cRes_cons hc
    simp only [resL] at hv
    split at hv
    case h_2 => cases hv
    rename_i v vs' h1 h2
    cases hv
    obtain ⟨u, u1, u2⟩ := do_res1 h c1 h1
    obtain ⟨us, i1, i2, i3⟩ := ih c2 h2
    refine ⟨u :: us, ?_, by simp [i2], fun k z hk => ?_⟩
    · simp only [List.mapM_cons, Sem.run_bind, u1, Result.andThen_ok, i1, Sem.run_pure]
    · cases k with
      | zero => simp at hk; subst hk; exact ⟨u, by simp, u2⟩
      | succ k => simpa using i3 k z (by simpa using hk)

theorem results_run (h : SA nt ov S N G st a w) {fn : Func} {xs : List RV} {v : LV} (hc : cRes P nt fn.results.toList = some xs) (hv : resV st xs = some v) (hsm : small v = true) : ∃ u, (results fn a.tmps).run P w = .ok u w ∧ R G S st.m w v u ∧ wf st.m v := by
  have key : ∀ vs, resL st xs = some vs → ∃ us : List Value, (fn.results.mapM (resM a)).run P w = .ok us.toArray w ∧ us.length = vs.length ∧ (∀ (k : Nat) (v : LV), vs[k]? = some v → ∃ u, us[k]? = some u ∧ R G S st.m w v u ∧ wf st.m v) := by
    intro vs hvs
    obtain ⟨us, h1, h2, h3⟩ := do_resL h hc hvs
    refine ⟨us, ?_, h2, h3⟩
    rw [Array.mapM_eq_mapM_toList, map_eq_pure_bind]
    simp only [Sem.run_bind, h1, Result.andThen_ok, Sem.run_pure]
  have hrun : ∀ us : List Value, (fn.results.mapM (resM a)).run P w = .ok us.toArray w → (results fn a.tmps).run P w = .ok (if h : us.toArray.size = 1 then us.toArray[0] else .tuple us.toArray) w := by
    intro us hus
    have : (fn.results.mapM (m := Sem) fun | .tmp t => pure (a.tmps.getD t undef) | .cell ad t => do loadVar t (← asAddr (a.tmps.getD ad undef))) = fn.results.mapM (resM a) := by
      rfl
    unfold results
    rw [Sem.run_bind]
    erw [this]
    rw [hus]
    rfl
  unfold resV at hv
  split at hv
  · rename_i x hx
    cases hv
    obtain ⟨us, h1, h2, h3⟩ := key _ hx
    obtain ⟨u, u1, u2⟩ := h3 0 v (by simp)
    match us, h2 with
    | [z], _ =>
      simp at u1
      subst u1
      exact ⟨z, by rw [hrun _ h1]; rfl, u2⟩
  · rename_i vs hne hx
    cases hv
    obtain ⟨us, h1, h2, h3⟩ := key _ hx
    refine ⟨.tuple us.toArray, ?_, ?_⟩
    · rw [hrun _ h1, dif_neg]
      intro h4
      simp only [List.size_toArray] at h4
      rw [h2] at h4
      match vs, h4 with
      | [z], _ => exact hne z rfl
    · have hsm' : ∀ x ∈ vs, small1 x = true := fun x hx => List.all_eq_true.1 (by simpa [small] using hsm) x hx
      refine ⟨⟨us.toArray, rfl, by simpa using h2, fun k y hk => ?_⟩, fun y hy => ?_⟩
      · obtain ⟨u, u1, u2, u3⟩ := h3 k y hk
        have := hsm' y (List.mem_of_getElem? hk)
        refine ⟨u, by simpa using u1, ?_⟩
        cases y <;> first | exact u2 | (cases this; done)
      · obtain ⟨k, hk⟩ := List.getElem?_of_mem hy
        obtain ⟨u, u1, u2, u3⟩ := h3 k y hk
        have := hsm' y hy
        cases y <;> first | exact u3 | (cases this; done)
  · cases hv

theorem fn_contract {T : Tab} (hcall : CallOk T P call) (hcw : CallW T P call) (hm : P.follows .mixedOrders = true) {f : Nat} {ks : List (List Nat)} {fn : Fn} (hfn : cFn P f ks = some fn) {args : List LV} (hl : args.length = fn.nargs) {r : LV} {outs : List LV}
    (hv : finish fn.res (evC call fn.body (start args)) = some (r, outs)) : small r = true ∧ Contract T P f args r := by
  unfold cFn at hfn
  split at hfn
  case h_2 => cases hfn
  rename_i func W ks hf
  split at hfn
  case h_2 => cases hfn
  rename_i c hb
  split at hfn
  case h_2 => cases hfn
  rename_i b ks' xs h1 h2
  split at hfn
  case isFalse => cases hfn
  rename_i hsz
  cases hfn
  simp only at hl hv
  cases he : evC call b (start args) with
  | none => rw [he] at hv; cases hv
  | some p =>
    obtain ⟨e, st'⟩ := p
    rw [he] at hv
    have hcase : (∀ id, e ≠ .ex id) ∧ ∃ x, resV st' xs = some x ∧ closeV st'.m x = some r := by
      unfold finish at hv
      split at hv
      · cases hv
      · rename_i e' st2 hne q
        cases q
        refine ⟨fun id hid => hne id hid, ?_⟩
        split at hv
        · rename_i x hx
          split at hv
          · rename_i c hc; cases hv; exact ⟨x, hx, hc⟩
          · cases hv
        · cases hv
      · rename_i q; cases q
    obtain ⟨hne, x, hx, hcl⟩ := hcase
    have hsx : small x = true ∧ small r = true := by
      unfold closeV at hcl
      split at hcl
      case isFalse => cases hcl
      rename_i hcond
      obtain ⟨hs, hall, hdup⟩ := hcond
      cases hcl
      refine ⟨hs, small_trav (fun k y _ => ?_) hs⟩
      cases hq : close0 st'.m y with
      | none => simp only [Option.getD_none]; exact trivial
      | some z =>
        simp only [Option.getD_some]
        rcases close0_inv hq with (⟨rfl, v, rfl⟩ | ⟨rfl, rfl⟩ | ⟨rfl, n, rows, rfl⟩) | ⟨i, ch, e, n, rows, rfl, hl, rfl⟩ <;> exact trivial
    obtain ⟨hsx, hsmall⟩ := hsx
    refine ⟨hsmall, fun S w vals G hS hargs hTb => ?_⟩
    have h0 : SA func.ntmps ⟨fun _ => undef, T⟩ S (fun b => w.heap.size ≤ b) G (start args) { tmps := vals ++ Array.replicate (func.ntmps - vals.size) undef, defers := [] } w := by
      refine ⟨⟨⟨fun i e n rows hi => (by cases hi), fun i c hi => (by cases hi), fun p q hp => ?_, fun p hp => ?_, hS⟩, fun t => ?_, rfl, fun b hb => hb, hTb⟩, ?_, hsz.2⟩
      · exfalso
        cases p with
        | root i => rcases hp with ⟨_, q⟩ | ⟨_, _, _, q⟩ <;> cases q
        | chld i r c => obtain ⟨_, _, _, _, _, _, _, q, _⟩ := hp; cases q
      · exfalso
        cases p with
        | root i => rcases hp with ⟨_, q⟩ | ⟨_, _, _, q⟩ <;> cases q
        | chld i r c => obtain ⟨_, _, _, _, _, _, _, q, _⟩ := hp; cases q
      · simp only [start, argS]
        split
        · rename_i y hy
          obtain ⟨u, u1, u2, u3⟩ := hargs.2 t y hy
          have hlt : t < vals.size := (Array.getElem?_eq_some_iff.1 u1).1
          have : (vals ++ Array.replicate (func.ntmps - vals.size) undef).getD t undef = u := by
            rw [Array.getD_eq_getD_getElem?, Array.getElem?_append_left hlt, u1]; rfl
          have hlt2 : t < 100000 := by have := hsz.1; have := hsz.2; have : vals.size = args.length := hargs.1; omega
          rw [slotV_lt hlt2]
          simp only
          rw [this]
          exact ⟨u2, u3⟩
        · exact ⟨trivial, trivial⟩
      · have : vals.size = args.length := hargs.1
        simp; omega
    refine calls_of_wp hf hb (code_wp hcall hcw hm c h1 h0 he fun G' a' w' hs hfr => ?_)
    have fin : a'.defers = [] ∧ ∃ v, (results func a'.tmps).run P w' = .ok v w' ∧ (fun e w' => ∃ v, e = Ending.returned v ∧ FrN (fun b => w.heap.size ≤ b) w w' ∧
        ∀ mk : Nat → Id, (∀ a b, mk a = mk b → a = b) → ∃ G' m', adds noMem (openV mk r).2 = some m' ∧ Inv S (fun b => w.heap.size ≤ b) G' m' w' ∧ R G' S m' w' (openV mk r).1 v ∧ wf m' (openV mk r).1 ∧ ∀ i, m' i ≠ none → ∃ k, i = mk k) (.returned v) w' := by
      obtain ⟨u, u1, u2, u3⟩ := results_run hs h2 hx hsx
      exact ⟨hs.df, u, u1, u, rfl, hfr, fun mk hmk => trans_names hs.inv u2 u3 hcl hmk⟩
    cases e with
    | nm => exact fin
    | rt => exact fin
    | ex id => exact absurd rfl (hne id)
end
end Go.Proofs.YthnkioafikmmaaaDoor.Ev

namespace Go.Proofs.YthnkioafikmmaaaDoor.Ev
open Go
set_option linter.unusedVariables false
set_option linter.unusedSimpArgs false

section
variable {P : Program} {S N : Nat → Prop} {G G' : Gh} {m m' : Mem} {w w' : World} {call : CallF}

theorem partsL_mem {x : LV} : ∀ {l : List LV} {k0 k : Nat}, (k, x) ∈ partsL k0 l → x ∈ l := by
  intro l; induction l with
  | nil => intro k0 k h; simp [partsL] at h
  | cons y ys ih =>
    intro k0 k h
    simp only [partsL, List.mem_cons] at h
    rcases h with h | h
    · cases h; simp
    · exact List.mem_cons_of_mem _ (ih h)
theorem partsT_in {x : LV} : ∀ {l : List LV} {k0 k : Nat}, (k, x) ∈ partsT k0 l → ∃ y ∈ l, ∃ k1, (k, x) ∈ parts1 k1 y := by
  intro l; induction l with
  | nil => intro k0 k h; simp [partsT] at h
  | cons y ys ih =>
    intro k0 k h
    simp only [partsT, List.mem_append] at h
    rcases h with h | h
    · exact ⟨y, by simp, k0, h⟩
    · obtain ⟨z, h1, h2⟩ := ih h; exact ⟨z, List.mem_cons_of_mem _ h1, h2⟩
/-- a part that leads to a slice stands for a value -/
theorem part_rel {as : List LV} {V : Value} (hr : R G S m w (.tu as) V) (hw : wf m (.tu as)) {k : Nat} {i : Id} {ch : Option (Nat × Nat)} {lo n : Nat} (hp : (k, LV.rf i ch lo n) ∈ partsT 0 as) : (∃ u, R0 G S m w (.rf i ch lo n) u) ∧ m i ≠ none := by
  obtain ⟨y, hy, k1, hk⟩ := partsT_in hp
  obtain ⟨cs, rfl, q⟩ := hr
  obtain ⟨j, hj⟩ := List.getElem?_of_mem hy
  obtain ⟨u, u1, u2⟩ := q.2 j y hj
  have hw1 := hw y hy
  rcases three y with ⟨vs, rfl⟩ | ⟨vs, rfl⟩ | hf
  · have hm := partsL_mem hk
    obtain ⟨cs2, rfl, q2⟩ := u2
    obtain ⟨j2, hj2⟩ := List.getElem?_of_mem hm
    obtain ⟨v, v1, v2⟩ := q2.2 j2 _ hj2
    exact ⟨⟨v, v2⟩, hw1 _ hm⟩
  · exact u2.elim
  · rw [parts1_flat hf] at hk
    simp at hk
    obtain ⟨rfl, rfl⟩ := hk
    exact ⟨⟨u, u2⟩, hw1⟩

theorem outS_inv : ∀ {l : List (Nat × LV)} {t : Nat}, outS l t = .un ∨ ∃ n, (t, LV.rf (mk0 t) none 0 n) ∈ l ∧ outS l t = .rf (mk0 t) none 0 n := by
  intro l; induction l with
  | nil => intro t; exact .inl rfl
  | cons p l ih =>
    intro t
    obtain ⟨k, x⟩ := p
    simp only [outS]
    by_cases ht : t = k
    · rw [if_pos ht]
      subst ht
      unfold outV
      split
      · rename_i i n
        by_cases hi : i = mk0 t
        · subst hi
          rw [if_pos rfl]
          exact .inr ⟨n, by simp, rfl⟩
        · rw [if_neg hi]; exact .inl rfl
      · exact .inl rfl
    · rw [if_neg ht]
      rcases ih (t := t) with h | ⟨n, h1, h2⟩
      · exact .inl h
      · exact .inr ⟨n, List.mem_cons_of_mem _ h1, h2⟩
theorem outS_at {t n : Nat} : ∀ {l : List (Nat × LV)}, (l.map (·.1)).Nodup → (t, LV.rf (mk0 t) none 0 n) ∈ l → outS l t = .rf (mk0 t) none 0 n := by
  intro l; induction l with
  | nil => intro _ h; simp at h
  | cons p l ih =>
    intro hn h
    obtain ⟨k, x⟩ := p
    simp only [List.map_cons, List.nodup_cons, List.mem_map, not_exists, not_and] at hn
    simp only [outS]
    rcases List.mem_cons.1 h with h | h
    · cases h
      rw [if_pos rfl]
      simp [outV]
    · rw [if_neg (fun e => hn.1 _ h e)]
      exact ih hn.2 h

/-- the value that a lent slice has from without -/
def ovW (G : Gh) (as : List LV) (t : Nat) : Value :=
  match outS (partsT 0 as) (t - 100000) with
  | .rf i _ _ n => .slice (some ⟨G.blk i, 0, none⟩) n (G.cap i)
  | _ => undef

theorem lent_val {k n : Nat} {u : Value} (harr : ∀ i t, m i = some t → ∃ e n rows, t = .arr e n rows) (hne : m (mk0 k) ≠ none) (hu : R0 G S m w (.rf (mk0 k) none 0 n) u) :
    u = .slice (some ⟨G.blk (mk0 k), 0, none⟩) n (G.cap (mk0 k)) ∧ n ≤ G.cap (mk0 k) := by
  cases hm : m (mk0 k) with
  | none => exact absurd hm hne
  | some t =>
    obtain ⟨e, n0, rows, rfl⟩ := harr _ _ hm
    simp only [R0, look_none hm, Gh.capOf, Gh.blkOf, Nat.zero_mul, Nat.zero_add] at hu
    obtain ⟨A, c, rfl, h1, h2, h3⟩ := hu
    rw [h3 (.inr trivial), h2]
    exact ⟨rfl, by omega⟩

theorem fnV_contract {T : Tab} {lo : Nat} (hcall : CallOk T P call) (hcw : CallW T P call) (hm : P.follows .mixedOrders = true) {f : Nat} {ks : List (List Nat)} {fn : Fn} (hfn : cFn P f ks = some fn) {args as : List LV} {st : St} (hst : startV lo args = some (as, st)) (hl : as.length = fn.nargs)
    {r : LV} {ys' : List LV} (hv : finishW as fn.res (evC call fn.body st) = some (r, ys')) : isRV r = true ∧ ys' ≠ [] ∧ ContractV T P f lo args r ys' := by
  unfold cFn at hfn
  split at hfn
  case h_2 => cases hfn
  rename_i func W ks hf
  split at hfn
  case h_2 => cases hfn
  rename_i c hb
  split at hfn
  case h_2 => cases hfn
  rename_i b ks' xs h1 h2
  split at hfn
  case isFalse => cases hfn
  rename_i hsz
  cases hfn
  simp only at hl hv
  unfold startV at hst
  split at hst
  case h_2 => cases hst
  rename_i as' things hop
  split at hst
  case h_2 => cases hst
  rename_i m1 hadd
  split at hst
  case isFalse => cases hst
  rename_i hsa
  cases hst
  cases he : evC call b ⟨fun t => if t < 100000 then argS (cutA lo as) t else outS (partsT 0 as) (t - 100000), m1⟩ with
  | none => rw [he] at hv; cases hv
  | some p =>
    obtain ⟨e, st'⟩ := p
    rw [he] at hv
    have hcase : (∀ id, e ≠ .ex id) ∧ resV st' xs = some r ∧ isRV r = true ∧ closeV st'.m (trav (backV st'.s) (.tu (preA as))) = some (.tu ys') ∧ ys' ≠ [] := by
      unfold finishW at hv
      split at hv
      · cases hv
      · rename_i e' st2 hne q
        cases q
        refine ⟨fun id hid => hne id hid, ?_⟩
        split at hv
        · rename_i v y ys hx hc
          split at hv
          · rename_i hrv; cases hv; exact ⟨hx, hrv, hc, by simp⟩
          · cases hv
        · cases hv
      · rename_i q; cases q
    obtain ⟨hne, hx, hrv, hcl, hys0⟩ := hcase
    refine ⟨hrv, hys0, fun S N w valsA vals G m0 as2 has ha hinv hR hW hRA hnew hSN hTb => ?_⟩
    rw [hop] at ha has
    simp only at ha has
    cases has
    rw [hadd] at ha
    cases ha
    -- what closes
    have hcl' := hcl
    unfold closeV at hcl'
    split at hcl'
    case isFalse => cases hcl'
    rename_i hcond
    obtain ⟨hsm, hall, hdup⟩ := hcond
    have harr : ∀ i t, m1 i = some t → ∃ e n rows, t = .arr e n rows := by
      intro i t ht
      have hth : (parts (.tu args)).filterMap (thing mk0) = things := by have := congrArg Prod.snd hop; exact this
      rw [← hth] at hadd
      rcases things_mem (r := .nl) (l := parts (.tu args)) hadd i t ht with h0 | ⟨k, e, n, rows, _, h0⟩
      · cases h0
      · exact ⟨e, n, rows, h0⟩
    have hbf : ∀ (k : Nat) (x : LV), flat0 x → flat0 (backV st'.s k x) := by
      intro k x _
      unfold backV
      split <;> try trivial
      split <;> try trivial
      split <;> trivial
    have hsp : small (.tu (preA as)) = true := by
      simp only [small, List.all_eq_true] at hsa ⊢
      intro x hx
      exact hsa x (by rw [← pre_post as]; exact List.mem_append_left _ hx)
    have hparts : parts (trav (backV st'.s) (.tu (preA as))) = (partsT 0 (preA as)).map fun p => (p.1, backV st'.s p.1 p.2) := parts_trav hbf hsp
    have hkeys : ((partsT 0 as).map (·.1)).Nodup := parts_keys hsa
    have hclo : ∀ p ∈ partsT 0 (preA as), ∃ y, close0 st'.m (backV st'.s p.1 p.2) = some y := fun p hp => by
      have := List.all_eq_true.1 hall (p.1, backV st'.s p.1 p.2) (by rw [hparts]; exact List.mem_map.2 ⟨p, hp, rfl⟩)
      exact Option.isSome_iff_exists.1 this
    have ovat : ∀ k n, (k, LV.rf (mk0 k) none 0 n) ∈ partsT 0 as → ovW G as (100000 + k) = .slice (some ⟨G.blk (mk0 k), 0, none⟩) n (G.cap (mk0 k)) := by
      intro k n hp
      simp only [ovW, Nat.add_sub_cancel_left, outS_at hkeys hp]
    obtain ⟨cs, ecs, hRL⟩ := hR
    cases ecs
    have hR' : R G S m1 w (.tu as) (.tuple vals) := ⟨_, rfl, hRL⟩
    have hvs : vals.size = as.length := hRL.1
    have hvA : valsA.size = as.length := by rw [hRA.1, cutA_len]
    have hWA := cutA_wf (lo := lo) hW
    have h0 : SA func.ntmps ⟨ovW G as, T⟩ S N G ⟨fun t => if t < 100000 then argS (cutA lo as) t else outS (partsT 0 as) (t - 100000), m1⟩ { tmps := valsA ++ Array.replicate (func.ntmps - valsA.size) undef, defers := [] } w := by
      refine ⟨⟨hinv, fun t => ?_, rfl, hnew, hTb⟩, by simp; omega, hsz.2⟩
      by_cases ht : t < 100000
      · simp only [if_pos ht, slotV_lt ht, argS]
        split
        · rename_i y hy
          obtain ⟨u, u1, u2⟩ := hRA.2 t y hy
          have hlt : t < valsA.size := (Array.getElem?_eq_some_iff.1 u1).1
          have : (valsA ++ Array.replicate (func.ntmps - valsA.size) undef).getD t undef = u := by
            rw [Array.getD_eq_getD_getElem?, Array.getElem?_append_left hlt, u1]; rfl
          rw [this]
          have hw1 := hWA y (List.mem_of_getElem? hy)
          cases y <;> first | exact ⟨u2, hw1⟩ | exact u2.elim
        · exact ⟨trivial, trivial⟩
      · simp only [if_neg ht, slotV]
        rcases outS_inv (l := partsT 0 as) (t := t - 100000) with e0 | ⟨n, e1, e2⟩
        · rw [e0]; exact ⟨trivial, trivial⟩
        · obtain ⟨⟨u, hu⟩, hne⟩ := part_rel hR' hW e1
          obtain ⟨rfl, hle⟩ := lent_val harr hne hu
          have ho := ovat _ _ e1
          rw [show 100000 + (t - 100000) = t from by omega] at ho
          rw [e2, ho]
          exact ⟨hu, hne⟩
    refine calls_of_wp hf hb (code_wp hcall hcw hm c h1 h0 he fun G' a' w' hs hfr => ?_)
    have hS : ∀ b, S b → w'.heap[b]? = w.heap[b]? := fun b hb => hfr.block b (hinv.old b hb) (hSN b hb)
    have hback : ∀ k n i ch n', (k, LV.rf (mk0 k) none 0 n) ∈ partsT 0 as → st'.s (100000 + k) = .rf i ch 0 n' → st'.m i ≠ none ∧ R0 G' S st'.m w' (.rf i ch 0 n') (.slice (some ⟨G.blk (mk0 k), 0, none⟩) n (G.cap (mk0 k))) := by
      intro k n i ch n' hp hsl
      have hq := hs.slot (100000 + k)
      rw [hsl] at hq
      simp only [slotV] at hq
      rw [if_neg (by omega), ovat k n hp] at hq
      exact ⟨hq.2, hq.1⟩
    have hRLp : RL (R1 G S m1 w) (preA as) (vals.toList.take (preA as).length).toArray := by
      have hpl : (preA as).length ≤ as.length := by have := congrArg List.length (pre_post as); simp only [List.length_append] at this; omega
      refine ⟨by simp; omega, fun k x hk => ?_⟩
      have hlt := (List.getElem?_eq_some_iff.1 hk).1
      obtain ⟨u, u1, u2⟩ := hRL.2 k x (by rw [← pre_post as, List.getElem?_append_left hlt]; exact hk)
      exact ⟨u, by rw [List.getElem?_toArray, List.getElem?_take, if_pos hlt]; simpa using u1, u2⟩
    have hX : R G' S st'.m w' (trav (backV st'.s) (.tu (preA as))) (.tuple (vals.toList.take (preA as).length).toArray) := by
      refine ⟨_, rfl, RT_trav hRLp (fun x hx f us ex => ?_) fun p hp u hu => ?_⟩
      · subst ex
        obtain ⟨k, hk⟩ := partsT_mem (x := .cl f us) trivial (preA as) 0 hx
        obtain ⟨y, hy⟩ := hclo _ hk
        simp [backV, close0] at hy
      · obtain ⟨k, x⟩ := p
        cases x <;> try trivial
        case ro n rows => exact RdG.mono hu (fun _ _ q => RdC.mono q (fun _ h => h) hS) (fun _ h => h) hS
        case rf i ch lo n =>
          simp only [backV]
          split <;> try trivial
          rename_i i2 n2 e2
          cases e2
          by_cases hi : i = mk0 k
          · rw [if_pos hi]
            subst hi
            obtain ⟨_, hne⟩ := part_rel hR' hW (partsT_pre hp)
            obtain ⟨rfl, hle⟩ := lent_val harr hne hu
            split
            · rename_i j ch lo n' hsl
              have hq := hs.slot (100000 + k)
              rw [hsl] at hq
              simp only [slotV] at hq
              rw [if_neg (by omega), ovat k n (partsT_pre hp)] at hq
              exact hq.1
            · trivial
          · rw [if_neg hi]; trivial
    have hXw : wf st'.m (trav (backV st'.s) (.tu (preA as))) := by
      refine wf_trav (fun k x hx => ⟨hbf k x hx, fun f vs e => ?_⟩) hsp fun p hp => ?_
      · unfold backV at e
        split at e <;> try cases e
        split at e <;> try cases e
        split at e <;> cases e
      · obtain ⟨k, x⟩ := p
        simp only
        cases x <;> simp only [backV] <;> try trivial
        rename_i i ch lo n
        split <;> try trivial
        rename_i i2 n2 e2
        cases e2
        by_cases hi : i = mk0 k
        · rw [if_pos hi]
          split
          · rename_i j ch lo n' hsl
            have hq := (hs.slot (100000 + k)).2
            rw [hsl] at hq
            exact hq
          · trivial
        · rw [if_neg hi]; trivial
    obtain ⟨G2, m2, t1, t2, t3, t4, t5, t6, t7⟩ := trans_names2 hs.inv hX hXw hcl mk0_inj
    have hpost : ∀ k e n rows, (k, LV.ow e n rows) ∈ parts (.tu ys') → G2.blk (mk0 k) = G.blk (mk0 k) ∧ G2.cap (mk0 k) = G.cap (mk0 k) := by
      intro k e n rows hk
      have hys : .tu ys' = trav (fun _ x => (close0 st'.m x).getD .un) (trav (backV st'.s) (.tu (preA as))) := by
        unfold closeV at hcl
        rw [if_pos ⟨hsm, hall, hdup⟩] at hcl
        exact (Option.some.inj hcl).symm
      have hcf : ∀ (k : Nat) (x : LV), flat0 x → flat0 ((fun (_ : Nat) x => (close0 st'.m x).getD .un) k x) := by
        intro k x _
        cases hq : close0 st'.m x with
        | none => simp only [hq]; exact trivial
        | some y =>
          simp only [hq, Option.getD_some]
          rcases close0_inv hq with (⟨rfl, v, rfl⟩ | ⟨rfl, rfl⟩ | ⟨rfl, n, rows, rfl⟩) | ⟨i, ch, e, n, rows, rfl, hl, rfl⟩ <;> exact trivial
      rw [hys, parts_trav hcf hsm] at hk
      obtain ⟨⟨k1, x⟩, hx, ek⟩ := List.mem_map.1 hk
      simp only [Prod.mk.injEq] at ek
      obtain ⟨rfl, ex⟩ := ek
      have hx' := hx
      rw [hparts] at hx
      obtain ⟨⟨k2, y⟩, hy, ey⟩ := List.mem_map.1 hx
      simp only [Prod.mk.injEq] at ey
      obtain ⟨rfl, rfl⟩ := ey
      obtain ⟨z, hz⟩ := hclo _ hy
      simp only at hz
      rw [hz] at ex
      simp only [Option.getD_some] at ex
      subst ex
      rcases close0_inv hz with (⟨e1, v, e2⟩ | ⟨e1, e2⟩ | ⟨e1, n1, rows1, e2⟩) | ⟨i, ch, e1, n1, rows1, e2, hlk, e3⟩
      · rw [e2] at e1; cases e1
      · rw [e2] at e1; cases e1
      · rw [e2] at e1; cases e1
      · cases e3
        rw [e2] at hx'
        obtain ⟨c1, c2⟩ := t6 _ _ _ _ hx'
        rw [c1, c2]
        have hy2 : ∃ n0, y = .rf (mk0 k2) none 0 n0 ∧ st'.s (100000 + k2) = .rf i ch 0 rows.length := by
          cases y <;> simp only [backV] at e2 <;> try cases e2
          rename_i i3 ch3 lo3 n3
          split at e2 <;> try cases e2
          rename_i i4 n4 e4
          cases e4
          by_cases hi : i3 = mk0 k2
          · rw [if_pos hi] at e2
            split at e2
            · rename_i hsl; rw [e2] at hsl; exact ⟨n3, by rw [hi], hsl⟩
            · cases e2
          · rw [if_neg hi] at e2; cases e2
        obtain ⟨n0, rfl, hsl⟩ := hy2
        obtain ⟨_, hq⟩ := hback _ _ _ _ _ (partsT_pre hy) hsl
        simp only [R0, hlk, Nat.zero_mul, Nat.zero_add] at hq
        obtain ⟨A, c, q1, q2, q3, q4⟩ := hq
        cases q1
        have := q4 (.inr trivial)
        simp only [Option.some.injEq, Addr.mk.injEq] at this
        exact ⟨this.1.symm, q3.symm⟩
    have fin : a'.defers = [] ∧ ∃ u, (results func a'.tmps).run P w' = .ok u w' ∧ (fun e w' => ∃ u, e = Ending.returned u ∧ voidR r u ∧ FrN N w w' ∧ ∃ G' m', adds noMem (openV mk0 (.tu ys')).2 = some m' ∧ Inv S N G' m' w' ∧
        ∀ k e n rows, (k, LV.ow e n rows) ∈ parts (.tu ys') → G'.blk (mk0 k) = G.blk (mk0 k) ∧ G'.cap (mk0 k) = G.cap (mk0 k)) (.returned u) w' := by
      have hsr : small r = true := by
        cases r with
        | sc _ => rfl
        | tu vs => cases vs with
          | nil => rfl
          | cons _ _ => cases hrv
        | _ => cases hrv
      obtain ⟨u, u1, u2, u3⟩ := results_run hs h2 hx hsr
      have u2' : voidR r u := by
        cases r with
        | sc _ => exact u2
        | tu vs => cases vs with
          | nil =>
            obtain ⟨cs, rfl, q, _⟩ := u2
            have : cs = #[] := by simpa using q
            rw [this]; rfl
          | cons _ _ => cases hrv
        | _ => cases hrv
      exact ⟨hs.df, u, u1, u, rfl, u2', hfr, G2, m2, t1, t2, hpost⟩
    cases e with
    | nm => exact fin
    | rt => exact fin
    | ex id => exact absurd rfl (hne id)

theorem fnW_contract {T : Tab} (hcall : CallOk T P call) (hcw : CallW T P call) (hm : P.follows .mixedOrders = true) {f : Nat} {ks : List (List Nat)} {fn : Fn} (hfn : cFn P f ks = some fn) {args as : List LV} {st : St} (hst : startW args = some (as, st)) (hl : as.length = fn.nargs)
    {r : LV} {ys' : List LV} (hv : finishW as fn.res (evC call fn.body st) = some (r, ys')) : isRV r = true ∧ ys' ≠ [] ∧ ContractW T P f args r ys' := by
  obtain ⟨h1, h2, h3⟩ := fnV_contract (lo := 0) hcall hcw hm hfn ((startV_zero args).trans hst) hl hv
  exact ⟨h1, h2, h3.w⟩

theorem fnM_contract {T : Tab} (hcall : CallOk T P call) (hcw : CallW T P call) (hm : P.follows .mixedOrders = true) {f : Nat} {ks : List (List Nat)} {fn : Fn} (hfn : cFn P f ks = some fn) {args as : List LV} {st : St} (hst : startW args = some (as, st)) (hl : as.length = fn.nargs)
    {r : LV} {outs : List LV} (hv : finish fn.res (evC call fn.body st) = some (r, outs)) : small r = true ∧ ContractM T P f args r := by
  unfold cFn at hfn
  split at hfn
  case h_2 => cases hfn
  rename_i func W ks hf
  split at hfn
  case h_2 => cases hfn
  rename_i c hb
  split at hfn
  case h_2 => cases hfn
  rename_i b ks' xs h1 h2
  split at hfn
  case isFalse => cases hfn
  rename_i hsz
  cases hfn
  simp only at hl hv
  unfold startW at hst
  split at hst
  case h_2 => cases hst
  rename_i as' things hop
  split at hst
  case h_2 => cases hst
  rename_i m1 hadd
  split at hst
  case isFalse => cases hst
  rename_i hsa
  cases hst
  cases he : evC call b ⟨fun t => if t < 100000 then argS as t else outS (partsT 0 as) (t - 100000), m1⟩ with
  | none => rw [he] at hv; cases hv
  | some p =>
    obtain ⟨e, st'⟩ := p
    rw [he] at hv
    have hcase : (∀ id, e ≠ .ex id) ∧ ∃ x, resV st' xs = some x ∧ closeV st'.m x = some r := by
      unfold finish at hv
      split at hv
      · cases hv
      · rename_i e' st2 hne q
        cases q
        refine ⟨fun id hid => hne id hid, ?_⟩
        split at hv
        · rename_i x hx
          split at hv
          · rename_i c hc; cases hv; exact ⟨x, hx, hc⟩
          · cases hv
        · cases hv
      · rename_i q; cases q
    obtain ⟨hne, x, hx, hcl⟩ := hcase
    have hsx : small x = true ∧ small r = true := by
      unfold closeV at hcl
      split at hcl
      case isFalse => cases hcl
      rename_i hcond
      obtain ⟨hs, hall, hdup⟩ := hcond
      cases hcl
      refine ⟨hs, small_trav (fun k y _ => ?_) hs⟩
      cases hq : close0 st'.m y with
      | none => simp only [Option.getD_none]; exact trivial
      | some z =>
        simp only [Option.getD_some]
        rcases close0_inv hq with (⟨rfl, v, rfl⟩ | ⟨rfl, rfl⟩ | ⟨rfl, n, rows, rfl⟩) | ⟨i, ch, e, n, rows, rfl, hl, rfl⟩ <;> exact trivial
    obtain ⟨hsx, hsmall⟩ := hsx
    refine ⟨hsmall, fun S N w vals G m0 ha hinv hR hW hnew hSN hTb => ?_⟩
    rw [hop] at ha hR hW
    simp only at ha hR hW
    rw [hadd] at ha
    cases ha
    have harr : ∀ i t, m1 i = some t → ∃ e n rows, t = .arr e n rows := by
      intro i t ht
      have hth : (parts (.tu args)).filterMap (thing mk0) = things := by have := congrArg Prod.snd hop; exact this
      rw [← hth] at hadd
      rcases things_mem (r := .nl) (l := parts (.tu args)) hadd i t ht with h0 | ⟨k, e, n, rows, _, h0⟩
      · cases h0
      · exact ⟨e, n, rows, h0⟩
    have hkeys : ((partsT 0 as).map (·.1)).Nodup := parts_keys hsa
    have ovat : ∀ k n, (k, LV.rf (mk0 k) none 0 n) ∈ partsT 0 as → ovW G as (100000 + k) = .slice (some ⟨G.blk (mk0 k), 0, none⟩) n (G.cap (mk0 k)) := by
      intro k n hp
      simp only [ovW, Nat.add_sub_cancel_left, outS_at hkeys hp]
    obtain ⟨cs, ecs, hRL⟩ := hR
    cases ecs
    have hR' : R G S m1 w (.tu as) (.tuple vals) := ⟨_, rfl, hRL⟩
    have hvs : vals.size = as.length := hRL.1
    have h0 : SA func.ntmps ⟨ovW G as, T⟩ S N G ⟨fun t => if t < 100000 then argS as t else outS (partsT 0 as) (t - 100000), m1⟩ { tmps := vals ++ Array.replicate (func.ntmps - vals.size) undef, defers := [] } w := by
      refine ⟨⟨hinv, fun t => ?_, rfl, hnew, hTb⟩, by simp; omega, hsz.2⟩
      by_cases ht : t < 100000
      · simp only [if_pos ht, slotV_lt ht, argS]
        split
        · rename_i y hy
          obtain ⟨u, u1, u2⟩ := hRL.2 t y hy
          have hlt : t < vals.size := (Array.getElem?_eq_some_iff.1 u1).1
          have : (vals ++ Array.replicate (func.ntmps - vals.size) undef).getD t undef = u := by
            rw [Array.getD_eq_getD_getElem?, Array.getElem?_append_left hlt, u1]; rfl
          rw [this]
          have hw1 := hW y (List.mem_of_getElem? hy)
          cases y <;> first | exact ⟨u2, hw1⟩ | exact u2.elim
        · exact ⟨trivial, trivial⟩
      · simp only [if_neg ht, slotV]
        rcases outS_inv (l := partsT 0 as) (t := t - 100000) with e0 | ⟨n, e1, e2⟩
        · rw [e0]; exact ⟨trivial, trivial⟩
        · obtain ⟨⟨u, hu⟩, hne⟩ := part_rel hR' hW e1
          obtain ⟨rfl, hle⟩ := lent_val harr hne hu
          have ho := ovat _ _ e1
          rw [show 100000 + (t - 100000) = t from by omega] at ho
          rw [e2, ho]
          exact ⟨hu, hne⟩
    refine calls_of_wp hf hb (code_wp hcall hcw hm c h1 h0 he fun G' a' w' hs hfr => ?_)
    have fin : a'.defers = [] ∧ ∃ v, (results func a'.tmps).run P w' = .ok v w' ∧ (fun e w' => ∃ v, e = Ending.returned v ∧ FrN N w w' ∧
        ∀ mk : Nat → Id, (∀ a b, mk a = mk b → a = b) → ∃ G' m', adds noMem (openV mk r).2 = some m' ∧ Inv S N G' m' w' ∧ R G' S m' w' (openV mk r).1 v ∧ wf m' (openV mk r).1) (.returned v) w' := by
      obtain ⟨u, u1, u2, u3⟩ := results_run hs h2 hx hsx
      refine ⟨hs.df, u, u1, u, rfl, hfr, fun mk hmk => ?_⟩
      obtain ⟨G2, m2, b1, b2, b3, b4, _⟩ := trans_names hs.inv u2 u3 hcl hmk
      exact ⟨G2, m2, b1, b2, b3, b4⟩
    cases e with
    | nm => exact fin
    | rt => exact fin
    | ex id => exact absurd rfl (hne id)

theorem evF_ok2 {T : Tab} {P : Program} (hm : P.follows .mixedOrders = true) {F : Nat → Option Fn} {prim : CallF} (hF : ∀ f fn, F f = some fn → enterOk P f = true ∧ ∃ ks, cFn P f ks = some fn) (hF2 : ∀ f fn, F f = some fn → f < wrN) (hp : CallOk T P prim) (hpw : CallW T P prim) : ∀ d, CallOk T P (evF F prim d) ∧ CallW T P (evF F prim d) := by
  intro d
  have hmv : mvN = 2000000 := rfl
  have hwr : wrN = 1000000 := rfl
  have hpu : puN = 3000000 := rfl
  induction d with
  | zero => exact ⟨hp, hpw⟩
  | succ d ih =>
    refine ⟨fun g args r h => ?_, ⟨fun g ys r ys' hg hne hrv h => ?_, fun g ys r hg h => ?_, fun g ys r ys' lo hg hne hrv h => ?_⟩⟩
    · simp only [evF] at h
      split at h
      · rename_i fn hfn
        obtain ⟨h1, ks, h2⟩ := hF g fn hfn
        split at h
        · rename_i hl
          obtain ⟨k1, k2⟩ := fn_contract ih.1 ih.2 hm h2 hl h
          exact ⟨h1, k1, k2⟩
        · cases h
      · split at h
        · split at h
          · rename_i lo ys
            split at h
            · rename_i fn as st hfn hst
              split at h
              · rename_i hl
                exfalso
                obtain ⟨h1, ks, h2⟩ := hF _ fn hfn
                obtain ⟨_, h3, _⟩ := fnV_contract ih.1 ih.2 hm h2 hst hl h
                exact h3 rfl
              · cases h
            · exact hp g _ r h
          · exact hp g _ r h
        split at h
        · split at h
          · rename_i fn as st hfn hst
            split at h
            · exfalso
              unfold finishM at h
              split at h <;> cases h
            · cases h
          · exact hp g args r h
        · split at h
          · split at h
            · rename_i fn as st hfn hst
              split at h
              · rename_i hl
                exfalso
                obtain ⟨h1, ks, h2⟩ := hF _ fn hfn
                obtain ⟨_, h3, _⟩ := fnW_contract ih.1 ih.2 hm h2 hst hl h
                exact h3 rfl
              · cases h
            · exact hp g args r h
          · exact hp g args r h
    · simp only [evF] at h
      split at h
      · rename_i fn hfn
        have := hF2 _ _ hfn
        exact absurd this (by omega)
      · rw [if_neg (by omega), if_neg (by omega), if_pos (by omega)] at h
        split at h
        · rename_i fn as st hfn hst
          rw [Nat.add_sub_cancel_left] at hfn
          obtain ⟨h1, ks, h2⟩ := hF _ fn hfn
          split at h
          · rename_i hl
            obtain ⟨_, _, hc⟩ := fnW_contract ih.1 ih.2 hm h2 hst hl h
            exact ⟨h1, hc⟩
          · cases h
        · exact hpw.w g ys r ys' hg hne hrv h
    · simp only [evF] at h
      split at h
      · rename_i fn hfn
        have := hF2 _ _ hfn
        exact absurd this (by omega)
      · rw [if_neg (by omega), if_pos (by omega)] at h
        split at h
        · rename_i fn as st hfn hst
          rw [Nat.add_sub_cancel_left] at hfn
          obtain ⟨h1, ks, h2⟩ := hF _ fn hfn
          split at h
          · rename_i hl
            unfold finishM at h
            split at h
            · rename_i v hfi
              cases h
              obtain ⟨k1, k2⟩ := fnM_contract ih.1 ih.2 hm h2 hst hl hfi
              exact ⟨h1, k1, k2⟩
            · cases h
          · cases h
        · exact hpw.m g ys r hg h
    · simp only [evF] at h
      split at h
      · rename_i fn hfn
        have := hF2 _ _ hfn
        exact absurd this (by omega)
      · rw [if_pos (by omega)] at h
        split at h
        · rename_i fn as st hfn hst
          rw [Nat.add_sub_cancel_left] at hfn
          obtain ⟨h1, ks, h2⟩ := hF _ fn hfn
          split at h
          · rename_i hl
            obtain ⟨_, _, hc⟩ := fnV_contract ih.1 ih.2 hm h2 (by rw [Int.toNat_natCast] at hst; exact hst) hl h
            exact ⟨h1, hc⟩
          · cases h
        · exact hpw.p g ys r ys' lo hg hne hrv h

theorem noPrim_ok (T : Tab) (P : Program) : CallOk T P (fun _ _ => none) := fun _ _ _ h => by cases h
theorem noPrim_okW (T : Tab) (P : Program) : CallW T P (fun _ _ => none) := ⟨fun _ _ _ _ _ _ _ h => by (cases h), fun _ _ _ _ h => by (cases h), fun _ _ _ _ _ _ _ _ h => by (cases h)⟩
end
end Go.Proofs.YthnkioafikmmaaaDoor.Ev
