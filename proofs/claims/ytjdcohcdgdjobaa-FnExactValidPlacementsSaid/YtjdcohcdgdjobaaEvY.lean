/- Code, and functions. -/
import Derived.Test.YtjdcohcdgdjobaaEvX
namespace Go.Proofs.Ytjdcohcdgdjobaa.Ev
open Go
set_option linter.unusedVariables false
set_option linter.unusedSimpArgs false

inductive IC where
  | skip
  | reg (draw : Bool) (l : List OpI)
  | rgc (cs : List Ck) (l : List OpI)
  | seq (a b : IC)
  | ite (c : Opd) (a b : IC)
  | block (id : Nat) (c : IC)
  | loop (keep : List Nat) (c : IC)
  | cln (k kr : List Nat) (c : IC)
  | exit (id : Nat)
  | ret

def isLp : IC → Bool
  | .loop _ _ => true | _ => false
/-- code, turned; each loop takes the next list of what it keeps -/
def cC (P : Program) (nt : Nat) : Code → List (List Nat) → Option (IC × List (List Nat))
  | .skip, ks => some (.skip, ks)
  | .region _ ops draw, ks =>
    match cList (cIO P nt ops) ops.toList with
    | some l => if draw = true then (if ordOk false ops l [] = true then some (.reg true l, ks) else if ordOk true ops (l.map strip) (mkCks ops (l.map strip)) = true then some (.rgc (mkCks ops (l.map strip)) (l.map strip), ks) else none) else some (.reg false l, ks)
    | none => none
  | .seq a b, ks =>
    match cC P nt a ks with
    | some (a', ks1) => (match cC P nt b ks1 with | some (b', ks2) => some (.seq a' b', ks2) | none => none)
    | none => none
  | .cond c a b, ks =>
    match cO c, cC P nt a ks with
    | some c', some (a', ks1) => (match cC P nt b ks1 with | some (b', ks2) => some (.ite c' a' b', ks2) | none => none)
    | _, _ => none
  | .block id c, ks =>
    match cC P nt c ks with
    | some (c', ks1) =>
      if isLp c' = true then (match ks1 with | k1 :: k2 :: ks2 => some (.cln k1 k2 (.block id c'), ks2) | _ => none) else some (.block id c', ks1)
    | none => none
  | .loop c, ks =>
    match ks with
    | k :: ks1 => (match cC P nt c ks1 with | some (c', ks2) => some (.loop k c', ks2) | none => none)
    | [] => none
  | .exit id, ks => some (.exit id, ks)
  | .ret, ks => some (.ret, ks)
  | _, _ => none

inductive Ex where
  | nm | ex (id : Nat) | rt

def itn (body : St → Option (Ex × St)) (cl : St → Option St) : Nat → St → Option (Ex × St)
  | 0, _ => none
  | n + 1, st =>
    match body st with
    | some (.nm, st1) => (match cl st1 with | some st2 => itn body cl n st2 | none => none)
    | r => r
open Classical in
/-- rounds, as many as it takes -/
noncomputable def lp (body : St → Option (Ex × St)) (cl : St → Option St) (st : St) : Option (Ex × St) :=
  if h : ∃ n, (itn body cl n st).isSome = true then itn body cl (Classical.choose h) st else none

section
variable {body : St → Option (Ex × St)} {cl : St → Option St}
theorem itn_det : ∀ {n k : Nat} {st : St} {r r' : Ex × St}, itn body cl n st = some r → itn body cl k st = some r' → r = r' := by
  intro n
  induction n with
  | zero => intro k st r r' h; cases h
  | succ n ih =>
    intro k st r r' h h'
    cases k with
    | zero => cases h'
    | succ k =>
      simp only [itn] at h h'
      cases hb : body st with
      | none => rw [hb] at h; cases h
      | some p =>
        obtain ⟨e, st1⟩ := p
        rw [hb] at h h'
        cases e with
        | nm =>
          simp only [] at h h'
          cases hc : cl st1 with
          | none => rw [hc] at h; cases h
          | some st2 =>
            rw [hc] at h h'
            exact ih h h'
        | ex id => simp only [] at h h'; cases h; cases h'; rfl
        | rt => simp only [] at h h'; cases h; cases h'; rfl
theorem lp_of {n : Nat} {st : St} {r : Ex × St} (h : itn body cl n st = some r) : lp body cl st = some r := by
  have hex : ∃ n, (itn body cl n st).isSome = true := ⟨n, by rw [h]; rfl⟩
  unfold lp
  rw [dif_pos hex]
  obtain ⟨r', hr'⟩ := Option.isSome_iff_exists.1 (Classical.choose_spec hex)
  rw [hr', itn_det h hr']
theorem lp_itn {st : St} {r : Ex × St} (h : lp body cl st = some r) : ∃ n, itn body cl n st = some r := by
  unfold lp at h
  split at h
  · exact ⟨_, h⟩
  · cases h
/-- one round more -/
theorem lp_eq (st : St) : lp body cl st = match body st with | some (.nm, st1) => (match cl st1 with | some st2 => lp body cl st2 | none => none) | r => r := by
  have step : ∀ n, itn body cl (n + 1) st = match body st with | some (.nm, st1) => (match cl st1 with | some st2 => itn body cl n st2 | none => none) | r => r := fun n => rfl
  cases hb : body st with
  | none =>
    simp only []
    cases hl : lp body cl st with
    | none => rfl
    | some r =>
      obtain ⟨n, hn⟩ := lp_itn hl
      cases n with
      | zero => cases hn
      | succ n => rw [step, hb] at hn; cases hn
  | some p =>
    obtain ⟨e, st1⟩ := p
    cases e with
    | nm =>
      simp only []
      cases hc : cl st1 with
      | none =>
        simp only []
        cases hl : lp body cl st with
        | none => rfl
        | some r =>
          obtain ⟨n, hn⟩ := lp_itn hl
          cases n with
          | zero => cases hn
          | succ n => rw [step, hb] at hn; simp only [hc] at hn; cases hn
      | some st2 =>
        simp only []
        cases hl : lp body cl st2 with
        | some r =>
          obtain ⟨n, hn⟩ := lp_itn hl
          exact lp_of (n := n + 1) (by rw [step, hb]; simp only [hc]; exact hn)
        | none =>
          cases hl2 : lp body cl st with
          | none => rfl
          | some r =>
            obtain ⟨n, hn⟩ := lp_itn hl2
            cases n with
            | zero => cases hn
            | succ n =>
              rw [step, hb] at hn
              simp only [hc] at hn
              rw [lp_of hn] at hl
              cases hl
    | ex id => exact lp_of (n := 1) (by rw [step, hb])
    | rt => exact lp_of (n := 1) (by rw [step, hb])
end

noncomputable def evC (call : CallF) : IC → St → Option (Ex × St)
  | .skip, st => some (.nm, st)
  | .reg _ l, st => match evL call l st with | some st' => some (.nm, st') | none => none
  | .rgc cs l, st => match evL call l st with | some st' => if cs.all (ckB st'.s) = true then some (.nm, st') else none | none => none
  | .seq a b, st => match evC call a st with | some (.nm, st1) => evC call b st1 | r => r
  | .ite c a b, st => match opd st.s c with | .sc (.bool t) => if t = true then evC call a st else evC call b st | _ => none
  | .block id c, st => match evC call c st with | some (.ex i, st1) => if i = id then some (.nm, st1) else some (.ex i, st1) | r => r
  | .loop keep c, st => match clean keep st with | some st0 => lp (evC call c) (clean keep) st0 | none => none
  | .cln k kr c, st =>
    match evC call c st with
    | some (.nm, st1) => (match clean k st1 with | some st2 => some (.nm, st2) | none => none)
    | some (.rt, st1) => (match clean kr st1 with | some st2 => some (.rt, st2) | none => none)
    | r => r
  | .exit id, st => some (.ex id, st)
  | .ret, st => some (.rt, st)

def toExit : Ex → Exit
  | .nm => .normal | .ex id => .exit id | .rt => .ret

open Classical in
noncomputable def least (p : Nat → Prop) : Nat := if h : ∃ n, p n ∧ ∀ k, p k → n ≤ k then Classical.choose h else 0
theorem least_spec {p : Nat → Prop} (h : ∃ n, p n) : p (least p) ∧ ∀ k, p k → least p ≤ k := by
  have hex : ∃ n, p n ∧ ∀ k, p k → n ≤ k := by
    obtain ⟨n, hn⟩ := h
    induction n using Nat.strongRecOn with
    | _ n ih =>
      by_cases hs : ∃ m, m < n ∧ p m
      · obtain ⟨m, h1, h2⟩ := hs; exact ih m h1 h2
      · exact ⟨n, hn, fun k hk => by rcases Nat.lt_or_ge k n with h1 | h1; exact absurd ⟨k, h1, hk⟩ hs; exact h1⟩
  unfold least
  rw [dif_pos hex]
  exact Classical.choose_spec hex

section
variable {P : Program} {S N : Nat → Prop} {G G0 : Gh} {m : Mem} {st st' : St} {a : Act} {w : World} {nt : Nat} {call : CallF} {Q : Exit → Act → World → Prop}

theorem code_wp (hcall : CallOk P call) (hm : P.follows .mixedOrders = true) : ∀ (c : Code) {ks ks' : List (List Nat)} {ic : IC} {e : Ex} {st st' : St} {G : Gh} {a : Act} {w : World} {Q : Exit → Act → World → Prop}, cC P nt c ks = some (ic, ks') → SA nt S N G st a w →
    evC call ic st = some (e, st') → (∀ G' a' w', SA nt S N G' st' a' w' → FrN N w w' → Q (toExit e) a' w') → c.wp P Q a w := by
  intro c
  induction c with
  | skip =>
    intro ks ks' ic e st st' G a w Q hc h hv hQ
    cases hc; cases hv
    exact wp_skip (hQ G a w h (FrN.refl _ _))
  | region id ops draw =>
    intro ks ks' ic e st st' G a w Q hc h hv hQ
    simp only [cC] at hc
    split at hc
    case h_2 => cases hc
    rename_i l hl
    split at hc
    · rename_i hd
      subst hd
      split at hc
      · rename_i ho
        cases hc
        simp only [evC] at hv
        split at hv
        case h_2 => cases hv
        rename_i st1 h1
        cases hv
        exact reg_wp_any h hm hcall (came_of hl) (fun e => by cases e) ho (fun c hc => by simp at hc) h1 hQ
      · split at hc
        case isFalse => cases hc
        rename_i ho
        cases hc
        simp only [evC] at hv
        split at hv
        case h_2 => cases hv
        rename_i st1 h1
        split at hv
        case isFalse => cases hv
        rename_i hck
        cases hv
        exact reg_wp_any h hm hcall (came_strip hl) (fun _ => strip_flat) ho (List.all_eq_true.1 hck) h1 hQ
    · rename_i hd
      cases hc
      have : draw = false := by simpa using hd
      subst this
      simp only [evC] at hv
      split at hv
      case h_2 => cases hv
      rename_i st1 h1
      cases hv
      exact reg_wp h hcall (came_of hl) h1 hQ
  | seq x y ihx ihy =>
    intro ks ks' ic e st st' G a w Q hc h hv hQ
    simp only [cC] at hc
    split at hc
    case h_2 => cases hc
    rename_i a' ks1 h1
    split at hc
    case h_2 => cases hc
    rename_i b' ks2 h2
    cases hc
    simp only [evC] at hv
    cases hx : evC call a' st with
    | none => rw [hx] at hv; cases hv
    | some p =>
      obtain ⟨e1, st1⟩ := p
      rw [hx] at hv
      refine wp_seq (ihx h1 h hx fun G' a1 w1 hs hf => ?_)
      cases e1 with
      | nm => exact ihy h2 hs hv fun G2 a2 w2 hs2 hf2 => hQ G2 a2 w2 hs2 (hf.trans hf2)
      | ex id => cases hv; exact hQ G' a1 w1 hs hf
      | rt => cases hv; exact hQ G' a1 w1 hs hf
  | cond c x y ihx ihy =>
    intro ks ks' ic e st st' G a w Q hc h hv hQ
    simp only [cC] at hc
    split at hc
    case h_2 => cases hc
    rename_i c' a' ks1 h0 h1
    split at hc
    case h_2 => cases hc
    rename_i b' ks2 h2
    cases hc
    simp only [evC] at hv
    split at hv
    case h_2 => cases hv
    rename_i t ht
    have hr := (h.opd (cO_fO h0)).1
    rw [ht] at hr
    refine wp_cond hr.1 ?_
    split at hv
    · rename_i htt; subst htt; exact ihx h1 h hv hQ
    · rename_i htt
      have : t = false := by simpa using htt
      subst this; exact ihy h2 h hv hQ
  | block id c ih =>
    intro ks ks' ic e st st' G a w Q hc h hv hQ
    simp only [cC] at hc
    split at hc
    case h_2 => cases hc
    rename_i c' ks1 h1
    have key : ∀ {e : Ex} {st' : St}, evC call (.block id c') st = some (e, st') → (∀ G' a' w', SA nt S N G' st' a' w' → FrN N w w' → Q (toExit e) a' w') → (Code.block id c).wp P Q a w := by
      intro e st' hv hQ
      simp only [evC] at hv
      cases hx : evC call c' st with
      | none => rw [hx] at hv; cases hv
      | some p =>
        obtain ⟨e1, st1⟩ := p
        rw [hx] at hv
        refine wp_block (ih h1 h hx fun G' a1 w1 hs hf => ?_)
        cases e1 with
        | nm => cases hv; exact hQ G' a1 w1 hs hf
        | ex i =>
          simp only [] at hv
          simp only [toExit, Exit.inBlock]
          split at hv
          · rename_i hi
            cases hv
            rw [if_pos hi]; exact hQ G' a1 w1 hs hf
          · rename_i hi
            cases hv
            rw [if_neg hi]; exact hQ G' a1 w1 hs hf
        | rt => cases hv; exact hQ G' a1 w1 hs hf
    split at hc
    · split at hc
      case h_2 => cases hc
      cases hc
      rw [evC] at hv
      cases hx : evC call (.block id c') st with
      | none => rw [hx] at hv; cases hv
      | some p =>
        obtain ⟨e1, st1⟩ := p
        rw [hx] at hv
        cases e1 with
        | nm =>
          simp only [] at hv
          split at hv
          case h_2 => cases hv
          rename_i st2 hcl
          cases hv
          refine key hx fun G' a1 w1 hs hf => ?_
          obtain ⟨G3, hs3⟩ := clean_SA hs (ded_nodup _) hcl
          exact hQ G3 a1 w1 hs3 hf
        | ex i => cases hv; exact key hx hQ
        | rt =>
          simp only [] at hv
          split at hv
          case h_2 => cases hv
          rename_i st2 hcl
          cases hv
          refine key hx fun G' a1 w1 hs hf => ?_
          obtain ⟨G3, hs3⟩ := clean_SA hs (ded_nodup _) hcl
          exact hQ G3 a1 w1 hs3 hf
    · cases hc
      exact key hv hQ
  | loop c ih =>
    intro ks ks' ic e st st' G a w Q hc h hv hQ
    simp only [cC] at hc
    split at hc
    case h_2 => cases hc
    rename_i k ks1
    split at hc
    case h_2 => cases hc
    rename_i c' ks2 h1
    cases hc
    simp only [evC] at hv
    split at hv
    case h_2 => cases hv
    rename_i st0 h0
    obtain ⟨n, hn⟩ := lp_itn hv
    obtain ⟨G0, hs0⟩ := clean_SA h (ded_nodup _) h0
    refine wp_loop (fun a' w' => ∃ n, ∃ st G, SA nt S N G st a' w' ∧ FrN N w w' ∧ itn (evC call c') (clean k) n st = some (e, st'))
      (fun a' w' => least fun n => ∃ st G, SA nt S N G st a' w' ∧ FrN N w w' ∧ itn (evC call c') (clean k) n st = some (e, st')) ⟨n, st0, G0, hs0, FrN.refl _ _, hn⟩ fun a1 w1 hI => ?_
    obtain ⟨⟨st1, G1, hs1, hf1, hit⟩, _⟩ := least_spec hI
    generalize hq : (least fun n => ∃ st G, SA nt S N G st a1 w1 ∧ FrN N w w1 ∧ itn (evC call c') (clean k) n st = some (e, st')) = q at hit
    cases q with
    | zero => cases hit
    | succ q =>
      simp only [itn] at hit
      cases hb : evC call c' st1 with
      | none => rw [hb] at hit; cases hit
      | some p =>
        obtain ⟨e1, st2⟩ := p
        rw [hb] at hit
        refine ih h1 hs1 hb fun G2 a2 w2 hs2 hf2 => ?_
        cases e1 with
        | nm =>
          simp only [] at hit
          split at hit
          case h_2 => cases hit
          rename_i st3 hcl
          obtain ⟨G3, hs3⟩ := clean_SA hs2 (ded_nodup _) hcl
          have mem : ∃ st G, SA nt S N G st a2 w2 ∧ FrN N w w2 ∧ itn (evC call c') (clean k) q st = some (e, st') := ⟨st3, G3, hs3, hf1.trans hf2, hit⟩
          refine ⟨⟨q, mem⟩, ?_⟩
          have := (least_spec (p := fun n => ∃ st G, SA nt S N G st a2 w2 ∧ FrN N w w2 ∧ itn (evC call c') (clean k) n st = some (e, st')) ⟨q, mem⟩).2 q mem
          omega
        | ex id => cases hit; exact hQ G2 a2 w2 hs2 (hf1.trans hf2)
        | rt => cases hit; exact hQ G2 a2 w2 hs2 (hf1.trans hf2)
  | exit id =>
    intro ks ks' ic e st st' G a w Q hc h hv hQ
    cases hc; cases hv
    exact wp_exit (hQ G a w h (FrN.refl _ _))
  | ret =>
    intro ks ks' ic e st st' G a w Q hc h hv hQ
    cases hc; cases hv
    exact wp_ret (hQ G a w h (FrN.refl _ _))
  | _ => intro ks ks' ic e st st' G a w Q hc; cases hc

/-! ### functions -/
inductive RV where
  | tmp (t : Nat) | cell (t n : Nat) (g : Bool)
structure Fn where
  nargs : Nat
  nt : Nat
  res : List RV
  body : IC

def cRes (P : Program) (nt : Nat) : List ResultVar → Option (List RV)
  | [] => some []
  | .tmp t :: l => match cRes P nt l with | some r => some (.tmp t :: r) | none => none
  | .cell t ty :: l => match sizeT P ty, aggT P ty, cRes P nt l with | some n, some g, some r => some (.cell t n g :: r) | _, _, _ => none
def cFn (P : Program) (f : Nat) (ks : List (List Nat)) : Option Fn :=
  match P.funcs[f]? with
  | some fn =>
    match fn.body with
    | some c =>
      match cC P fn.ntmps c ks, cRes P fn.ntmps fn.results.toList with
      | some (b, _), some r => if fn.params.size + fn.nfree ≤ fn.ntmps then some ⟨fn.params.size + fn.nfree, fn.ntmps, r, b⟩ else none
      | _, _ => none
    | none => none
  | none => none

def res1 (st : St) : RV → Option LV
  | .tmp t => some (st.s t)
  | .cell t n g => match st.s t with | .bp i off => loadAt st.m n g (.bp i off) | _ => none
def resL (st : St) : List RV → Option (List LV)
  | [] => some []
  | r :: l => match res1 st r, resL st l with | some x, some xs => some (x :: xs) | _, _ => none
def resV (st : St) (l : List RV) : Option LV :=
  match resL st l with
  | some [x] => some x
  | some xs => some (.tu xs)
  | none => none
def argS (args : List LV) (t : Nat) : LV := match args[t]? with | some x => x | none => .un
def start (args : List LV) : St := ⟨argS args, noMem⟩
def finish (r : List RV) : Option (Ex × St) → Option (LV × List LV)
  | some (.ex _, _) => none
  | some (_, st) => match resV st r with | some x => (match closeV st.m x with | some c => some (c, []) | none => none) | none => none
  | none => none
/-- a call: d functions deep at most -/
noncomputable def evF (F : Nat → Option Fn) (prim : CallF) : Nat → CallF
  | 0 => prim
  | d + 1 => fun f args =>
    match F f with
    | some fn => if args.length = fn.nargs then finish fn.res (evC (evF F prim d) fn.body (start args)) else none
    | none => prim f args

def resM (a : Act) : ResultVar → Sem Value
  | .tmp t => pure (a.tmps.getD t undef)
  | .cell ad t => do loadVar t (← asAddr (a.tmps.getD ad undef))

theorem do_res1 (h : SA nt S N G st a w) {x : RV} {r : ResultVar} {v : LV} (hc : cRes P nt [r] = some [x]) (hv : res1 st x = some v) :
    ∃ u, (resM a r).run P w = .ok u w ∧ R G S st.m w v u ∧ wf st.m v := by
  cases r with
  | tmp t =>
    simp only [cRes] at hc
    cases hc
    cases hv
    exact ⟨_, rfl, h.slot t⟩
  | cell ad t =>
    simp only [cRes] at hc
    split at hc
    case h_2 => cases hc
    rename_i n g r' h1 h2 h3
    cases hc
    simp only [res1] at hv
    split at hv
    case h_2 => cases hv
    rename_i i off hb
    obtain ⟨s1, s2⟩ := h.slot ad
    rw [hb] at s1 s2
    simp only [loadAt] at hv
    split at hv
    case h_2 => cases hv
    rename_i cells hcells
    split at hv
    case isFalse => cases hv
    rename_i hn
    obtain ⟨cs, e, k1, k2⟩ := h.inv.box i cells hcells
    obtain ⟨q1, q2⟩ := RL_take k2 hn
    have e1 : a.tmps.getD ad undef = .pointer (some ⟨G.blk i, off, none⟩) := by simp only [R, R1, R0] at s1; rw [hcells] at s1; exact s1
    obtain ⟨u, g1, g2, g3⟩ := run_load_pack (P := P) (w := w) (ad := ⟨G.blk i, off, none⟩) h2 h1 q2 (fun j u hj => by
      rw [add_lit, cell_lit k1]
      rw [List.getElem?_take] at hj
      split at hj
      · rw [List.getElem?_drop] at hj; simpa using hj
      · cases hj) hv (q1.mono fun _ _ _ z => z.1) (fun x hxm => by
      have := List.mem_of_mem_drop (List.mem_of_mem_take hxm)
      obtain ⟨k, hk⟩ := List.getElem?_of_mem this
      obtain ⟨u, _, hu⟩ := k2.2 k x hk
      exact hu.2.2)
    refine ⟨u, ?_, g2, g3⟩
    simp only [resM, e1, asAddr, Sem.run_bind, Sem.run_pure, Result.andThen_ok, g1]

theorem cRes_cons {r : ResultVar} {l : List ResultVar} {xs : List RV} (h : cRes P nt (r :: l) = some xs) : ∃ x ys, xs = x :: ys ∧ cRes P nt [r] = some [x] ∧ cRes P nt l = some ys := by
  cases r with
  | tmp t =>
    simp only [cRes] at h ⊢
    split at h
    · rename_i r' hr; cases h; exact ⟨_, _, rfl, rfl, hr⟩
    · cases h
  | cell ad t =>
    simp only [cRes] at h ⊢
    split at h
    · rename_i n g r' h1 h2 h3
      cases h
      exact ⟨_, _, rfl, by simp only [h1, h2], h3⟩
    · cases h

theorem do_resL (h : SA nt S N G st a w) : ∀ {l : List ResultVar} {xs : List RV} {vs : List LV}, cRes P nt l = some xs → resL st xs = some vs →
    ∃ us : List Value, (l.mapM (resM a)).run P w = .ok us w ∧ us.length = vs.length ∧ (∀ (k : Nat) (v : LV), vs[k]? = some v → ∃ u, us[k]? = some u ∧ R G S st.m w v u ∧ wf st.m v) := by
  intro l
  induction l with
  | nil => intro xs vs hc hv; cases hc; cases hv; exact ⟨[], rfl, rfl, fun k v hk => by simp at hk⟩
  | cons r l ih =>
    intro xs vs hc hv
    obtain ⟨x, ys, rfl, c1, c2⟩ := cRes_cons hc
    simp only [resL] at hv
    split at hv
    case h_2 => cases hv
    rename_i v vs' h1 h2
    cases hv
    obtain ⟨u, u1, u2⟩ := do_res1 h c1 h1
    obtain ⟨us, i1, i2, i3⟩ := ih c2 h2
    refine ⟨u :: us, ?_, by simp [i2], fun k z hk => ?_⟩
    · simp only [List.mapM_cons, Sem.run_bind, u1, Result.andThen_ok, i1, Sem.run_pure]
    · cases k with
      | zero => simp at hk; subst hk; exact ⟨u, by simp, u2⟩
      | succ k => simpa using i3 k z (by simpa using hk)

theorem results_run (h : SA nt S N G st a w) {fn : Func} {xs : List RV} {v : LV} (hc : cRes P nt fn.results.toList = some xs) (hv : resV st xs = some v) (hsm : small v = true) : ∃ u, (results fn a.tmps).run P w = .ok u w ∧ R G S st.m w v u ∧ wf st.m v := by
  have key : ∀ vs, resL st xs = some vs → ∃ us : List Value, (fn.results.mapM (resM a)).run P w = .ok us.toArray w ∧ us.length = vs.length ∧ (∀ (k : Nat) (v : LV), vs[k]? = some v → ∃ u, us[k]? = some u ∧ R G S st.m w v u ∧ wf st.m v) := by
    intro vs hvs
    obtain ⟨us, h1, h2, h3⟩ := do_resL h hc hvs
    refine ⟨us, ?_, h2, h3⟩
    rw [Array.mapM_eq_mapM_toList, map_eq_pure_bind]
    simp only [Sem.run_bind, h1, Result.andThen_ok, Sem.run_pure]
  have hrun : ∀ us : List Value, (fn.results.mapM (resM a)).run P w = .ok us.toArray w → (results fn a.tmps).run P w = .ok (if h : us.toArray.size = 1 then us.toArray[0] else .tuple us.toArray) w := by
    intro us hus
    have : (fn.results.mapM (m := Sem) fun | .tmp t => pure (a.tmps.getD t undef) | .cell ad t => do loadVar t (← asAddr (a.tmps.getD ad undef))) = fn.results.mapM (resM a) := by
      rfl
    unfold results
    rw [Sem.run_bind]
    erw [this]
    rw [hus]
    rfl
  unfold resV at hv
  split at hv
  · rename_i x hx
    cases hv
    obtain ⟨us, h1, h2, h3⟩ := key _ hx
    obtain ⟨u, u1, u2⟩ := h3 0 v (by simp)
    match us, h2 with
    | [z], _ =>
      simp at u1
      subst u1
      exact ⟨z, by rw [hrun _ h1]; rfl, u2⟩
  · rename_i vs hne hx
    cases hv
    obtain ⟨us, h1, h2, h3⟩ := key _ hx
    refine ⟨.tuple us.toArray, ?_, ?_⟩
    · rw [hrun _ h1, dif_neg]
      intro h4
      simp only [List.size_toArray] at h4
      rw [h2] at h4
      match vs, h4 with
      | [z], _ => exact hne z rfl
    · have hsm' : ∀ x ∈ vs, small1 x = true := fun x hx => List.all_eq_true.1 (by simpa [small] using hsm) x hx
      refine ⟨⟨us.toArray, rfl, by simpa using h2, fun k y hk => ?_⟩, fun y hy => ?_⟩
      · obtain ⟨u, u1, u2, u3⟩ := h3 k y hk
        have := hsm' y (List.mem_of_getElem? hk)
        refine ⟨u, by simpa using u1, ?_⟩
        cases y <;> first | exact u2 | (cases this; done)
      · obtain ⟨k, hk⟩ := List.getElem?_of_mem hy
        obtain ⟨u, u1, u2, u3⟩ := h3 k y hk
        have := hsm' y hy
        cases y <;> first | exact u3 | (cases this; done)
  · cases hv

theorem fn_contract (hcall : CallOk P call) (hm : P.follows .mixedOrders = true) {f : Nat} {ks : List (List Nat)} {fn : Fn} (hfn : cFn P f ks = some fn) {args : List LV} (hl : args.length = fn.nargs) {r : LV} {outs : List LV}
    (hv : finish fn.res (evC call fn.body (start args)) = some (r, outs)) : small r = true ∧ Contract P f args r := by
  unfold cFn at hfn
  split at hfn
  case h_2 => cases hfn
  rename_i func hf
  split at hfn
  case h_2 => cases hfn
  rename_i c hb
  split at hfn
  case h_2 => cases hfn
  rename_i b ks' xs h1 h2
  split at hfn
  case isFalse => cases hfn
  rename_i hsz
  cases hfn
  simp only at hl hv
  cases he : evC call b (start args) with
  | none => rw [he] at hv; cases hv
  | some p =>
    obtain ⟨e, st'⟩ := p
    rw [he] at hv
    have hcase : (∀ id, e ≠ .ex id) ∧ ∃ x, resV st' xs = some x ∧ closeV st'.m x = some r := by
      unfold finish at hv
      split at hv
      · cases hv
      · rename_i e' st2 hne q
        cases q
        refine ⟨fun id hid => hne id hid, ?_⟩
        split at hv
        · rename_i x hx
          split at hv
          · rename_i c hc; cases hv; exact ⟨x, hx, hc⟩
          · cases hv
        · cases hv
      · rename_i q; cases q
    obtain ⟨hne, x, hx, hcl⟩ := hcase
    have hsx : small x = true ∧ small r = true := by
      unfold closeV at hcl
      split at hcl
      case isFalse => cases hcl
      rename_i hcond
      obtain ⟨hs, hall, hdup⟩ := hcond
      cases hcl
      refine ⟨hs, small_trav (fun k y _ => ?_) hs⟩
      cases hq : close0 st'.m y with
      | none => simp only [Option.getD_none]; exact trivial
      | some z =>
        simp only [Option.getD_some]
        rcases close0_inv hq with (⟨rfl, v, rfl⟩ | ⟨rfl, rfl⟩ | ⟨rfl, n, rows, rfl⟩) | ⟨i, ch, e, n, rows, rfl, hl, rfl⟩ <;> exact trivial
    obtain ⟨hsx, hsmall⟩ := hsx
    refine ⟨hsmall, fun S w vals G hS hargs => ?_⟩
    have h0 : SA func.ntmps S (fun b => w.heap.size ≤ b) G (start args) { tmps := vals ++ Array.replicate (func.ntmps - vals.size) undef, defers := [] } w := by
      refine ⟨⟨⟨fun i e n rows hi => (by cases hi), fun i c hi => (by cases hi), fun p q hp => ?_, fun p hp => ?_, hS⟩, fun t => ?_, rfl, fun b hb => hb⟩, ?_⟩
      · exfalso
        cases p with
        | root i => rcases hp with ⟨_, q⟩ | ⟨_, _, _, q⟩ <;> cases q
        | chld i r c => obtain ⟨_, _, _, _, _, _, _, q, _⟩ := hp; cases q
      · exfalso
        cases p with
        | root i => rcases hp with ⟨_, q⟩ | ⟨_, _, _, q⟩ <;> cases q
        | chld i r c => obtain ⟨_, _, _, _, _, _, _, q, _⟩ := hp; cases q
      · simp only [start, argS]
        split
        · rename_i y hy
          obtain ⟨u, u1, u2, u3⟩ := hargs.2 t y hy
          have hlt : t < vals.size := (Array.getElem?_eq_some_iff.1 u1).1
          have : (vals ++ Array.replicate (func.ntmps - vals.size) undef).getD t undef = u := by
            rw [Array.getD_eq_getD_getElem?, Array.getElem?_append_left hlt, u1]; rfl
          rw [this]
          exact ⟨u2, u3⟩
        · exact ⟨trivial, trivial⟩
      · have : vals.size = args.length := hargs.1
        simp; omega
    refine calls_of_wp hf hb (code_wp hcall hm c h1 h0 he fun G' a' w' hs hfr => ?_)
    have fin : a'.defers = [] ∧ ∃ v, (results func a'.tmps).run P w' = .ok v w' ∧ (fun e w' => ∃ v, e = Ending.returned v ∧ FrN (fun b => w.heap.size ≤ b) w w' ∧
        ∀ mk : Nat → Id, (∀ a b, mk a = mk b → a = b) → ∃ G' m', adds noMem (openV mk r).2 = some m' ∧ Inv S (fun b => w.heap.size ≤ b) G' m' w' ∧ R G' S m' w' (openV mk r).1 v ∧ wf m' (openV mk r).1 ∧ ∀ i, m' i ≠ none → ∃ k, i = mk k) (.returned v) w' := by
      obtain ⟨u, u1, u2, u3⟩ := results_run hs h2 hx hsx
      exact ⟨hs.df, u, u1, u, rfl, hfr, fun mk hmk => trans_names hs.inv u2 u3 hcl hmk⟩
    cases e with
    | nm => exact fin
    | rt => exact fin
    | ex id => exact absurd rfl (hne id)
end
end Go.Proofs.Ytjdcohcdgdjobaa.Ev
