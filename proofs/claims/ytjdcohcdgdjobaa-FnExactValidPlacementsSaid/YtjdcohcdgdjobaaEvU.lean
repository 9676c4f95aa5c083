/- One operation after another. -/
import Derived.Test.YtjdcohcdgdjobaaEvT
namespace Go.Proofs.Ytjdcohcdgdjobaa.Ev
open Go
set_option linter.unusedVariables false
set_option linter.unusedSimpArgs false

def isSo : IOp → Bool
  | .so .. => true | _ => false

section
variable {P : Program} {S N : Nat → Prop} {G G0 : Gh} {m : Mem} {st : St} {a : Act} {w : World}

/-- what an operation that writes does -/
def Op2 (P : Program) (o : Oper) (a : Act) (w : World) (Φ : Option Value → World → Prop) : Prop :=
  ∃ w', ((execOp a.eval o).run P w = .ok .skip w' ∧ Φ none w') ∨ ∃ v, (execOp a.eval o).run P w = .ok (.value v) w' ∧ Φ (some v) w'

theorem evW_sound (h : SR S N G st a w) {o : Oper} {io : IOp} (hc : cOp P o.op = some io) {d : Nat} {v : LV} {m' : Mem} (hv : evW d st io = some (v, m')) :
    (∃ n x y, io = .so n x y) ∧ Writes P o a w (fun w' => NextW S N G st w .un m' undef w') ∨ isSo io = false ∧ Does P o a w (NextW S N G st w v m') := by
  unfold cOp at hc
  split at hc
  case h_9 t x y ho =>
    split at hc
    case h_2 => cases hc
    rename_i n x1 y1 h1 h2 h3
    cases hc
    refine .inl ⟨⟨_, _, _, rfl⟩, ?_⟩
    simp only [evW] at hv
    split at hv
    case h_2 => cases hv
    rename_i vs hu
    split at hv
    case isFalse => cases hv
    rename_i hcond
    split at hv
    · rename_i i off ex
      split at hv
      · rename_i cells hi
        split at hv
        · rename_i c hp
          cases hv
          exact do_so h (cO_fO h2) (cO_fO h3) ho h1 ex hi hu hcond.1 hcond.2 hp
        · cases hv
      · cases hv
    · rename_i i r c ex
      split at hv
      · rename_i e n0 rows xs hi hcells
        split at hv
        · rename_i row hrow
          split at hv
          · rename_i hle
            cases hv
            exact do_se h (cO_fO h2) (cO_fO h3) ho h1 ex hi hu hcond.1 hcond.2 hcells hrow hle
          · cases hv
        · cases hv
      · cases hv
    · cases hv
  case h_23 c ho =>
    obtain ⟨callee, args, ts⟩ := c
    unfold cCall at hc
    simp only at hc
    split at hc
    · split at hc
      · cases hc; cases hv
      · cases hc
    · split at hc
      · cases hc; cases hv
      · cases hc
    · split at hc
      · cases hc; cases hv
      · cases hc
    · rename_i x y t u e1 e2
      have ea : args = #[x, y] := by rw [← Array.toList_inj]; simpa using e1
      have et : ts = #[t, u] := by rw [← Array.toList_inj]; simpa using e2
      subst ea et
      split at hc
      case h_2 => cases hc
      rename_i e n z s e' x1 y1 h1 h2 h3 h4
      split at hc
      case isFalse => cases hc
      rename_i hse
      cases hc
      refine .inr ⟨rfl, ?_⟩
      obtain ⟨b, zv, q1, q2, q3, q4, q5, q6, q7, q8, q9⟩ := elT_inv h1
      simp only [evW] at hv
      split at hv
      case h_2 => cases hv
      rename_i more hsr hstr
      have htx : P.underlying u = some (srcT e (opd st.s y1)) := by
        rcases tyOf_inv h2 with ⟨rfl, hu⟩ | ⟨rfl, hu⟩
        · generalize opd st.s y1 = Y at hstr
          cases Y <;> simp at hstr
          simpa [srcT] using hu
        · have he : e' = e := by simpa using hse
          subst he
          generalize opd st.s y1 = Y at hstr
          cases Y <;> simp at hstr <;> simpa [srcT] using hu
      split at hv
      · rename_i ex
        split at hv
        case isFalse => cases hv
        rename_i hcond
        have main := do_ap_nil (P := P) h (cO_fO h3) (cO_fO h4) ho q1 htx q2 q3 q4 q5 q8 q9 ex hsr hcond.1 hcond.2
        obtain ⟨v1, w1, g1, g2⟩ := main
        split at hv <;> rename_i h0 <;> cases hv
        · simp only [h0, if_true] at g2
          exact ⟨v1, w1, g1, g2.toW h⟩
        · simp only [h0, if_false] at g2
          exact ⟨v1, w1, g1, g2.toW h⟩
      · rename_i i lo k ex
        split at hv
        case h_2 => cases hv
        rename_i e2 n2 rows hi
        split at hv
        case isFalse => cases hv
        rename_i hcond
        obtain ⟨rfl, rfl, rfl, rfl, c1, c2⟩ := hcond
        cases hv
        exact do_ap (P := P) h (cO_fO h3) (cO_fO h4) ho q1 htx q2 q3 q4 q5 q8 q9 ex hi hsr c1 c2
      · cases hv
    · split at hc
      · cases hc; cases hv
      · cases hc
    · cases hc
  all_goals first
    | (cases hc; done)
    | (rw [Option.map_eq_some_iff] at hc; obtain ⟨y, hy, rfl⟩ := hc; cases hv; done)
    | skip
  case h_7 t len ps ho =>
    split at hc
    case h_2 => cases hc
    rename_i e n z l' h1 h2
    split at hc
    case isFalse => cases hc
    rename_i hlen
    split at hc
    case isFalse => cases hc; cases hv
    cases hc
    obtain ⟨b, zv, q1, q2, q3, q4, q5, q6, q7, q8, q9⟩ := elT_inv h1
    simp only [evW] at hv
    split at hv
    case h_2 => cases hv
    rename_i rows hfl
    split at hv
    case isFalse => cases hv
    rename_i hcond
    split at hv
    case h_2 => cases hv
    rename_i m2 had
    cases hv
    exact .inr ⟨rfl, do_bsU h ho q1 q2 q5 q6 q7 (cPs_fPs h2) hlen q9 hcond.1 hfl hcond.2 had⟩
  case h_11 =>
    unfold cBin at hc
    repeat' split at hc
    all_goals (cases hc; try cases hv)
  all_goals (repeat' split at hc)
  all_goals (cases hc; try cases hv)
end

/-! ### one operation -/
section
variable {P : Program} {S N : Nat → Prop} {G G0 : Gh} {m : Mem} {st : St} {a : Act} {w : World}
theorem evSM_sound (h : SR S N G st a w) {o : Oper} {io : IOp} (hc : cOp P o.op = some io) {st' : St} (hv : evSM st io = some st') :
    Writes P o a w (fun w' => (∃ G', Inv S N G' st'.m w' ∧ ∀ t, R G' S st'.m w' (st'.s t) (a.tmps.getD t undef) ∧ wf st'.m (st'.s t)) ∧ FrN N w w') := by
  unfold cOp at hc
  split at hc
  case h_9 t x y ho =>
    split at hc
    case h_2 => cases hc
    rename_i n x1 y1 h1 h2 h3
    cases hc
    simp only [evSM] at hv
    split at hv
    case h_2 => cases hv
    rename_i vs i r c hu ex
    split at hv
    case isFalse => cases hv
    rename_i hcond
    split at hv
    case h_2 => cases hv
    rename_i e n0 rows xs hi hcells
    split at hv
    case h_2 => cases hv
    rename_i row hrow
    split at hv
    case isFalse => cases hv
    rename_i hle
    split at hv
    case h_2 => cases hv
    rename_i m' ha
    cases hv
    obtain ⟨w', hr, ⟨G', g1, g2⟩, g3⟩ := do_sm (P := P) h (cO_fO h2) (cO_fO h3) ho h1 ex hi hu hcond.1 hcond.2 hcells hrow hle ha
    exact ⟨w', hr, ⟨G', g1, fun t => g2 _ _ (h.slot t).1 (h.slot t).2⟩, g3⟩
  case h_23 c ho =>
    obtain ⟨callee, args, ts⟩ := c
    unfold cCall at hc
    simp only at hc
    repeat' split at hc
    all_goals (cases hc; try cases hv)
  all_goals first
    | (cases hc; done)
    | (rw [Option.map_eq_some_iff] at hc; obtain ⟨y, hy, rfl⟩ := hc; cases hv; done)
    | skip
  case h_11 =>
    unfold cBin at hc
    repeat' split at hc
    all_goals (cases hc; try cases hv)
  all_goals (repeat' split at hc)
  all_goals (cases hc; try cases hv)

end
def dstOf (ops : Array Oper) (g : Nat) : Option Nat := (ops[g]?).bind (·.dst)
def cGuard (ops : Array Oper) : Option (Nat × Bool) → Option (Option (Nat × Bool))
  | none => some none
  | some (g, want) => match dstOf ops g with | some t => some (some (t, want)) | none => none
def cIO (P : Program) (nt : Nat) (ops : Array Oper) (o : Oper) : Option OpI :=
  match cOp P o.op, cGuard ops o.guard with
  | some io, some g =>
    match o.dst with
    | some d => if d < nt ∧ isSo io = false then some ⟨d, io, g, false⟩ else none
    | none => if isSo io = true then some ⟨1, io, g, true⟩ else none
  | _, _ => none

def evD (call : CallF) (io : OpI) (st : St) : Option St :=
  match io.w with
  | true => match evW io.d st io.op with | some (_, m') => some ⟨st.s, m'⟩ | none => if io.d = 1 then evSM st io.op else none
  | false =>
    match isW io.op with
    | true => (match evW io.d st io.op with | some (v, m') => some ⟨updS st.s io.d v, m'⟩ | none => none)
    | false =>
      match evR call io.d st io.op with
      | some (v, l) => (match adds st.m l with | some m' => some ⟨updS st.s io.d v, m'⟩ | none => none)
      | none => none
def evSkip (io : OpI) (st : St) : St := match io.w with | true => st | false => ⟨updS st.s io.d (.tu []), st.m⟩
def evO (call : CallF) (io : OpI) (st : St) : Option St :=
  match io.g with
  | none => evD call io st
  | some (t, want) =>
    match st.s t with
    | .sc (.bool b) => if b = want then evD call io st else some (evSkip io st)
    | .tu [] => some (evSkip io st)
    | _ => none
def evL (call : CallF) : List OpI → St → Option St
  | [], st => some st
  | x :: l, st => match evO call x st with | some st' => evL call l st' | none => none

/-- what is known of the functions that are called -/
def CallOk (P : Program) (call : CallF) : Prop := ∀ g args r, call g args = some (r, []) → enterOk P g = true ∧ small r = true ∧ Contract P g args r

structure SA (nt : Nat) (S N : Nat → Prop) (G : Gh) (st : St) (a : Act) (w : World) : Prop extends SR S N G st a w where
  size : a.tmps.size = nt

section
variable {P : Program} {S N : Nat → Prop} {G G0 : Gh} {m : Mem} {st st' : St} {a : Act} {w : World} {nt : Nat} {ops : Array Oper}

theorem SA.put (h : SA nt S N G st a w) {G' : Gh} {m' : Mem} {w' : World} {d : Nat} {v : LV} {v' : Value} (hd : d < nt) (h1 : Inv S N G' m' w') (h2 : ∀ x u, R G S st.m w x u → wf st.m x → R G' S m' w' x u ∧ wf m' x)
    (h3 : R G' S m' w' v v') (h4 : wf m' v) (h5 : FrN N w w') : SA nt S N G' ⟨updS st.s d v, m'⟩ (a.put (some d) v') w' := by
  refine ⟨⟨h1, fun t => ?_, h.df, fun b hb => h.new b (Nat.le_trans h5.size hb)⟩, by simp [Act.put, h.size]⟩
  by_cases ht : t = d
  · subst ht
    have : (a.put (some t) v').tmps.getD t undef = v' := by
      have hlt : t < a.tmps.size := by rw [h.size]; exact hd
      simp [Act.put, hlt]
    rw [this]
    simp only [updS, if_true]
    exact ⟨h3, h4⟩
  · have : (a.put (some d) v').tmps.getD t undef = a.tmps.getD t undef := by
      simp [Act.put, Array.getElem?_setIfInBounds_ne (Ne.symm ht)]
    rw [this]
    simp only [updS, if_neg ht]
    obtain ⟨q1, q2⟩ := h.slot t
    exact h2 _ _ q1 q2

theorem SA.undef (h : SA nt S N G st a w) {d : Nat} (hd : d < nt) : SA nt S N G ⟨updS st.s d (.tu []), st.m⟩ (a.put (some d) undef) w :=
  h.put hd h.inv (fun x u hx hw => ⟨hx, hw⟩) ⟨#[], rfl, rfl, fun k x hk => by simp at hk⟩ (fun x hx => by simp at hx) (FrN.refl _ _)

theorem SA.mem (h : SA nt S N G st a w) {G' : Gh} {m' : Mem} {w' : World} (h1 : Inv S N G' m' w') (h2 : ∀ x u, R G S st.m w x u → wf st.m x → R G' S m' w' x u ∧ wf m' x) (h5 : FrN N w w') : SA nt S N G' ⟨st.s, m'⟩ a w' :=
  ⟨⟨h1, fun t => let ⟨q1, q2⟩ := h.slot t; h2 _ _ q1 q2, h.df, fun b hb => h.new b (Nat.le_trans h5.size hb)⟩, h.size⟩

/-- an operation that runs: what is behind it -/
theorem evD_does (h : SA nt S N G st a w) {call : CallF} (hcall : CallOk P call) {o : Oper} {io : OpI} (hc : cIO P nt ops o = some io) (hv : evD call io st = some st') :
    (∃ w', (execOp a.eval o).run P w = .ok .skip w' ∧ (∃ G', SA nt S N G' st' (a.put o.dst undef) w') ∧ FrN N w w') ∨
    Op1 P o a w (fun v w' => (∃ G', SA nt S N G' st' (a.put o.dst v) w') ∧ FrN N w w') := by
  unfold cIO at hc
  split at hc
  case h_2 => cases hc
  rename_i iop g h1 h2
  split at hc
  · rename_i d hd
    split at hc
    case isFalse => cases hc
    rename_i hcond
    cases hc
    simp only [evD] at hv
    rw [hd]
    split at hv
    · rename_i hw
      split at hv
      case h_2 => cases hv
      rename_i v m' he
      cases hv
      rcases evW_sound h.toSR h1 he with ⟨⟨n, x, y, hio⟩, _⟩ | ⟨_, v', w', hr, G', g1, g2, g3, g4, g5⟩
      · rw [hio] at hcond; cases hcond.2
      · exact .inr (.inl ⟨v', w', hr, ⟨G', h.put hcond.1 g1 g2 g3 g4 g5⟩, g5⟩)
    · rename_i hw
      split at hv
      case h_2 => cases hv
      rename_i v l he
      split at hv
      case h_2 => cases hv
      rename_i m' ha
      cases hv
      rcases evR_sound h.toSR hcall h1 hw he ha with ⟨v', w', hr, hn⟩ | ⟨f, vals, hr, hcl⟩
      · obtain ⟨G', g1, g2, g3, g4, g5⟩ := hn.toW h.toSR
        exact .inr (.inl ⟨v', w', hr, ⟨G', h.put hcond.1 g1 g2 g3 g4 g5⟩, g5⟩)
      · refine .inr (.inr ⟨f, vals, hr, Calls.mono hcl fun e w' => ?_⟩)
        rintro ⟨v', rfl, hn⟩
        obtain ⟨G', g1, g2, g3, g4, g5⟩ := Next.toW h.toSR hn
        exact ⟨v', rfl, ⟨G', h.put hcond.1 g1 g2 g3 g4 g5⟩, g5⟩
  · rename_i hd
    split at hc
    case isFalse => cases hc
    rename_i hso
    cases hc
    simp only [evD] at hv
    rw [hd]
    split at hv
    · rename_i v m' he
      cases hv
      rcases evW_sound h.toSR h1 he with ⟨_, w', hr, G', g1, g2, g3, g4, g5⟩ | ⟨hns, _⟩
      · exact .inl ⟨w', hr, ⟨G', h.mem g1 g2 g5⟩, g5⟩
      · rw [hns] at hso; cases hso
    · simp only [if_true] at hv
      obtain ⟨w', hr, ⟨G', g1, g2⟩, g3⟩ := evSM_sound h.toSR h1 hv
      exact .inl ⟨w', hr, ⟨G', ⟨⟨g1, g2, h.df, fun b hb => h.new b (Nat.le_trans g3.size hb)⟩, h.size⟩⟩, g3⟩

theorem yielded_of {g t : Nat} (h : dstOf ops g = some t) (tmps : Array Value) : yielded ops tmps g = match tmps[t]? with | some (.bool b) => some b | _ => none := by
  unfold dstOf at h
  unfold yielded
  rw [h]
  rfl

/-- an operation, run or passed over -/
theorem evO_cases (h : SA nt S N G st a w) {call : CallF} {o : Oper} {io : OpI} (hc : cIO P nt ops o = some io) (hv : evO call io st = some st') :
    (Region.wanted o (yielded ops a.tmps) = true ∧ evD call io st = some st') ∨ (Region.wanted o (yielded ops a.tmps) = false ∧ SA nt S N G st' (a.put o.dst undef) w) := by
  have hc' := hc
  unfold cIO at hc
  split at hc
  case h_2 => cases hc
  rename_i iop g h1 h2
  have hg : io.g = g := by
    split at hc <;> split at hc <;> cases hc <;> rfl
  have hskip : SA nt S N G (evSkip io st) (a.put o.dst undef) w := by
    split at hc
    · rename_i d hd
      split at hc
      case isFalse => cases hc
      rename_i hcond
      cases hc
      rw [hd]
      exact h.undef hcond.1
    · rename_i hd
      split at hc
      case isFalse => cases hc
      cases hc
      rw [hd]
      exact h
  unfold evO at hv
  rw [hg] at hv
  unfold cGuard at h2
  split at h2
  · rename_i hgn
    cases h2
    exact .inl ⟨by simp [Region.wanted, hgn], hv⟩
  · rename_i j want hgs
    split at h2
    case h_2 => cases h2
    rename_i t ht
    cases h2
    simp only at hv
    obtain ⟨q1, q2⟩ := h.slot t
    have hy := yielded_of ht a.tmps
    split at hv
    · rename_i b hb
      rw [hb] at q1
      have e1 : a.tmps[t]? = some (.bool b) := by
        simp only [R, R1, R0, ScR] at q1
        cases hq : a.tmps[t]? with
        | none => simp [hq, undef] at q1
        | some z => simp [hq] at q1; rw [q1.1]
      rw [e1] at hy
      simp only at hy
      split at hv
      · rename_i hbw
        exact .inl ⟨by simp [Region.wanted, hgs, hy, hbw], hv⟩
      · rename_i hbw
        cases hv
        refine .inr ⟨?_, hskip⟩
        simp [Region.wanted, hgs, hy, hbw]
    · rename_i hb
      cases hv
      rw [hb] at q1
      obtain ⟨cs, e1, q3, _⟩ := q1
      refine .inr ⟨?_, hskip⟩
      have : yielded ops a.tmps j = none := by
        rw [hy]
        cases hq : a.tmps[t]? with
        | none => rfl
        | some z => simp [hq] at e1; subst e1; rfl
      simp [Region.wanted, hgs, this]
    · cases hv

theorem evO_wpOp (h : SA nt S N G st a w) {call : CallF} (hcall : CallOk P call) {i : Nat} {o : Oper} (hi : ops[i]? = some o) {io : OpI} (hc : cIO P nt ops o = some io) (hv : evO call io st = some st')
    {K : Act → World → Prop} {Q : Exit → Act → World → Prop} (hK : ∀ G' a' w', SA nt S N G' st' a' w' → FrN N w w' → K a' w') : wpOp P ops Q i K a w := by
  unfold wpOp
  simp only [hi]
  rcases evO_cases h hc hv with ⟨hw, hd⟩ | ⟨hw, hs⟩
  · rw [if_pos hw]
    left
    rcases evD_does h hcall hc hd with ⟨w', hr, ⟨G', hs⟩, hf⟩ | hop
    · unfold Oper.wp; rw [hr]; exact hK G' _ w' hs hf
    · exact hop.wp fun v w' ⟨⟨G', hs⟩, hf⟩ => hK G' _ w' hs hf
  · rw [if_neg (by simp [hw])]
    exact hK G _ w hs (FrN.refl _ _)

/-- the state behind an operation stands for something -/
theorem evO_ok (h : SA nt S N G st a w) {call : CallF} (hcall : CallOk P call) {o : Oper} {io : OpI} (hc : cIO P nt ops o = some io) (hv : evO call io st = some st') : ∃ G' a' w', SA nt S N G' st' a' w' := by
  rcases evO_cases h hc hv with ⟨hw, hd⟩ | ⟨hw, hs⟩
  · rcases evD_does h hcall hc hd with ⟨w', hr, ⟨G', hs⟩, hf⟩ | ⟨v, w', hr, ⟨G', hs⟩, hf⟩ | ⟨f, vals, hr, hcl⟩
    · exact ⟨G', _, w', hs⟩
    · exact ⟨G', _, w', hs⟩
    · obtain ⟨e, w', fr, hR, _⟩ := hcl []
      obtain ⟨v, rfl, ⟨G', hs⟩, hf⟩ := hR
      exact ⟨G', _, w', hs⟩
  · exact ⟨G, _, w, hs⟩
end
end Go.Proofs.Ytjdcohcdgdjobaa.Ev
