/- The steps of the simpler machine, laid out for simp. -/
import Derived.Test.YthnkioafikmmaaaDoorEv2
import Derived.IntWalk
namespace Go.Proofs.YthnkioafikmmaaaDoor.Ev
open Go
set_option linter.unusedVariables false
set_option linter.unusedSimpArgs false

def iteC (X : LV) (A B : Option (Ex × St)) : Option (Ex × St) := match X with | .sc (.bool t) => if t = true then A else B | _ => none
theorem c_ite {call : CallF} {x : Opd} {a b : IC} {st : St} : evC call (.ite x a b) st = iteC (Ev.opd st.s x) (evC call a st) (evC call b st) := by
  simp only [evC]
  generalize Ev.opd st.s x = X
  cases X with
  | sc v => cases v <;> rfl
  | _ => rfl
theorem iteC_b {t : Bool} {A B : Option (Ex × St)} : iteC (.sc (.bool t)) A B = if t = true then A else B := rfl
section
variable {p : Prop} [Decidable p]
theorem and_if {call : CallF} {A B : Option (Ex × St)} {c : IC} : andC call (if p then A else B) c = if p then andC call A c else andC call B c := by split <;> rfl
theorem blk_if {i : Nat} {A B : Option (Ex × St)} : blk i (if p then A else B) = if p then blk i A else blk i B := by split <;> rfl
theorem cl_if {k kr : List Nat} {A B : Option (Ex × St)} : clC k kr (if p then A else B) = if p then clC k kr A else clC k kr B := by split <;> rfl
theorem next_if {call : CallF} {k : List Nat} {c : IC} {A B : Option (Ex × St)} : nextL call k c (if p then A else B) = if p then nextL call k c A else nextL call k c B := by split <;> rfl
theorem fin_if {r : List RV} {A B : Option (Ex × St)} : Ev.finish r (if p then A else B) = if p then Ev.finish r A else Ev.finish r B := by split <;> rfl
end
theorem clean_x (keep : List Nat) (s : Nat → LV) (m : Mem) : clean keep ⟨s, m⟩ = if (noDup ((ded (gath s keep ++ gathM m (gath s keep))).map (·.2)) && thOk (ded (gath s keep ++ gathM m (gath s keep))) m (ded (gath s keep ++ gathM m (gath s keep)))) = true then some ⟨lookS (tabS (ded (gath s keep ++ gathM m (gath s keep))) s keep), lookM (tabM (ded (gath s keep ++ gathM m (gath s keep))) m (ded (gath s keep ++ gathM m (gath s keep))))⟩ else none := by
  rw [clean_eq, clean_tab]
theorem lookM_n (i : Id) : lookM [] i = none := by
  cases hq : lookM [] i with
  | none => rfl
  | some x => cases hq
theorem lookM_c (p : Id × Option Thing) (l : List (Id × Option Thing)) (i : Id) : lookM (p :: l) i = if i = p.1 then p.2 else lookM l i := by
  rw [lookM]
theorem lookS_n (t : Nat) : lookS [] t = .un := rfl
theorem lookS_c (p : Nat × LV) (l : List (Nat × LV)) (t : Nat) : lookS (p :: l) t = if t = p.1 then p.2 else lookS l t := rfl

def rootsL : List (Nat × LV) → List Id
  | [] => []
  | p :: l => match rootOf p with | some i => i :: rootsL l | none => rootsL l
theorem rootsL_eq : ∀ l : List (Nat × LV), l.filterMap rootOf = rootsL l := by
  intro l
  induction l with
  | nil => rfl
  | cons p l ih =>
    simp only [List.filterMap_cons, rootsL, ih]
    cases rootOf p <;> rfl
def allC (m : Mem) : List (Nat × LV) → Bool
  | [] => true
  | p :: l => (close0 m p.2).isSome && allC m l
theorem allC_eq (m : Mem) : ∀ l : List (Nat × LV), (l.all fun x => (close0 m x.2).isSome) = allC m l := by
  intro l
  induction l with
  | nil => rfl
  | cons p l ih => simp only [List.all_cons, allC, ih]
theorem close_x (m : Mem) (r : LV) : closeV m r = if (small r && allC m (parts r) && noDup (rootsL (parts r))) = true then some (trav (fun _ x => (close0 m x).getD .un) r) else none := by
  simp only [closeV, rootsL_eq, allC_eq]
  cases small r <;> cases allC m (parts r) <;> cases noDup (rootsL (parts r)) <;> rfl

theorem close_y {m : Mem} {r : LV} (h : (small r && allC m (parts r) && noDup (rootsL (parts r))) = true) : closeV m r = some (trav (fun _ x => (close0 m x).getD .un) r) := by
  rw [close_x, if_pos h]
theorem clean_y {keep : List Nat} {s : Nat → LV} {m : Mem} (h : (noDup ((ded (gath s keep ++ gathM m (gath s keep))).map (·.2)) && thOk (ded (gath s keep ++ gathM m (gath s keep))) m (ded (gath s keep ++ gathM m (gath s keep)))) = true) :
    clean keep ⟨s, m⟩ = some ⟨lookS (tabS (ded (gath s keep ++ gathM m (gath s keep))) s keep), lookM (tabM (ded (gath s keep ++ gathM m (gath s keep))) m (ded (gath s keep ++ gathM m (gath s keep))))⟩ := by
  rw [clean_x, if_pos h]
def thL (mk : Nat → Id) : List (Nat × LV) → List (Id × Thing)
  | [] => []
  | p :: l => match thing mk p with | some x => x :: thL mk l | none => thL mk l
theorem thL_eq (mk : Nat → Id) : ∀ l : List (Nat × LV), l.filterMap (thing mk) = thL mk l := by
  intro l
  induction l with
  | nil => rfl
  | cons p l ih =>
    simp only [List.filterMap_cons, thL, ih]
    cases thing mk p <;> rfl
def adX (v : LV) : Option Mem → Option (LV × Mem)
  | some m => some (v, m) | none => none
theorem adX_some {v : LV} {m : Mem} : adX v (some m) = some (v, m) := rfl
theorem retX_go {d : Nat} {m : Mem} {own : Bool} {r : LV} (h : (roB r && own) = false) : retX d m own (some (r, [])) = adX (trav (opn (.rs d)) r) (adds m (thL (.rs d) (parts r))) := by
  simp only [retX, h, openV, thL_eq]
  cases adds m (thL (.rs d) (parts r)) <;> rfl
def finC : Option LV → Option (LV × List LV)
  | some c => some (c, []) | none => none
def finV (st : St) : Option LV → Option (LV × List LV)
  | some x => finC (closeV st.m x) | none => none
theorem finC_some {c : LV} : finC (some c) = some (c, []) := rfl
theorem finV_some {st : St} {x : LV} : finV st (some x) = finC (closeV st.m x) := rfl
theorem fin_rt {r : List RV} {st : St} : Ev.finish r (some (.rt, st)) = finV st (resV st r) := by
  simp only [Ev.finish]
  cases resV st r with
  | none => rfl
  | some x => simp only [finV]; cases closeV st.m x <;> rfl
theorem fin_nm {r : List RV} {st : St} : Ev.finish r (some (.nm, st)) = finV st (resV st r) := by
  simp only [Ev.finish]
  cases resV st r with
  | none => rfl
  | some x => simp only [finV]; cases closeV st.m x <;> rfl

theorem isSome_t {α : Type} (a : α) : (some a).isSome = true := by
  cases h : (some a).isSome with
  | true => rfl
  | false => cases h
/-- equality, as simp leaves it -/
def eqq {α : Type} [DecidableEq α] (a b : α) : Bool := decide (a = b)
theorem eqq_self {α : Type} [DecidableEq α] (a : α) : eqq a a = true := by simp [eqq]
theorem eqq_ne {α : Type} [DecidableEq α] {a b : α} (h : a ≠ b) : eqq a b = false := by simp [eqq, h]
theorem eqX2 {neg : Bool} {a b a' b' : Int} : eqX neg [1, 1] (.ag [.sc (.int .i64 a), .sc (.int .i64 b)]) (.ag [.sc (.int .i64 a'), .sc (.int .i64 b')]) = some (.sc (.bool (if neg = true then !(eqq (a, b) (a', b')) else eqq (a, b) (a', b')))) := by
  simp [eqX, kindsOk, eqL, eqV, eqq]
theorem eqX3 {neg : Bool} {s s' : ByteArray} {b c b' c' : Int} : eqX neg [2, 1, 1] (.ag [.sc (.string s), .sc (.int .i64 b), .sc (.int .i64 c)]) (.ag [.sc (.string s'), .sc (.int .i64 b'), .sc (.int .i64 c')]) = some (.sc (.bool (if neg = true then !(eqq (s, b, c) (s', b', c')) else eqq (s, b, c) (s', b', c')))) := by
  simp [eqX, kindsOk, eqL, eqV, eqq]
theorem eqX4 {neg : Bool} {a b c e a' b' c' e' : Int} : eqX neg [1, 1, 1, 1] (.ag [.sc (.int .i64 a), .sc (.int .i64 b), .sc (.int .i64 c), .sc (.int .i64 e)]) (.ag [.sc (.int .i64 a'), .sc (.int .i64 b'), .sc (.int .i64 c'), .sc (.int .i64 e')]) = some (.sc (.bool (if neg = true then !(eqq (a, b, c, e) (a', b', c', e')) else eqq (a, b, c, e) (a', b', c', e')))) := by
  simp [eqX, kindsOk, eqL, eqV, eqq]
theorem eqX5 {neg : Bool} {a b c e f a' b' c' e' f' : Int} : eqX neg [1, 1, 1, 1, 1] (.ag [.sc (.int .i64 a), .sc (.int .i64 b), .sc (.int .i64 c), .sc (.int .i64 e), .sc (.int .i64 f)]) (.ag [.sc (.int .i64 a'), .sc (.int .i64 b'), .sc (.int .i64 c'), .sc (.int .i64 e'), .sc (.int .i64 f')]) = some (.sc (.bool (if neg = true then !(eqq (a, b, c, e, f) (a', b', c', e', f')) else eqq (a, b, c, e, f) (a', b', c', e', f')))) := by
  simp [eqX, kindsOk, eqL, eqV, eqq]
attribute [simp] eqX2 eqX3 eqX4 eqX5 eqq_self
attribute [simp high] isSome_t
theorem low_map {α : Type} {f : α → List Cell} {g : α → List Value} (h : ∀ a, (f a).mapM lowC = some (g a)) (l : List α) : low (l.map f) = some (l.map g) := by
  unfold low
  induction l with
  | nil => rfl
  | cons a l ih =>
    rw [List.map_cons, List.mapM_cons, h a]
    simp only [Option.bind_eq_bind, Option.bind_some]
    rw [ih]; rfl
theorem lift_n : Ev.lift [] = [] := rfl
theorem lift_c (r : List Value) (l : List (List Value)) : Ev.lift (r :: l) = r.map Cell.sc :: Ev.lift l := rfl
attribute [simp] lift_n lift_c
theorem lift_map {α : Type} {f : α → List Cell} {g : α → List Value} (h : ∀ a, (g a).map Cell.sc = f a) (l : List α) : Ev.lift (l.map g) = l.map f := by
  unfold Ev.lift
  rw [List.map_map]
  exact List.map_congr_left fun a _ => h a
attribute [simp] c_rgc ckC_some ckB noOwnV c_seq c_reg c_ret c_skip c_exit c_block c_true c_false c_cln c_loop and_nm and_rt and_ex nm_some blk_nm blk_rt blk_ex cl_nm cl_rt cl_ex r_some
  st_nil st_mv st_ar st_eq st_ng st_nt st_cv st_nc st_bx st_al st_bd st_bs st_fa st_fd st_ia st_ix st_xt st_ln st_mx st_mn st_ld st_ca st_so st_sm st_sl st_s3 st_isn isnV nilV s3V lenV sliceV st_mf st_by st_ms st_mz st_bw st_ap
  bxX unpack plainB faX fdX iaX ixX xtX lnX mxX mnX ncX ngX ntX cvX soX smX adoptAll adsV toCellU fgtM_at fgtT fgtS_at fgt2 fgt1 fgt0 ledTo mfX byX natX bwX apW apT exSt exV srcRows okC okT goneT hollow hollowC pullRows List.all_map putL fillL fillR loadAt pack caX snapL retX_sc retX_nl retX_go adX_some snap snap1 snap0 roB roB0 roCell ownB ownB0 parts parts1 partsL partsT
  thL trav trav1 travL travT opn thing adds gd_run gd_not gd_un gd_notW gd_unW pk_t pk_f opd_t opd_k updS_at updM_at noMem_at Ev.start argS arX isBool arL arV scO natOf natOr
  fin_rt fin_nm finV_some finC_some resV resL res1 close_sc close_nl close_y lookS_n lookS_c lookM_n lookM_c look roC ownC ownRow clean_y gath gath1 gathL gathM idOf ded noDup thOk tabS tabM bindT renV renO renL renT toN idsOf lpC_some next_nm next_rt next_ex toCell lowC kindsOk eqL eqV isSc rootsL allC small small1 close0 rootOf
attribute [simp] c_trm trmX trmY c_rgw evLw_eq preW postW isCwI cwN_nil cwN_cw cwN_cm cwN_cp cwN_fa cwN_ld cwN_ia stQ_t isBR isRO strictB needS whole_one wholeX_some cpA_some cpB_some cmA_some cmB_some cmD_some thN takeP pullT finM_eq finM1_some cwA_some cwB_some cwD_some cwF_some fglS_at fgl2 fgl1 fgl0 fgtMs rootL backs_n backs_c backN_some back1_r back1_c back1_sc back1_nl back1_ro bkR_some
  startS_at startQ_at startT finW2_some finW2_void preA postA noClB isRV shot1 shotL shotC shotA roLV finW_rt finW_nm backV_rf backV_sc backV_nl backV_ro backR_rf outS_n outS_c outV_rf outV_sc outV_nl outV_ro mk0
theorem finW_if {p : Prop} [Decidable p] {as : List LV} {r : List RV} {A B : Option (Ex × St)} : finishW as r (if p then A else B) = if p then finishW as r A else finishW as r B := by split <;> rfl
theorem finM_if {p : Prop} [Decidable p] {r : List RV} {A B : Option (Ex × St)} : finishM r (if p then A else B) = if p then finishM r A else finishM r B := by split <;> rfl
end Go.Proofs.YthnkioafikmmaaaDoor.Ev
