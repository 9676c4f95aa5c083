/- What each function of the row of FnExactValidRules returns; no conditions. -/
import Derived.Test.YtjdcohcdgdjobaaIrFnExactValidRules
namespace Go.Proofs.Ytjdcohcdgdjobaa
open Go Go.Proofs.Ytjdcohcdgdjobaa.Ev
set_option linter.unusedVariables false
set_option linter.unusedSimpArgs false

def F : Nat → Option Ev.Fn
  | 3 => some i3 | 15 => some i15 | 16 => some i16 | 17 => some i17 | 50 => some i50 | 51 => some i51 | 64 => some i64 | _ => none
abbrev I (n : Int) : LV := .sc (.int .i64 n)
abbrev B (b : Bool) : LV := .sc (.bool b)
noncomputable def ev (d : Nat) : CallF := evF F (fun _ _ => none) d
def inR (x a b : Int) : Bool := decide (a ≤ x) && decide (x ≤ b)
theorem ev_fn {f : Nat} {fn : Ev.Fn} (h : F f = some fn) (d : Nat) (args : List LV) (hl : args.length = fn.nargs) : ev (d + 1) f args = Ev.finish fn.res (evC (ev d) fn.body (Ev.start args)) := by
  show evF F (fun _ _ => none) (d + 1) f args = _
  simp only [evF, h, hl, if_true]; rfl

theorem r51 (d : Nat) (x a b : Int) : ev (d + 1) 51 [I x, I a, I b] = some (B (inR x a b), []) := by
  rw [ev_fn (fn := i51) rfl d _ rfl]
  by_cases h1 : a ≤ x <;> by_cases h2 : x ≤ b <;>
  simp [i51, h1, h2, inR, c_seq, c_reg, c_ret, c_skip, c_exit, c_block, c_true, c_false, and_nm, and_rt, and_ex, nm_some, blk_nm, blk_rt, blk_ex, st_nil, st_mv, st_ar, st_eq, st_ng, st_nt, st_cv, st_nc, st_bx, st_al, st_bd, st_bs, st_fa, st_fd, st_ia, st_ix, st_xt, st_ln, st_mx, st_mn, st_ld, st_ca, st_so, bxX, unpack, plainB, faX, fdX, iaX, xtX, lnX, mxX, mnX, ncX, ngX, ntX, cvX, eqX, soX, putL, fillL, loadAt, pack, caX, snapL, retX_sc, retX_nl, retX_flat, snap, snap1, snap0, roB, roB0, ownB, ownB0, parts, parts1, partsL, partsT, openV, trav, trav1, travL, travT, opn, thing, adds, gd_run, gd_not, gd_un, gd_notW, gd_unW, pk_t, pk_f, opd_t, opd_k, updS_at, updM_at, noMem_at, Ev.start, argS, arX, isBool, arL, arV, scO, Ev.finish, resV, resL, res1, close_sc, close_nl]
theorem r64 (d : Nat) (x a b : Int) : ev (d + 1) 64 [I x, I a, I b] = some (B (inR x a b), []) := by
  rw [ev_fn (fn := i64) rfl d _ rfl]
  by_cases h1 : a ≤ x <;> by_cases h2 : x ≤ b <;>
  simp [i64, h1, h2, inR, c_seq, c_reg, c_ret, c_skip, c_exit, c_block, c_true, c_false, and_nm, and_rt, and_ex, nm_some, blk_nm, blk_rt, blk_ex, st_nil, st_mv, st_ar, st_eq, st_ng, st_nt, st_cv, st_nc, st_bx, st_al, st_bd, st_bs, st_fa, st_fd, st_ia, st_ix, st_xt, st_ln, st_mx, st_mn, st_ld, st_ca, st_so, bxX, unpack, plainB, faX, fdX, iaX, xtX, lnX, mxX, mnX, ncX, ngX, ntX, cvX, eqX, soX, putL, fillL, loadAt, pack, caX, snapL, retX_sc, retX_nl, retX_flat, snap, snap1, snap0, roB, roB0, ownB, ownB0, parts, parts1, partsL, partsT, openV, trav, trav1, travL, travT, opn, thing, adds, gd_run, gd_not, gd_un, gd_notW, gd_unW, pk_t, pk_f, opd_t, opd_k, updS_at, updM_at, noMem_at, Ev.start, argS, arX, isBool, arL, arV, scO, Ev.finish, resV, resL, res1, close_sc, close_nl]
def okRules (a b c e : Int) : Bool := inR a 0 500 && (inR b 0 500 && (inR c 0 90 && inR e 0 100))
theorem r17 (d : Nat) (a b c e : Int) : ev (d + 2) 17 [.ag [I a, I b, I c, I e]] = some (B (okRules a b c e), []) := by
  rw [ev_fn (fn := i17) rfl (d + 1) _ rfl]
  unfold okRules
  cases h1 : inR a 0 500 <;> cases h2 : inR b 0 500 <;> cases h3 : inR c 0 90 <;> cases h4 : inR e 0 100 <;>
  simp [i17, r51, h1, h2, h3, h4, c_seq, c_reg, c_ret, c_skip, c_exit, c_block, c_true, c_false, and_nm, and_rt, and_ex, nm_some, blk_nm, blk_rt, blk_ex, st_nil, st_mv, st_ar, st_eq, st_ng, st_nt, st_cv, st_nc, st_bx, st_al, st_bd, st_bs, st_fa, st_fd, st_ia, st_ix, st_xt, st_ln, st_mx, st_mn, st_ld, st_ca, st_so, bxX, unpack, plainB, faX, fdX, iaX, xtX, lnX, mxX, mnX, ncX, ngX, ntX, cvX, eqX, soX, putL, fillL, loadAt, pack, caX, snapL, retX_sc, retX_nl, retX_flat, snap, snap1, snap0, roB, roB0, ownB, ownB0, parts, parts1, partsL, partsT, openV, trav, trav1, travL, travT, opn, thing, adds, gd_run, gd_not, gd_un, gd_notW, gd_unW, pk_t, pk_f, opd_t, opd_k, updS_at, updM_at, noMem_at, Ev.start, argS, arX, isBool, arL, arV, scO, Ev.finish, resV, resL, res1, close_sc, close_nl]
theorem r50 (d : Nat) (a b c e : Int) : ev (d + 2) 50 [.rp [I a, I b, I c, I e]] = some (B (okRules a b c e), []) := by
  rw [ev_fn (fn := i50) rfl (d + 1) _ rfl]
  unfold okRules
  cases h1 : inR a 0 500 <;> cases h2 : inR b 0 500 <;> cases h3 : inR c 0 90 <;> cases h4 : inR e 0 100 <;>
  simp [i50, r64, h1, h2, h3, h4, c_seq, c_reg, c_ret, c_skip, c_exit, c_block, c_true, c_false, and_nm, and_rt, and_ex, nm_some, blk_nm, blk_rt, blk_ex, st_nil, st_mv, st_ar, st_eq, st_ng, st_nt, st_cv, st_nc, st_bx, st_al, st_bd, st_bs, st_fa, st_fd, st_ia, st_ix, st_xt, st_ln, st_mx, st_mn, st_ld, st_ca, st_so, bxX, unpack, plainB, faX, fdX, iaX, xtX, lnX, mxX, mnX, ncX, ngX, ntX, cvX, eqX, soX, putL, fillL, loadAt, pack, caX, snapL, retX_sc, retX_nl, retX_flat, snap, snap1, snap0, roB, roB0, ownB, ownB0, parts, parts1, partsL, partsT, openV, trav, trav1, travL, travT, opn, thing, adds, gd_run, gd_not, gd_un, gd_notW, gd_unW, pk_t, pk_f, opd_t, opd_k, updS_at, updM_at, noMem_at, Ev.start, argS, arX, isBool, arL, arV, scO, Ev.finish, resV, resL, res1, close_sc, close_nl]
theorem r15 (d : Nat) (a b c e : Int) : ev (d + 3) 15 [.ag [I a, I b, I c, I e]] = some (B (okRules a b c e), []) := by
  rw [ev_fn (fn := i15) rfl (d + 2) _ rfl]
  simp [i15, r50, c_seq, c_reg, c_ret, c_skip, c_exit, c_block, c_true, c_false, and_nm, and_rt, and_ex, nm_some, blk_nm, blk_rt, blk_ex, st_nil, st_mv, st_ar, st_eq, st_ng, st_nt, st_cv, st_nc, st_bx, st_al, st_bd, st_bs, st_fa, st_fd, st_ia, st_ix, st_xt, st_ln, st_mx, st_mn, st_ld, st_ca, st_so, bxX, unpack, plainB, faX, fdX, iaX, xtX, lnX, mxX, mnX, ncX, ngX, ntX, cvX, eqX, soX, putL, fillL, loadAt, pack, caX, snapL, retX_sc, retX_nl, retX_flat, snap, snap1, snap0, roB, roB0, ownB, ownB0, parts, parts1, partsL, partsT, openV, trav, trav1, travL, travT, opn, thing, adds, gd_run, gd_not, gd_un, gd_notW, gd_unW, pk_t, pk_f, opd_t, opd_k, updS_at, updM_at, noMem_at, Ev.start, argS, arX, isBool, arL, arV, scO, Ev.finish, resV, resL, res1, close_sc, close_nl]
theorem close_ag4 (m : Mem) (a b c e : Int) : closeV m (.ag [I a, I b, I c, I e]) = some (.ag [I a, I b, I c, I e]) := rfl
theorem r16 (d : Nat) (a b c e : Int) : ev (d + 1) 16 [.ag [I a, I b, I c, I e]] = some (.ag [I a, I b, I c, I e], []) := by
  rw [ev_fn (fn := i16) rfl d _ rfl]
  simp [i16, close_ag4, c_seq, c_reg, c_ret, c_skip, c_exit, c_block, c_true, c_false, and_nm, and_rt, and_ex, nm_some, blk_nm, blk_rt, blk_ex, st_nil, st_mv, st_ar, st_eq, st_ng, st_nt, st_cv, st_nc, st_bx, st_al, st_bd, st_bs, st_fa, st_fd, st_ia, st_ix, st_xt, st_ln, st_mx, st_mn, st_ld, st_ca, st_so, bxX, unpack, plainB, faX, fdX, iaX, xtX, lnX, mxX, mnX, ncX, ngX, ntX, cvX, eqX, soX, putL, fillL, loadAt, pack, caX, snapL, retX_sc, retX_nl, retX_flat, snap, snap1, snap0, roB, roB0, ownB, ownB0, parts, parts1, partsL, partsT, openV, trav, trav1, travL, travT, opn, thing, adds, gd_run, gd_not, gd_un, gd_notW, gd_unW, pk_t, pk_f, opd_t, opd_k, updS_at, updM_at, noMem_at, Ev.start, argS, arX, isBool, arL, arV, scO, Ev.finish, resV, resL, res1, close_sc, close_nl]
theorem r3 (d : Nat) (a b c e : Int) : ev (d + 4) 3 [.ag [I a, I b, I c, I e]] = some (B true, []) := by
  rw [ev_fn (fn := i3) rfl (d + 3) _ rfl]
  cases h1 : okRules a b c e <;>
  simp [i3, r15, r16, r17, h1, c_seq, c_reg, c_ret, c_skip, c_exit, c_block, c_true, c_false, and_nm, and_rt, and_ex, nm_some, blk_nm, blk_rt, blk_ex, st_nil, st_mv, st_ar, st_eq, st_ng, st_nt, st_cv, st_nc, st_bx, st_al, st_bd, st_bs, st_fa, st_fd, st_ia, st_ix, st_xt, st_ln, st_mx, st_mn, st_ld, st_ca, st_so, bxX, unpack, plainB, faX, fdX, iaX, xtX, lnX, mxX, mnX, ncX, ngX, ntX, cvX, eqX, soX, putL, fillL, loadAt, pack, caX, snapL, retX_sc, retX_nl, retX_flat, snap, snap1, snap0, roB, roB0, ownB, ownB0, parts, parts1, partsL, partsT, openV, trav, trav1, travL, travT, opn, thing, adds, gd_run, gd_not, gd_un, gd_notW, gd_unW, pk_t, pk_f, opd_t, opd_k, updS_at, updM_at, noMem_at, Ev.start, argS, arX, isBool, arL, arV, scO, Ev.finish, resV, resL, res1, close_sc, close_nl]
theorem tab : ∀ f fn, F f = some fn → enterOk Try.prog f = true ∧ ∃ ks, cFn Try.prog f ks = some fn := by
  intro f fn h
  unfold F at h
  split at h <;> cases h
  · exact ⟨e3, _, c3⟩
  · exact ⟨e15, _, c15⟩
  · exact ⟨e16, _, c16⟩
  · exact ⟨e17, _, c17⟩
  · exact ⟨e50, _, c50⟩
  · exact ⟨e51, _, c51⟩
  · exact ⟨e64, _, c64⟩
theorem callOk (d : Nat) : CallOk Try.prog (ev d) := evF_ok mixed tab (noPrim_ok _) d
end Go.Proofs.Ytjdcohcdgdjobaa
