/- The row ReadLeaf; no conditions. -/
import Derived.Test.YthnkioafikmmaaaDoorWTi
import Derived.Test.YthnkioafikmmaaaDoorWMark2
namespace Go.Proofs.YthnkioafikmmaaaDoor.walkS
open Go Go.Proofs.YthnkioafikmmaaaDoor.Ev
open Go.Lib
set_option linter.unusedSimpArgs false
set_option linter.unusedVariables false
set_option maxHeartbeats 4000000
def oBx : List Bx → LV
  | [] => .nl
  | b :: l => .ow 75 4 ((b :: l).map bC)
def zLf : Lf := ⟨⟨#[]⟩, ⟨#[]⟩, 0, ⟨#[]⟩, 0, 0, 0, 0, []⟩
def rlfO (s : ByteArray) : Lf × Bool := match rlP (splitL s slash) with | some L => ifb (okL L) (L, true) (zLf, false) | none => (zLf, false)
theorem rn89 (d f : Nat) (vs : List LV) : ev (d + 1) 89 [.nl, .cl f [.rp vs]] = some (I (-1), []) := by
  rw [s89 d _ rfl]
  simp
  rw [lp_step]
  simp
theorem rn71 (d f : Nat) (vs : List LV) : ev (d + 2) 71 [.nl, .cl f [.rp vs]] = some (B false, []) := by
  rw [s71 (d + 1) _ rfl]
  have h1 := rn89 d f vs
  simp [h1]
theorem rn43 (d : Nat) (L : Lf) (hF : L.df = []) (h1 : L.id.size ≤ big) (h2 : L.fl.size ≤ big) : ev (d + 6) 43 [.ag (lA L .nl)] = some (B (okL L), []) := by
  rw [s43 (d + 5) _ rfl]
  have e1 := r70 (d + 4) L.id h1
  have e2 := r70 (d + 4) L.fl h2
  have e3 := rn71 (d + 3) 72 (lA L .nl)
  unfold okL
  rw [hF]
  cases a1 : nameOk L.id
  case false => simp [e1, a1]
  cases a2 : nameOk L.fl
  case false => simp [e1, e2, a1, a2]
  cases a3 : inR L.num 0 999
  case false => simp [e1, e2, a1, a2, r63, a3]
  cases a4 : okS L.sp L.sh L.gr
  case false => simp [e1, e2, a1, a2, r63, a3, r33, ok_same, a4]
  cases a5 : inR L.wd 10 20000
  case false => simp [e1, e2, a1, a2, r63, a3, r33, ok_same, a4, a5]
  cases a6 : inR L.ln 10 20000
  case false => simp [e1, e2, a1, a2, r63, a3, r33, ok_same, a4, a5, a6]
  simp [e1, e2, a1, a2, r63, a3, r33, ok_same, a4, a5, a6, e3]
theorem ln40 (d : Nat) (L : Lf) : clC [] [2] (blk 0 (lp (evC (ev (d + 2)) b40_1) (clean [0, 3]) ⟨lookS [(0, .rp (lA L .nl)), (3, I 0)], lookM []⟩)) = some (.nm, ⟨lookS [], lookM []⟩) := by
  rw [lp_step]
  simp
theorem rn40 (d : Nat) (L : Lf) (hF : L.df = []) (h1 : L.id.size ≤ big) (h2 : L.fl.size ≤ big) : ev (d + 4) 40 [.rp (lA L .nl)] = some (B (okL L), []) := by
  rw [s40 (d + 3) _ rfl]
  have e1 := r67 (d + 1) L.id h1
  have e2 := r67 (d + 1) L.fl h2
  unfold okL
  rw [hF]
  cases a1 : nameOk L.id
  case false => simp [e1, a1]
  cases a2 : nameOk L.fl
  case false => simp [e1, e2, a1, a2]
  cases a3 : inR L.num 0 999
  case false => simp [e1, e2, a1, a2, r58, a3]
  cases a4 : okS L.sp L.sh L.gr
  case false => simp [e1, e2, a1, a2, r58, a3, r31, a4]
  cases a5 : inR L.wd 10 20000
  case false => simp [e1, e2, a1, a2, r58, a3, r31, a4, a5]
  cases a6 : inR L.ln 10 20000
  case false => simp [e1, e2, a1, a2, r58, a3, r31, a4, a5, a6]
  have key := ln40 (d + 1) L
  try simp at key
  simp [e1, e2, a1, a2, r58, a3, r31, a4, a5, a6, key]
theorem ln19 (d : Nat) (acc : List ByteArray) : clC [3] [2] (blk 0 (lp (evC (ev (d + 4)) b19_1) (clean [3, 29, 30, 31]) ⟨lookS [(3, .rf (.sl 3) none 0 acc.length), (29, .nl), (30, I 0), (31, I 0)], lookM [((.sl 3), some (.arr 9 1 (acc.map sC)))]⟩)) = some (.nm, ⟨lookS [(3, .rf (.sl 3) none 0 acc.length)], lookM [((.sl 3), some (.arr 9 1 (acc.map sC)))]⟩) := by
  rw [lp_step]
  simp
theorem rn19 (d : Nat) (L : Lf) (hF : L.df = []) (h1 : L.id.size ≤ big) (h2 : L.fl.size ≤ big) : ev (d + 7) 19 [.ag (lA L .nl)] = some (T (ltB L), []) := by
  rw [s19 (d + 6) _ rfl]
  have c1 := rn43 d L hF h1 h2
  unfold ltB
  cases hk : okL L
  · rw [hk] at c1
    simp [c1]
  rw [hk] at c1
  have h := okL_lf hk
  have e3 := h.num; have e4 := h.wd; have e5 := h.ln
  have p1 := r34 (d + 5) L.num (by omega) (by omega)
  have p2 := r12 (d + 1) L.sp L.sh L.gr (by have := okS_size h.ok; omega)
  have hvt : vtB L.sp L.sh L.gr = vnB L.sp L.sh L.gr := by unfold vtB; rw [h.ok]; rfl
  rw [hvt] at p2
  have p3 := r34 (d + 5) L.wd (by omega) (by omega)
  have p4 := r34 (d + 5) L.ln (by omega) (by omega)
  have d3 := decB_size (n := L.wd) (by omega) (by omega)
  have d4 := decB_size (n := L.ln) (by omega) (by omega)
  have z1 : (decB L.wd).size + 1 ≤ 9000000000000000000 := by omega
  have z2 : (decB L.wd).size + 1 + (decB L.ln).size ≤ 9000000000000000000 := by omega
  have key := ln19 (d + 2) [L.id, L.fl, decB L.num, vnB L.sp L.sh L.gr, szB L.wd L.ln]
  have hP : lfP L = [L.id, L.fl, decB L.num, vnB L.sp L.sh L.gr, szB L.wd L.ln] := by unfold lfP; rw [hF]; rfl
  have hsz := lfP_size h 0
  rw [List.take_zero, List.map_nil, List.append_nil] at hsz
  have p5 := p45 (d + 6) [L.id, L.fl, decB L.num, vnB L.sp L.sh L.gr, szB L.wd L.ln] slash (by simp [big]) (by show (joinB _ slash).size ≤ big; simp only [big]; exact Nat.le_trans hsz (by decide))
  rw [hP]
  unfold szB at key p5 ⊢
  generalize joinB _ slash = J at p5 ⊢
  simp [exB] at key p5
  simp [slash] at p5
  simp [c1, p1, p2, p3, p4, z1, z2, sz120, ByteArray.size_append, key, p5, slash, shut, shutC]
theorem l52c (d : Nat) (ok : Bool) (b0 : ByteArray) (bs : List ByteArray) (RW : List (List Cell)) (hRW : ∀ (i : Nat) (x : ByteArray), (b0 :: bs)[i]? = some x → RW[i + 5]? = some (sC x)) (hl : (b0 :: bs).length ≤ 2000000) (hz : ∀ x ∈ b0 :: bs, x.size ≤ 1048576) (id fl : ByteArray) (num : Int) (sp : ByteArray) (sh gr wd ln : Int) :
    clC [2, 12, 13] [2, 3] (blk 0 (lp (evC (ev (d + 4)) b52_1) (clean [2, 4, 12, 13, 14]) ⟨lookS [(2, .bp (.sl 2) 0), (4, .rf (.sl 4) none 0 (bs.length + 1 + 5)), (12, .bp (.sl 12) 0), (13, B ok), (14, I 5)], lookM [((.sl 2), some (.box [T ⟨#[]⟩, T ⟨#[]⟩, I 0, T ⟨#[]⟩, I 0, I 0, I 0, I 0, .nl])), ((.sl 4), some (.arr 9 1 RW)), ((.sl 12), some (.box [T id, T fl, I num, T sp, I sh, I gr, I wd, I ln, .nl]))]⟩)) =
      rbE (rbF (b0 :: bs)) (fun r => some (.nm, ⟨lookS [(2, .bp (.sl 2) 0), (12, .bp (.sl 12) 0), (13, B ok)], lookM [((.sl 2), some (.box [T ⟨#[]⟩, T ⟨#[]⟩, I 0, T ⟨#[]⟩, I 0, I 0, I 0, I 0, .nl])), ((.sl 12), some (.box [T id, T fl, I num, T sp, I sh, I gr, I wd, I ln, .rf (.ce 12 8) none 0 r.length])), ((.ce 12 8), some (.arr 75 4 (r.map bC)))]⟩)) (some (.rt, ⟨lookS [(2, .bp (.sl 2) 0), (3, B false)], lookM [((.sl 2), some (.box [T ⟨#[]⟩, T ⟨#[]⟩, I 0, T ⟨#[]⟩, I 0, I 0, I 0, I 0, .nl]))]⟩)) := by
  have h0 : (5 : Int) < (bs.length : Int) + 1 + 5 := by omega
  have hg := hRW 0 b0 rfl
  have w1 : IntKind.i64.wrap 6 = 6 := by decide
  have hb1 : 1 ≤ big := by simp [big]
  rw [rbF]
  by_cases h45 : b0 = ⟨#[45]⟩
  · have p1 := r50d (d + 3)
    have hbx : rbO b0 = none := by unfold rbO; rw [if_pos h45]
    rw [hbx]
    subst h45
    rw [lp_step]
    simp at hg
    simp [h0, hg, p1]
  · have p1 := r50 d b0 (hz b0 (by simp)) h45
    unfold rbO
    rw [if_neg h45]
    generalize rlO b0 = r at p1 ⊢
    unfold oLn at p1
    simp at hg
    rcases r with _ | r
    · rw [lp_step]
      simp [h0, hg, p1]
    rcases r with _ | ⟨a, _ | ⟨b, _ | ⟨c, _ | ⟨e, _ | ⟨y, r⟩⟩⟩⟩⟩
    · rw [lp_step]
      simp [h0, hg, p1]
    · rw [lp_step]
      simp [h0, hg, p1]
    · rw [lp_step]
      simp [h0, hg, p1]
    · rw [lp_step]
      simp [h0, hg, p1]
    · have key := l52 d ok (b0 :: bs) RW hRW hl hz id fl num sp sh gr wd ln bs.length 1 [(a, b, c, e)] (by simp) rfl (by simp)
      simp only [Option.bind_some]
      rw [rbE_map]
      have e6 : ((1 : Nat) : Int) + 5 = 6 := by decide
      rw [e6] at key
      try simp at key
      rw [lp_step]
      simp [h0, hg, p1, w1, hb1, key]
    · have h3 : ¬ ((r.length : Int) + 1 + 1 + 1 + 1 + 1 = 4) := by omega
      rw [lp_step]
      simp [h0, hg, p1, h3]
theorem l52n (d : Nat) (ok : Bool) (RW : List (List Cell)) (id fl : ByteArray) (num : Int) (sp : ByteArray) (sh gr wd ln : Int) :
    clC [2, 12, 13] [2, 3] (blk 0 (lp (evC (ev (d + 4)) b52_1) (clean [2, 4, 12, 13, 14]) ⟨lookS [(2, .bp (.sl 2) 0), (4, .rf (.sl 4) none 0 5), (12, .bp (.sl 12) 0), (13, B ok), (14, I 5)], lookM [((.sl 2), some (.box [T ⟨#[]⟩, T ⟨#[]⟩, I 0, T ⟨#[]⟩, I 0, I 0, I 0, I 0, .nl])), ((.sl 4), some (.arr 9 1 RW)), ((.sl 12), some (.box [T id, T fl, I num, T sp, I sh, I gr, I wd, I ln, .nl]))]⟩)) =
      some (.nm, ⟨lookS [(2, .bp (.sl 2) 0), (12, .bp (.sl 12) 0), (13, B ok)], lookM [((.sl 2), some (.box [T ⟨#[]⟩, T ⟨#[]⟩, I 0, T ⟨#[]⟩, I 0, I 0, I 0, I 0, .nl])), ((.sl 12), some (.box [T id, T fl, I num, T sp, I sh, I gr, I wd, I ln, .nl]))]⟩) := by
  rw [lp_step]
  simp
theorem rbF_ne {b : ByteArray} {bs : List ByteArray} {r : List Bx} (h : rbF (b :: bs) = some r) : ∃ x y, r = x :: y := by
  rw [rbF] at h
  obtain ⟨x, _, h⟩ := Option.bind_eq_some_iff.1 h
  obtain ⟨y, _, rfl⟩ := Option.map_eq_some_iff.1 h
  exact ⟨x, y, rfl⟩
theorem rbF_len : ∀ {xs : List ByteArray} {r : List Bx}, rbF xs = some r → r.length = xs.length := by
  intro xs
  induction xs with
  | nil => intro r h; cases h; rfl
  | cons x xs ih =>
    intro r h
    rw [rbF] at h
    obtain ⟨b, _, h⟩ := Option.bind_eq_some_iff.1 h
    obtain ⟨y, hy, rfl⟩ := Option.map_eq_some_iff.1 h
    simp [ih hy]
theorem spl_rows {p0 p1 p2 p3 p4 : ByteArray} {bs : List ByteArray} (i : Nat) (x : ByteArray) (h : bs[i]? = some x) : (sC p0 :: sC p1 :: sC p2 :: sC p3 :: sC p4 :: bs.map sC)[i + 5]? = some (sC x) := by
  simp [h]
theorem r28 (d : Nat) (s : ByteArray) (hs : s.size ≤ 1048576) : ev (d + 8) 28 [T s] = some (.tu [.ag (lA (rlfO s).1 (oBx (rlfO s).1.df)), B (rlfO s).2], []) := by
  rw [s28 (d + 7) _ rfl]
  have p1 := p48 (d + 7) s 47 (by omega)
  have hz := pcs_size s 47
  have hlen := spl_len s 47
  have law := fun L => leaf_law (s := s) (L := L)
  unfold rlfO
  have hsl : slash = ⟨#[47]⟩ := rfl
  rw [hsl] at law ⊢
  generalize splitL s ⟨#[47]⟩ = xs at p1 hz hlen law ⊢
  try simp at p1
  rcases xs with _ | ⟨b0, _ | ⟨b1, _ | ⟨b2, _ | ⟨b3, _ | ⟨b4, bs⟩⟩⟩⟩⟩
  · try simp at p1
    simp [p1, rlP, zLf, oBx]
  · try simp at p1
    simp [p1, rlP, zLf, oBx]
  · try simp at p1
    simp [p1, rlP, zLf, oBx]
  · try simp at p1
    simp [p1, rlP, zLf, oBx]
  · try simp at p1
    simp [p1, rlP, zLf, oBx]
  have z0 := hz b0 (by simp)
  have z1 := hz b1 (by simp)
  have z2 := hz b2 (by simp)
  have z3 := hz b3 (by simp)
  have z4 := hz b4 (by simp)
  have zb : ∀ x ∈ bs, x.size ≤ 1048576 := fun x hx => by have := hz x (by simp [hx]); omega
  have hbl : bs.length ≤ 2000000 := by simp only [List.length_cons] at hlen; omega
  have q1 := r49 (d + 4) b2 (by simp only [big]; omega)
  have q2 := r22 (d + 3) b3 (by omega)
  have q3 := r53 (d + 3) b4 (by omega)
  obtain ⟨e1, e2⟩ := rs_same b4
  simp only [rlP] at law ⊢
  by_cases hc : (rdN b2).2 = true ∧ (rvO b3).2 = true ∧ (rsS b4).2.2 = true
  case neg =>
    rw [if_neg hc]
    rw [← e1] at hc
    generalize rsI b4 = z at q3 hc
    generalize rdN b2 = x at q1 hc
    generalize rvO b3 = v at q2 hc
    obtain ⟨x1, x2⟩ := x
    obtain ⟨⟨v1, v2, v3⟩, v4⟩ := v
    obtain ⟨y1, y2, y3⟩ := z
    simp only at hc q1 q2 q3
    have h5 : ¬ ((bs.length : Int) + 1 + 1 + 1 + 1 + 1 < 5) := by omega
    have i0 : (0 : Int) < (bs.length : Int) + 1 + 1 + 1 + 1 + 1 := by omega
    have i1 : (1 : Int) < (bs.length : Int) + 1 + 1 + 1 + 1 + 1 := by omega
    have i2 : (2 : Int) < (bs.length : Int) + 1 + 1 + 1 + 1 + 1 := by omega
    have i3 : (3 : Int) < (bs.length : Int) + 1 + 1 + 1 + 1 + 1 := by omega
    have i4 : (4 : Int) < (bs.length : Int) + 1 + 1 + 1 + 1 + 1 := by omega
    cases x2 <;> cases v4 <;> cases y3 <;> first | (exact absurd ⟨rfl, rfl, rfl⟩ hc) | simp [p1, q1, q2, q3, h5, i0, i1, i2, i3, i4, zLf, oBx]
  rw [e2 hc.2.2] at q3
  rw [if_pos hc] at law ⊢
  obtain ⟨h1, h2, h3⟩ := hc
  generalize rsS b4 = z at q3 h3 law ⊢
  generalize rdN b2 = x at q1 h1 law ⊢
  generalize rvO b3 = v at q2 h2 law ⊢
  obtain ⟨x1, x2⟩ := x
  obtain ⟨⟨v1, v2, v3⟩, v4⟩ := v
  obtain ⟨y1, y2, y3⟩ := z
  simp only at h1 h2 h3 q1 q2 q3 law ⊢
  subst h1 h2 h3
  cases bs with
  | nil =>
    have k := l28n (d + 2) s [sC b0, sC b1, sC b2, sC b3, sC b4] b0 b1 x1 v1 v2 v3 y1 y2
    have hL := law ⟨b0, b1, x1, v1, v2, v3, y1, y2, []⟩ rfl
    have tx := rn19 d ⟨b0, b1, x1, v1, v2, v3, y1, y2, []⟩ rfl (by simp only [big]; omega) (by simp only [big]; omega)
    simp only [rbF, Option.map_some]
    generalize hLf : (⟨b0, b1, x1, v1, v2, v3, y1, y2, []⟩ : Lf) = L at hL tx ⊢
    have a1 : L.id = b0 := by rw [← hLf]
    have a2 : L.fl = b1 := by rw [← hLf]
    have a3 : L.num = x1 := by rw [← hLf]
    have a4 : L.sp = v1 := by rw [← hLf]
    have a5 : L.sh = v2 := by rw [← hLf]
    have a6 : L.gr = v3 := by rw [← hLf]
    have a7 : L.wd = y1 := by rw [← hLf]
    have a8 : L.ln = y2 := by rw [← hLf]
    have a9 : L.df = [] := by rw [← hLf]
    simp only [lA, a1, a2, a3, a4, a5, a6, a7, a8] at tx
    try simp at k
    cases hk : okL L
    · rw [hk] at hL
      have hne : ¬ ltB L = s := by simpa using hL
      simp [p1, q1, q2, q3, k, tx, hne, zLf, oBx]
    · rw [hk] at hL
      have hne : ltB L = s := by simpa using hL
      simp [p1, q1, q2, q3, k, tx, hne, a1, a2, a3, a4, a5, a6, a7, a8, a9, oBx]
  | cons c cs =>
    have k := l28c (d + 2) s c cs (sC b0 :: sC b1 :: sC b2 :: sC b3 :: sC b4 :: (c :: cs).map sC) (fun i x hx => by rw [Nat.add_comm]; exact spl_rows i x hx) hbl zb b0 b1 x1 v1 v2 v3 y1 y2
    have h5 : ¬ ((cs.length : Int) + 1 + 1 + 1 + 1 + 1 + 1 < 5) := by omega
    have i0 : (0 : Int) < (cs.length : Int) + 1 + 1 + 1 + 1 + 1 + 1 := by omega
    have i1 : (1 : Int) < (cs.length : Int) + 1 + 1 + 1 + 1 + 1 + 1 := by omega
    have i2 : (2 : Int) < (cs.length : Int) + 1 + 1 + 1 + 1 + 1 + 1 := by omega
    have i3 : (3 : Int) < (cs.length : Int) + 1 + 1 + 1 + 1 + 1 + 1 := by omega
    have i4 : (4 : Int) < (cs.length : Int) + 1 + 1 + 1 + 1 + 1 + 1 := by omega
    cases hr : rbF (c :: cs) with
    | none =>
      rw [hr] at k
      try simp at k
      simp [p1, q1, q2, q3, h5, i0, i1, i2, i3, i4, k, zLf, oBx]
    | some r =>
      rw [hr] at k law
      have hrl := rbF_len hr
      obtain ⟨rx, ry, rfl⟩ := rbF_ne hr
      have hL := law ⟨b0, b1, x1, v1, v2, v3, y1, y2, rx :: ry⟩ rfl
      have tx := r19 d ⟨b0, b1, x1, v1, v2, v3, y1, y2, rx :: ry⟩ (Nat.le_trans (show (rx :: ry).length ≤ 2000000 by rw [hrl]; exact hbl) (by decide)) (by simp only [big]; omega) (by simp only [big]; omega)
      simp only [Option.map_some]
      generalize hLf : (⟨b0, b1, x1, v1, v2, v3, y1, y2, rx :: ry⟩ : Lf) = L at hL tx ⊢
      have a1 : L.id = b0 := by rw [← hLf]
      have a2 : L.fl = b1 := by rw [← hLf]
      have a3 : L.num = x1 := by rw [← hLf]
      have a4 : L.sp = v1 := by rw [← hLf]
      have a5 : L.sh = v2 := by rw [← hLf]
      have a6 : L.gr = v3 := by rw [← hLf]
      have a7 : L.wd = y1 := by rw [← hLf]
      have a8 : L.ln = y2 := by rw [← hLf]
      have a9 : L.df = rx :: ry := by rw [← hLf]
      simp only [lV, lA, a1, a2, a3, a4, a5, a6, a7, a8, a9] at tx
      generalize hrr : rx :: ry = rr at k tx a9
      have ho : oBx L.df = .ow 75 4 (rr.map bC) := by rw [a9, ← hrr]; rfl
      try simp at k
      cases hk : okL L
      · rw [hk] at hL
        have hne : ¬ ltB L = s := by simpa using hL
        simp [p1, q1, q2, q3, h5, i0, i1, i2, i3, i4, k, tx, hne, zLf, oBx]
      · rw [hk] at hL
        have hne : ltB L = s := by simpa using hL
        simp only [ifb_t, ho]
        simp [p1, q1, q2, q3, h5, i0, i1, i2, i3, i4, k, tx, hne, a1, a2, a3, a4, a5, a6, a7, a8]
theorem r52 (d : Nat) (s : ByteArray) (hs : s.size ≤ 1048576) : ev (d + 5) 52 [T s] = some (.tu [.ag (lA (rlfO s).1 (oBx (rlfO s).1.df)), B (rlfO s).2], []) := by
  rw [s52 (d + 4) _ rfl]
  have p1 := r78 (d + 3) s 47 (by omega)
  have hz := pcs_size s 47
  have hlen := spl_len s 47
  have law := fun L => leaf_law (s := s) (L := L)
  unfold rlfO
  have hsl : slash = ⟨#[47]⟩ := rfl
  rw [hsl] at law ⊢
  generalize splitL s ⟨#[47]⟩ = xs at p1 hz hlen law ⊢
  try simp at p1
  rcases xs with _ | ⟨b0, _ | ⟨b1, _ | ⟨b2, _ | ⟨b3, _ | ⟨b4, bs⟩⟩⟩⟩⟩
  · try simp at p1
    simp [p1, rlP, zLf, oBx]
  · try simp at p1
    simp [p1, rlP, zLf, oBx]
  · try simp at p1
    simp [p1, rlP, zLf, oBx]
  · try simp at p1
    simp [p1, rlP, zLf, oBx]
  · try simp at p1
    simp [p1, rlP, zLf, oBx]
  have z0 := hz b0 (by simp)
  have z1 := hz b1 (by simp)
  have z2 := hz b2 (by simp)
  have z3 := hz b3 (by simp)
  have z4 := hz b4 (by simp)
  have zb : ∀ x ∈ bs, x.size ≤ 1048576 := fun x hx => by have := hz x (by simp [hx]); omega
  have hbl : bs.length ≤ 2000000 := by simp only [List.length_cons] at hlen; omega
  have q1 := r79 (d + 2) b2 (by simp only [big]; omega)
  have q2 := r47 d b3 (by omega)
  have q3 := r82 (d + 1) b4 (by omega)
  obtain ⟨e1, e2⟩ := rs_same b4
  simp only [rlP] at law ⊢
  clear law e1 e2
  generalize rsS b4 = z at q3 ⊢
  generalize rdN b2 = x at q1 ⊢
  generalize rvO b3 = v at q2 ⊢
  obtain ⟨x1, x2⟩ := x
  obtain ⟨⟨v1, v2, v3⟩, v4⟩ := v
  obtain ⟨y1, y2, y3⟩ := z
  simp only at q1 q2 q3 ⊢
  have hfl : ∀ (P : Option Lf), (match (if x2 = true ∧ v4 = true ∧ y3 = true then P else none) with | some L => ifb (okL L) (L, true) (zLf, false) | none => (zLf, false)) = ifb (x2 && (v4 && y3)) (match P with | some L => ifb (okL L) (L, true) (zLf, false) | none => (zLf, false)) (zLf, false) := by
    intro P
    cases x2 <;> cases v4 <;> cases y3 <;> simp
  rw [hfl]
  have wf : ∀ (α : Type) (u : α), ifb (x2 && (v4 && y3)) u u = u := fun α u => by cases (x2 && (v4 && y3)) <;> rfl
  cases bs with
  | nil =>
    have k := fun ok => l52n d ok [sC b0, sC b1, sC b2, sC b3, sC b4] b0 b1 x1 v1 v2 v3 y1 y2
    have tx := rn40 d ⟨b0, b1, x1, v1, v2, v3, y1, y2, []⟩ rfl (by simp only [big]; omega) (by simp only [big]; omega)
    simp only [rbF, Option.map_some]
    generalize hLf : (⟨b0, b1, x1, v1, v2, v3, y1, y2, []⟩ : Lf) = L at tx ⊢
    have a1 : L.id = b0 := by rw [← hLf]
    have a2 : L.fl = b1 := by rw [← hLf]
    have a3 : L.num = x1 := by rw [← hLf]
    have a4 : L.sp = v1 := by rw [← hLf]
    have a5 : L.sh = v2 := by rw [← hLf]
    have a6 : L.gr = v3 := by rw [← hLf]
    have a7 : L.wd = y1 := by rw [← hLf]
    have a8 : L.ln = y2 := by rw [← hLf]
    have a9 : L.df = [] := by rw [← hLf]
    simp only [lA, a1, a2, a3, a4, a5, a6, a7, a8] at tx
    try simp at p1
    try simp at k
    cases x2 <;> cases v4 <;> cases y3 <;> first | (simp [p1, q1, q2, q3, k, zLf, oBx]; done) | (cases hk : okL L <;> rw [hk] at tx <;> simp [p1, q1, q2, q3, k, tx, hk, zLf, a1, a2, a3, a4, a5, a6, a7, a8, a9, oBx])
  | cons c cs =>
    have k := fun ok => l52c d ok c cs (sC b0 :: sC b1 :: sC b2 :: sC b3 :: sC b4 :: (c :: cs).map sC) (fun i x hx => spl_rows i x hx) hbl zb b0 b1 x1 v1 v2 v3 y1 y2
    have h5 : ¬ ((cs.length : Int) + 1 + 1 + 1 + 1 + 1 + 1 < 5) := by omega
    have i0 : (0 : Int) < (cs.length : Int) + 1 + 1 + 1 + 1 + 1 + 1 := by omega
    have i1 : (1 : Int) < (cs.length : Int) + 1 + 1 + 1 + 1 + 1 + 1 := by omega
    have i2 : (2 : Int) < (cs.length : Int) + 1 + 1 + 1 + 1 + 1 + 1 := by omega
    have i3 : (3 : Int) < (cs.length : Int) + 1 + 1 + 1 + 1 + 1 + 1 := by omega
    have i4 : (4 : Int) < (cs.length : Int) + 1 + 1 + 1 + 1 + 1 + 1 := by omega
    try simp at p1
    cases hr : rbF (c :: cs) with
    | none =>
      rw [hr] at k
      try simp at k
      simp only [Option.map_none]
      rw [wf]
      cases x2 <;> cases v4 <;> cases y3 <;> simp [p1, q1, q2, q3, h5, i0, i1, i2, i3, i4, k, zLf, oBx]
    | some r =>
      rw [hr] at k
      have hrl := rbF_len hr
      obtain ⟨rx, ry, rfl⟩ := rbF_ne hr
      have tx := r40 d ⟨b0, b1, x1, v1, v2, v3, y1, y2, rx :: ry⟩ (Nat.le_trans (show (rx :: ry).length ≤ 2000000 by rw [hrl]; exact hbl) (by decide)) (by simp only [big]; omega) (by simp only [big]; omega)
      simp only [Option.map_some]
      generalize hLf : (⟨b0, b1, x1, v1, v2, v3, y1, y2, rx :: ry⟩ : Lf) = L at tx ⊢
      have a1 : L.id = b0 := by rw [← hLf]
      have a2 : L.fl = b1 := by rw [← hLf]
      have a3 : L.num = x1 := by rw [← hLf]
      have a4 : L.sp = v1 := by rw [← hLf]
      have a5 : L.sh = v2 := by rw [← hLf]
      have a6 : L.gr = v3 := by rw [← hLf]
      have a7 : L.wd = y1 := by rw [← hLf]
      have a8 : L.ln = y2 := by rw [← hLf]
      have a9 : L.df = rx :: ry := by rw [← hLf]
      simp only [lV, lA, a1, a2, a3, a4, a5, a6, a7, a8, a9] at tx
      generalize hrr : rx :: ry = rr at k tx a9
      have ho : oBx L.df = .ow 75 4 (rr.map bC) := by rw [a9, ← hrr]; rfl
      try simp at k
      cases x2 <;> cases v4 <;> cases y3 <;> first | (simp [p1, q1, q2, q3, h5, i0, i1, i2, i3, i4, k, zLf, oBx]; done) | (cases hk : okL L <;> rw [hk] at tx <;> first | (simp [p1, q1, q2, q3, h5, i0, i1, i2, i3, i4, k, tx, hk, zLf, ho, a1, a2, a3, a4, a5, a6, a7, a8]; done) | (simp [p1, q1, q2, q3, h5, i0, i1, i2, i3, i4, k, tx, hk, zLf, oBx]; done))
theorem r27 (d : Nat) (s : ByteArray) (hs : s.size ≤ 1048576) : ev (d + 6) 27 [T s] = some (.tu [.ag (lA (rlfO s).1 (oBx (rlfO s).1.df)), B (rlfO s).2], []) := by
  rw [s27 (d + 5) _ rfl]
  have p1 := r52 d s hs
  generalize rlfO s = o at p1 ⊢
  obtain ⟨L, b⟩ := o
  simp only at p1 ⊢
  cases hd : L.df with
  | nil => rw [hd] at p1; simp only [oBx] at p1 ⊢; simp [p1]
  | cons x l => rw [hd] at p1; simp only [oBx] at p1 ⊢; simp at p1; simp [p1]
theorem r46sv (d : Nat) (l : List Bx) (hb : l.length ≤ big) {x y : LV} (hx : SV 4 (l.map bC) x) (hy : SV 4 (l.map bC) y) : ev (d + 2) 46 [x, y] = some (B true, []) := by
  rcases hx with rfl | ⟨rfl, hl⟩
  · rcases hy with rfl | ⟨rfl, hl⟩
    · exact r46 d l hb
    · have hl : l = [] := by simpa using hl
      subst hl
      rw [s46 (d + 1) _ rfl]
      simp
      rw [lp_step]
      simp
  · have hl : l = [] := by simpa using hl
    subst hl
    rw [s46 (d + 1) _ rfl]
    rcases hy with rfl | ⟨rfl, _⟩
    · simp
      rw [lp_step]
      simp
    · simp
      rw [lp_step]
      simp
theorem r20sv (d : Nat) (L : Lf) (hb : L.df.length ≤ big) {x y : LV} (hx : SV 4 (L.df.map bC) x) (hy : SV 4 (L.df.map bC) y) : ev (d + 3) 20 [.ag (lA L x), .ag (lA L y)] = some (B true, []) := by
  rw [s20 (d + 2) _ rfl]
  have r77 := r46sv d L.df hb hx hy
  rcases hx with rfl | ⟨rfl, _⟩ <;> rcases hy with rfl | ⟨rfl, _⟩ <;> simp [r77, r23]
theorem rlfO_len (s : ByteArray) : (rlfO s).1.df.length ≤ 6 := by
  unfold rlfO
  cases rlP (splitL s slash) with
  | none => exact Nat.zero_le _
  | some L =>
    cases hk : okL L
    · simp [hk, zLf]
    · simp only [hk, ifb_t]
      exact (okL_lf hk).len
theorem r8 (d : Nat) (s : ByteArray) : ev (d + 9) 8 [T s] = some (B true, []) := by
  rw [s8 (d + 8) _ rfl]
  by_cases hs0 : (s.size : Int) > 1048576
  · simp [hs0]
  have g1 := r27 (d + 2) s (by omega)
  have g2 := r28 d s (by omega)
  have hlen := rlfO_len s
  generalize rlfO s = o at g1 g2 hlen
  obtain ⟨L, v⟩ := o
  simp only at g1 g2 hlen
  have m1 := v29' (d + 6) L 1 (by omega)
  have m3 := v29'n (d + 6) L 1
  have hh := fun {x : LV} => r30 (d + 6) L L.df.length 1 (by omega) (x := x)
  have q2 := fun {x y : LV} => r20sv (d + 5) L (Nat.le_trans hlen (by decide)) (x := x) (y := y)
  have n1 : ¬ (1 : Int) + 4 * (L.df.length : Int) < 0 := by omega
  simp at m1 m3
  rcases hd : L.df with _ | ⟨b, l⟩
  · have hO : oBx L.df = .nl := by rw [hd]; rfl
    rw [hO] at g1 g2
    have q3 := q2 (x := .nl) (y := .nl) (.inr ⟨rfl, by rw [hd]; rfl⟩) (.inr ⟨rfl, by rw [hd]; rfl⟩)
    have h1 := hh (x := .nl) (.inr ⟨rfl, by rw [hd]; rfl⟩)
    have e0 : L.df.length = 0 := by rw [hd]; rfl
    simp [e0] at h1
    simp [hs0, g1, g2, q3, m3, h1]
  · have hO : oBx L.df = .ow 75 4 (L.df.map bC) := by rw [hd]; rfl
    rw [hO] at g1 g2
    have q3 := q2 (x := .ro 4 (L.df.map bC)) (y := .ro 4 (L.df.map bC)) (.inl rfl) (.inl rfl)
    have h1 := hh (x := .ro 4 (markL mB 4 1 L.df.length)) (.inl rfl)
    simp at h1
    have hTk : List.take L.df.length (markL mB 4 1 L.df.length) = markL mB 4 1 L.df.length := List.take_of_length_le (by simp [markL_len])
    simp [hs0, g1, g2, q3, m1, h1, n1, hTk]
end Go.Proofs.YthnkioafikmmaaaDoor.walkS
