/- Bytes to a string; a slice made. -/
import Derived.Test.YtjdcohcdgdjobaaEvJ
namespace Go.Proofs.Ytjdcohcdgdjobaa.Ev
open Go
set_option linter.unusedVariables false
set_option linter.unusedSimpArgs false
section
variable {P : Program} {S N : Nat → Prop} {G : Gh} {m : Mem} {st : St} {a : Act} {w : World}

theorem numsOf_get : ∀ {rows : List (List Cell)} {l : List Int}, numsOf rows = some l → l.length = rows.length ∧ ∀ (k : Nat) (n : Int), l[k]? = some n → rows[k]? = some [.sc (.int .u8 n)] := by
  intro rows
  induction rows with
  | nil => intro l h; cases h; exact ⟨rfl, fun k n hk => by simp at hk⟩
  | cons row rows ih =>
    intro l h
    unfold numsOf at h
    split at h
    · rename_i e; cases e
    · rename_i n l' e
      cases e
      split at h
      · rename_i r hr
        cases h
        obtain ⟨i1, i2⟩ := ih hr
        refine ⟨by simp [i1], fun k n' hk => ?_⟩
        cases k with
        | zero => simp at hk; subst hk; rfl
        | succ k => simpa using i2 k n' (by simpa using hk)
      · cases h
    · cases h

theorem do_by (h : SR S N G st a w) {x : Opd} {x' : Operand} {t u e : TypeId} {o : Oper} (hx : fO x x' = true) (ho : o.op = .convert t u x') (ht : P.underlying t = some (.slice e)) (he : P.underlying e = some (.int .u8))
    (hu : P.underlying u = some .string) {l : List Int}
    (hv : (∃ rows, opd st.s x = .ro 1 rows ∧ numsOf rows = some l) ∨ (∃ i ch lo n e' rows, opd st.s x = .rf i ch lo n ∧ look st.m i ch = some (e', 1, rows) ∧ lo + n ≤ rows.length ∧ numsOf (shut ((rows.drop lo).take n)) = some l) ∨ (opd st.s x = .nl ∧ l = [])) :
    Does P o a w (Next S N G st w (.sc (.string (strOfNums l))) st.m) := by
  have r1 := (h.opd hx).1
  refine Does.same h (v' := .string (strOfNums l)) ?_ ⟨rfl, rfl⟩ trivial
  have empty : ∀ A c, (convert t u (.slice A 0 c)).run P w = .ok (.string (strOfNums [])) w := by
    intro A c
    rw [run_convert_bytes_string w t u e A 0 c ht he hu]
    cases A with
    | none => simp [Conv.bytesToString, strOfNums]; rfl
    | some ad =>
      rw [run_bytesToString w ad 0 c [] (by simp [loadCells, loadCellsFrom])]
      rfl
  rcases hv with ⟨rows, ex, hn⟩ | ⟨i, ch, lo, n, e', rows, ex, hl, hle, hn⟩ | ⟨ex, rfl⟩
  · rw [ex] at r1
    obtain ⟨A, c, e1, hc, hrow⟩ := r1
    obtain ⟨n1, n2⟩ := numsOf_get hn
    cases hrows : rows with
    | nil =>
      have : l = [] := List.eq_nil_of_length_eq_zero (by rw [n1, hrows]; rfl)
      subst this
      simp [execOp, ho, e1, hrows, empty]
    | cons r0 rest =>
      obtain ⟨_, ⟨b, off, sp⟩, rfl, ⟨_, hs⟩, _⟩ := hrow 0 r0 (by rw [hrows]; rfl)
      simp only at hs
      subst hs
      have hc2 := run_convert_bytes_arg (P := P) w t e ht he b off rows.length c l n1 (fun j hj => by
        have hl : l[j]? = some (l.getD j 0) := by
          rw [List.getD_eq_getElem?_getD, List.getElem?_eq_getElem (by omega)]; rfl
        obtain ⟨_, ad, had, _, hcell⟩ := hrow j _ (n2 j _ hl)
        cases had
        obtain ⟨v, hv1, hv2⟩ := hcell 0 _ rfl
        rw [add_lit] at hv1
        simp only [Nat.mul_one, Nat.add_zero] at hv1
        rw [hv1, hv2.1]) u hu
      rw [hrows] at hc2 e1
      simp [execOp, ho, e1]
      simp at hc2
      simp [hc2]
  · rw [ex] at r1
    simp only [R, R1, R0] at r1; rw [hl] at r1
    obtain ⟨A, c, e1, hnc, hcap, hA⟩ := r1
    obtain ⟨n1, n2⟩ := numsOf_get hn
    have hlen : (shut ((rows.drop lo).take n)).length = n := by simp [shut]; omega
    by_cases hn0 : n = 0
    · subst hn0
      have : l = [] := List.eq_nil_of_length_eq_zero (by rw [n1, hlen])
      subst this
      simp [execOp, ho, e1, empty]
    · have hA' := hA (by omega)
      subst hA'
      obtain ⟨cs, k1, k2, k3, k4, k5⟩ := own_rows h.inv hl
      have hc2 := run_convert_bytes_arg (P := P) w t e ht he (G.blkOf i ch) (lo * 1) n c l (by rw [n1, hlen]) (fun j hj => by
        have hll : l[j]? = some (l.getD j 0) := by
          rw [List.getD_eq_getElem?_getD, List.getElem?_eq_getElem (by omega)]; rfl
        have hr := n2 j _ hll
        simp only [shut, List.getElem?_map, List.getElem?_take, Option.map_eq_some_iff] at hr
        obtain ⟨row, hrow, hsh⟩ := hr
        rw [if_pos hj, List.getElem?_drop] at hrow
        obtain ⟨g1, g2⟩ := k5 _ row hrow
        obtain ⟨y, rfl⟩ : ∃ y, row = [y] := by
          match row, g1 with
          | [y], _ => exact ⟨y, rfl⟩
        simp only [List.map_cons, List.map_nil, List.cons.injEq, and_true] at hsh
        obtain ⟨v, v1, v2⟩ := g2 0 y rfl
        have hy : y = .sc (.int .u8 (l.getD j 0)) := by cases y <;> simp_all [shutC]
        subst hy
        rw [cell_lit k1]
        rcases v2 with v2 | v2 | ⟨_, _, _, v2, _⟩
        · rw [← v2.1]; simpa using v1
        · cases v2
        · cases v2) u hu
      simp [execOp, ho, e1]
      simp at hc2
      simp [hc2]
  · rw [ex] at r1
    have r2 : a.eval x' = .slice none 0 0 := r1
    simp [execOp, ho, r2, empty]
end
end Go.Proofs.Ytjdcohcdgdjobaa.Ev
