/- Largest clear boxes: the given search's lines; no conditions. -/
import Derived.Test.YtejffoibihbnnaaWLct
namespace Go.Proofs.Ytejffoibihbnnaa.walkS
open Go Go.Proofs.Ytejffoibihbnnaa.Ev
set_option linter.unusedSimpArgs false
set_option linter.unusedVariables false
set_option maxHeartbeats 1000000 in
theorem l18_1 (d : Nat) (L : Lf) (h : LcB L) : ∀ (n i : Nat) (A C E F rA rC rE rF : List Int), n + i = L.df.length → A.length = i + 1 → C.length = i + 1 → E.length = i + 1 → F.length = i + 1 → A ++ (L.df.drop i).map (fun c => c.1 + c.2.2.1) = rA → C ++ (L.df.drop i).map (fun c => c.1) = rC → E ++ (L.df.drop i).map (fun c => c.2.1 + c.2.2.2) = rE → F ++ (L.df.drop i).map (fun c => c.2.1) = rF →
    clC [1, 2, 4, 5, 6, 7] [2, 3] (blk 0 (lp (evC (ev d) b18_1) (clean [1, 2, 4, 5, 6, 7, 34, 35, 36]) ⟨lookS [(1, .bp (.sl 1) 0), (2, .bp (.sl 2) 0), (4, .rf (.sl 4) none 0 A.length), (5, .rf (.sl 5) none 0 C.length), (6, .rf (.sl 6) none 0 E.length), (7, .rf (.sl 7) none 0 F.length), (34, .ro 4 (L.df.map bC)), (35, I L.df.length), (36, I i)], lookM [((.sl 1), some (.box (lV L))), ((.sl 2), some (.box (bV z0))), ((.sl 4), some (.arr 2 1 (A.map iC))), ((.sl 5), some (.arr 2 1 (C.map iC))), ((.sl 6), some (.arr 2 1 (E.map iC))), ((.sl 7), some (.arr 2 1 (F.map iC)))]⟩)) =
      some (.nm, ⟨lookS [(1, .bp (.sl 1) 0), (2, .bp (.sl 2) 0), (4, .rf (.sl 4) none 0 rA.length), (5, .rf (.sl 5) none 0 rC.length), (6, .rf (.sl 6) none 0 rE.length), (7, .rf (.sl 7) none 0 rF.length)], lookM [((.sl 1), some (.box (lV L))), ((.sl 2), some (.box (bV z0))), ((.sl 4), some (.arr 2 1 (rA.map iC))), ((.sl 5), some (.arr 2 1 (rC.map iC))), ((.sl 6), some (.arr 2 1 (rE.map iC))), ((.sl 7), some (.arr 2 1 (rF.map iC)))]⟩) := by
  have hn := h.n
  have hwd := h.w
  have hln := h.l
  intro n
  induction n with
  | zero =>
    intro i A C E F rA rC rE rF hi a1 a2 a3 a4 h1 h2 h3 h4
    have h0 : ¬ (i : Int) < (L.df.length : Int) := by omega
    rw [List.drop_eq_nil_of_le (by omega), List.map_nil, List.append_nil] at h1 h2 h3 h4
    subst h1 h2 h3 h4
    rw [lp_step]
    simp [h0]
  | succ n ih =>
    intro i A C E F rA rC rE rF hi a1 a2 a3 a4 h1 h2 h3 h4
    have hlt : i < L.df.length := by omega
    have h0 : (i : Int) < (L.df.length : Int) := by omega
    obtain ⟨c, hc⟩ := get_lt hlt
    have hd := h.d c (List.mem_of_getElem? hc)
    have hw := wrap_nat (i := i) (by omega)
    have w1 : IntKind.i64.wrap (c.1 + c.2.2.1) = c.1 + c.2.2.1 := wrap_sm (by omega)
    have w2 : IntKind.i64.wrap (c.2.1 + c.2.2.2) = c.2.1 + c.2.2.2 := wrap_sm (by omega)
    have b1 : A.length + 1 ≤ big := by simp only [big]; omega
    have b2 : C.length + 1 ≤ big := by simp only [big]; omega
    have b3 : E.length + 1 ≤ big := by simp only [big]; omega
    have b4 : F.length + 1 ≤ big := by simp only [big]; omega
    rw [drop_get hc, List.map_cons] at h1 h2 h3 h4
    have ih' := ih (i + 1) (A ++ [c.1 + c.2.2.1]) (C ++ [c.1]) (E ++ [c.2.1 + c.2.2.2]) (F ++ [c.2.1]) rA rC rE rF (by omega) (by simp; omega) (by simp; omega) (by simp; omega) (by simp; omega) (by rw [List.append_assoc]; exact h1) (by rw [List.append_assoc]; exact h2) (by rw [List.append_assoc]; exact h3) (by rw [List.append_assoc]; exact h4)
    simp only [Int.natCast_add, Int.cast_ofNat_Int] at ih'
    simp at ih'
    rw [lp_step]
    simp [h0, hc, hw, w1, w2, b1, b2, b3, b4, ih']
end Go.Proofs.Ytejffoibihbnnaa.walkS
