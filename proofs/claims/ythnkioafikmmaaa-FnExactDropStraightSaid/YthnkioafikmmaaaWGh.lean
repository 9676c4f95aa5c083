/- A valid polygon without a corner that lies between its neighbours is valid; no conditions. -/
import Derived.Test.YthnkioafikmmaaaWGf
namespace Go.Proofs.Ythnkioafikmmaaa.walkS
open Go Go.Proofs.Ythnkioafikmmaaa.Ev
set_option linter.unusedSimpArgs false
set_option linter.unusedVariables false
theorem pt_erase {l : List Pt} {k m : Nat} (hk : k < l.length) (hn : 3 ≤ l.length) (hm : m < l.length - 1) : pt (l.eraseIdx k) (m + k) = pt l (m + (k + 1)) := by
  have hl : (l.eraseIdx k).length = l.length - 1 := List.length_eraseIdx_of_lt hk
  unfold pt
  rw [hl]
  congr 1
  by_cases h : m + k < l.length - 1
  · rw [Nat.mod_eq_of_lt h, Nat.mod_eq_of_lt (by omega), List.getElem?_eraseIdx, if_neg (by omega)]
    rfl
  · have e1 : (m + k) % (l.length - 1) = m + k - (l.length - 1) := by rw [Nat.mod_eq_sub_mod (by omega), Nat.mod_eq_of_lt (by omega)]
    have e2 : (m + (k + 1)) % l.length = m + k - (l.length - 1) := by rw [Nat.mod_eq_sub_mod (by omega), Nat.mod_eq_of_lt (by omega)]; omega
    rw [e1, e2, List.getElem?_eraseIdx, if_pos (by omega)]
/-- a polygon whose corner between two others is left out is one still -/
theorem poly_drop {l : List Pt} {k : Nat} (h : polyOk l = true) (hk : k < l.length) (hs : Geo.Btw (pt l (k + l.length - 1)) (pt l k) (pt l (k + 1))) : polyOk (l.eraseIdx k) = true := by
  obtain ⟨⟨h1, h2⟩, ok, hsi, har⟩ := poly_iff.1 h
  have hl : (l.eraseIdx k).length = l.length - 1 := List.length_eraseIdx_of_lt hk
  have hS := hsi.shift (k + 1)
  have a1 : pt l (l.length - 2 + (k + 1)) = pt l (k + l.length - 1) := by congr 1; omega
  have a2 : pt l (l.length - 1 + (k + 1)) = pt l k := by rw [show l.length - 1 + (k + 1) = k + l.length by omega]; exact pt_per _
  have a3 : pt l (0 + (k + 1)) = pt l (k + 1) := by rw [Nat.zero_add]
  have hb : Geo.Btw ((fun i => pt l (i + (k + 1))) (l.length - 2)) ((fun i => pt l (i + (k + 1))) (l.length - 1)) ((fun i => pt l (i + (k + 1))) 0) := by
    simp only
    rw [a1, a2, a3]
    exact hs
  obtain ⟨h4, hd⟩ := hS.drop h1 hb
  have har2 := Geo.area_same (P := fun i => pt l (i + (k + 1))) h1 (by show pt l (l.length + (k + 1)) = pt l (0 + (k + 1)); rw [show l.length + (k + 1) = 0 + (k + 1) + l.length by omega]; exact pt_per _) hb
  rw [areaP_shift pt_per] at har2
  have hp := @pt_per (l.eraseIdx k)
  rw [hl] at hp
  have e : Geo.dropP l.length (fun i => pt l (i + (k + 1))) = fun i => pt (l.eraseIdx k) (i + k) := by
    funext i
    unfold Geo.dropP
    show pt l (i % (l.length - 1) + (k + 1)) = _
    rw [← pt_erase hk h1 (Nat.mod_lt _ (by omega))]
    have e2 : i + k = i % (l.length - 1) + k + (l.length - 1) * (i / (l.length - 1)) := by
      have := Nat.mod_add_div i (l.length - 1)
      omega
    rw [e2, Geo.per_mul hp]
  rw [e] at hd har2
  rw [areaP_shift hp] at har2
  have hd2 := hd.shift (k * (l.length - 1) - k)
  have e3 : (fun i => (fun i => pt (l.eraseIdx k) (i + k)) (i + (k * (l.length - 1) - k))) = pt (l.eraseIdx k) := by
    funext i
    show pt (l.eraseIdx k) (i + (k * (l.length - 1) - k) + k) = _
    have hle : k ≤ k * (l.length - 1) := Nat.le_mul_of_pos_right k (by omega)
    have e4 : i + (k * (l.length - 1) - k) + k = i + (l.length - 1) * k := by rw [Nat.mul_comm (l.length - 1) k]; omega
    rw [e4, Geo.per_mul hp]
  rw [e3] at hd2
  refine poly_iff.2 ⟨by omega, fun p hp' => ok p (List.mem_of_mem_eraseIdx hp'), by rw [hl]; exact hd2, ?_⟩
  rw [hl, har2]
  exact har
end Go.Proofs.Ythnkioafikmmaaa.walkS
