/- The rows PlacementText and ReadPlacement; no conditions. -/
import Derived.Test.YthnkioafikmmaaaDoorWTk
import Derived.Test.YthnkioafikmmaaaDoorWPlb
namespace Go.Proofs.YthnkioafikmmaaaDoor.walkS
open Go Go.Proofs.YthnkioafikmmaaaDoor.Ev
open Go.Lib
set_option linter.unusedSimpArgs false
set_option linter.unusedVariables false
theorem okG_in {p : Pl} (h : okG p = true) : ∀ x ∈ [p.1, p.2.1, p.2.2.1, p.2.2.2.1, p.2.2.2.2], inR x (-1000000000000) 1000000000000 = true := by
  unfold okG inR at h
  simp only [Bool.and_eq_true, decide_eq_true_eq] at h
  intro x hx
  unfold inR
  simp only [Bool.and_eq_true, decide_eq_true_eq]
  simp only [List.mem_cons, List.mem_nil_iff, or_false] at hx
  rcases hx with rfl | rfl | rfl | rfl | rfl <;> omega
def ptB (p : Pl) : ByteArray := ifb (okG p) (lsB [p.1, p.2.1, p.2.2.1, p.2.2.2.1, p.2.2.2.2]) ⟨#[]⟩
/-- the placement with a text -/
def rpX (r : Option (List Int)) : Pl × Bool := match r with | some [a, b, c, e, f] => ifb (okG (a, b, c, e, f)) ((a, b, c, e, f), true) ((0, 0, 0, 0, 0), false) | _ => ((0, 0, 0, 0, 0), false)
def rpO (s : ByteArray) : Pl × Bool := if s = ⟨#[45]⟩ then ((0, 0, 0, 0, 0), false) else rpX (rlO s)
theorem r25 (d : Nat) (s : ByteArray) (hs : s.size ≤ 1048576) : ev (d + 6) 25 [T s] = some (.tu [.ag (gV (rpO s).1), B (rpO s).2], []) := by
  rw [s25 (d + 5) _ rfl]
  unfold rpO
  by_cases h : s = ⟨#[45]⟩
  · rw [if_pos h]
    have p1 := r51d (d + 4)
    subst h
    simp [p1]
  · rw [if_neg h]
    have p1 := r51 (d + 1) s hs h
    generalize rlO s = r at p1 ⊢
    unfold oLn at p1
    unfold rpX
    rcases r with _ | r
    · simp [p1]
    rcases r with _ | ⟨a, _ | ⟨b, _ | ⟨c, _ | ⟨e, _ | ⟨f, _ | ⟨x, r⟩⟩⟩⟩⟩⟩
    · simp [p1]
    · simp [p1]
    · simp [p1]
    · simp [p1]
    · simp [p1]
    · have p2 := r37 (d + 2) (a, b, c, e, f)
      cases hk : okG (a, b, c, e, f) <;> rw [hk] at p2 <;> simp [p1, p2, hk]
    · have h3 : ¬ ((r.length : Int) + 1 + 1 + 1 + 1 + 1 + 1 = 5) := by omega
      simp [p1, h3]
theorem r24 (d : Nat) (s : ByteArray) (hs : s.size ≤ 1048576) : ev (d + 6) 24 [T s] = some (.tu [.ag (gV (rpO s).1), B (rpO s).2], []) := by
  rw [s24 (d + 5) _ rfl]
  unfold rpO
  by_cases h : s = ⟨#[45]⟩
  · rw [if_pos h]
    have p1 := r50d (d + 4)
    subst h
    simp [p1]
  · rw [if_neg h]
    have p1 := r50 (d + 1) s hs h
    generalize rlO s = r at p1 ⊢
    unfold oLn at p1
    unfold rpX
    rcases r with _ | r
    · simp [p1]
    rcases r with _ | ⟨a, _ | ⟨b, _ | ⟨c, _ | ⟨e, _ | ⟨f, _ | ⟨x, r⟩⟩⟩⟩⟩⟩
    · simp [p1]
    · simp [p1]
    · simp [p1]
    · simp [p1]
    · simp [p1]
    · have p2 := r35 (d + 2) (a, b, c, e, f)
      cases hk : okG (a, b, c, e, f) <;> rw [hk] at p2 <;> simp [p1, p2, hk]
    · have h3 : ¬ ((r.length : Int) + 1 + 1 + 1 + 1 + 1 + 1 = 5) := by omega
      simp [p1, h3]
theorem r7 (d : Nat) (s : ByteArray) : ev (d + 7) 7 [T s] = some (B true, []) := by
  rw [s7 (d + 6) _ rfl]
  by_cases hs0 : (s.size : Int) > 1048576
  · simp [hs0]
  have g1 := r24 d s (by omega)
  have g2 := r25 d s (by omega)
  generalize rpO s = o at g1 g2
  obtain ⟨⟨a, b, c, e, f⟩, v⟩ := o
  have q1 := r26 (d + 5) a b c e f
  simp [hs0, g1, g2, q1]
end Go.Proofs.YthnkioafikmmaaaDoor.walkS
