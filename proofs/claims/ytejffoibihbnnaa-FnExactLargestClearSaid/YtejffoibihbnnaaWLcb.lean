/- Largest clear boxes: the given search's answer, and the row; no conditions. -/
import Derived.Test.YtejffoibihbnnaaWLca
import Derived.Test.YtejffoibihbnnaaWRow3
namespace Go.Proofs.Ytejffoibihbnnaa.walkS
open Go Go.Proofs.Ytejffoibihbnnaa.Ev
set_option linter.unusedSimpArgs false
set_option linter.unusedVariables false
theorem lfs_sm {L : Lf} (h : LcB L) : smX (lfs L.df) := fun z hz => by
  have hw := h.w
  rcases List.mem_cons.1 hz with rfl | hz
  · omega
  · obtain ⟨c, hc, rfl⟩ := List.mem_map.1 hz; have := h.d c hc; omega
theorem rgs_sm {L : Lf} (h : LcB L) : smX (rgs L.df L.wd) := fun z hz => by
  have hw := h.w
  rcases List.mem_cons.1 hz with rfl | hz
  · omega
  · obtain ⟨c, hc, rfl⟩ := List.mem_map.1 hz; have := h.d c hc; omega
theorem los_sm {L : Lf} (h : LcB L) : smX (los L.df) := fun z hz => by
  have hw := h.l
  rcases List.mem_cons.1 hz with rfl | hz
  · omega
  · obtain ⟨c, hc, rfl⟩ := List.mem_map.1 hz; have := h.d c hc; omega
theorem his_sm {L : Lf} (h : LcB L) : smX (his L.df L.ln) := fun z hz => by
  have hw := h.l
  rcases List.mem_cons.1 hz with rfl | hz
  · omega
  · obtain ⟨c, hc, rfl⟩ := List.mem_map.1 hz; have := h.d c hc; omega
set_option maxHeartbeats 2000000 in
theorem r18 (d : Nat) (L : Lf) (hb : L.df.length ≤ big) (h1 : L.id.size ≤ big) (h2 : L.fl.size ≤ big) : ev (d + 7) 18 [.ag (lV L)] = some (.tu [.ag (bV (lcOf L).1), I (lcOf L).2], []) := by
  rw [s18 (d + 6) _ rfl]
  have c1 := r78 d L hb h1 h2
  unfold lcOf
  cases h0 : okL L
  · rw [h0] at c1
    simp [c1, z0]
  rw [h0] at c1
  have h := okL_LcB h0
  have hn := h.n
  have k1 := l18_1 (d + 6) L h L.df.length 0 [0] [L.wd] [0] [L.ln] (lfs L.df) (rgs L.df L.wd) (los L.df) (his L.df L.ln) (by omega) rfl rfl rfl rfl (by rw [List.drop_zero]; rfl) (by rw [List.drop_zero]; rfl) (by rw [List.drop_zero]; rfl) (by rw [List.drop_zero]; rfl)
  have e := lcB_I h
  rw [← gi2_LI] at e
  have k2 := l18_2 (d + 1) L h (lfs L.df) (rgs L.df L.wd) (los L.df) (his L.df L.ln) (lfs_sm h) (rgs_sm h) (los_sm h) (his_sm h) (by simp [lfs]; omega) (by simp [rgs]; omega) (by simp [los]; omega) (by simp [his]; omega) (lfs L.df).length 0 z0 (lcB L) (by omega) ⟨by decide, by decide⟩ (by rw [List.drop_zero]; exact e.symm)
  generalize lfs L.df = A at k1 k2
  generalize rgs L.df L.wd = C at k1 k2
  generalize los L.df = E at k1 k2
  generalize his L.df L.ln = F at k1 k2
  generalize lcB L = b at k2 ⊢
  simp [z0] at k1 k2
  by_cases hz : b.2.2.1 = 0
  · rw [decide_eq_true hz]
    simp [c1, k1, k2, hz, z0]
  · rw [decide_eq_false hz]
    simp [c1, k1, k2, hz]
set_option maxHeartbeats 2000000 in
theorem r3 (d : Nat) (L : Lf) (w : WfL L) {x : LV} (hx : SV 4 (L.df.map bC) x) : ev (d + 8) 3 [.ag (lA L x)] = some (B true, []) := by
  rw [s3 (d + 7) _ rfl]
  obtain ⟨k, hk, hs⟩ := r15 (d + 5) L 1048576 hx
  by_cases h : k < 0
  · rcases hx with rfl | ⟨rfl, _⟩ <;> simp [hk, h]
  obtain ⟨b1, b2, b3, _⟩ := szL_bounds (by omega) w (hs (by omega))
  have t1 := r17 (d + 4) L b1 hx
  have g1 := r16 (d + 1) L b1 b2 b3
  have g2 := r18 d L b1 b2 b3
  have q1 := r20 (d + 4) L b1
  generalize lcOf L = r at g1 g2
  obtain ⟨⟨p1, p2, p3, p4⟩, p5⟩ := r
  have q2 := r19 (d + 6) p1 p2 p3 p4
  simp only [bV] at g1 g2
  rcases hx with rfl | ⟨rfl, _⟩ <;> simp [hk, h, t1, g1, g2, q1, q2]
end Go.Proofs.Ytejffoibihbnnaa.walkS
