/- What a row's arguments are, by their types. -/
import Derived.Test.YthnkioafikmmaaaDoorEv2
namespace Go.Proofs.YthnkioafikmmaaaDoor.Ev
open Go
set_option linter.unusedVariables false
set_option linter.unusedSimpArgs false
section
variable {P : Program} {t e : TypeId} {k : IntKind} {ls : List TypeId} {x : Cell} {y : LV}
theorem isT_int (hu : P.underlying t = some (.int k)) {v : Value} (h : IsT P t v) : ∃ n, v = .int k n ∧ (Lit.int k n).wf = true := by
  unfold IsT at h; rw [hu] at h; exact h
theorem isT_bool (hu : P.underlying t = some .bool) {v : Value} (h : IsT P t v) : ∃ b, v = .bool b := by
  unfold IsT at h; rw [hu] at h; exact h
theorem isT_string (hu : P.underlying t = some .string) {v : Value} (h : IsT P t v) : ∃ s, v = .string s ∧ s.size ≤ maxLen := by
  unfold IsT at h; rw [hu] at h; exact h
theorem cell_int (hu : P.underlying t = some (.int k)) (h : CellT P t x) : ∃ n, x = .sc (.int k n) ∧ (Lit.int k n).wf = true := by
  unfold CellT at h; rw [hu] at h
  obtain ⟨v, rfl, hv⟩ := h
  obtain ⟨n, rfl, hn⟩ := isT_int hu hv
  exact ⟨n, rfl, hn⟩
theorem cell_bool (hu : P.underlying t = some .bool) (h : CellT P t x) : ∃ b, x = .sc (.bool b) := by
  unfold CellT at h; rw [hu] at h
  obtain ⟨v, rfl, hv⟩ := h
  obtain ⟨n, rfl⟩ := isT_bool hu hv
  exact ⟨n, rfl⟩
theorem cell_string (hu : P.underlying t = some .string) (h : CellT P t x) : ∃ s, x = .sc (.string s) ∧ s.size ≤ maxLen := by
  unfold CellT at h; rw [hu] at h
  obtain ⟨v, rfl, hv⟩ := h
  obtain ⟨n, rfl, hn⟩ := isT_string hu hv
  exact ⟨n, rfl, hn⟩
theorem cell_slice (hu : P.underlying t = some (.slice e)) (hl : leafs P 8 e = some ls) (h : CellT P t x) : x = .nl ∨ ∃ rows, x = .sl false 0 ls.length rows ∧ rows.length ≤ maxLen ∧ ∀ row ∈ rows, All2 (IsT P) ls row := by
  unfold CellT at h; rw [hu] at h
  rcases h with rfl | ⟨ls', rows, h1, h2, h3, h4⟩
  · exact .inl rfl
  · rw [hl] at h1; cases h1; exact .inr ⟨rows, h2, h3, h4⟩
theorem lv_int (hu : P.underlying t = some (.int k)) (h : LvT P t y) : ∃ n, y = .sc (.int k n) ∧ (Lit.int k n).wf = true := by
  unfold LvT at h; rw [hu] at h
  obtain ⟨v, rfl, hv⟩ := h
  obtain ⟨n, rfl, hn⟩ := isT_int hu hv
  exact ⟨n, rfl, hn⟩
theorem lv_bool (hu : P.underlying t = some .bool) (h : LvT P t y) : ∃ b, y = .sc (.bool b) := by
  unfold LvT at h; rw [hu] at h
  obtain ⟨v, rfl, hv⟩ := h
  obtain ⟨n, rfl⟩ := isT_bool hu hv
  exact ⟨n, rfl⟩
theorem lv_string (hu : P.underlying t = some .string) (h : LvT P t y) : ∃ s, y = .sc (.string s) ∧ s.size ≤ maxLen := by
  unfold LvT at h; rw [hu] at h
  obtain ⟨v, rfl, hv⟩ := h
  obtain ⟨n, rfl, hn⟩ := isT_string hu hv
  exact ⟨n, rfl, hn⟩
theorem lv_slice (hu : P.underlying t = some (.slice e)) (hl : leafs P 8 e = some ls) (h : LvT P t y) : y = .nl ∨ ∃ rows, y = .ro ls.length rows ∧ rows.length ≤ maxLen ∧ ∀ row ∈ rows, All2 (CellT P) ls row := by
  unfold LvT at h; rw [hu] at h
  rcases h with rfl | ⟨ls', rows, h1, h2, h3, h4⟩
  · exact .inl rfl
  · rw [hl] at h1; cases h1; exact .inr ⟨rows, h2, h3, h4⟩
theorem in64 {n : Int} (h : (Lit.int .i64 n).wf = true) : -9223372036854775808 ≤ n ∧ n ≤ 9223372036854775807 := by
  simpa [Lit.wf, IntKind.min, IntKind.max, IntKind.signed, IntKind.bits] using h
theorem all_to {α β : Type} {R : α → β → Prop} {x : α} {xs : List α} {ys : List β} (h : All2 R (x :: xs) ys) : ∃ y zs, ys = y :: zs ∧ R x y ∧ All2 R xs zs := by
  cases ys with
  | nil => exact h.elim
  | cons y zs => exact ⟨y, zs, rfl, h.1, h.2⟩
theorem all_nil {α β : Type} {R : α → β → Prop} {ys : List β} (h : All2 R [] ys) : ys = [] := by
  cases ys with
  | nil => rfl
  | cons y zs => exact h.elim
theorem rows_of {α β : Type} {f : α → β} {W : α → Prop} {rows : List β} (h : ∀ row ∈ rows, ∃ p, row = f p ∧ W p) : ∃ l : List α, rows = l.map f ∧ ∀ p ∈ l, W p := by
  induction rows with
  | nil => exact ⟨[], rfl, fun p hp => by simp at hp⟩
  | cons r rows ih =>
    obtain ⟨p, rfl, hp⟩ := h r (by simp)
    obtain ⟨l, rfl, hl⟩ := ih fun row hr => h row (by simp [hr])
    refine ⟨p :: l, rfl, fun q hq => ?_⟩
    rcases List.mem_cons.1 hq with rfl | hq
    · exact hp
    · exact hl q hq
theorem cells_slice {w : World} {r : Reach} {b0 : Nat} {v : Value} (hu : P.underlying t = some (.slice e)) (h : Value.okWide P w r b0 t v) : v.cells = #[v] := by
  cases v <;> first | rfl | (simp [Value.okWide, Cell.okWide, Cell.ok, hu] at h)
end
end Go.Proofs.YthnkioafikmmaaaDoor.Ev
