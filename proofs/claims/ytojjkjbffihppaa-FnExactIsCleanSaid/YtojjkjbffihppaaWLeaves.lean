/- What the functions about lists of leaves compute, and the row of ValidLeaves; no conditions. -/
import Derived.Test.YtojjkjbffihppaaWScore
namespace Go.Proofs.Ytojjkjbffihppaa.walkS
open Go Go.Proofs.Ytojjkjbffihppaa.Ev
set_option linter.unusedSimpArgs false
abbrev bW (b : Bx) : List Value := [.int .i64 b.1, .int .i64 b.2.1, .int .i64 b.2.2.1, .int .i64 b.2.2.2]
theorem low_bC (l : List Bx) : low (l.map bC) = some (l.map bW) := low_map (fun _ => rfl) l
theorem lift_bW (l : List Bx) : Ev.lift (l.map bW) = l.map bC := lift_map (fun _ => rfl) l
attribute [simp] low_bC lift_bW
/-- a leaf as a row, the last cell apart -/
abbrev lR (L : Lf) (x : Cell) : List Cell := [.sc (.string L.id), .sc (.string L.fl), .sc (.int .i64 L.num), .sc (.string L.sp), .sc (.int .i64 L.sh), .sc (.int .i64 L.gr), .sc (.int .i64 L.wd), .sc (.int .i64 L.ln), x]
abbrev lC (L : Lf) : List Cell := lR L (.sl true 176 4 (L.df.map bW))
abbrev lS (L : Lf) : List Cell := lR L (.sl false 176 4 (L.df.map bW))
/-- as it comes in: no defects may be nil -/
def lI (p : Lf × Bool) : List Cell := lR p.1 (ifb p.2 .nl (.sl false 0 4 (p.1.df.map bW)))
def zL : List Cell := [.sc (.string ⟨#[]⟩), .sc (.string ⟨#[]⟩), .sc (.int .i64 0), .sc (.string ⟨#[]⟩), .sc (.int .i64 0), .sc (.int .i64 0), .sc (.int .i64 0), .sc (.int .i64 0), .nl]
abbrev zLx : List Cell := [.sc (.string ⟨#[]⟩), .sc (.string ⟨#[]⟩), .sc (.int .i64 0), .sc (.string ⟨#[]⟩), .sc (.int .i64 0), .sc (.int .i64 0), .sc (.int .i64 0), .sc (.int .i64 0), .nl]
theorem shut_lC (l : List Lf) : shut (l.map lC) = l.map lS := by
  simp only [shut, List.map_map]
  exact List.map_congr_left fun a _ => rfl
theorem shut_lS (l : List Lf) : shut (l.map lS) = l.map lS := shut_map (fun _ => rfl) l
attribute [simp high] shut_lC shut_lS
def lf (p : Lf × Bool) : List Cell := lC p.1
/-- what is known of a leaf that is left with enough -/
structure BdA (L : Lf) : Prop extends BdL L where
  sp : L.sp.size ≤ big
/-! ### lists of leaves that are valid -/
def less (a b : ByteArray) : Bool := Op.bytesLess a.toList b.toList
def okAt (l : List Lf) (i : Nat) : Bool :=
  match l[i]? with
  | some L => okL L && (match i with | 0 => true | k + 1 => (match l[k]? with | some Q => less Q.id L.id | none => true))
  | none => true
def okFrom (l : List Lf) : Nat → Nat → Bool
  | 0, _ => true
  | n + 1, i => okAt l i && okFrom l n (i + 1)
/-! ### the leaves as they come in -/
abbrev LT := ByteArray × ByteArray × Int × ByteArray × Int × Int × Int × Int × (List Bx × Bool)
def conv (p : LT) : Lf × Bool := (⟨p.1, p.2.1, p.2.2.1, p.2.2.2.1, p.2.2.2.2.1, p.2.2.2.2.2.1, p.2.2.2.2.2.2.1, p.2.2.2.2.2.2.2.1, p.2.2.2.2.2.2.2.2.1⟩, p.2.2.2.2.2.2.2.2.2)
theorem conv_sv {l : List LT} {R : LT → List Cell} (hR : ∀ p, R p = lI (conv p)) {x : LV} (h : SV 9 (l.map R) x) : SV 9 ((l.map conv).map lI) x := by
  rw [List.map_map]
  have : l.map R = l.map (lI ∘ conv) := List.map_congr_left fun p _ => hR p
  rw [← this]; exact h
theorem conv_wf {l : List LT} (h : ∀ p ∈ l, p.1.size ≤ maxLen ∧ p.2.1.size ≤ maxLen ∧ p.2.2.2.1.size ≤ maxLen ∧ (p.2.2.2.2.2.2.2.2.1.length ≤ maxLen ∧ (p.2.2.2.2.2.2.2.2.2 = true → p.2.2.2.2.2.2.2.2.1 = []))) : ∀ q ∈ l.map conv, WfL q.1 ∧ (q.2 = true → q.1.df = []) := by
  intro q hq
  obtain ⟨p, hp, rfl⟩ := List.mem_map.1 hq
  obtain ⟨h1, h2, h3, h4, h5⟩ := h p hp
  exact ⟨⟨h1, h2, h3, h4⟩, h5⟩
end Go.Proofs.Ytojjkjbffihppaa.walkS
