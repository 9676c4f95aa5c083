/- Sequences of leaves; the row IsSequence; no conditions. -/
import Derived.Test.YtmhddfikpfkeoaaWMatch
namespace Go.Proofs.Ytmhddfikpfkeoaa.walkS
open Go Go.Proofs.Ytmhddfikpfkeoaa.Ev
set_option linter.unusedSimpArgs false
abbrev iC (n : Int) : List Cell := [.sc (.int .i64 n)]
abbrev zI : List Cell := [.sc (.int .i64 0)]
theorem iC_shut (n : Int) : (iC n).map shutC = iC n := rfl
theorem shut_iC (l : List Int) : shut (l.map iC) = l.map iC := shut_map iC_shut l
attribute [simp high] shut_iC
abbrev iW (n : Int) : List Value := [.int .i64 n]
theorem low_iC (l : List Int) : low (l.map iC) = some (l.map iW) := low_map (fun _ => rfl) l
theorem lift_iW (l : List Int) : Ev.lift (l.map iW) = l.map iC := lift_map (fun _ => rfl) l
attribute [simp] low_iC lift_iW
theorem l15 (d : Nat) (l : List Int) (hb : l.length ≤ big) : ∀ (n i : Nat), n + i = l.length →
    clC [] [4] (blk 0 (lp (evC (ev (d + 0)) b15_1) (clean [0, 1, 5]) ⟨lookS [(0, .ro 1 (l.map iC)), (1, .ro 1 (l.map iC)), (5, I i)], lookM []⟩)) = some (.nm, ⟨lookS [], lookM []⟩) := by
  intro n
  induction n with
  | zero =>
    intro i hi
    have h0 : ¬ (i : Int) < (l.length : Int) := by omega
    rw [lp_step]
    simp [h0]
  | succ n ih =>
    intro i hi
    have hlt : i < l.length := by omega
    have h0 : (i : Int) < (l.length : Int) := by omega
    obtain ⟨x, hx⟩ := get_lt hlt
    have hw := wrap_nat (i := i) (by simp [big] at hb; omega)
    have ih' := ih (i + 1) (by omega)
    simp at ih'
    rw [lp_step]
    simp [h0, hx, hw, ih']
theorem r15 (d : Nat) (l : List Int) (hb : l.length ≤ big) : ev (d + 1) 15 [.ro 1 (l.map iC), .ro 1 (l.map iC)] = some (B true, []) := by
  rw [s15 (d + 0) _ rfl]
  have key := l15 d l hb l.length 0 (by omega)
  simp at key
  simp [key]
def follow (l : List Lf) (k' k : Int) : Bool :=
  match l[k'.toNat]?, l[k.toNat]? with
  | some Q, some L => decide (L.fl = Q.fl) && decide (L.num = W (Q.num + 1))
  | _, _ => true
def seqAt (l : List Lf) (c : List Int) (i : Nat) : Bool :=
  match c[i]? with
  | some k => inRange l k && (match i with | 0 => true | j + 1 => (match c[j]? with | some k' => follow l k' k | none => true))
  | none => true
def seqFrom (l : List Lf) (c : List Int) : Nat → Nat → Bool
  | 0, _ => true
  | n + 1, i => seqAt l c i && seqFrom l c n (i + 1)
def isSeq (l : List Lf) (c : List Int) : Bool := okLs l && (decide (¬ c.length = 0) && seqFrom l c c.length 0)
end Go.Proofs.Ytmhddfikpfkeoaa.walkS
