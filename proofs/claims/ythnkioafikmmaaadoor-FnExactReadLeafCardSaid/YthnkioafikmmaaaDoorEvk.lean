/- strings.Split: the shelf's contract, in the simpler machine's words; the machine's greatest length lies beside. -/
import Derived.Test.YthnkioafikmmaaaDoorEvj
import Derived.Shelf.Strings.Split
namespace Go.Proofs.YthnkioafikmmaaaDoor.Ev
set_option linter.unusedVariables false
set_option linter.unusedSimpArgs false
open Go Go.Shelf Go.Proofs Go.Sort

theorem allocS (w : World) (o : Obj) : (w.alloc o).heap = w.heap.push o := rfl
def splitL (s sep : ByteArray) : List ByteArray := Lib.splitB sep 0 (Lib.countB s sep) s
def pSplit (E : Nat) : List LV → Option (LV × List LV)
  | [.sc (.string s), .sc (.string sep)] => if s.size ≤ big ∧ 1 ≤ sep.size then some (.ow E 1 ((splitL s sep).map bR), []) else none
  | _ => none
theorem pSplit_eq {E : Nat} {s sep : ByteArray} (h1 : s.size ≤ big) (h2 : 1 ≤ sep.size) : pSplit E [.sc (.string s), .sc (.string sep)] = some (.ow E 1 ((splitL s sep).map bR), []) := by
  simp only [pSplit, if_pos (And.intro h1 h2)]
section
variable {T : Tab} {P : Program} {ρ : Ren}
theorem pSplit_ok (L : Lays.n146 P ρ) (hi9 : (P.info? (ρ.t 9)).map (fun i => (i.zero, i.size, i.bytes)) = some (some (.string ByteArray.empty), 1, 16)) {m : Int} (hT : (ρ.g 1, #[Value.int .i64 m]) ∈ T) {ys : List LV} {r : LV} (h : pSplit (ρ.t 9) ys = some (r, [])) : small r = true ∧ Contract T P (ρ.f 146) ys r := by
  unfold pSplit at h
  split at h
  case h_2 => cases h
  rename_i s sep
  split at h
  case isFalse => cases h
  rename_i hc
  cases h
  refine ⟨rfl, ?_⟩
  intro S w vals G hS hargs hTb
  obtain ⟨hsz, hrl⟩ := hargs
  obtain ⟨u0, p0, q0, _⟩ := hrl 0 _ rfl
  obtain ⟨u1, p1, q1, _⟩ := hrl 1 _ rfl
  have e0 : u0 = .string s := q0.1
  have e1 : u1 = .string sep := q1.1
  subst e0 e1
  have hv : vals = #[.string s, .string sep] := by
    apply Array.ext'
    apply List.ext_getElem?
    intro k
    rw [Array.getElem?_toList]
    match k with
    | 0 => rw [p0]; rfl
    | 1 => rw [p1]; rfl
    | k + 2 =>
      have hs : vals.size = 2 := hsz
      rw [Array.getElem?_eq_none (by omega)]
      rfl
  subst hv
  obtain ⟨⟨e, z, h1⟩, _⟩ := hTb _ hT
  have hm : w.cell? ⟨ρ.g 1, 0, none⟩ = some (.int .i64 m) := by rw [Go.Proofs.YthnkioafikmmaaaDoor.Ev.cell_lit h1]; rfl
  have hlen : (splitL s sep).length = Lib.countB s sep + 1 := Lib.splitB_all sep hc.2 0 _ s rfl
  have hcl := Lib.countB_le sep hc.2 s.size s (Nat.le_refl _)
  have hb := hc.1
  simp only [big] at hb
  have hmx : maxLen = 9223372036854775807 := by decide
  refine Calls.mono (Any.strings_Split L hi9 s sep m w (by omega) hm hc.2) fun en w' => ?_
  rintro ⟨rfl, hw⟩
  have hw : w' = w.alloc (.cells ((splitL s sep).map Value.string).toArray (ρ.t 9)) := hw
  subst hw
  rw [← hlen]
  have hat : (w.alloc (.cells ((splitL s sep).map Value.string).toArray (ρ.t 9))).heap[w.heap.size]? = some (.cells ((splitL s sep).map Value.string).toArray (ρ.t 9) (0, 0)) := by simp [allocS]
  have hf : FrN (fun b => w.heap.size ≤ b) w (w.alloc (.cells ((splitL s sep).map Value.string).toArray (ρ.t 9))) := ⟨rfl, rfl, rfl, by simp [allocS], fun x hx _ => by simp [allocS, Array.getElem?_push, Nat.ne_of_lt hx]⟩
  refine ⟨_, rfl, hf, fun mk _ => ?_⟩
  have hrows : (splitL s sep).map bR = ((splitL s sep).map Value.string).map fun v => [Cell.sc v] := by rw [List.map_map]; rfl
  rw [hrows]
  generalize hws : splitL s sep = ws at hat hf hlen ⊢
  have own : OwG (OwC ⟨fun _ => w.heap.size, fun _ => ws.length, G.cblk, G.ccap⟩ S (w.alloc (.cells (ws.map Value.string).toArray (ρ.t 9))) (mk 0)) (w.alloc (.cells (ws.map Value.string).toArray (ρ.t 9))) w.heap.size (ρ.t 9) ws.length 1 ((ws.map Value.string).map fun v => [Cell.sc v]) :=
    own_of hat (by simp) (by simp) (by omega) (fun v hv => by obtain ⟨x, _, rfl⟩ := List.mem_map.1 hv; rfl) (fun k v hk => by simpa using hk)
  refine ⟨⟨fun _ => w.heap.size, fun _ => ws.length, G.cblk, G.ccap⟩, _, rfl, one_Inv own ⟨fun q => Nat.lt_irrefl _ (hS _ q), Nat.le_refl _⟩ (fun b hb => Nat.lt_of_lt_of_le (hS b hb) hf.size), ?_, ?_, fun i hi => ?_⟩
  · show R0 _ S _ (w.alloc (.cells (ws.map Value.string).toArray (ρ.t 9))) (.rf (mk 0) none 0 ((ws.map Value.string).map fun v => [Cell.sc v]).length) _
    simp only [R0, look, updM_eq]
    exact ⟨⟨w.heap.size, 0, none⟩, ws.length, by simp, by simp, by simp [Gh.capOf], fun _ => by simp [Gh.blkOf]⟩
  · show updM noMem (mk 0) _ (mk 0) ≠ none
    rw [updM_eq]; simp
  · by_cases e0 : i = mk 0
    · exact ⟨0, e0⟩
    · exact absurd (updM_ne e0) hi
end
end Go.Proofs.YthnkioafikmmaaaDoor.Ev
