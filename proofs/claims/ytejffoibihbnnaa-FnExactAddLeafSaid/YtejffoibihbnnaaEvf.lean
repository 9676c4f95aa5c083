/- slices.Insert at elements of any number of cells: walked once. -/
import Derived.Test.YtejffoibihbnnaaEvd
import Derived.Test.YtejffoibihbnnaaEve
import Derived.Shelf.Spec.SlicesInsertGrow
import Derived.Shelf.SlGeneric
namespace Go.Proofs.Ytejffoibihbnnaa.Ev
set_option linter.unusedVariables false
set_option linter.unusedSimpArgs false
open Go Go.Shelf Go.RowKit Go.Lib Go.Sort Go.Proofs

structure InsK (P : Program) (ρ : Ren) : Prop where
  mixed : P.follows .mixedOrders = true
  f22 : Bears P (ρ.f 22) (Body2.n22 ρ)
  ov : ∀ (args : Array Value) (w : World), (callFunc (ρ.f 29) args).run P w = ((Extern.SlicesOverlaps.overlaps #[ρ.t 24, ρ.t 24] #[ρ.t 4] args).run P w).andThen fun v w' => .ok (.value v) w'
  t0 : P.underlying (ρ.t 0) = some (TypeDesc.tuple #[])
  a0 : ∀ w, (isAgg (ρ.t 0)).run P w = .ok false w
  z0 : ∀ w, (Go.sizeOf (ρ.t 0)).run P w = .ok 1 w
  v0 : ∀ w, (zeroValue (ρ.t 0)).run P w = .ok (Value.tuple #[]) w
  t3 : P.underlying (ρ.t 3) = some (TypeDesc.int IntKind.i64)
  a3 : ∀ w, (isAgg (ρ.t 3)).run P w = .ok false w
  z3 : ∀ w, (Go.sizeOf (ρ.t 3)).run P w = .ok 1 w
  v3 : ∀ w, (zeroValue (ρ.t 3)).run P w = .ok (Value.int IntKind.i64 0) w
  t4 : P.underlying (ρ.t 4) = some (TypeDesc.bool)
  a4 : ∀ w, (isAgg (ρ.t 4)).run P w = .ok false w
  z4 : ∀ w, (Go.sizeOf (ρ.t 4)).run P w = .ok 1 w
  v4 : ∀ w, (zeroValue (ρ.t 4)).run P w = .ok (Value.bool false) w
  t24 : P.underlying (ρ.t 24) = some (TypeDesc.slice (ρ.t 9))
  a24 : ∀ w, (isAgg (ρ.t 24)).run P w = .ok false w
  z24 : ∀ w, (Go.sizeOf (ρ.t 24)).run P w = .ok 1 w
  v24 : ∀ w, (zeroValue (ρ.t 24)).run P w = .ok (Value.slice none 0 0) w
/-- what is known of an element's type -/
structure ElI (P : Program) (t : TypeId) (K : Nat) : Prop where
  pos : 0 < K
  size : ∀ w, (Go.sizeOf t).run P w = .ok K w
  info : ∃ (i0 : TypeInfo) (z : Value), P.info? t = some i0 ∧ i0.size = K ∧ i0.zero = some z ∧ z.cells.size = K ∧ i0.bytes ≤ 1000000
section
variable {P : Program} {ρ : Ren}
theorem copy_K (w : World) (dT sT ty elem : TypeId) (K b o dLen dCap : Nat) (a : Addr) (sLen sCap : Nat) (cs : List Value) (n : Nat)
    (hu : P.underlying dT = some (.slice elem)) (hs : ∀ w, (Go.sizeOf elem).run P w = .ok K w) (hn : n = Nat.min sLen dLen) (hl : cs.length = n * K)
    (hsrc : ∀ j v, cs[j]? = some v → w.cell? (a.add j) = some v) (hc : ∀ j, j < cs.length → (w.cell? ⟨b, o + j, none⟩).isSome = true) (hf : ∀ j, j < cs.length → w.frozen? ⟨b, o + j, none⟩ = false) (h1 : ∀ v ∈ cs, v.oneCell' = true) :
    (Builtin.copy_ #[dT, sT] ty #[.slice (some ⟨b, o, none⟩) dLen dCap, .slice (some a) sLen sCap]).run P w = .ok (goInt n) (w.setCells b o cs) := by
  have hst := run_storeCells_cells (P := P) b o cs 0 w (by simpa using hc) (by simpa using hf) h1
  have hst' : (storeCells ⟨b, o, none⟩ cs).run P w = .ok () (w.setCells b o cs) := by simpa using hst
  have hfc : (Builtin.firstCells K n (.slice (some a) sLen sCap)).run P w = .ok cs.toArray w := run_firstCells_some w K n a sLen sCap cs hl hsrc
  simp [Builtin.copy_, run_underlying hu, Builtin.lenOf, hs, ← hn, hfc, hst']

set_option maxHeartbeats 4000000 in
set_option maxRecDepth 1000000 in
theorem ins_end_room (L : InsK P ρ) {K : Nat} (hE : ElI P (ρ.t 9) K) (b n c vb m vc : Nat) (vs : List Value) (w : World) (hm : 0 < m) (hroom : n + m ≤ c) (hc63 : c ≤ 9223372036854775807)
    (hvl : vs.length = m * K) (hsp : ∀ j, j < m * K → (w.cell? ⟨b, n * K + j, none⟩).isSome = true ∧ w.frozen? ⟨b, n * K + j, none⟩ = false)
    (hvs : ∀ j v, vs[j]? = some v → w.cell? (Addr.add ⟨vb, 0, none⟩ j) = some v) (h1v : ∀ v ∈ vs, v.oneCell' = true) :
    Calls P (ρ.f 22) #[.slice (some ⟨b, 0, none⟩) n c, .int .i64 n, .slice (some ⟨vb, 0, none⟩) m vc] w fun e w' =>
      e = .returned (.slice (some ⟨b, 0, none⟩) (n + m) c) ∧ w' = w.setCells b (n * K) vs := by
  have t0 := L.t0; have a0 := L.a0; have z0 := L.z0; have v0 := L.v0; have t3 := L.t3; have a3 := L.a3; have z3 := L.z3; have v3 := L.v3; have t4 := L.t4; have a4 := L.a4; have z4 := L.z4; have v4 := L.v4; have t24 := L.t24; have a24 := L.a24; have z24 := L.z24; have v24 := L.v24
  have z9 := hE.size
  have u0 := run_underlying L.t0; have u3 := run_underlying L.t3; have u4 := run_underlying L.t4; have u24 := run_underlying L.t24
  have mixed := L.mixed
  obtain ⟨i0, z, hi0, hzs, hz, hzc, hby⟩ := hE.info
  have hz1 : ¬ ((m : Int) = 0) := by omega
  have hrun : ∀ ty, (Builtin.append_ #[ρ.t 24, ρ.t 24] ty #[.slice (some ⟨b, 0, none⟩) n c, .slice (some ⟨vb, 0, none⟩) m vc]).run P w = .ok (.slice (some ⟨b, 0, none⟩) (n + m) c) (w.setCells b (n * K) vs) := fun ty => by
    subst hzs
    have := run_append_room_src w (ρ.t 24) (ρ.t 24) ty (ρ.t 9) i0 L.t24 hi0 b 0 n c _ m vs (Src.ofSlice w L.t24 ⟨vb, 0, none⟩ m vc vs hvl hvs h1v) hroom (fun j hj => by rw [Nat.zero_add]; exact (hsp j (by omega)).1) (fun j hj => by rw [Nat.zero_add]; exact (hsp j (by omega)).2)
    rw [Nat.zero_add] at this
    exact this
  clear hvl h1v hsp hvs
  obtain ⟨_, _, FG⟩ := L.f22
  go_enter FG, Body2.n22_ntmps ρ
  go_wp2_with (at_builtin; refine Lib.wpList_append_run _ rfl _ _ _ _ rfl _ _ rfl rfl _ _ (hrun _) ?_)
  go_ret
  exact ⟨rfl, rfl⟩
set_option maxHeartbeats 4000000 in
set_option maxRecDepth 1000000 in
theorem ins_end_grow (L : InsK P ρ) {K : Nat} (hE : ElI P (ρ.t 9) K) (b n c vb m vc : Nat) (cs vs : List Value) (w : World) (hm : 0 < m) (hnc : n ≤ c) (hroom : c < n + m) (hbig : n + m ≤ 1000000)
    (hcl : cs.length = n * K) (hcs : ∀ j v, cs[j]? = some v → w.cell? (Addr.add ⟨b, 0, none⟩ j) = some v)
    (hvl : vs.length = m * K) (hvs : ∀ j v, vs[j]? = some v → w.cell? (Addr.add ⟨vb, 0, none⟩ j) = some v) (h1v : ∀ v ∈ vs, v.oneCell' = true) :
    ∃ z : Value, z.cells.size = K ∧ Calls P (ρ.f 22) #[.slice (some ⟨b, 0, none⟩) n c, .int .i64 n, .slice (some ⟨vb, 0, none⟩) m vc] w fun e w' =>
      e = .returned (.slice (some ⟨w.heap.size, 0, none⟩) (n + m) (grownCap w (n + m) c (ρ.t 9))) ∧
      w' = w.drew.alloc (.cells ((cs ++ vs).toArray ++ Builtin.zeroCells z.cells (grownCap w (n + m) c (ρ.t 9) - (n + m))) (ρ.t 9)) := by
  have t0 := L.t0; have a0 := L.a0; have z0 := L.z0; have v0 := L.v0; have t3 := L.t3; have a3 := L.a3; have z3 := L.z3; have v3 := L.v3; have t4 := L.t4; have a4 := L.a4; have z4 := L.z4; have v4 := L.v4; have t24 := L.t24; have a24 := L.a24; have z24 := L.z24; have v24 := L.v24
  have z9 := hE.size
  have u0 := run_underlying L.t0; have u3 := run_underlying L.t3; have u4 := run_underlying L.t4; have u24 := run_underlying L.t24
  have mixed := L.mixed
  obtain ⟨i0, z, hi0, hzs, hz, hzc, hby⟩ := hE.info
  refine ⟨z, hzc, ?_⟩
  have hz1 : ¬ ((m : Int) = 0) := by omega
  have hB : (n + m) * i0.bytes ≤ 140737488355328 := Nat.le_trans (Nat.mul_le_mul hbig hby) (by decide)
  have hrun : ∀ ty, (Builtin.append_ #[ρ.t 24, ρ.t 24] ty #[.slice (some ⟨b, 0, none⟩) n c, .slice (some ⟨vb, 0, none⟩) m vc]).run P w = .ok (.slice (some ⟨w.heap.size, 0, none⟩) (n + m) (grownCap w (n + m) c (ρ.t 9)))
      (w.drew.alloc (.cells ((cs ++ vs).toArray ++ Builtin.zeroCells z.cells (grownCap w (n + m) c (ρ.t 9) - (n + m))) (ρ.t 9))) := fun ty => by
    subst hzs
    exact run_append_grow_src w (ρ.t 24) (ρ.t 24) ty (ρ.t 9) i0 z L.t24 hi0 hz (some ⟨b, 0, none⟩) n c cs (run_firstCells_some w.drew i0.size n ⟨b, 0, none⟩ n c cs hcl hcs) _ m vs (Src.ofSlice w L.t24 ⟨vb, 0, none⟩ m vc vs hvl hvs h1v) hroom (by omega) (growslice_fits hroom hB)
  clear hvl h1v hvs hcs hcl hB
  generalize grownCap w (n + m) c (ρ.t 9) = G at hrun ⊢
  generalize (cs ++ vs).toArray ++ Builtin.zeroCells z.cells (G - (n + m)) = ROW at hrun ⊢
  obtain ⟨_, _, FG⟩ := L.f22
  go_enter FG, Body2.n22_ntmps ρ
  go_wp2_with (at_builtin; refine Lib.wpList_append_run _ rfl _ _ _ _ rfl _ _ rfl rfl _ _ (hrun _) ?_)
  all_goals (go_ret; exact ⟨rfl, rfl⟩)
set_option maxHeartbeats 4000000 in
set_option maxRecDepth 1000000 in
theorem ins_shift (L : InsK P ρ) {K : Nat} (hE : ElI P (ρ.t 9) K) (b n c i vb m vc : Nat) (cs vs : List Value) (w : World) (hi : i < n) (hm : 0 < m) (hroom : n + m ≤ c) (hc63 : c ≤ 9223372036854775807) (hvb : vb ≠ b)
    (hcl : cs.length = n * K) (hvl : vs.length = m * K)
    (hcs : ∀ j v, cs[j]? = some v → w.cell? ⟨b, j, none⟩ = some v) (hsp : ∀ j, j < (n + m) * K → (w.cell? ⟨b, j, none⟩).isSome = true ∧ w.frozen? ⟨b, j, none⟩ = false)
    (hvs : ∀ j v, vs[j]? = some v → w.cell? (Addr.add ⟨vb, 0, none⟩ j) = some v) (h1c : ∀ v ∈ cs, v.oneCell' = true) (h1v : ∀ v ∈ vs, v.oneCell' = true)
    (tA tB : TypeId) (kA kB : Nat) (hsa : w.shape? vb = some (tA, kA)) (hsb : w.shape? b = some (tB, kB)) (hkB : kB ≠ 0) (hfa : w.frozen? ⟨vb, 0, none⟩ = false) (hfe : w.frozen? ⟨vb, kA, none⟩ = false) :
    Calls P (ρ.f 22) #[.slice (some ⟨b, 0, none⟩) n c, .int .i64 i, .slice (some ⟨vb, 0, none⟩) m vc] w fun e w' =>
      e = .returned (.slice (some ⟨b, 0, none⟩) (n + m) c) ∧ w' = (w.drew.setCells b ((i + m) * K) (cs.drop (i * K))).setCells b (i * K) vs := by
  have t0 := L.t0; have a0 := L.a0; have z0 := L.z0; have v0 := L.v0; have t3 := L.t3; have a3 := L.a3; have z3 := L.z3; have v3 := L.v3; have t4 := L.t4; have a4 := L.a4; have z4 := L.z4; have v4 := L.v4; have t24 := L.t24; have a24 := L.a24; have z24 := L.z24; have v24 := L.v24
  have z9 := hE.size
  have u0 := run_underlying L.t0; have u3 := run_underlying L.t3; have u4 := run_underlying L.t4; have u24 := run_underlying L.t24
  have mixed := L.mixed
  have hz1 : ¬ ((m : Int) = 0) := by omega
  have hz2 : ¬ ((i : Int) = (n : Int)) := by omega
  have hov : ∀ lb cb, (callFunc (ρ.f 29) #[.slice (some ⟨vb, 0, none⟩) m vc, .slice (some ⟨b, (i + m) * K, none⟩) lb cb]).run P w = .ok (.value (.bool false)) w := fun lb cb => by
    rw [L.ov, Lib.run_overlaps_apart w (ρ.t 24) (ρ.t 4) (ρ.t 9) L.t24 K hE.size ⟨vb, 0, none⟩ ⟨b, (i + m) * K, none⟩ m vc lb cb hvb tA tB kA kB hsa hsb hkB hfa hfe]
    rfl
  have hKn : i * K + (n - i) * K = n * K := by rw [← Nat.add_mul]; congr 1; omega
  have hKm : (i + m) * K + (n - i) * K = (n + m) * K := by rw [← Nat.add_mul]; congr 1; omega
  have hKv : i * K + m * K ≤ (n + m) * K := by rw [← Nat.add_mul]; exact Nat.mul_le_mul_right _ (by omega)
  have hdl : (cs.drop (i * K)).length = (n - i) * K := by rw [List.length_drop, hcl]; omega
  have hw1 : IntKind.i64.wrap ((i : Int) + (m : Int)) = (i : Int) + (m : Int) := by rw [IntKind.wrap_i64]; omega
  have hb1 : (0 : Int) ≤ (i : Int) + (m : Int) := by omega
  have hin : i ≤ n := by omega
  have htn : ((i : Int) + (m : Int)).toNat = i + m := by omega
  have hb2 : ¬ (c = i + m) := by omega
  have hb3 : (i : Int) ≤ (n : Int) + (m : Int) := by omega
  have hb4 : ¬ (c = i) := by omega
  have hcp1 : ∀ ty dc sc, (Builtin.copy_ #[(ρ.t 24), (ρ.t 24)] ty #[.slice (some ⟨b, (i + m) * K, none⟩) (n + m - (i + m)) dc, .slice (some ⟨b, i * K, none⟩) (n + m - i) sc]).run P w.drew = .ok (goInt (n - i)) (w.drew.setCells b ((i + m) * K) (cs.drop (i * K))) := fun ty dc sc => by
    have := copy_K w.drew (ρ.t 24) (ρ.t 24) ty (ρ.t 9) K b ((i + m) * K) (n + m - (i + m)) dc ⟨b, i * K, none⟩ (n + m - i) sc (cs.drop (i * K)) (n - i) L.t24 hE.size (by simp only [Nat.min_def]; split <;> omega) hdl
      (fun j v hj => by rw [Go.Proofs.Ytejffoibihbnnaa.Ev.add_lit]; exact hcs _ v (by rwa [List.getElem?_drop] at hj))
      (fun j hj => (hsp _ (by omega)).1) (fun j hj => (hsp _ (by omega)).2) (fun v hv => h1c v (List.mem_of_mem_drop hv))
    rw [this]
    congr 2
    omega
  obtain ⟨W1, hW1⟩ : ∃ W1, W1 = w.drew.setCells b ((i + m) * K) (cs.drop (i * K)) := ⟨_, rfl⟩
  have hsp1 : ∀ k, k < (n + m) * K → (W1.cell? ⟨b, k, none⟩).isSome = true := fun k hk => by
    rw [hW1]
    exact isSome_setCells b (cs.drop (i * K)) ((i + m) * K) w.drew (fun j hj => (hsp _ (by omega)).1) _ (hsp k hk).1
  have hcp2 : ∀ (W : World), (∀ x, W.cell? x = W1.cell? x) → (∀ x, W.frozen? x = W1.frozen? x) → ∀ ty dc, (Builtin.copy_ #[(ρ.t 24), (ρ.t 24)] ty #[.slice (some ⟨b, i * K, none⟩) (n + m - i) dc, .slice (some ⟨vb, 0, none⟩) m vc]).run P W = .ok (goInt m) (W.setCells b (i * K) vs) := fun W hWc hWf ty dc =>
    copy_K W _ _ ty (ρ.t 9) K b (i * K) (n + m - i) dc ⟨vb, 0, none⟩ m vc vs m L.t24 hE.size (by simp only [Nat.min_def]; split <;> omega) hvl
      (fun j v hj => by
        have h0 := hvs j v hj
        rw [Go.Proofs.Ytejffoibihbnnaa.Ev.add_lit] at h0 ⊢
        rw [hWc, hW1, World.cell?_setCells_out b _ _ _ _ (fun h _ => absurd h hvb)]
        exact h0)
      (fun j hj => by rw [hWc]; exact hsp1 _ (by omega)) (fun j hj => by rw [hWf, hW1, World.frozen?_setCells]; exact (hsp _ (by omega)).2) h1v
  rw [← hW1] at hcp1
  have hWX : Hid (W1 = w.drew.setCells b ((i + m) * K) (cs.drop (i * K))) := hW1
  clear hW1 hsp1 hsp hcs hvs h1c h1v hcl hvl hdl hKn hKm hKv
  obtain ⟨_, _, FG⟩ := L.f22
  go_enter FG, Body2.n22_ntmps ρ
  go_wp2_with (simp only [hov])
  go_region_law_o (refine step_copy_runI rfl _ _ (ρ.t 24) (ρ.t 24) rfl _ _ (by simp [Act.eval, Act.put]) (by simp [Act.eval, Act.put]) (hcp1 _ _ _) ?_)
  go_wp2_with (at_builtin; refine wpList_copy_runI _ rfl _ _ (ρ.t 24) (ρ.t 24) rfl _ _ rfl rfl (hcp2 _ (fun _ => rfl) (fun _ => rfl) _ _) ?_)
  go_ret
  exact ⟨rfl, by rw [hWX.out]⟩
set_option maxHeartbeats 4000000 in
set_option maxRecDepth 1000000 in
theorem ins_grow (L : InsK P ρ) {K : Nat} (hE : ElI P (ρ.t 9) K) (b n c i vb m vc : Nat) (cs vs : List Value) (w : World) (hi : i < n) (hm : 0 < m) (hnc : n ≤ c) (hroom : c < n + m) (hbig : n + m ≤ 1000000)
    (hbw : b < w.heap.size) (hvw : vb < w.heap.size) (hcl : cs.length = n * K) (hvl : vs.length = m * K)
    (hcs : ∀ j v, cs[j]? = some v → w.cell? ⟨b, j, none⟩ = some v)
    (hvs : ∀ j v, vs[j]? = some v → w.cell? (Addr.add ⟨vb, 0, none⟩ j) = some v) (h1c : ∀ v ∈ cs, v.oneCell' = true) (h1v : ∀ v ∈ vs, v.oneCell' = true) :
    ∃ z : Value, z.cells.size = K ∧ Calls P (ρ.f 22) #[.slice (some ⟨b, 0, none⟩) n c, .int .i64 i, .slice (some ⟨vb, 0, none⟩) m vc] w fun e w' =>
      e = .returned (.slice (some ⟨w.heap.size, 0, none⟩) (n + m) (grownCap w (n + m) c (ρ.t 9))) ∧
      w' = (((w.alloc (.cells ((cs.take (i * K)).toArray ++ Builtin.zeroCells z.cells (n + m - i) ++ Builtin.zeroCells z.cells (grownCap w (n + m) c (ρ.t 9) - (n + m))) (ρ.t 9))).drew.setCells w.heap.size (i * K) vs).drew).setCells w.heap.size ((i + m) * K) (cs.drop (i * K)) := by
  have t0 := L.t0; have a0 := L.a0; have z0 := L.z0; have v0 := L.v0; have t3 := L.t3; have a3 := L.a3; have z3 := L.z3; have v3 := L.v3; have t4 := L.t4; have a4 := L.a4; have z4 := L.z4; have v4 := L.v4; have t24 := L.t24; have a24 := L.a24; have z24 := L.z24; have v24 := L.v24
  have z9 := hE.size
  have u0 := run_underlying L.t0; have u3 := run_underlying L.t3; have u4 := run_underlying L.t4; have u24 := run_underlying L.t24
  have mixed := L.mixed
  obtain ⟨i0, z, hi0, hzs, hz, hzc, hby⟩ := hE.info
  refine ⟨z, hzc, ?_⟩
  have hz1 : ¬ ((m : Int) = 0) := by omega
  have hz2 : ¬ ((i : Int) = (n : Int)) := by omega
  have hz3 : (c : Int) < (n : Int) + (m : Int) := by omega
  have hB : (n + m) * i0.bytes ≤ 140737488355328 := Nat.le_trans (Nat.mul_le_mul hbig hby) (by decide)
  have hB2 : (n + m - i) * i0.bytes ≤ 281474976710656 := Nat.le_trans (Nat.mul_le_mul (show n + m - i ≤ 1000000 by omega) hby) (by decide)
  have hKn : i * K + (n - i) * K = n * K := by rw [← Nat.add_mul]; congr 1; omega
  have hKm : (i + m) * K + (n - i) * K = (n + m) * K := by rw [← Nat.add_mul]; congr 1; omega
  have hKv : i * K + m * K = (i + m) * K := by rw [← Nat.add_mul]
  have hKr : i * K + (n + m - i) * K = (n + m) * K := by rw [← Nat.add_mul]; congr 1; omega
  have hkk : (n : Int) + (m : Int) - (i : Int) = ((n + m - i : Nat) : Int) := by omega
  have hik : i + (n + m - i) = n + m := by omega
  have hold : (Builtin.firstCells i0.size i (.slice (some ⟨b, 0, none⟩) i c)).run P w.drew = .ok (cs.take (i * K)).toArray w.drew := by
    rw [hzs]
    exact run_firstCells_some w.drew K i ⟨b, 0, none⟩ i c (cs.take (i * K)) (by rw [List.length_take]; omega) (fun j v hj => by
      rw [Go.Proofs.Ytejffoibihbnnaa.Ev.add_lit, Nat.zero_add]
      rw [List.getElem?_take] at hj
      split at hj
      · exact hcs j v hj
      · cases hj)
  have hrz : ∀ ty, (Builtin.append_ #[(ρ.t 24), (ρ.t 3)] ty #[.slice (some ⟨b, 0, none⟩) i c, .int .i64 ((n : Int) + (m : Int) - (i : Int))]).run P w =
      .ok (.slice (some ⟨w.heap.size, 0, none⟩) (n + m) (grownCap w (n + m) c (ρ.t 9))) (w.drew.alloc (.cells ((cs.take (i * K)).toArray ++ Builtin.zeroCells z.cells (n + m - i) ++ Builtin.zeroCells z.cells (grownCap w (n + m) c (ρ.t 9) - (n + m))) (ρ.t 9))) := fun ty => by
    have h := Lib.run_append_grow_zeros w (ρ.t 24) (ρ.t 3) ty (ρ.t 9) i0 z .i64 .i64 L.t24 L.t3 hi0 hz (some ⟨b, 0, none⟩) i c (cs.take (i * K)) hold (n + m - i) (by omega) (by have := hE.pos; omega) (by omega) (by omega) hB2 (by rw [hik]; exact growslice_fits hroom hB)
    rw [hik] at h
    rw [hkk]
    exact h
  have hGn : n + m ≤ grownCap w (n + m) c (ρ.t 9) := grownCap_ge w _ _ _
  have hG63 : grownCap w (n + m) c (ρ.t 9) ≤ 9223372036854775807 := by
    have := grownCap_le_maxLen w (n + m) c (ρ.t 9) (by unfold maxLen; omega)
    unfold maxLen at this
    omega
  generalize grownCap w (n + m) c (ρ.t 9) = G at hrz hGn hG63 ⊢
  obtain ⟨ROW, hROW⟩ : ∃ ROW : Array Value, ROW = (cs.take (i * K)).toArray ++ Builtin.zeroCells z.cells (n + m - i) ++ Builtin.zeroCells z.cells (G - (n + m)) := ⟨_, rfl⟩
  rw [← hROW] at hrz ⊢
  have hRl : (n + m) * K ≤ ROW.size := by
    rw [hROW]
    simp only [Array.size_append, List.size_toArray, List.length_take, Builtin.zeroCells, Array.size_map, Array.size_range, hzc]
    omega
  obtain ⟨W1, hW1⟩ : ∃ W1, W1 = w.drew.alloc (.cells ROW (ρ.t 9)) := ⟨_, rfl⟩
  rw [← hW1] at hrz
  have hN : ∀ j, j < (n + m) * K → (W1.cell? ⟨w.heap.size, j, none⟩).isSome = true := fun j hj => by
    rw [hW1, World.cell?_alloc_at (w := w.drew) ROW _ w.heap.size j rfl, Array.getElem?_eq_getElem (by omega)]; rfl
  have hNf : ∀ j, W1.frozen? ⟨w.heap.size, j, none⟩ = false := fun j => by rw [hW1]; exact World.frozen?_alloc_at (w := w.drew) ROW _ w.heap.size j rfl
  have hOb : ∀ j v, w.cell? ⟨b, j, none⟩ = some v → W1.cell? ⟨b, j, none⟩ = some v := fun j v h => by rw [hW1, World.cell?_alloc_past (w := w.drew) _ b j hbw]; exact h
  have hOv : ∀ j v, w.cell? ⟨vb, j, none⟩ = some v → W1.cell? ⟨vb, j, none⟩ = some v := fun j v h => by rw [hW1, World.cell?_alloc_past (w := w.drew) _ vb j hvw]; exact h
  have hcpA : ∀ (W : World), (∀ x, W.cell? x = W1.cell? x) → (∀ x, W.frozen? x = W1.frozen? x) → ∀ ty dc, (Builtin.copy_ #[(ρ.t 24), (ρ.t 24)] ty #[.slice (some ⟨w.heap.size, i * K, none⟩) (n + m - i) dc, .slice (some ⟨vb, 0, none⟩) m vc]).run P W = .ok (goInt m) (W.setCells w.heap.size (i * K) vs) := fun W hWc hWf ty dc =>
    copy_K W _ _ ty (ρ.t 9) K w.heap.size (i * K) (n + m - i) dc ⟨vb, 0, none⟩ m vc vs m L.t24 hE.size (by simp only [Nat.min_def]; split <;> omega) hvl
      (fun j v hj => by
        have h0 := hvs j v hj
        rw [Go.Proofs.Ytejffoibihbnnaa.Ev.add_lit] at h0 ⊢
        rw [hWc]
        exact hOv _ v h0)
      (fun j hj => by rw [hWc]; exact hN _ (by omega)) (fun j hj => by rw [hWf]; exact hNf _) h1v
  have hGi : ¬ (G = i) := by omega
  have hGim : ¬ (G = i + m) := by omega
  have hci : ¬ (c = i) := by omega
  have hbN : b ≠ w.heap.size := by omega
  have hdl : (cs.drop (i * K)).length = (n - i) * K := by rw [List.length_drop, hcl]; omega
  have hcpB : ∀ (W : World), (∀ x, W.cell? x = (W1.setCells w.heap.size (i * K) vs).cell? x) → (∀ x, W.frozen? x = (W1.setCells w.heap.size (i * K) vs).frozen? x) → ∀ ty dc sc, (Builtin.copy_ #[(ρ.t 24), (ρ.t 24)] ty #[.slice (some ⟨w.heap.size, (i + m) * K, none⟩) (n + m - (i + m)) dc, .slice (some ⟨b, i * K, none⟩) (n - i) sc]).run P W = .ok (goInt (n - i : Nat)) (W.setCells w.heap.size ((i + m) * K) (cs.drop (i * K))) := fun W hWc hWf ty dc sc =>
    copy_K W _ _ ty (ρ.t 9) K w.heap.size ((i + m) * K) (n + m - (i + m)) dc ⟨b, i * K, none⟩ (n - i) sc (cs.drop (i * K)) (n - i) L.t24 hE.size (by simp only [Nat.min_def]; split <;> omega) hdl
      (fun j v hj => by
        rw [Go.Proofs.Ytejffoibihbnnaa.Ev.add_lit, hWc, World.cell?_setCells_out _ _ _ _ _ (fun h _ => absurd h hbN)]
        exact hOb _ v (hcs _ v (by rwa [List.getElem?_drop] at hj)))
      (fun j hj => by rw [hWc]; exact isSome_setCells w.heap.size vs (i * K) W1 (fun t ht => hN _ (by omega)) _ (hN _ (by omega)))
      (fun j hj => by rw [hWf, World.frozen?_setCells]; exact hNf _) (fun v hv => h1c v (List.mem_of_mem_drop hv))
  subst hW1
  have hE1 : ∀ x, ((w.alloc (.cells ROW (ρ.t 9))).drew).cell? x = (w.drew.alloc (.cells ROW (ρ.t 9))).cell? x := fun x => rfl
  have hE2 : ∀ x, ((w.alloc (.cells ROW (ρ.t 9))).drew).frozen? x = (w.drew.alloc (.cells ROW (ρ.t 9))).frozen? x := fun x => rfl
  have hF1 : ∀ x, (((w.alloc (.cells ROW (ρ.t 9))).drew.setCells w.heap.size (i * K) vs).drew).cell? x = ((w.drew.alloc (.cells ROW (ρ.t 9))).setCells w.heap.size (i * K) vs).cell? x := fun x => rfl
  have hF2 : ∀ x, (((w.alloc (.cells ROW (ρ.t 9))).drew.setCells w.heap.size (i * K) vs).drew).frozen? x = ((w.drew.alloc (.cells ROW (ρ.t 9))).setCells w.heap.size (i * K) vs).frozen? x := fun x => rfl
  have hw1 : IntKind.i64.wrap ((i : Int) + (m : Int)) = (i : Int) + (m : Int) := by rw [IntKind.wrap_i64]; omega
  have hb1 : (0 : Int) ≤ (i : Int) + (m : Int) := by omega
  have hin : i ≤ n := by omega
  have htn : ((i : Int) + (m : Int)).toNat = i + m := by omega
  have hb3 : (i : Int) ≤ (n : Int) := by omega
  clear hkk hik hold hROW hRl hB hB2 hKn hKm hKv hKr hdl hcl hvl hcs hvs h1c h1v hN hNf hOb hOv
  obtain ⟨_, _, FG⟩ := L.f22
  go_enter FG, Body2.n22_ntmps ρ
  go_wp2_with (first
    | (at_builtin; refine Lib.wpList_append_run _ rfl _ _ _ _ rfl _ _ rfl rfl _ _ (hrz _) ?_)
    | (at_builtin; refine wpList_copy_runI _ rfl _ _ (ρ.t 24) (ρ.t 24) rfl _ _ rfl rfl (hcpA _ hE1 hE2 _ _) ?_)
    | (at_builtin; refine wpList_copy_runI _ rfl _ _ (ρ.t 24) (ρ.t 24) rfl _ _ rfl rfl (hcpB _ (fun _ => rfl) (fun _ => rfl) _ _ _) ?_))
  go_region_law_o (refine step_copy_runI rfl _ _ (ρ.t 24) (ρ.t 24) rfl (.slice (some ⟨w.heap.size, (i + m) * K, none⟩) (n + m - (i + m)) (G - (i + m))) (.slice (some ⟨b, i * K, none⟩) (n - i) (c - i)) (by simp [Act.eval, Act.put]) (by simp [Act.eval, Act.put]) (hcpB _ hF1 hF2 (ρ.t 3) (G - (i + m)) (c - i)) ?_)
  go_wp2
  go_ret
  exact ⟨rfl, rfl⟩

theorem allocH (w : World) (o : Obj) : (w.alloc o).heap = w.heap.push o := rfl
theorem drewH (w : World) : w.drew.heap = w.heap := rfl
theorem add0 (b j : Nat) : Addr.add ⟨b, 0, none⟩ j = ⟨b, j, none⟩ := by rw [Go.Proofs.Ytejffoibihbnnaa.Ev.add_lit, Nat.zero_add]
set_option maxHeartbeats 1000000 in
theorem ins_K (L : InsK P ρ) {K : Nat} (hE : ElI P (ρ.t 9) K) (b cap i vb vcap n m : Nat) (cs us : Array Value) (e2 : TypeId) (w : World)
    (hb : w.heap[b]? = some (.cells cs (ρ.t 9) (0, 0))) (hcs : cs.size = cap * K) (hn : n ≤ cap) (hc63 : cap ≤ maxLen) (hv : w.heap[vb]? = some (.cells us e2 (0, 0))) (hus : us.size = vcap * K) (hmv : m ≤ vcap)
    (hne : vb ≠ b) (hi : i ≤ n) (hm : 0 < m) (hbig : n + m ≤ 1000000) (h1c : ∀ k, k < n * K → ∃ u, cs[k]? = some u ∧ u.oneCell' = true) (h1v : ∀ k, k < m * K → ∃ u, us[k]? = some u ∧ u.oneCell' = true) :
    Calls P (ρ.f 22) #[.slice (some ⟨b, 0, none⟩) n cap, .int .i64 i, .slice (some ⟨vb, 0, none⟩) m vcap] w fun en w' =>
      ∃ b' cap', en = .returned (.slice (some ⟨b', 0, none⟩) (n + m) cap') ∧ (b' = b ∨ b' = w.heap.size) ∧ FrN (fun x => x = b ∨ w.heap.size ≤ x) w w' ∧ n + m ≤ cap' ∧ cap' ≤ maxLen ∧ ∃ cs' : Array Value, w'.heap[b']? = some (.cells cs' (ρ.t 9) (0, 0)) ∧ cs'.size = cap' * K ∧
        (∀ k, k < i * K → cs'[k]? = cs[k]?) ∧ (∀ k, k < m * K → cs'[i * K + k]? = us[k]?) ∧ ∀ k, k < (n - i) * K → cs'[(i + m) * K + k]? = cs[i * K + k]? := by
  have hbw := (Array.getElem?_eq_some_iff.1 hb).1
  have hvw := (Array.getElem?_eq_some_iff.1 hv).1
  have hmx : maxLen = 9223372036854775807 := by decide
  have hncap : n * K ≤ cap * K := Nat.mul_le_mul_right _ hn
  have hmcap : m * K ≤ vcap * K := Nat.mul_le_mul_right _ hmv
  have hin : i * K ≤ n * K := Nat.mul_le_mul_right _ hi
  have hKn : i * K + (n - i) * K = n * K := by rw [← Nat.add_mul]; congr 1; omega
  have hKm : (i + m) * K + (n - i) * K = (n + m) * K := by rw [← Nat.add_mul]; congr 1; omega
  have hKv : i * K + m * K = (i + m) * K := by rw [← Nat.add_mul]
  have hKr : i * K + (n + m - i) * K = (n + m) * K := by rw [← Nat.add_mul]; congr 1; omega
  have hKs : n * K + m * K = (n + m) * K := by rw [← Nat.add_mul]
  obtain ⟨ds, hds⟩ : ∃ ds, ds = cs.toList.take (n * K) := ⟨_, rfl⟩
  obtain ⟨vs, hvs⟩ : ∃ vs, vs = us.toList.take (m * K) := ⟨_, rfl⟩
  have dl : ds.length = n * K := by rw [hds, List.length_take, Array.length_toList]; omega
  have vl : vs.length = m * K := by rw [hvs, List.length_take, Array.length_toList]; omega
  have dg : ∀ k, k < n * K → ds[k]? = cs[k]? := fun k hk => by rw [hds, List.getElem?_take, if_pos hk, Array.getElem?_toList]
  have vg : ∀ k, k < m * K → vs[k]? = us[k]? := fun k hk => by rw [hvs, List.getElem?_take, if_pos hk, Array.getElem?_toList]
  have lt_of : ∀ {l : List Value} {k : Nat} {v : Value}, l[k]? = some v → k < l.length := fun h => (List.getElem?_eq_some_iff.1 h).1
  have dc : ∀ j v, ds[j]? = some v → w.cell? ⟨b, j, none⟩ = some v := fun j v h => by
    rw [Go.Proofs.Ytejffoibihbnnaa.Ev.cell_lit hb, ← dg j (by have := lt_of h; omega)]; exact h
  have vc : ∀ j v, vs[j]? = some v → w.cell? (Addr.add ⟨vb, 0, none⟩ j) = some v := fun j v h => by
    rw [add0, Go.Proofs.Ytejffoibihbnnaa.Ev.cell_lit hv, ← vg j (by have := lt_of h; omega)]; exact h
  have d1 : ∀ u ∈ ds, u.oneCell' = true := fun u hu => by
    obtain ⟨t, ht⟩ := List.getElem?_of_mem hu
    have hl := lt_of ht
    rw [dl] at hl
    obtain ⟨v, v1, v2⟩ := h1c t hl
    rw [dg t hl, v1] at ht
    cases ht
    exact v2
  have v1 : ∀ u ∈ vs, u.oneCell' = true := fun u hu => by
    obtain ⟨t, ht⟩ := List.getElem?_of_mem hu
    have hl := lt_of ht
    rw [vl] at hl
    obtain ⟨v, v1, v2⟩ := h1v t hl
    rw [vg t hl, v1] at ht
    cases ht
    exact v2
  have spare : ∀ k, k < cap * K → (w.cell? ⟨b, k, none⟩).isSome = true ∧ w.frozen? ⟨b, k, none⟩ = false := fun k hk => by
    refine ⟨?_, by simp [World.frozen?, hb]⟩
    rw [Go.Proofs.Ytejffoibihbnnaa.Ev.cell_lit hb, Array.getElem?_eq_getElem (by omega)]
    rfl
  have gro : ∀ (ROW : Array Value), (w.drew.alloc (.cells ROW (ρ.t 9))).heap[w.heap.size]? = some (.cells ROW (ρ.t 9) (0, 0)) := fun ROW => by
    simp [allocH, drewH]
  by_cases hroom : n + m ≤ cap
  · have hrc : (n + m) * K ≤ cap * K := Nat.mul_le_mul_right _ hroom
    by_cases hend : i = n
    · subst hend
      refine Calls.mono (ins_end_room L hE b i cap vb m vcap vs w hm hroom (by omega) vl (fun j hj => spare _ (by omega)) vc v1) ?_
      rintro en w' ⟨rfl, rfl⟩
      obtain ⟨f1, f2, f3, f4, f5⟩ := setCells_fr (b := b) vs (i * K) w
      obtain ⟨cs', p1, p2, p3, p4⟩ := setCells_at vs (i * K) w cs hb
      refine ⟨b, cap, rfl, .inl rfl, ⟨f1, f2, f3, by rw [f4]; exact Nat.le_refl _, fun x hx hn => f5 x fun q => hn (.inl q)⟩, hroom, hc63, cs', p1, by rw [p2, hcs], fun k hk => p3 k (.inl hk), fun k hk => ?_, fun k hk => ?_⟩
      · rw [p4 k (by omega) (by omega), vg k hk]
      · rw [Nat.sub_self, Nat.zero_mul] at hk; omega
    · have hin2 : i < n := by omega
      have hpos : 0 < cs.size := by
        have h0 := hE.pos
        have : 0 < n * K := Nat.mul_pos (by omega) h0
        omega
      refine Calls.mono (ins_shift L hE b n cap i vb m vcap ds vs w hin2 hm hroom (by omega) hne dl vl dc (fun j hj => spare _ (by omega)) vc d1 v1 e2 (ρ.t 9) us.size cs.size (by simp [World.shape?, hv]) (by simp [World.shape?, hb]) (by omega) (by simp [World.frozen?, hv]) (by simp [World.frozen?, hv])) ?_
      rintro en w' ⟨rfl, rfl⟩
      have hb2 : w.drew.heap[b]? = some (.cells cs (ρ.t 9) (0, 0)) := hb
      obtain ⟨f1, f2, f3, f4, f5⟩ := setCells_fr (b := b) (ds.drop (i * K)) ((i + m) * K) w.drew
      obtain ⟨cs1, p1, p2, p3, p4⟩ := setCells_at (ds.drop (i * K)) ((i + m) * K) w.drew cs hb2
      obtain ⟨g1, g2, g3, g4, g5⟩ := setCells_fr (b := b) vs (i * K) (w.drew.setCells b ((i + m) * K) (ds.drop (i * K)))
      obtain ⟨cs2, q1, q2, q3, q4⟩ := setCells_at vs (i * K) _ cs1 p1
      have dl2 : (ds.drop (i * K)).length = (n - i) * K := by rw [List.length_drop, dl]; omega
      refine ⟨b, cap, rfl, .inl rfl, ⟨g1.trans f1, g2.trans f2, g3.trans f3, by rw [g4, f4]; exact Nat.le_refl _, fun x hx hn => ?_⟩, hroom, hc63, cs2, q1, by rw [q2, p2, hcs], fun k hk => ?_, fun k hk => ?_, fun k hk => ?_⟩
      · have hxb : x ≠ b := fun q => hn (.inl q)
        rw [g5 x hxb, f5 x hxb]
        rfl
      · rw [q3 k (.inl hk), p3 k (.inl (by omega))]
      · rw [q4 k (by omega) (by omega), vg k hk]
      · rw [q3 _ (.inr (by omega)), p4 k (by omega) (by omega), List.getElem?_drop, dg _ (by omega)]
  · have hcg : cap < n + m := by omega
    have hGn : n + m ≤ grownCap w (n + m) cap (ρ.t 9) := grownCap_ge w _ _ _
    have hG63 := grownCap_le_maxLen w (n + m) cap (ρ.t 9) (by omega)
    by_cases hend : i = n
    · subst hend
      obtain ⟨z, hz, hC⟩ := ins_end_grow L hE b i cap vb m vcap ds vs w hm hn hcg hbig dl (fun j v h => by rw [add0]; exact dc j v h) vl vc v1
      refine Calls.mono hC ?_
      rintro en w' ⟨rfl, rfl⟩
      have hKg : (i + m) * K + (grownCap w (i + m) cap (ρ.t 9) - (i + m)) * K = grownCap w (i + m) cap (ρ.t 9) * K := by rw [← Nat.add_mul]; congr 1; omega
      have hsz : ((ds ++ vs).toArray ++ Builtin.zeroCells z.cells (grownCap w (i + m) cap (ρ.t 9) - (i + m))).size = grownCap w (i + m) cap (ρ.t 9) * K := by
        simp only [Array.size_append, List.size_toArray, List.length_append, Builtin.zeroCells, Array.size_map, Array.size_range, hz]
        omega
      refine ⟨w.heap.size, _, rfl, .inr rfl, ⟨rfl, rfl, rfl, by simp [allocH, drewH], fun x hx hn => ?_⟩, hGn, hG63, _, gro _, hsz, fun k hk => ?_, fun k hk => ?_, fun k hk => ?_⟩
      · simp [allocH, drewH, Array.getElem?_push, Nat.ne_of_lt hx]
      · rw [Array.getElem?_append_left (by simp; omega), List.getElem?_toArray, List.getElem?_append_left (by omega), dg k hk]
      · rw [Array.getElem?_append_left (by simp; omega), List.getElem?_toArray, List.getElem?_append_right (by omega), show i * K + k - ds.length = k by omega, vg k hk]
      · rw [Nat.sub_self, Nat.zero_mul] at hk; omega
    · have hin2 : i < n := by omega
      obtain ⟨z, hz, hC⟩ := ins_grow L hE b n cap i vb m vcap ds vs w hin2 hm hn hcg hbig hbw hvw dl vl dc vc d1 v1
      refine Calls.mono hC ?_
      rintro en w' ⟨rfl, rfl⟩
      generalize grownCap w (n + m) cap (ρ.t 9) = G at hGn hG63 ⊢
      have hKg : (n + m) * K + (G - (n + m)) * K = G * K := by rw [← Nat.add_mul]; congr 1; omega
      obtain ⟨ROW, hROW⟩ : ∃ ROW : Array Value, ROW = (ds.take (i * K)).toArray ++ Builtin.zeroCells z.cells (n + m - i) ++ Builtin.zeroCells z.cells (G - (n + m)) := ⟨_, rfl⟩
      have hsz : ROW.size = G * K := by
        rw [hROW]
        simp only [Array.size_append, List.size_toArray, List.length_take, Builtin.zeroCells, Array.size_map, Array.size_range, hz]
        omega
      rw [← hROW]
      obtain ⟨W1, hW1⟩ : ∃ W1, W1 = (w.alloc (.cells ROW (ρ.t 9))).drew := ⟨_, rfl⟩
      have hW1b : W1.heap[w.heap.size]? = some (.cells ROW (ρ.t 9) (0, 0)) := by rw [hW1]; simp [allocH, drewH]
      have hW1o : ∀ x, x < w.heap.size → W1.heap[x]? = w.heap[x]? := fun x hx => by rw [hW1]; simp [allocH, drewH, Array.getElem?_push, Nat.ne_of_lt hx]
      have hW1s : W1.heap.size = w.heap.size + 1 := by rw [hW1]; simp [allocH, drewH]
      have hW1t : W1.os = w.os ∧ W1.tape = w.tape ∧ W1.output = w.output := by rw [hW1]; exact ⟨rfl, rfl, rfl⟩
      rw [← hW1]
      obtain ⟨f1, f2, f3, f4, f5⟩ := setCells_fr (b := w.heap.size) vs (i * K) W1
      obtain ⟨cs1, p1, p2, p3, p4⟩ := setCells_at vs (i * K) W1 ROW hW1b
      have p1' : (W1.setCells w.heap.size (i * K) vs).drew.heap[w.heap.size]? = some (.cells cs1 (ρ.t 9) (0, 0)) := p1
      obtain ⟨g1, g2, g3, g4, g5⟩ := setCells_fr (b := w.heap.size) (ds.drop (i * K)) ((i + m) * K) (W1.setCells w.heap.size (i * K) vs).drew
      obtain ⟨cs2, q1, q2, q3, q4⟩ := setCells_at (ds.drop (i * K)) ((i + m) * K) _ cs1 p1'
      have dl2 : (ds.drop (i * K)).length = (n - i) * K := by rw [List.length_drop, dl]; omega
      refine ⟨w.heap.size, G, rfl, .inr rfl, ⟨(g1.trans f1).trans hW1t.1, (g2.trans f2).trans hW1t.2.1, (g3.trans f3).trans hW1t.2.2, ?_, fun x hx hn => ?_⟩, hGn, hG63, cs2, q1, by rw [q2, p2, hsz], fun k hk => ?_, fun k hk => ?_, fun k hk => ?_⟩
      · rw [g4]
        show _ ≤ (W1.setCells w.heap.size (i * K) vs).heap.size
        rw [f4, hW1s]
        omega
      · rw [g5 x (Nat.ne_of_lt hx)]
        show (W1.setCells w.heap.size (i * K) vs).heap[x]? = _
        rw [f5 x (Nat.ne_of_lt hx), hW1o x hx]
      · rw [q3 k (.inl (by omega)), p3 k (.inl hk), hROW, Array.append_assoc, Array.getElem?_append_left (by simp; omega), List.getElem?_toArray, List.getElem?_take, if_pos hk, dg k (by omega)]
      · rw [q3 _ (.inl (by omega)), p4 k (by omega) (by omega), vg k hk]
      · rw [q4 k (by omega) (by omega), List.getElem?_drop, dg _ (by omega)]
end
end Go.Proofs.Ytejffoibihbnnaa.Ev
