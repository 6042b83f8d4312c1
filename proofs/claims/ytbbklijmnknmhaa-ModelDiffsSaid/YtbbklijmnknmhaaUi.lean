/-
  slices.Insert at pairs: the roads of its text, by the walk.
  slices.Insert at pairs, as what it makes of an array of the code's own.
  slices.Delete at pairs, as what it makes of an array of the code's own.
  The order of strings as a number, and lists without a fault: plain Lean.
  Tables: the place of a key, by the code.
-/
import Derived.Test.YtbbklijmnknmhaaLd
import Derived.Shelf.Spec.SlicesInsertGrow
import Derived.Test.YtbbklijmnknmhaaE5
import Derived.Shelf.SlicesE.Delete
import Derived.Test.YtbbklijmnknmhaaUh
set_option linter.unusedVariables false
set_option linter.unusedSimpArgs false
namespace Go.Proofs.Ytbbklijmnknmhaa
open Go.Shelf Go.RowKit Go.Lib Go.Proofs

section
variable {P : Program}
/-- A copy of elements of k cells. -/
theorem run_copy_k (w : World) (dT sT ty elem : TypeId) (k : Nat) (b o dLen dCap : Nat) (a : Addr) (sLen sCap q : Nat) (cs : List Value)
    (hu : P.underlying dT = some (.slice elem)) (hs : (P.info? elem).map (·.size) = some k) (hq : Nat.min sLen dLen = q) (hn : cs.length = q * k)
    (hsrc : ∀ j v, cs[j]? = some v → w.cell? (a.add j) = some v) (hc : ∀ j, j < cs.length → (w.cell? ⟨b, o + j, none⟩).isSome = true) (hf : ∀ j, j < cs.length → w.frozen? ⟨b, o + j, none⟩ = false) (h1 : ∀ v ∈ cs, v.oneCell' = true) :
    (Builtin.copy_ #[dT, sT] ty #[.slice (some ⟨b, o, none⟩) dLen dCap, .slice (some a) sLen sCap]).run P w = .ok (goInt q) (w.setCells b o cs) := by
  have hl := run_loadCells_list (P := P) w a cs hsrc
  have hst := run_storeCells_cells (P := P) b o cs 0 w (by simpa using hc) (by simpa using hf) h1
  cases hi : P.info? elem with
  | none => simp [hi] at hs
  | some i =>
    have hi2 : i.size = k := by simpa [hi] using hs
    simp [Builtin.copy_, run_underlying hu, Builtin.lenOf, Builtin.firstCells, sizeOf, typeInfo, hi, hi2, hq, ← hn, hl, hst]
end
theorem prInfo : ∃ ie z, Try.prog.info? 50 = some ie ∧ ie.size = 2 ∧ ie.bytes = 32 ∧ ie.zero = some z ∧ z.cells.size = 2 := by
  obtain ⟨ie, z, h1, h2, h3, h4, h5⟩ := (Av.tb_und tbOk (T := 50) (ti := _) rfl).info
  refine ⟨ie, z, h1, h2, h3, h4, ?_⟩
  have := Av.zero_size tbOk (e := 50) (te := _) rfl (t := pairT) rfl h1 h4
  exact this
theorem prSize : (Try.prog.info? 50).map (·.size) = some 2 := by
  obtain ⟨ie, z, h1, h2, _⟩ := prInfo
  rw [h1]
  simp [h2]

set_option maxHeartbeats 4000000 in
set_option maxRecDepth 100000 in
/-- There is room, and elements stand behind the place. -/
theorem ins_shift (b off n c i vb voff m vc : Nat) (cs vs : List Value) (w : World) (hi : i < n) (hm : 0 < m) (hroom : n + m ≤ c) (hc63 : c ≤ 9223372036854775807) (hvb : vb ≠ b)
    (hcl : cs.length = n * 2) (hvl : vs.length = m * 2)
    (hcs : ∀ j v, cs[j]? = some v → w.cell? ⟨b, off + j, none⟩ = some v) (hsp : ∀ j, j < (n + m) * 2 → (w.cell? ⟨b, off + j, none⟩).isSome = true) (hfz : ∀ j, j < (n + m) * 2 → w.frozen? ⟨b, off + j, none⟩ = false)
    (hvs : ∀ j v, vs[j]? = some v → w.cell? ⟨vb, voff + j, none⟩ = some v) (h1c : ∀ v ∈ cs, v.oneCell' = true) (h1v : ∀ v ∈ vs, v.oneCell' = true)
    (tA tB : TypeId) (kA kB : Nat) (hsa : w.shape? vb = some (tA, kA)) (hsb : w.shape? b = some (tB, kB)) (hkB : kB ≠ 0) (hfa : w.frozen? ⟨vb, voff, none⟩ = false) (hfe : w.frozen? ⟨vb, kA, none⟩ = false) :
    Calls Try.prog 54 #[.slice (some ⟨b, off, none⟩) n c, .int .i64 i, .slice (some ⟨vb, voff, none⟩) m vc] w fun e w' =>
      e = .returned (.slice (some ⟨b, off, none⟩) (n + m) c) ∧ w' = (w.drew.setCells b (off + (i + m) * 2) (cs.drop (i * 2))).setCells b (off + i * 2) vs := by
  have hz1 : ¬ ((m : Int) = 0) := by omega
  have hz2 : ¬ ((i : Int) = (n : Int)) := by omega
  have hsz := prSize
  have hov : ∀ lb cb, (callFunc 88 #[.slice (some ⟨vb, voff, none⟩) m vc, .slice (some ⟨b, off + (i + m) * 2, none⟩) lb cb]).run Try.prog w = .ok (.value (.bool false)) w := fun lb cb => by
    rw [run_callFunc_extern Try.func88 (by kernel_rfl) (by kernel_rfl) (by kernel_rfl) (e := Extern.SlicesOverlaps.overlaps #[22, 22] #[4]) (by kernel_rfl),
      Lib.run_overlaps_apart w 22 4 50 Try.underlying22 2 Try.sizeOf50 ⟨vb, voff, none⟩ ⟨b, off + (i + m) * 2, none⟩ m vc lb cb hvb tA tB kA kB hsa hsb hkB hfa hfe]
    rfl
  have hdl : (cs.drop (i * 2)).length = (n - i) * 2 := by rw [List.length_drop, hcl]; omega
  have hw1 : IntKind.i64.wrap ((i : Int) + (m : Int)) = (i : Int) + (m : Int) := by rw [IntKind.wrap_i64]; omega
  have hb1 : (0 : Int) ≤ (i : Int) + (m : Int) := by omega
  have hin : i ≤ n := by omega
  have htn : ((i : Int) + (m : Int)).toNat = i + m := by omega
  have hb2 : ¬ (c = i + m) := by omega
  have hb3 : (i : Int) ≤ (n : Int) + (m : Int) := by omega
  have hb4 : ¬ (c = i) := by omega
  have hcp1 : ∀ ty dc sc, (Builtin.copy_ #[22, 22] ty #[.slice (some ⟨b, off + (i + m) * 2, none⟩) (n + m - (i + m)) dc, .slice (some ⟨b, off + i * 2, none⟩) (n + m - i) sc]).run Try.prog w.drew = .ok (goInt ((n - i : Nat) : Int)) (w.drew.setCells b (off + (i + m) * 2) (cs.drop (i * 2))) := fun ty dc sc =>
    run_copy_k w.drew _ _ ty 50 2 b (off + (i + m) * 2) (n + m - (i + m)) dc ⟨b, off + i * 2, none⟩ (n + m - i) sc (n - i) (cs.drop (i * 2)) Try.underlying22 hsz (by simp only [Nat.min_def]; split <;> omega) hdl
      (fun j v hj => by rw [Addr.add_lit, Nat.add_assoc]; exact hcs (i * 2 + j) v (by rwa [List.getElem?_drop] at hj))
      (fun j hj => by rw [Nat.add_assoc]; exact hsp _ (by omega)) (fun j hj => by rw [Nat.add_assoc]; exact hfz _ (by omega)) (fun v hv => h1c v (List.mem_of_mem_drop hv))
  obtain ⟨W1, hW1⟩ : ∃ W1, W1 = w.drew.setCells b (off + (i + m) * 2) (cs.drop (i * 2)) := ⟨_, rfl⟩
  have hsp1 : ∀ k, k < (n + m) * 2 → (W1.cell? ⟨b, off + k, none⟩).isSome = true := fun k hk => by
    rw [hW1]
    exact isSome_setCells b _ _ _ (fun j hj => by rw [Nat.add_assoc]; exact hsp _ (by omega)) _ (hsp k hk)
  have hcp2 : ∀ (W : World), (∀ x, W.cell? x = W1.cell? x) → (∀ x, W.frozen? x = W1.frozen? x) → ∀ ty dc, (Builtin.copy_ #[22, 22] ty #[.slice (some ⟨b, off + i * 2, none⟩) (n + m - i) dc, .slice (some ⟨vb, voff, none⟩) m vc]).run Try.prog W = .ok (goInt m) (W.setCells b (off + i * 2) vs) := fun W hWc hWf ty dc =>
    run_copy_k W _ _ ty 50 2 b (off + i * 2) (n + m - i) dc ⟨vb, voff, none⟩ m vc m vs Try.underlying22 hsz (by simp only [Nat.min_def]; split <;> omega) hvl
      (fun j v hj => by
        rw [Addr.add_lit, hWc, hW1, World.cell?_setCells_out b _ _ _ _ (fun h _ => absurd h hvb)]
        exact hvs j v hj)
      (fun j hj => by rw [hWc, Nat.add_assoc]; exact hsp1 _ (by omega)) (fun j hj => by rw [hWf, hW1, World.frozen?_setCells, Nat.add_assoc]; exact hfz _ (by omega)) h1v
  rw [← hW1] at hcp1
  have mixed := mixed
  go_enter Try.func54, Try.ntmps54
  go_wp2_with (simp only [hov])
  go_region_law_o (refine step_copy_runI rfl _ _ 22 22 rfl _ _ (by simp [Act.eval, Act.put]) (by simp [Act.eval, Act.put]) (hcp1 _ _ _) ?_)
  go_wp2_with (at_builtin; refine wpList_copy_runI _ rfl _ _ 22 22 rfl _ _ rfl rfl (hcp2 _ (fun _ => rfl) (fun _ => rfl) _ _) ?_)
  go_ret
  first | exact ⟨rfl, rfl⟩ | exact ⟨rfl, by rw [hW1]⟩

set_option maxHeartbeats 4000000 in
set_option maxRecDepth 100000 in
/-- At the end. -/
theorem ins_end (base : Option Addr) (n c vb voff m vc : Nat) (w w1 : World) (v1 : Value) (hm : 0 < m) (hnc : n ≤ c) (hc63 : c ≤ 9223372036854775807) (hnil : base = none → n = 0 ∧ c = 0)
    (hrun : ∀ ty, (Builtin.append_ #[22, 22] ty #[.slice base n c, .slice (some ⟨vb, voff, none⟩) m vc]).run Try.prog w = .ok v1 w1) :
    Calls Try.prog 54 #[.slice base n c, .int .i64 n, .slice (some ⟨vb, voff, none⟩) m vc] w fun e w' => e = .returned v1 ∧ w' = w1 := by
  have hz1 : ¬ ((m : Int) = 0) := by omega
  have mixed := mixed
  go_enter Try.func54, Try.ntmps54
  cases base with
  | none =>
    obtain ⟨rfl, rfl⟩ := hnil rfl
    go_wp2_with (at_builtin; refine Lib.wpList_append_run _ rfl _ _ _ _ rfl _ _ rfl rfl _ _ (hrun _) ?_)
    go_ret
    exact ⟨rfl, rfl⟩
  | some a =>
    obtain ⟨ab, ao, asp⟩ := a
    go_wp2_with (at_builtin; refine Lib.wpList_append_run _ rfl _ _ _ _ rfl _ _ rfl rfl _ _ (hrun _) ?_)
    all_goals (go_ret; exact ⟨rfl, rfl⟩)

set_option maxHeartbeats 4000000 in
set_option maxRecDepth 100000 in
/-- No room, and elements stand behind the place: a new row. -/
theorem ins_grow (ie : TypeInfo) (z : Value) (hie : Try.prog.info? 50 = some ie) (hzs : ie.size = 2) (hzb : ie.bytes = 32) (hz0 : ie.zero = some z) (hzc : z.cells.size = 2)
    (b off n c i vb voff m vc : Nat) (cs vs : List Value) (w : World) (hi : i < n) (hm : 0 < m) (hnc : n ≤ c) (hroom : c < n + m) (hbig : (n + m) * 32 ≤ 140737488355328)
    (hcl : cs.length = n * 2) (hvl : vs.length = m * 2)
    (hcs : ∀ j v, cs[j]? = some v → w.cell? ⟨b, off + j, none⟩ = some v)
    (hvs : ∀ j v, vs[j]? = some v → w.cell? ⟨vb, voff + j, none⟩ = some v) (h1c : ∀ v ∈ cs, v.oneCell' = true) (h1v : ∀ v ∈ vs, v.oneCell' = true) :
    Calls Try.prog 54 #[.slice (some ⟨b, off, none⟩) n c, .int .i64 i, .slice (some ⟨vb, voff, none⟩) m vc] w fun e w' =>
      e = .returned (.slice (some ⟨w.heap.size, 0, none⟩) (n + m) (grownCap w (n + m) c 50)) ∧
      w' = (((w.alloc (.cells ((cs.take (i * 2)).toArray ++ Builtin.zeroCells z.cells (n + m - i) ++ Builtin.zeroCells z.cells (grownCap w (n + m) c 50 - (n + m))) 50)).drew.setCells w.heap.size (i * 2) vs).drew).setCells w.heap.size ((i + m) * 2) (cs.drop (i * 2)) := by
  have hz1 : ¬ ((m : Int) = 0) := by omega
  have hz2 : ¬ ((i : Int) = (n : Int)) := by omega
  have hz3 : (c : Int) < (n : Int) + (m : Int) := by omega
  have hsz := prSize
  have hbw : b < w.heap.size := block_lt_of_cell (hcs 0 _ (List.getElem?_eq_getElem (by omega)))
  have hvw : vb < w.heap.size := block_lt_of_cell (hvs 0 _ (List.getElem?_eq_getElem (by omega)))
  have hkk : (n : Int) + (m : Int) - (i : Int) = ((n + m - i : Nat) : Int) := by omega
  have hik : i + (n + m - i) = n + m := by omega
  have hold : (Builtin.firstCells ie.size i (.slice (some ⟨b, off, none⟩) i c)).run Try.prog w.drew = .ok (cs.take (i * 2)).toArray w.drew := by
    rw [hzs]
    exact run_firstCells_some w.drew 2 i ⟨b, off, none⟩ i c (cs.take (i * 2)) (by rw [List.length_take]; omega) (fun j v hj => by
      rw [Addr.add_lit]
      rw [List.getElem?_take] at hj
      split at hj
      · exact hcs j v hj
      · cases hj)
  have hrz : ∀ ty, (Builtin.append_ #[22, 3] ty #[.slice (some ⟨b, off, none⟩) i c, .int .i64 ((n : Int) + (m : Int) - (i : Int))]).run Try.prog w =
      .ok (.slice (some ⟨w.heap.size, 0, none⟩) (n + m) (grownCap w (n + m) c 50)) (w.drew.alloc (.cells ((cs.take (i * 2)).toArray ++ Builtin.zeroCells z.cells (n + m - i) ++ Builtin.zeroCells z.cells (grownCap w (n + m) c 50 - (n + m))) 50)) := fun ty => by
    have h := Lib.run_append_grow_zeros w 22 3 ty 50 ie z .i64 .i64 Try.underlying22 Try.underlying3 hie hz0 (some ⟨b, off, none⟩) i c (cs.take (i * 2)) hold (n + m - i) (by omega) (by omega) (by omega) (by omega) (by rw [hzb]; omega) (by rw [hzb, hik]; exact growslice_fits hroom hbig)
    rw [hik] at h
    rw [hkk]
    exact h
  obtain ⟨G, hG⟩ : ∃ G, G = grownCap w (n + m) c 50 := ⟨_, rfl⟩
  obtain ⟨ROW, hROW⟩ : ∃ ROW : Array Value, ROW = (cs.take (i * 2)).toArray ++ Builtin.zeroCells z.cells (n + m - i) ++ Builtin.zeroCells z.cells (G - (n + m)) := ⟨_, rfl⟩
  rw [← hG] at hrz ⊢
  rw [← hROW] at hrz ⊢
  have hRl : (n + m) * 2 ≤ ROW.size := by
    rw [hROW]
    simp [Builtin.zeroCells, hzc]
    omega
  obtain ⟨W1, hW1⟩ : ∃ W1, W1 = w.drew.alloc (.cells ROW 50) := ⟨_, rfl⟩
  rw [← hW1] at hrz
  have hN : ∀ j, j < (n + m) * 2 → (W1.cell? ⟨w.heap.size, j, none⟩).isSome = true := fun j hj => by
    rw [hW1, World.cell?_alloc_at (w := w.drew) ROW _ w.heap.size j rfl, Array.getElem?_eq_getElem (by omega)]; rfl
  have hNf : ∀ j, W1.frozen? ⟨w.heap.size, j, none⟩ = false := fun j => by rw [hW1]; exact World.frozen?_alloc_at (w := w.drew) ROW _ w.heap.size j rfl
  have hOb : ∀ j v, w.cell? ⟨b, j, none⟩ = some v → W1.cell? ⟨b, j, none⟩ = some v := fun j v h => by rw [hW1, World.cell?_alloc_past (w := w.drew) _ b j hbw]; exact h
  have hOv : ∀ j v, w.cell? ⟨vb, j, none⟩ = some v → W1.cell? ⟨vb, j, none⟩ = some v := fun j v h => by rw [hW1, World.cell?_alloc_past (w := w.drew) _ vb j hvw]; exact h
  have hcpA : ∀ (W : World), (∀ x, W.cell? x = W1.cell? x) → (∀ x, W.frozen? x = W1.frozen? x) → ∀ ty dc, (Builtin.copy_ #[22, 22] ty #[.slice (some ⟨w.heap.size, i * 2, none⟩) (n + m - i) dc, .slice (some ⟨vb, voff, none⟩) m vc]).run Try.prog W = .ok (goInt m) (W.setCells w.heap.size (i * 2) vs) := fun W hWc hWf ty dc =>
    run_copy_k W _ _ ty 50 2 w.heap.size (i * 2) (n + m - i) dc ⟨vb, voff, none⟩ m vc m vs Try.underlying22 hsz (by simp only [Nat.min_def]; split <;> omega) hvl
      (fun j v hj => by rw [Addr.add_lit, hWc]; exact hOv _ v (hvs j v hj))
      (fun j hj => by rw [hWc]; exact hN _ (by omega)) (fun j hj => by rw [hWf]; exact hNf _) h1v
  have hGn : n + m ≤ G := by rw [hG]; exact grownCap_ge w _ _ _
  have hG63 : G ≤ 9223372036854775807 := by
    have := grownCap_le_maxLen w (n + m) c 50 (by unfold maxLen; omega)
    rw [← hG] at this
    unfold maxLen at this
    omega
  have hGi : ¬ (G = i) := by omega
  have hGim : ¬ (G = i + m) := by omega
  have hci : ¬ (c = i) := by omega
  have hbN : b ≠ w.heap.size := by omega
  have hdl : (cs.drop (i * 2)).length = (n - i) * 2 := by rw [List.length_drop, hcl]; omega
  have hcpB : ∀ (W : World), (∀ x, W.cell? x = (W1.setCells w.heap.size (i * 2) vs).cell? x) → (∀ x, W.frozen? x = (W1.setCells w.heap.size (i * 2) vs).frozen? x) → ∀ ty dc sc, (Builtin.copy_ #[22, 22] ty #[.slice (some ⟨w.heap.size, (i + m) * 2, none⟩) (n + m - (i + m)) dc, .slice (some ⟨b, off + i * 2, none⟩) (n - i) sc]).run Try.prog W = .ok (goInt ((n - i : Nat) : Int)) (W.setCells w.heap.size ((i + m) * 2) (cs.drop (i * 2))) := fun W hWc hWf ty dc sc =>
    run_copy_k W _ _ ty 50 2 w.heap.size ((i + m) * 2) (n + m - (i + m)) dc ⟨b, off + i * 2, none⟩ (n - i) sc (n - i) (cs.drop (i * 2)) Try.underlying22 hsz (by simp only [Nat.min_def]; split <;> omega) hdl
      (fun j v hj => by
        rw [Addr.add_lit, hWc, World.cell?_setCells_out _ _ _ _ _ (fun h _ => absurd h hbN), Nat.add_assoc]
        exact hOb _ v (hcs (i * 2 + j) v (by rwa [List.getElem?_drop] at hj)))
      (fun j hj => by rw [hWc]; exact isSome_setCells _ _ _ _ (fun t ht => hN _ (by omega)) _ (hN _ (by omega)))
      (fun j hj => by rw [hWf, World.frozen?_setCells]; exact hNf _) (fun v hv => h1c v (List.mem_of_mem_drop hv))
  subst hW1
  have hE1 : ∀ x, ((w.alloc (.cells ROW 50)).drew).cell? x = (w.drew.alloc (.cells ROW 50)).cell? x := fun x => rfl
  have hE2 : ∀ x, ((w.alloc (.cells ROW 50)).drew).frozen? x = (w.drew.alloc (.cells ROW 50)).frozen? x := fun x => rfl
  have hF1 : ∀ x, (((w.alloc (.cells ROW 50)).drew.setCells w.heap.size (i * 2) vs).drew).cell? x = ((w.drew.alloc (.cells ROW 50)).setCells w.heap.size (i * 2) vs).cell? x := fun x => rfl
  have hF2 : ∀ x, (((w.alloc (.cells ROW 50)).drew.setCells w.heap.size (i * 2) vs).drew).frozen? x = ((w.drew.alloc (.cells ROW 50)).setCells w.heap.size (i * 2) vs).frozen? x := fun x => rfl
  have hw1 : IntKind.i64.wrap ((i : Int) + (m : Int)) = (i : Int) + (m : Int) := by rw [IntKind.wrap_i64]; omega
  have hb1 : (0 : Int) ≤ (i : Int) + (m : Int) := by omega
  have hin : i ≤ n := by omega
  have htn : ((i : Int) + (m : Int)).toNat = i + m := by omega
  have hb3 : (i : Int) ≤ (n : Int) := by omega
  have mixed := mixed
  clear hkk hik hold hROW hG hRl
  go_enter Try.func54, Try.ntmps54
  go_wp2_with (first
    | (at_builtin; refine Lib.wpList_append_run _ rfl _ _ _ _ rfl _ _ rfl rfl _ _ (hrz _) ?_)
    | (at_builtin; refine wpList_copy_runI _ rfl _ _ 22 22 rfl _ _ rfl rfl (hcpA _ hE1 hE2 _ _) ?_)
    | (at_builtin; refine wpList_copy_runI _ rfl _ _ 22 22 rfl _ _ rfl rfl (hcpB _ (fun _ => rfl) (fun _ => rfl) _ _ _) ?_))
  go_region_law_o (refine step_copy_runI rfl _ _ 22 22 rfl (.slice (some ⟨w.heap.size, (i + m) * 2, none⟩) (n + m - (i + m)) (G - (i + m))) (.slice (some ⟨b, off + i * 2, none⟩) (n - i) (c - i)) (by simp [Act.eval, Act.put]) (by simp [Act.eval, Act.put]) (hcpB _ hF1 hF2 3 (G - (i + m)) (c - i)) ?_)
  go_wp2
  go_ret
  exact ⟨rfl, rfl⟩
end Go.Proofs.Ytbbklijmnknmhaa
namespace Go.Proofs.Ytbbklijmnknmhaa
open Av Go.Proofs Go.Lib

/-- Pairs are inserted into an array of the code's own. -/
def insA (xs : List AV) (h : Hp) (K : AV → Hp → Prop) : Prop := match xs with
  | [.own id g n, .int .i64 i, .own id2 g2 m] => match h[id]?, h[id2]? with
    | some (.arr T (.st [.str, .str]) l _ g'), some (.arr _ (.st [.str, .str]) l2 _ g2') => match Nat.beq T 50 with
      | true => need (g' = g ∧ g2' = g2 ∧ n ≤ l.length ∧ 0 ≤ i ∧ i.toNat ≤ n ∧ m ≤ l2.length ∧ 0 < m ∧ n + m ≤ 1000000000 ∧ id ≠ id2)
          (putK h id (.arr T pairT (l.take i.toNat ++ (l2.take m ++ (l.take n).drop i.toNat)) false (g + 1)) fun h => K (.own id (g + 1) (n + m)) h)
      | false => False
    | _, _ => False
  | _ => False
theorem setCells_row {P : Program} {w : World} {b : Nat} {cur : Array Value} {T : TypeId} (hg : w.heap[b]? = some (.cells cur T (0, 0))) {o : Nat} {vs : List Value} (hle : o + vs.length ≤ cur.size) (h1 : ∀ v ∈ vs, v.oneCell' = true) :
    w.setCells b o vs = w.setRow b (cur.toList.take o ++ vs ++ cur.toList.drop (o + vs.length)).toArray := by
  have hc : ∀ j, j < cur.size → (w.cell? ⟨b, j, none⟩).isSome = true := fun j hj => by
    simp [World.cell?, hg, Array.getElem?_eq_getElem hj]
  have hf : ∀ j, w.frozen? ⟨b, j, none⟩ = false := fun j => by simp [World.frozen?, hg]
  have e1 := run_storeCells_at P b o T vs 0 cur w hg (by simpa using hle) h1
  have e2 := run_storeCells_cells (P := P) b o vs 0 w (fun j hj => hc _ (by omega)) (fun j hj => hf _) h1
  rw [e1] at e2
  simp only [Nat.add_zero] at e2
  injection e2 with _ e3
  exact e3.symm
/-- An array of the code's own is another one, in its block or in a new one. -/
theorem own_turn {s : St} (hok : Ok s) {id : Nat} {T : TypeId} {t : Ty} {l l' : List t.El} {f : Bool} {g : Nat} (ho : s.h[id]? = some (.arr T t l f g)) {v' : Value} {w' : World} {ys : List Value}
    (hown : w'.ownsRow 0 T t.size v' l'.length ys) (hrl : RL s (rowsA t l') ys) (h1 : ∀ u ∈ ys, u.oneCell' = true) (hw : Gb s.w w' (blkOf (s.σ id))) (hb : ∀ b, blkOf v' = some b → blkOf (s.σ id) = some b ∨ s.w.heap.size ≤ b) :
    Step s (s.turn id (.arr T t l' false (g + 1)) v' w') ∧ Ok (s.turn id (.arr T t l' false (g + 1)) v' w') := by
  have hcmp : Cmp (.arr T t l f g) (s.σ id) (.arr T t l' false (g + 1)) v' := .arr _ _ _ _ _ _ _ _ _ _ (Nat.le_succ _) (fun e => by omega)
  have hst := St.turn_step ho hcmp hw hb
  refine ⟨hst, St.turn_ok hok ho hcmp hw hb ⟨ys, ?_, h1, fun i x hi => RT_mono hst t x _ _ (fun _ _ hv => hv) (RL_rows hrl h1 i x hi), fun hq => by cases hq⟩⟩
  simp only [St.turn, upd_same]
  exact hown
set_option maxHeartbeats 1000000 in
theorem ins_ok {xs : List AV} {h : Hp} {K : AV → Hp → Prop} (hen : Av.Enters Try.prog 54) (hk : insA xs h K) : Av.Enters Try.prog 54 ∧ ∀ s, s.h = h → Ok s → ∀ cs, RL s xs cs →
    Calls Try.prog 54 cs.toArray s.w fun e w' => ∃ s' v cr, e = .returned cr ∧ s'.w = w' ∧ Step s s' ∧ Ok s' ∧ R s' v cr ∧ K v s'.h := by
  refine ⟨hen, fun s hs hok cs hr => ?_⟩
  subst hs
  unfold insA at hk
  split at hk
  · rename_i id g n i id2 g2 m
    split at hk
    · rename_i T l f g' T2 l2 f2 g2' ho ho2
      split at hk
      · rename_i hT
        have hT := Nat.eq_of_beq_eq_true hT
        subst hT
        obtain ⟨⟨rfl, rfl, hnl, hi0, hin, hml, hm0, hbig, hne⟩, hk2⟩ := need_elim hk
        clear hk
        obtain ⟨i, rfl⟩ : ∃ q : Nat, i = q := ⟨i.toNat, by omega⟩
        simp only [Int.toNat_natCast] at hin hk2
        simp only [RL] at hr
        obtain ⟨v0, _, rfl, hv0, v1, _, rfl, hv1, v2, _, rfl, hv2, rfl⟩ := hr
        simp only [R] at hv0 hv1 hv2
        subst hv1
        obtain ⟨_, base, cap, rfl, hσ0⟩ := hv0
        obtain ⟨_, len, hσ⟩ := (hσ0 _ _ _ _ _ ho).2 rfl
        obtain ⟨_, base2, cap2, rfl, hσ20⟩ := hv2
        obtain ⟨_, len2, hσ2⟩ := (hσ20 _ _ _ _ _ ho2).2 rfl
        clear hσ0 hσ20
        have hlt := (List.getElem?_eq_some_iff.1 ho).1
        have hput : put s.h id (.arr 50 pairT (l.take i ++ (l2.take m ++ (l.take n).drop i)) false (g' + 1)) = s.h.set id (.arr 50 pairT (l.take i ++ (l2.take m ++ (l.take n).drop i)) false (g' + 1)) := by
          unfold put; rw [if_pos hlt]
        rw [putK_eq, hput] at hk2
        obtain ⟨ie, z, hie, hzs, hzb, hz0, hzc⟩ := prInfo
        -- the two rows
        obtain ⟨xs, hown, hone, hrow, _⟩ := hok.obj id _ ho
        obtain ⟨ys, hown2, hone2, hrow2, _⟩ := hok.obj id2 _ ho2
        have hRLx := rows_RL hown.1 hrow
        have hRLy := rows_RL hown2.1 hrow2
        have hxl : xs.length = l.length * 2 := hown.1
        have hyl : ys.length = l2.length * 2 := hown2.1
        rw [hσ] at hown
        rw [hσ2] at hown2
        have hts : Ty.size pairT = 2 := rfl
        obtain ⟨rfl, hlc, hRCx⟩ := own_RC hok ho hσ
        obtain ⟨rfl, hlc2, hRCy⟩ := own_RC hok ho2 hσ2
        have hl2ne : l2 ≠ [] := fun e => by rw [e] at hml; simp at hml; omega
        obtain ⟨vb, hvb, hRCv⟩ := hRCy hl2ne
        subst hvb
        rcases hown2.2 with ⟨he, _⟩ | ⟨vb', cap2', cur2, he, _, hg2, _, hcm2, hcs2, htake2⟩
        · cases he
        cases he
        have hcs2 : cur2.size = cap2 * 2 := hcs2
        have htake2 : cur2.toList.take (l2.length * 2) = ys := htake2
        obtain ⟨vs, hvsd⟩ : ∃ vs, vs = ys.take (m * 2) := ⟨_, rfl⟩
        have hvl : vs.length = m * 2 := by rw [hvsd, List.length_take]; omega
        have hRLv : RL s (rowsA pairT (l2.take m)) vs := by rw [hvsd, ← rowsA_take]; exact RL_take _ hRLy
        have h1v : ∀ u ∈ vs, u.oneCell' = true := fun u hu => hone2 u (by rw [hvsd] at hu; exact List.mem_of_mem_take hu)
        have hvs : ∀ j v, vs[j]? = some v → s.w.cell? ⟨vb, 0 + j, none⟩ = some v := fun j v hj => by
          rw [hvsd, List.getElem?_take] at hj
          split at hj
          · rw [← htake2, List.getElem?_take] at hj
            split at hj
            · rw [Nat.zero_add]; simp [World.cell?, hg2]; simpa using hj
            · cases hj
          · cases hj
        obtain ⟨cs, hcsd⟩ : ∃ cs, cs = xs.take (n * 2) := ⟨_, rfl⟩
        have hcl : cs.length = n * 2 := by rw [hcsd, List.length_take]; omega
        have hRLc : RL s (rowsA pairT (l.take n)) cs := by rw [hcsd, ← rowsA_take]; exact RL_take _ hRLx
        have h1c : ∀ u ∈ cs, u.oneCell' = true := fun u hu => hone u (by rw [hcsd] at hu; exact List.mem_of_mem_take hu)
        -- what the new row is
        have hl'len : (l.take i ++ (l2.take m ++ (l.take n).drop i)).length = n + m := by
          simp only [List.length_append, List.length_take, List.length_drop]; omega
        have hRLn : RL s (rowsA pairT (l.take i ++ (l2.take m ++ (l.take n).drop i))) (cs.take (i * 2) ++ (vs ++ cs.drop (i * 2))) := by
          rw [rowsA_append, rowsA_append]
          refine RL_append ?_ (RL_append hRLv ?_)
          · have e : l.take i = (l.take n).take i := by rw [List.take_take, Nat.min_eq_left hin]
            rw [e, ← rowsA_take pairT (l.take n) i]
            exact RL_take _ hRLc
          · rw [← rowsA_drop pairT (l.take n) i]
            exact RL_drop _ hRLc
        have h1n : ∀ u ∈ cs.take (i * 2) ++ (vs ++ cs.drop (i * 2)), u.oneCell' = true := by
          intro u hu
          rcases List.mem_append.1 hu with hu | hu
          · exact h1c u (List.mem_of_mem_take hu)
          · rcases List.mem_append.1 hu with hu | hu
            · exact h1v u hu
            · exact h1c u (List.mem_of_mem_drop hu)
        -- the end of all roads
        have fin : ∀ (v' : Value) (w' : World) (zs : List Value), RL s (rowsA pairT (l.take i ++ (l2.take m ++ (l.take n).drop i))) zs → (∀ u ∈ zs, u.oneCell' = true) → (∃ b cp, v' = .slice (some ⟨b, 0, none⟩) (n + m) cp) → w'.ownsRow 0 50 2 v' (n + m) zs → Gb s.w w' (blkOf (s.σ id)) → (∀ b, blkOf v' = some b → blkOf (s.σ id) = some b ∨ s.w.heap.size ≤ b) →
            ∃ s' v cr, Ending.returned v' = .returned cr ∧ s'.w = w' ∧ Step s s' ∧ Ok s' ∧ R s' v cr ∧ K v s'.h := by
          intro v' w' zs hzr hz1 hv' hrow' hgb hbb
          obtain ⟨hst, hok'⟩ := own_turn hok ho (l' := l.take i ++ (l2.take m ++ (l.take n).drop i)) (by rw [hl'len]; exact hrow') hzr hz1 hgb hbb
          refine ⟨_, .own id (g' + 1) (n + m), v', rfl, rfl, hst, hok', ?_, hk2⟩
          obtain ⟨b, cp, rfl⟩ := hv'
          simp only [R]
          refine ⟨by unfold kn; rw [turn_get ho], _, _, rfl, fun T' t' l3 f3 g3 hq => ?_⟩
          rw [turn_get ho] at hq
          cases hq
          exact ⟨Nat.le_refl _, fun _ => ⟨by rw [hl'len]; exact Nat.le_refl _, n + m, by simp only [St.turn, upd_same]⟩⟩
        by_cases hie' : i = n
        · -- at the end
          subst hie'
          have hb0 : base = none → i = 0 ∧ cap = 0 := by
            rintro rfl
            rcases hown.2 with ⟨he, hz⟩ | ⟨_, _, _, he, _⟩
            · injection he with _ h1 h2; exact ⟨by omega, h2⟩
            · cases he
          have hcm : cap ≤ 9223372036854775807 := by
            rcases hown.2 with ⟨he, hz⟩ | ⟨_, _, _, he, _, _, _, hcm, _⟩
            · injection he with _ h1 h2; omega
            · injection he with _ h1 h2; rw [h2]; exact hcm
          have hpre := own_prefix hown hnl hb0
          have hm2 : (l2.take m).length = m := by rw [List.length_take]; omega
          obtain ⟨v', w', news, hrun, hnews, h1news, hrow', hgb, hvb⟩ := append_run tbOk (T := 22) (e := 50) (ti := _) (te := _) rfl rfl rfl (t := pairT) rfl hpre (m := l2.take m) (cx := .slice (some ⟨vb, 0, none⟩) m cap2) ⟨some ⟨vb, 0, none⟩, cap2, by rw [hm2], fun _ => ⟨vb, 0, rfl, by rw [← rowsA_take]; simpa only [Nat.zero_add] using RC_take _ hRCv⟩⟩ (by rw [hm2]; exact ⟨by omega, by show (i + m) * 32 ≤ _; omega⟩) 0
          rw [hm2] at hrow'
          have hrunT : ∀ ty, (Builtin.append_ #[22, 22] ty #[.slice base i cap, .slice (some ⟨vb, 0, none⟩) m cap2]).run Try.prog s.w = .ok v' w' := fun ty => hrun
          refine Calls.mono (ins_end base i cap vb 0 m cap2 s.w w' v' hm0 (by omega) hcm hb0 hrunT) ?_
          rintro e w2 ⟨rfl, rfl⟩
          have hnil : (l.take i).drop i = [] := List.drop_eq_nil_of_le (by rw [List.length_take]; omega)
          have hblk : (Value.slice base i cap).ownBlock = blkOf (s.σ id) := by rw [hσ]; cases base <;> rfl
          refine fin v' w2 (cs ++ (news ++ [])) ?_ ?_ ?_ ?_ ?_ ?_
          · rw [hnil, rowsA_append, rowsA_append]
            exact RL_append hRLc (RL_append hnews (by simp [rowsA, RL]))
          · intro u hu
            rcases List.mem_append.1 hu with hu | hu
            · exact h1c u hu
            · rw [List.append_nil] at hu; exact h1news u hu
          · rcases hrow'.2 with ⟨_, hz⟩ | ⟨b, cp, cur, he, _⟩
            · omega
            · exact ⟨b, cp, he⟩
          · rw [List.append_nil, hcsd]; exact hrow'
          · rw [← hblk]; exact hgb
          · intro b hb
            rw [← hblk]
            rw [← ownBlock_blk hrow'] at hb
            rcases hvb with h | h
            · rw [h] at hb; exact .inl hb
            · rw [h] at hb; cases hb; exact .inr (Nat.le_refl _)
        · have hilt : i < n := by omega
          have hlne : l ≠ [] := fun e => by rw [e] at hnl; simp at hnl; omega
          obtain ⟨b, hb, _⟩ := hRCx hlne
          subst hb
          rcases hown.2 with ⟨he, _⟩ | ⟨b', cap', cur, he, _, hg, _, hcm, hcsz, htake⟩
          · cases he
          cases he
          have hcsz : cur.size = cap * 2 := hcsz
          have htake : cur.toList.take (l.length * 2) = xs := htake
          have hcm : cap ≤ 9223372036854775807 := hcm
          have hcsc : cs = cur.toList.take (n * 2) := by rw [hcsd, ← htake, List.take_take, Nat.min_eq_left (by omega)]
          have hcell : ∀ j v, cs[j]? = some v → s.w.cell? ⟨b, 0 + j, none⟩ = some v := fun j v hj => by
            rw [hcsc, List.getElem?_take] at hj
            split at hj
            · rw [Nat.zero_add]; simp [World.cell?, hg]; simpa using hj
            · cases hj
          have hbne : vb ≠ b := by
            rintro rfl
            exact hne (hok.inj id id2 _ _ vb ho ho2 rfl rfl (.inl (by rw [hσ]; rfl)) (.inl (by rw [hσ2]; rfl)))
          by_cases hroom : n + m ≤ cap
          · refine Calls.mono (ins_shift b 0 n cap i vb 0 m cap2 cs vs s.w hilt hm0 hroom hcm hbne hcl hvl hcell (fun j hj => by rw [Nat.zero_add]; simp [World.cell?, hg]; omega) (fun j _ => by simp [World.frozen?, hg]) hvs h1c h1v _ _ _ _ (by simp [World.shape?, hg2]; exact ⟨rfl, rfl⟩) (by simp [World.shape?, hg]; exact ⟨rfl, rfl⟩) (by omega) (by simp [World.frozen?, hg2]) (by simp [World.frozen?, hg2])) ?_
            rintro e w2 ⟨rfl, rfl⟩
            have hCl : (cs.drop (i * 2)).length = (n - i) * 2 := by rw [List.length_drop, hcl]; omega
            have h1C : ∀ u ∈ cs.drop (i * 2), u.oneCell' = true := fun u hu => h1c u (List.mem_of_mem_drop hu)
            rw [Nat.zero_add, Nat.zero_add]
            have hg0 : s.w.drew.heap[b]? = some (.cells cur 50 (0, 0)) := hg
            rw [setCells_row (P := Try.prog) hg0 (by rw [hCl]; omega) h1C]
            obtain ⟨cur1, hcur1⟩ : ∃ cur1 : Array Value, cur1 = (cur.toList.take ((i + m) * 2) ++ cs.drop (i * 2) ++ cur.toList.drop ((i + m) * 2 + (cs.drop (i * 2)).length)).toArray := ⟨_, rfl⟩
            have hcl0 : cur.toList.length = cap * 2 := by rw [Array.length_toList, hcsz]
            have hs1 : cur1.size = cap * 2 := by
              rw [hcur1]
              simp only [List.size_toArray, List.length_append, List.length_take, List.length_drop, hcl0, hCl]
              omega
            rw [← hcur1]
            have hg1 := setRow_heap s.w.drew b cur cur1 _ _ hg0
            rw [setCells_row (P := Try.prog) hg1 (by rw [hvl]; omega) h1v]
            obtain ⟨cur2', hcur2⟩ : ∃ c2 : Array Value, c2 = (cur1.toList.take (i * 2) ++ vs ++ cur1.toList.drop (i * 2 + vs.length)).toArray := ⟨_, rfl⟩
            have hcl1 : cur1.toList.length = cap * 2 := by rw [Array.length_toList, hs1]
            have hs2 : cur2'.size = cap * 2 := by
              rw [hcur2]
              simp only [List.size_toArray, List.length_append, List.length_take, List.length_drop, hcl1, hvl]
              omega
            rw [← hcur2]
            have hg2' := setRow_heap _ b cur1 cur2' _ _ hg1
            refine fin _ _ _ hRLn h1n ⟨_, _, rfl⟩ ⟨?_, .inr ⟨b, cap, cur2', rfl, Nat.zero_le _, hg2', hroom, hcm, hs2, ?_⟩⟩ ?_ (fun b' hb' => .inl (by rw [hσ]; exact hb'))
            · simp only [List.length_append, List.length_take, hCl, hvl, hcl]; omega
            · have e1 : cur1.toList.take (i * 2) = cs.take (i * 2) := by
                rw [hcur1]
                simp only [List.append_assoc]
                rw [List.take_append_of_le_length (by rw [List.length_take, hcl0]; omega), List.take_take, Nat.min_eq_left (by omega), hcsc, List.take_take, Nat.min_eq_left (by omega)]
              have e2 : cur1.toList.drop (i * 2 + vs.length) = cs.drop (i * 2) ++ cur.toList.drop ((i + m) * 2 + (cs.drop (i * 2)).length) := by
                rw [hcur1]
                simp only [List.append_assoc]
                rw [List.drop_append_of_le_length (by rw [List.length_take, hcl0, hvl]; omega), List.drop_eq_nil_of_le (by rw [List.length_take, hcl0, hvl]; omega), List.nil_append]
              rw [hcur2]
              show (cur1.toList.take (i * 2) ++ vs ++ cur1.toList.drop (i * 2 + vs.length)).take ((n + m) * 2) = _
              rw [e1, e2, ← List.append_assoc, List.take_append_of_le_length (by simp only [List.length_append, List.length_take, hCl, hvl, hcl]; omega), List.take_of_length_le (by simp only [List.length_append, List.length_take, hCl, hvl, hcl]; omega), List.append_assoc]
            · rw [hσ]
              refine ⟨rfl, rfl, rfl, Nat.le_succ _, by simp only [World.setRow, Array.size_modify]; exact Nat.le_refl _, fun k _ hk => ?_⟩
              have hkb : k ≠ b := fun e => hk (by rw [e]; rfl)
              rw [setRow_other _ b k _ hkb, setRow_other _ b k _ hkb]
              rfl
          · refine Calls.mono (ins_grow ie z hie hzs hzb hz0 hzc b 0 n cap i vb 0 m cap2 cs vs s.w hilt hm0 (by omega) (by omega) (by omega) hcl hvl hcell hvs h1c h1v) ?_
            rintro e w2 ⟨rfl, rfl⟩
            have hCl : (cs.drop (i * 2)).length = (n - i) * 2 := by rw [List.length_drop, hcl]; omega
            have h1C : ∀ u ∈ cs.drop (i * 2), u.oneCell' = true := fun u hu => h1c u (List.mem_of_mem_drop hu)
            have hGge := grownCap_ge s.w (n + m) cap 50
            have hGle := grownCap_le_maxLen s.w (n + m) cap 50 (by unfold maxLen; omega)
            generalize grownCap s.w (n + m) cap 50 = G at hGge hGle ⊢
            obtain ⟨ROW, hROW⟩ : ∃ ROW : Array Value, ROW = (cs.take (i * 2)).toArray ++ Builtin.zeroCells z.cells (n + m - i) ++ Builtin.zeroCells z.cells (G - (n + m)) := ⟨_, rfl⟩
            rw [← hROW]
            have hzl : ∀ q, (Builtin.zeroCells z.cells q).size = q * 2 := fun q => by simp [Builtin.zeroCells, hzc]
            have hRs : ROW.size = G * 2 := by
              rw [hROW]
              simp only [Array.size_append, List.size_toArray, List.length_take, hcl, hzl]
              omega
            have hRt : ROW.toList.take (i * 2) = cs.take (i * 2) := by
              rw [hROW]
              simp only [Array.toList_append, List.append_assoc]
              rw [List.take_append_of_le_length (by simp only [List.length_take, hcl]; omega)]
              exact List.take_of_length_le (by simp only [List.length_take, hcl]; omega)
            have hRl : ROW.toList.length = G * 2 := by rw [Array.length_toList, hRs]
            have hg0 : (s.w.alloc (.cells ROW 50)).drew.heap[s.w.heap.size]? = some (.cells ROW 50 (0, 0)) := World.alloc_heap_new s.w _
            rw [setCells_row (P := Try.prog) hg0 (by rw [hvl]; omega) h1v]
            obtain ⟨cur1, hcur1⟩ : ∃ cur1 : Array Value, cur1 = (ROW.toList.take (i * 2) ++ vs ++ ROW.toList.drop (i * 2 + vs.length)).toArray := ⟨_, rfl⟩
            have hs1 : cur1.size = G * 2 := by
              rw [hcur1]
              simp only [List.size_toArray, List.length_append, List.length_take, List.length_drop, hRl, hvl]
              omega
            rw [← hcur1]
            have hg1 := setRow_heap _ s.w.heap.size ROW cur1 _ _ hg0
            have hg1' : ((s.w.alloc (.cells ROW 50)).drew.setRow s.w.heap.size cur1).drew.heap[s.w.heap.size]? = some (.cells cur1 50 (0, 0)) := hg1
            rw [setCells_row (P := Try.prog) hg1' (by rw [hCl]; omega) h1C]
            obtain ⟨cur2', hcur2⟩ : ∃ c2 : Array Value, c2 = (cur1.toList.take ((i + m) * 2) ++ cs.drop (i * 2) ++ cur1.toList.drop ((i + m) * 2 + (cs.drop (i * 2)).length)).toArray := ⟨_, rfl⟩
            have hcl1 : cur1.toList.length = G * 2 := by rw [Array.length_toList, hs1]
            have hs2 : cur2'.size = G * 2 := by
              rw [hcur2]
              simp only [List.size_toArray, List.length_append, List.length_take, List.length_drop, hcl1, hCl]
              omega
            rw [← hcur2]
            have hg2' := setRow_heap _ s.w.heap.size cur1 cur2' _ _ hg1'
            refine fin _ _ _ hRLn h1n ⟨_, _, rfl⟩ ⟨?_, .inr ⟨s.w.heap.size, G, cur2', rfl, Nat.zero_le _, hg2', hGge, hGle, hs2, ?_⟩⟩ ?_ (fun b' hb' => .inr (by cases hb'; exact Nat.le_refl _))
            · simp only [List.length_append, List.length_take, hCl, hvl, hcl]; omega
            · have e1 : cur1.toList.take ((i + m) * 2) = cs.take (i * 2) ++ vs := by
                rw [hcur1]
                show (ROW.toList.take (i * 2) ++ vs ++ ROW.toList.drop (i * 2 + vs.length)).take ((i + m) * 2) = _
                rw [hRt, List.take_append_of_le_length (by simp only [List.length_append, List.length_take, hvl, hcl]; omega), List.take_of_length_le (by simp only [List.length_append, List.length_take, hvl, hcl]; omega)]
              rw [hcur2]
              show (cur1.toList.take ((i + m) * 2) ++ cs.drop (i * 2) ++ cur1.toList.drop ((i + m) * 2 + (cs.drop (i * 2)).length)).take ((n + m) * 2) = _
              rw [e1, List.take_append_of_le_length (by simp only [List.length_append, List.length_take, hCl, hvl, hcl]; omega), List.take_of_length_le (by simp only [List.length_append, List.length_take, hCl, hvl, hcl]; omega), List.append_assoc]
            · refine ⟨rfl, rfl, rfl, by show _ ≤ s.w.drawn + 1 + 1; omega, ?_, fun k hkl _ => ?_⟩
              · simp only [World.setRow, Array.size_modify]
                show _ ≤ ((s.w.alloc _).drew.setRow _ _).heap.size
                simp only [World.setRow, Array.size_modify]
                show _ ≤ (s.w.alloc _).heap.size
                rw [World.size_alloc]
                omega
              · have hkb : k ≠ s.w.heap.size := by omega
                rw [setRow_other _ s.w.heap.size k _ hkb]
                show ((s.w.alloc _).drew.setRow _ _).heap[k]? = _
                rw [setRow_other _ s.w.heap.size k _ hkb]
                show (s.w.alloc _).heap[k]? = _
                exact Go.heap_alloc_old s.w _ hkl
      · exact hk.elim
    · exact hk.elim
  · exact hk.elim
end Go.Proofs.Ytbbklijmnknmhaa
set_option linter.unusedVariables false
set_option linter.unusedSimpArgs false
namespace Go.Proofs.Ytbbklijmnknmhaa
open Go.Shelf Go.RowKit Go.Lib Go.Proofs

section
variable {P : Program}
/-- Elements of any number of cells are made zero. -/
theorem run_clear_k (w : World) (t e ty : TypeId) (z : Value) (ht : P.underlying t = some (.slice e)) (hv : ∀ w, (zeroValue e).run P w = .ok z w) (b o n c : Nat) (hn : 0 < n)
    (h1 : ∀ v ∈ (Builtin.zeroCells z.cells n).toList, v.oneCell' = true) (hc : ∀ j, j < (Builtin.zeroCells z.cells n).toList.length → (w.cell? ⟨b, o + j, none⟩).isSome = true) (hf : ∀ j, j < (Builtin.zeroCells z.cells n).toList.length → w.frozen? ⟨b, o + j, none⟩ = false) :
    (Builtin.clear_ #[t] ty #[.slice (some ⟨b, o, none⟩) n c]).run P w = .ok (.tuple #[]) (w.setCells b o (Builtin.zeroCells z.cells n).toList) := by
  have hst := run_storeCells_cells (P := P) b o (Builtin.zeroCells z.cells n).toList 0 w (by simpa using hc) (by simpa using hf) h1
  simp only [Nat.add_zero] at hst
  obtain ⟨m, rfl⟩ : ∃ m, n = m + 1 := ⟨n - 1, by omega⟩
  simp [Builtin.clear_, run_underlying ht, hv, hst]
end
abbrev zP : Value := .agg #[.string ⟨#[]⟩, .string ⟨#[]⟩]
theorem zP_len (q : Nat) : (Builtin.zeroCells zP.cells q).toList.length = q * 2 := by simp [Builtin.zeroCells, Value.cells]
theorem zP_one (q : Nat) : ∀ v ∈ (Builtin.zeroCells zP.cells q).toList, v.oneCell' = true := by
  intro v hv
  simp only [Builtin.zeroCells, Array.toList_map, List.mem_map] at hv
  obtain ⟨i, _, rfl⟩ := hv
  have : i % (Value.cells zP).size = 0 ∨ i % (Value.cells zP).size = 1 := by
    have : (Value.cells zP).size = 2 := rfl
    rw [this]
    omega
  rcases this with h | h <;> rw [h] <;> rfl
set_option maxHeartbeats 4000000 in
set_option maxRecDepth 1000000 in
theorem del_run (b off n c i j : Nat) (cs : List Value) (w : World) (hij : i < j) (hj : j ≤ n) (hnc : n ≤ c) (hm : c ≤ 9223372036854775807) (hcl : cs.length = n * 2)
    (hcs : ∀ t v, cs[t]? = some v → w.cell? ⟨b, off + t, none⟩ = some v) (hfz : ∀ t, w.frozen? ⟨b, off + t, none⟩ = false) (h1c : ∀ v ∈ cs, v.oneCell' = true) :
    Calls Try.prog 53 #[.slice (some ⟨b, off, none⟩) n c, .int .i64 i, .int .i64 j] w fun e w' =>
      e = .returned (.slice (some ⟨b, off, none⟩) (n - (j - i)) c) ∧ w' = (w.drew.setCells b (off + i * 2) (cs.drop (j * 2))).setCells b (off + (i + (n - j)) * 2) (Builtin.zeroCells zP.cells (n - (i + (n - j)))).toList := by
  have mixed := mixed
  obtain ⟨ie, z, hie, hzs, hzb, hz0, hzc⟩ := prInfo
  have hcell : ∀ t, t < n * 2 → (w.cell? ⟨b, off + t, none⟩).isSome = true := fun t ht => by
    rw [hcs t _ (List.getElem?_eq_getElem (by omega))]; rfl
  obtain ⟨news, hnews⟩ : ∃ news, news = cs.drop (j * 2) := ⟨_, rfl⟩
  have hlen : news.length = (n - j) * 2 := by rw [hnews, List.length_drop, hcl]; omega
  obtain ⟨A, hA, hsrc⟩ : ∃ A : Addr, (if c = j then some (⟨b, off, none⟩ : Addr) else some ⟨b, off + j * 2, none⟩) = some A ∧ Hid (∀ t u, news[t]? = some u → w.drew.cell? (A.add t) = some u) := by
    by_cases h : c = j
    · refine ⟨⟨b, off, none⟩, by simp [h], fun t u hu => ?_⟩
      have h0 : news.length = 0 := by rw [hlen]; omega
      rw [List.length_eq_zero_iff.1 h0] at hu
      simp at hu
    · refine ⟨⟨b, off + j * 2, none⟩, by simp [h], fun t u hu => ?_⟩
      rw [hnews, List.getElem?_drop] at hu
      rw [Addr.add_lit, Nat.add_assoc]
      exact hcs (j * 2 + t) u hu
  have s1 : Hid (news.length = (n - j) * 2) := hlen
  have s2 : Hid (∀ u ∈ news, u.oneCell' = true) := by
    intro u hu
    rw [hnews] at hu
    exact h1c u (List.mem_of_mem_drop hu)
  have s3 : Hid (∀ t, t < news.length → (w.drew.cell? ⟨b, off + i * 2 + t, none⟩).isSome = true ∧ w.drew.frozen? ⟨b, off + i * 2 + t, none⟩ = false) := by
    intro t ht
    rw [hlen] at ht
    rw [Nat.add_assoc]
    exact ⟨hcell _ (by omega), hfz _⟩
  obtain ⟨W1, hW1⟩ : ∃ W1, W1 = w.drew.setCells b (off + i * 2) news := ⟨_, rfl⟩
  have hcell1 : ∀ t, t < n * 2 → (W1.cell? ⟨b, off + t, none⟩).isSome = true := fun t ht => by
    rw [hW1]
    exact isSome_setCells b _ _ _ (fun q hq => by rw [Nat.add_assoc]; exact hcell _ (by omega)) _ (hcell t ht)
  have hfz1 : ∀ t, W1.frozen? ⟨b, off + t, none⟩ = false := fun t => by rw [hW1, World.frozen?_setCells]; exact hfz t
  have hcl2 : ∀ ty, (Builtin.clear_ #[22] ty #[.slice (some ⟨b, off + (i + (n - j)) * 2, none⟩) (n - (i + (n - j))) (c - (i + (n - j)))]).run Try.prog W1 = .ok (.tuple #[]) (W1.setCells b (off + (i + (n - j)) * 2) (Builtin.zeroCells zP.cells (n - (i + (n - j)))).toList) :=
    fun ty => run_clear_k W1 _ 50 ty _ Try.underlying22 Try.zeroValue50 b (off + (i + (n - j)) * 2) _ _ (by omega) (zP_one _)
      (fun t ht => by rw [zP_len] at ht; rw [Nat.add_assoc]; exact hcell1 _ (by omega)) (fun t ht => by rw [Nat.add_assoc]; exact hfz1 _)
  have X : Aside (W1 = w.drew.setCells b (off + i * 2) (cs.drop (j * 2))) := by rw [hW1, hnews]; exact rfl
  have hW : Hid (W1 = w.drew.setCells b (off + i * 2) news) := hW1
  have hic : i ≤ c := by omega
  have hjc : j ≤ c := by omega
  clear hW1 hnews hlen hcell1 hfz1 hcell
  go_enter Try.func53, Try.ntmps53
  go_wp2_with fail
  go_region_law_o (refine step_append_room rfl (.tmp 22) (.tmp 25) 22 rfl 50 ie 2 Try.underlying22 hie hzs b off i c (by simp [Act.eval, Act.put]) A (n - j) (c - j) news (by simp [Act.eval, Act.put]) s1.out hsrc.out s2.out (by omega) s3.out ?_; rw [← hW.out])
  go_wp2
  go_ret
  refine ⟨by rw [show n - (j - i) = i + (n - j) by omega]; rfl, ?_⟩
  rw [← X.out]
  rfl
end Go.Proofs.Ytbbklijmnknmhaa
namespace Go.Proofs.Ytbbklijmnknmhaa
open Av Go.Proofs Go.Lib
/-- Pairs are taken out of an array of the code's own. -/
def delA (xs : List AV) (h : Hp) (K : AV → Hp → Prop) : Prop := match xs with
  | [.own id g n, .int .i64 i, .int .i64 j] => match h[id]? with
    | some (.arr T (.st [.str, .str]) l _ g') => match Nat.beq T 50 with
      | true => need (g' = g ∧ n ≤ l.length ∧ 0 ≤ i ∧ i < j ∧ j.toNat ≤ n)
          (putK h id (.arr T pairT (l.take i.toNat ++ (l.take n).drop j.toNat) false (g + 1)) fun h => K (.own id (g + 1) (n - (j.toNat - i.toNat))) h)
      | false => False
    | _ => False
  | _ => False
set_option maxHeartbeats 1000000 in
theorem del_ok {xs : List AV} {h : Hp} {K : AV → Hp → Prop} (hen : Av.Enters Try.prog 53) (hk : delA xs h K) : Av.Enters Try.prog 53 ∧ ∀ s, s.h = h → Ok s → ∀ cs, RL s xs cs →
    Calls Try.prog 53 cs.toArray s.w fun e w' => ∃ s' v cr, e = .returned cr ∧ s'.w = w' ∧ Step s s' ∧ Ok s' ∧ R s' v cr ∧ K v s'.h := by
  refine ⟨hen, fun s hs hok cs hr => ?_⟩
  subst hs
  unfold delA at hk
  split at hk
  · rename_i id g n i j
    split at hk
    · rename_i T l f g' ho
      split at hk
      · rename_i hT
        have hT := Nat.eq_of_beq_eq_true hT
        subst hT
        obtain ⟨⟨rfl, hnl, hi0, hij, hjn⟩, hk2⟩ := need_elim hk
        clear hk
        obtain ⟨i, rfl⟩ : ∃ q : Nat, i = q := ⟨i.toNat, by omega⟩
        obtain ⟨j, rfl⟩ : ∃ q : Nat, j = q := ⟨j.toNat, by omega⟩
        simp only [Int.toNat_natCast] at hjn hk2
        have hij : i < j := by omega
        simp only [RL] at hr
        obtain ⟨v0, _, rfl, hv0, v1, _, rfl, hv1, v2, _, rfl, hv2, rfl⟩ := hr
        simp only [R] at hv0 hv1 hv2
        subst hv1 hv2
        obtain ⟨_, base, cap, rfl, hσ0⟩ := hv0
        obtain ⟨_, len, hσ⟩ := (hσ0 _ _ _ _ _ ho).2 rfl
        clear hσ0
        have hlt := (List.getElem?_eq_some_iff.1 ho).1
        have hput : put s.h id (.arr 50 pairT (l.take i ++ (l.take n).drop j) false (g' + 1)) = s.h.set id (.arr 50 pairT (l.take i ++ (l.take n).drop j) false (g' + 1)) := by
          unfold put; rw [if_pos hlt]
        rw [putK_eq, hput] at hk2
        obtain ⟨xs, hown, hone, hrow, _⟩ := hok.obj id _ ho
        have hRLx := rows_RL hown.1 hrow
        have hxl : xs.length = l.length * 2 := hown.1
        rw [hσ] at hown
        obtain ⟨rfl, hlc, hRCx⟩ := own_RC hok ho hσ
        have hlne : l ≠ [] := fun e => by rw [e] at hnl; simp at hnl; omega
        obtain ⟨b, hb, _⟩ := hRCx hlne
        subst hb
        rcases hown.2 with ⟨he, _⟩ | ⟨b', cap', cur, he, _, hg, _, hcm, hcsz, htake⟩
        · cases he
        cases he
        have hcsz : cur.size = cap * 2 := hcsz
        have htake : cur.toList.take (l.length * 2) = xs := htake
        have hcm : cap ≤ 9223372036854775807 := hcm
        obtain ⟨cs, hcsd⟩ : ∃ cs, cs = xs.take (n * 2) := ⟨_, rfl⟩
        have hcl : cs.length = n * 2 := by rw [hcsd, List.length_take]; omega
        have hRLc : RL s (rowsA pairT (l.take n)) cs := by
          have : RL s (rowsA pairT (l.take n)) (xs.take (n * 2)) := by rw [← rowsA_take]; exact RL_take _ hRLx
          rw [hcsd]; exact this
        have h1c : ∀ u ∈ cs, u.oneCell' = true := fun u hu => hone u (by rw [hcsd] at hu; exact List.mem_of_mem_take hu)
        have hcsc : cs = cur.toList.take (n * 2) := by rw [hcsd, ← htake, List.take_take, Nat.min_eq_left (by omega)]
        have hcell : ∀ q v, cs[q]? = some v → s.w.cell? ⟨b, 0 + q, none⟩ = some v := fun q v hq => by
          rw [hcsc, List.getElem?_take] at hq
          split at hq
          · rw [Nat.zero_add]; simp [World.cell?, hg]; simpa using hq
          · cases hq
        have hl'len : (l.take i ++ (l.take n).drop j).length = n - (j - i) := by
          simp only [List.length_append, List.length_take, List.length_drop]; omega
        have hRLn : RL s (rowsA pairT (l.take i ++ (l.take n).drop j)) (cs.take (i * 2) ++ cs.drop (j * 2)) := by
          rw [rowsA_append]
          refine RL_append ?_ ?_
          · have e : l.take i = (l.take n).take i := by rw [List.take_take, Nat.min_eq_left (by omega)]
            rw [e, ← rowsA_take pairT (l.take n) i]
            exact RL_take _ hRLc
          · rw [← rowsA_drop pairT (l.take n) j]
            exact RL_drop _ hRLc
        have h1n : ∀ u ∈ cs.take (i * 2) ++ cs.drop (j * 2), u.oneCell' = true := by
          intro u hu
          rcases List.mem_append.1 hu with hu | hu
          · exact h1c u (List.mem_of_mem_take hu)
          · exact h1c u (List.mem_of_mem_drop hu)
        refine Calls.mono (del_run b 0 n cap i j cs s.w hij hjn (by omega) hcm hcl hcell (fun q => by simp [World.frozen?, hg]) h1c) ?_
        rintro e w2 ⟨rfl, rfl⟩
        have hCl : (cs.drop (j * 2)).length = (n - j) * 2 := by rw [List.length_drop, hcl]; omega
        have h1C : ∀ u ∈ cs.drop (j * 2), u.oneCell' = true := fun u hu => h1c u (List.mem_of_mem_drop hu)
        rw [Nat.zero_add, Nat.zero_add]
        have hg0 : s.w.drew.heap[b]? = some (.cells cur 50 (0, 0)) := hg
        rw [setCells_row (P := Try.prog) hg0 (by rw [hCl]; omega) h1C]
        obtain ⟨cur1, hcur1⟩ : ∃ cur1 : Array Value, cur1 = (cur.toList.take (i * 2) ++ cs.drop (j * 2) ++ cur.toList.drop (i * 2 + (cs.drop (j * 2)).length)).toArray := ⟨_, rfl⟩
        have hcl0 : cur.toList.length = cap * 2 := by rw [Array.length_toList, hcsz]
        have hs1 : cur1.size = cap * 2 := by
          rw [hcur1]
          simp only [List.size_toArray, List.length_append, List.length_take, List.length_drop, hcl0, hCl]
          omega
        rw [← hcur1]
        have hg1 := setRow_heap s.w.drew b cur cur1 _ _ hg0
        rw [setCells_row (P := Try.prog) hg1 (by rw [zP_len]; omega) (zP_one _)]
        obtain ⟨Z, hZ⟩ : ∃ Z, Z = (Builtin.zeroCells zP.cells (n - (i + (n - j)))).toList := ⟨_, rfl⟩
        have hZl : Z.length = (n - (i + (n - j))) * 2 := by rw [hZ, zP_len]
        rw [← hZ]
        obtain ⟨cur2, hcur2⟩ : ∃ c2 : Array Value, c2 = (cur1.toList.take ((i + (n - j)) * 2) ++ Z ++ cur1.toList.drop ((i + (n - j)) * 2 + Z.length)).toArray := ⟨_, rfl⟩
        have hcl1 : cur1.toList.length = cap * 2 := by rw [Array.length_toList, hs1]
        have hs2 : cur2.size = cap * 2 := by
          rw [hcur2]
          simp only [List.size_toArray, List.length_append, List.length_take, List.length_drop, hcl1, hZl]
          omega
        rw [← hcur2]
        have hg2 := setRow_heap _ b cur1 cur2 _ _ hg1
        have hgb : Gb s.w ((s.w.drew.setRow b cur1).setRow b cur2) (blkOf (s.σ id)) := by
          rw [hσ]
          refine ⟨rfl, rfl, rfl, Nat.le_succ _, by simp only [World.setRow, Array.size_modify]; exact Nat.le_refl _, fun k _ hk => ?_⟩
          have hkb : k ≠ b := fun e => hk (by rw [e]; rfl)
          rw [setRow_other _ b k _ hkb, setRow_other _ b k _ hkb]
          rfl
        have hrow2 : ((s.w.drew.setRow b cur1).setRow b cur2).ownsRow 0 50 2 (.slice (some ⟨b, 0, none⟩) (n - (j - i)) cap) (n - (j - i)) (cs.take (i * 2) ++ cs.drop (j * 2)) := by
          refine ⟨?_, .inr ⟨b, cap, cur2, rfl, Nat.zero_le _, hg2, by omega, hcm, hs2, ?_⟩⟩
          · simp only [List.length_append, List.length_take, hCl, hcl]; omega
          · have e1 : cur1.toList.take ((i + (n - j)) * 2) = cs.take (i * 2) ++ cs.drop (j * 2) := by
              rw [hcur1]
              show (cur.toList.take (i * 2) ++ cs.drop (j * 2) ++ cur.toList.drop (i * 2 + (cs.drop (j * 2)).length)).take ((i + (n - j)) * 2) = _
              rw [List.take_append_of_le_length (by simp only [List.length_append, List.length_take, hCl, hcl0]; omega), List.take_of_length_le (by simp only [List.length_append, List.length_take, hCl, hcl0]; omega), hcsc, List.take_take, Nat.min_eq_left (by omega)]
            rw [hcur2]
            show (cur1.toList.take ((i + (n - j)) * 2) ++ Z ++ cur1.toList.drop ((i + (n - j)) * 2 + Z.length)).take ((n - (j - i)) * 2) = _
            rw [e1, List.append_assoc, List.take_append_of_le_length (by simp only [List.length_append, List.length_take, hCl, hcl]; omega), List.take_of_length_le (by simp only [List.length_append, List.length_take, hCl, hcl]; omega)]
        obtain ⟨hst, hok'⟩ := own_turn hok ho (l' := l.take i ++ (l.take n).drop j) (by rw [hl'len]; exact hrow2) hRLn h1n hgb (fun b' hb' => .inl (by rw [hσ]; exact hb'))
        refine ⟨_, .own id (g' + 1) (n - (j - i)), _, rfl, rfl, hst, hok', ?_, hk2⟩
        simp only [R]
        refine ⟨by unfold kn; rw [turn_get ho], _, _, rfl, fun T' t' l3 f3 g3 hq => ?_⟩
        rw [turn_get ho] at hq
        cases hq
        exact ⟨Nat.le_refl _, fun _ => ⟨by rw [hl'len]; exact Nat.le_refl _, n - (j - i), by simp only [St.turn, upd_same]⟩⟩
      · exact hk.elim
    · exact hk.elim
  · exact hk.elim
/-! ### Calls with contracts of their own, others that are walked through -/
abbrev RawA := List AV → Hp → (AV → Hp → Prop) → Prop
def RawOk (P : Program) (g : FuncId) (f : RawA) : Prop := ∀ (xs : List AV) (h : Hp) (K : AV → Hp → Prop), f xs h K → Av.Enters P g ∧ ∀ s, s.h = h → Ok s → ∀ cs, RL s xs cs →
    Calls P g cs.toArray s.w fun e w' => ∃ s' v cr, e = .returned cr ∧ s'.w = w' ∧ Step s s' ∧ Ok s' ∧ R s' v cr ∧ K v s'.h
def lkr : List (FuncId × RawA) → FuncId → Option RawA
  | [], _ => none
  | p :: l, f => bif Nat.beq p.1 f then some p.2 else lkr l f
def RawsOk (P : Program) (Rs : List (FuncId × RawA)) : Prop := ∀ g f, lkr Rs g = some f → RawOk P g f
theorem RawsOk.nil {P : Program} : RawsOk P [] := fun g f h => by cases h
theorem RawsOk.cons {P : Program} {g : FuncId} {f : RawA} {l : List (FuncId × RawA)} (h : RawOk P g f) (hl : RawsOk P l) : RawsOk P ((g, f) :: l) := by
  intro g' f' h'
  simp only [lkr] at h'
  cases hb : Nat.beq g g' with
  | true =>
    rw [hb] at h'
    have := Nat.eq_of_beq_eq_true hb
    cases h'
    exact this ▸ h
  | false =>
    rw [hb] at h'
    exact hl g' f' h'
/-- No call is put off. -/
def cd0 : CallDA := fun _ _ _ _ _ => False
theorem cd0_ok {P : Program} : CallDOk P cd0 := fun _ _ _ _ _ hk => hk.elim
noncomputable def callR (Rs : List (FuncId × RawA)) (C : Cx) : Nat → CallA
  | 0, _, _, _, _ => False
  | n + 1, g, xs, h, K => match lkr Rs g with
    | some f => f xs h K
    | none => match lkf C.fns g with
      | some fn => bodyE C (fun g xs h K => callR Rs C n g xs h K) [] cd0 fn xs h K
      | none => False
theorem callR_ok {P : Program} {Rs : List (FuncId × RawA)} {C : Cx} (hm : P.follows .mixedOrders = true) (hT : TbOk P C.tb) (hD : SpecsOk P C.specs) (hF : FnsOk P C.fns) (hR : RawsOk P Rs) : ∀ n, CallOk P (callR Rs C n)
  | 0 => fun g xs h K hk => hk.elim
  | n + 1 => fun g xs h K hk => by
    simp only [callR] at hk
    split at hk
    · rename_i f hl
      exact hR g f hl _ _ _ hk
    · split at hk
      · rename_i fn hl
        have hfn := hF g fn hl
        refine ⟨hfn.enters, fun s hs hok cs hr => ?_⟩
        subst hs
        exact bodyE_ok hm hT hD (callR_ok hm hT hD hF hR n) PSpecsOk.nil cd0_ok hfn hk hok hr
      · exact hk.elim
set_option maxRecDepth 100000 in
theorem fnOk_insPr : FnOk Try.prog 54 Try.f54 := ⟨by rfl, by kernel_rfl, by
  show okCode _ _ = true ∧ drawsOk _ = true
  exact ⟨by kernel_rfl, by kernel_rfl⟩⟩
set_option maxRecDepth 100000 in
theorem fnOk_delPr : FnOk Try.prog 53 Try.f53 := ⟨by rfl, by kernel_rfl, by
  show okCode _ _ = true ∧ drawsOk _ = true
  exact ⟨by kernel_rfl, by kernel_rfl⟩⟩
theorem insPr_ok : RawOk Try.prog 54 insA := fun _ _ _ hk => ins_ok fnOk_insPr.enters hk
theorem delPr_ok : RawOk Try.prog 53 delA := fun _ _ _ hk => del_ok fnOk_delPr.enters hk
end Go.Proofs.Ytbbklijmnknmhaa
namespace Go.Proofs.Ytbbklijmnknmhaa
open Av Bk

theorem ordS_lt {a b : ByteArray} : ordS a b < 0 ↔ sLt a b = true := by
  unfold ordS
  split
  · rename_i h; simp [h]
  · rename_i h; split <;> simp [h]
theorem ordS_eq {a b : ByteArray} : ordS a b = 0 ↔ sEq a b = true := by
  unfold ordS
  split
  · rename_i h
    simp only [sEq_iff]
    exact ⟨fun e => by omega, fun e => absurd e (sLt_ne h)⟩
  · rename_i h
    split
    · rename_i h2
      simp only [sEq_iff]
      exact ⟨fun e => by omega, fun e => absurd e.symm (sLt_ne h2)⟩
    · rename_i h2
      simp only [sEq_iff, true_iff]
      exact sLt_ext (by simpa using h) (by simpa using h2)
theorem two_int {a b c d : Int} (h1 : a = c) (h2 : b = d) : [AV.int .i64 a, .int .i64 b] = [AV.int .i64 c, .int .i64 d] := by rw [h1, h2]
end Go.Proofs.Ytbbklijmnknmhaa
namespace Go.Proofs.Ytbbklijmnknmhaa
open Av Bk

def spFd : DSpec
  | [.lst (.st [.str, .str]) m, .str k] => some (ascP m ∧ m.length ≤ 100000, .tup [.int .i64 (lbP k m), .bool (lkV m k).isSome])
  | _ => none
set_option maxRecDepth 100000 in
theorem fnOk_bSrP : FnOk Try.prog 86 Try.f86 := ⟨by rfl, by kernel_rfl, by
  show okCode _ _ = true ∧ drawsOk _ = true
  exact ⟨by kernel_rfl, by kernel_rfl⟩⟩
end Go.Proofs.Ytbbklijmnknmhaa
