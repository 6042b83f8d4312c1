/-
  Filter and Count of the document.
-/
import Derived.Test.YtmegjnanieafbaaShG
import Derived.Deep.RegionHeld3
namespace Go.Proofs.Ytmegjnanieafbaa
open Go.RowKit Bk

theorem own1d {w w1 : World} {A : Array Value} {a : TypeId} (hb : Below (w.alloc (.cells A a)).drew.heap.size (w.alloc (.cells A a)).drew w1) :
    (∀ o, w1.cell? ⟨w.heap.size, o, none⟩ = A[o]?) ∧ (∀ o, w1.frozen? ⟨w.heap.size, o, none⟩ = false) ∧ w.heap.size < w1.heap.size ∧ Below w.heap.size w w1 :=
  own1 (w := w) (A := A) (a := a) ⟨hb.os, hb.tape, hb.output, hb.size, hb.block⟩
theorem refStepAt (a b d : Bool) (l k v : ByteArray) (s : Int) (w : World) (r : Value) (hr : stepVal ⟨a, l, b⟩ ⟨k, v, d, s⟩ = r) (hl : l.size ≤ maxLen) (hk : k.size ≤ maxLen) (hv : v.size ≤ maxLen) :
    Calls Try.prog 12 #[.agg #[.bool a, .string l, .bool b], .agg #[.string k, .string v, .bool d, .int .i64 s]] w fun e w' => e = .returned r ∧ Below w.heap.size w w' := hr ▸ refStep a b d l k v s w hl hk hv
theorem refStepNew (a b d : Bool) (l k v : ByteArray) (s : Int) (w : World) (A : Array Value) (t : TypeId) (r : Value) (hr : stepVal ⟨a, l, b⟩ ⟨k, v, d, s⟩ = r) (hl : l.size ≤ maxLen) (hk : k.size ≤ maxLen) (hv : v.size ≤ maxLen) :
    Calls Try.prog 12 #[.agg #[.bool a, .string l, .bool b], .agg #[.string k, .string v, .bool d, .int .i64 s]] (w.alloc (.cells A t)).drew fun e w' => e = .returned r ∧
      (∀ o, w'.cell? ⟨w.heap.size, o, none⟩ = A[o]?) ∧ (∀ o, w'.frozen? ⟨w.heap.size, o, none⟩ = false) ∧ w.heap.size < w'.heap.size ∧ Below w.heap.size w w' :=
  (refStepAt a b d l k v s _ r hr hl hk hv).mono fun _ _ ⟨he, hb⟩ => ⟨he, own1d hb⟩
theorem step_err {a b d : Bool} {l k v : ByteArray} {s : Int} (h : ¬ stepErr ⟨a, l, b⟩ ⟨k, v, d, s⟩ = 0) : stepVal ⟨a, l, b⟩ ⟨k, v, d, s⟩ = .tuple #[.bool false, .agg #[.bool false, .string ⟨#[]⟩, .bool false], .int .i64 (stepErr ⟨a, l, b⟩ ⟨k, v, d, s⟩)] := by
  rw [stepVal, if_neg h]; rfl
theorem step_fine {a b d : Bool} {l k v : ByteArray} {s : Int} (h : stepErr ⟨a, l, b⟩ ⟨k, v, d, s⟩ = 0) : stepVal ⟨a, l, b⟩ ⟨k, v, d, s⟩ = .tuple #[.bool (fateOf ⟨a, l, b⟩ ⟨k, v, d, s⟩ == 0), .agg #[.bool true, .string k, .bool b], .int .i64 0] := by
  rw [stepVal, if_pos h]; rfl

set_option maxHeartbeats 1000000 in
theorem refLong (l : List Ent) (a : Option Addr) (cap : Nat) (bot : Bool) (w : World) (hl : l.length ≤ 9223372036854775807) (hL : 20000 < l.length) :
    Calls Try.prog 19 #[.slice a l.length cap, .bool bot] w fun e w' => e = .returned (.tuple #[.slice none 0 0, .int .i64 (-1), .int .i64 3]) ∧ w = w' := by
  have h2 : (20000 : Int) < (l.length : Int) := by omega
  go_enter Try.func19, Try.ntmps19
  go_wp2
  go_ret3
  exact ⟨rfl, rfl⟩

theorem refBegin' (b : Bool) (w : World) : Calls Try.prog 14 #[.bool b] w fun e w' => e = .returned (.agg #[.bool false, .string ⟨#[]⟩, .bool b]) ∧ Below w.heap.size w w' := refBegin b w

set_option maxHeartbeats 1000000 in
theorem refNone (a : Option Addr) (ca : Nat) (bot : Bool) (w : World) :
    Calls Try.prog 19 #[.slice a 0 ca, .bool bot] w fun e w' => e = .returned (.tuple #[.slice none 0 0, .int .i64 0, .int .i64 0]) ∧ Below w.heap.size w w' := by
  go_enter Try.func19, Try.ntmps19
  go_wp2_with (go_at_call 14; refine (refBegin' _ _).mono ?_; rintro e w1 ⟨rfl, hb⟩)
  go_loop [8, 9] (fun u i => u = .slice none 0 0 ∧ i = .int .i64 0) (fun _ _ => 0)
  case atStart => exact ⟨rfl, rfl⟩
  case round =>
    obtain ⟨rfl, rfl⟩ := hrel
    go_wp2
    go_ret3
    exact ⟨rfl, hb.alloc hb.size _⟩

set_option maxHeartbeats 1000000 in
theorem refFull (l : List Ent) (ba oa ca : Nat) (bot : Bool) (w : World) (hl : l.length ≤ 20000) (hok : ∀ x ∈ l, x.ok) (hA : ∀ i x, l[i]? = some x → EntAt w ba (oa + i * 4) x) :
    Calls Try.prog 19 #[.slice (some ⟨ba, oa, none⟩) l.length ca, .bool bot] w (FilterPost bot l w) := by
  have HOK := Lib.hid hok
  have HA := Lib.hid hA
  clear hok hA
  have h2 : (l.length : Int) ≤ 20000 := by omega
  obtain ⟨q0, hi, hz0, hz1, hz2⟩ := info_parts info25
  go_enter Try.func19, Try.ntmps19
  go_wp2_with (go_at_call 14; refine (refBegin' _ _).mono ?_; rintro e w1 ⟨rfl, hb⟩)
  have hw1 : w.heap.size ≤ w1.heap.size := hb.size
  have HBelow := Lib.hid hb
  clear hb
  go_loopw [8, 9] (fun u t wr => ∃ (k : Nat), k ≤ l.length ∧ t = .int .i64 k ∧ wr.ownsRow (w1.heap.size + 1) 25 4 u (keptOf (fatesTo bot l k)).length (entsCells (keptOf (fatesTo bot l k))) ∧ wr.heap[w1.heap.size]? = some (.cells (Sh.arr (stAt bot l k)) 23 (0, 0)) ∧ Below w.heap.size w wr ∧ Hid (∀ j, j < k → errAt bot l j = 0)) (fun _ t _ => l.length - (intOf t).toNat)
  case atStart =>
    refine ⟨0, Nat.zero_le _, rfl, World.ownsRow_nil _ _ _ _, heap_alloc_new w1 _, HBelow.out.alloc hw1 _, Lib.hid fun j hj => absurd hj (by omega)⟩
  case round =>
    obtain ⟨k, hk, rfl, hown, hnb, hbw, HE⟩ := hrel
    have HOWN := Lib.hid hown
    have HNB := Lib.hid hnb
    have HBW := Lib.hid hbw
    by_cases hlt : k < l.length
    · have hx' : l[k]? = some l[k] := List.getElem?_eq_getElem hlt
      have a0 := (HA.out k _ hx').mono hbw
      have hs := HOK.out l[k] (List.getElem_mem hlt)
      have e1 := errAt_some (bot := bot) hx'
      have e2 := fatesTo_succ (bot := bot) hx'
      have e3 := stAt_some (bot := bot) hx'
      have hst := stAt_ok (bot := bot) HOK.out k
      have hbot := stAt_bot bot l k
      obtain ⟨nc0, nf0, nz0⟩ := blkAt hnb
      clear hx' hnb hown hbw
      revert a0 hs e1 e2 e3 hst hbot nc0 HNB
      generalize l[k] = x
      generalize stAt bot l k = st
      obtain ⟨xk, xv, xd, xs⟩ := x
      obtain ⟨sa, sl, sb⟩ := st
      rintro HNB ⟨a0, a1, a2, a3⟩ ⟨s1, s2⟩ e1 e2 e3 hst rfl nc0
      simp only [Sh.arr] at nc0
      have E1 := Lib.hid e1
      have E2 := Lib.hid e2
      have E3 := Lib.hid e3
      have i0 : (0 : Int) ≤ (k : Int) := by omega
      have i1 : (k : Int) < (l.length : Int) := by omega
      clear e1 e2 e3
      by_cases hE : stepErr ⟨sa, sl, sb⟩ ⟨xk, xv, xd, xs⟩ = 0
      · have HN := Lib.hid (step_fine hE)
        have HZ := Lib.hid hE
        clear hE
        go_wp2_with (fail)
        have hS : ∀ W, Below wr.heap.size wr W → (Below wr.heap.size wr W ∧ (∀ o, W.cell? ⟨w1.heap.size, o, none⟩ = (#[.bool sa, .string sl, .bool sb] : Array Value)[o]?) ∧ W.cell? ⟨ba, oa + k * 4, none⟩ = some (.string xk) ∧ W.cell? ⟨ba, oa + k * 4 + 1, none⟩ = some (.string xv) ∧ W.cell? ⟨ba, oa + k * 4 + 2, none⟩ = some (.bool xd) ∧ W.cell? ⟨ba, oa + k * 4 + 3, none⟩ = some (.int .i64 xs)) := fun W h => ⟨h, fun o => (h.cell (p := ⟨w1.heap.size, o, none⟩) nz0).trans (nc0 o), Below.cellSome h a0, Below.cellSome h a1, Below.cellSome h a2, Below.cellSome h a3⟩
        have HS := Lib.hid hS
        clear hS
        go_region_held3 (fun W => (Below wr.heap.size wr W ∧ (∀ o, W.cell? ⟨w1.heap.size, o, none⟩ = (#[.bool sa, .string sl, .bool sb] : Array Value)[o]?) ∧ W.cell? ⟨ba, oa + k * 4, none⟩ = some (.string xk) ∧ W.cell? ⟨ba, oa + k * 4 + 1, none⟩ = some (.string xv) ∧ W.cell? ⟨ba, oa + k * 4 + 2, none⟩ = some (.bool xd) ∧ W.cell? ⟨ba, oa + k * 4 + 3, none⟩ = some (.int .i64 xs)))
          (first
            | exact HS.out _ ((Below.refl _ _).drew)
            | exact HS.out _ hB2.out
            | exact HS.out _ (hB2.out.alloc hB2.out.size _)
            | exact HS.out _ (((hB2.out.setCell (p := ⟨wr.heap.size, 0, none⟩) (Nat.le_refl _) _).setCell (p := ⟨wr.heap.size, 1, none⟩) (Nat.le_refl _) _).setCell (p := ⟨wr.heap.size, 2, none⟩) (Nat.le_refl _) _)
            | exact HS.out _ ((Below.refl _ _).alloc (Nat.le_refl _) _).drew
            | (trace_state; fail))
          (first
            | (go_at_call 12; (with_reducible refine (refStepNew _ _ _ _ _ _ _ _ _ _ _ HN.out hst s1 s2).mono ?_); rintro e w2 ⟨rfl, b0, g0, x0, hb⟩; have hB2 := Lib.hid hb)
            | (go_at_call 12; (with_reducible refine (refStepAt _ _ _ _ _ _ _ _ _ HN.out hst s1 s2).mono ?_); rintro e w2 ⟨rfl, hb⟩; have hB2 := Lib.hid (Below.trans (And.left ‹Below wr.heap.size wr _ ∧ _›) (hb.mono (Below.size (And.left ‹Below wr.heap.size wr _ ∧ _›))))))
        · have t0 : ∀ o, (w2.alloc (.cells #[.bool true, .string xk, .bool sb] 23)).cell? ⟨w2.heap.size, o, none⟩ = (#[.bool true, .string xk, .bool sb] : Array Value)[o]? := newCell _ _ _
          have hBW : Below wr.heap.size wr (w2.alloc (.cells #[.bool true, .string xk, .bool sb] 23)) := hB2.out.alloc hB2.out.size _
          have hnk : wr.heap.size ≤ w2.heap.size := hB2.out.size
          have hnk2 : w2.heap.size < (w2.alloc (.cells #[.bool true, .string xk, .bool sb] 23)).heap.size := by simp
          clear hB2
          revert t0 hBW hnk hnk2
          generalize w2.heap.size = nk
          generalize w2.alloc (.cells #[.bool true, .string xk, .bool sb] 23) = W
          intro t0 hBW hnk hnk2
          have hrel := hBW
          have a0' := Below.cellSome hBW a0
          have a1' := Below.cellSome hBW a1
          have a2' := Below.cellSome hBW a2
          have a3' := Below.cellSome hBW a3
          obtain ⟨nc0', nf0', nz0'⟩ := keepC hBW nz0 nc0
          have hown' := owns_same HOWN.out (fun j hj => hBW.block j (HOWN.out.lt j hj).2)
          have HOW := Lib.hid hown'
          have hnbW : W.heap[w1.heap.size]? = some (.cells #[.bool sa, .string sl, .bool sb] 23 (0, 0)) := (hBW.block _ nz0).trans HNB.out
          have HNW := Lib.hid hnbW
          have HBW2 := Lib.hid hBW
          clear hown' hnbW hrel a0 a1 a2 a3
          cases hf : (fateOf ⟨sa, sl, sb⟩ ⟨xk, xv, xd, xs⟩ == 0)
          · have hf' : ¬ fateOf ⟨sa, sl, sb⟩ ⟨xk, xv, xd, xs⟩ = 0 := by simpa using hf
            have HF := Lib.hid hf'
            clear hf hf'
            go_wp2
            go_roundw
            case rel =>
              refine ⟨k + 1, by omega, by go_num, ?_, ?_, ?_, Lib.hid fun j hj => ?_⟩
              · rw [E2.out, keptOf_snoc, if_neg HF.out]
                exact owns_same HOW.out (fun j hj => by
                  have := (HOW.out.lt j hj).1
                  rw [Below.heap_setCell _ _ _ _ (by simp; omega), Below.heap_setCell _ _ _ _ (by simp; omega), Below.heap_setCell _ _ _ _ (by simp; omega)])
              · rw [E3.out]
                exact three_setCell (three_setCell (three_setCell HNW.out 0) 1) 2
              · exact (((HBW.out.trans (HBW2.out.mono HBW.out.size)).setCell (p := ⟨w1.heap.size, 0, none⟩) hw1 _).setCell (p := ⟨w1.heap.size, 1, none⟩) hw1 _).setCell (p := ⟨w1.heap.size, 2, none⟩) hw1 _
              · by_cases e : j = k
                · subst e; rw [E1.out]; exact HZ.out
                · exact HE.out j (by omega)
            case measure => simp [intOf]; omega
          · have hf' : fateOf ⟨sa, sl, sb⟩ ⟨xk, xv, xd, xs⟩ = 0 := by simpa using hf
            have HF := Lib.hid hf'
            clear hf hf'
            have hkl : (keptOf (fatesTo sb l k)).length ≤ k := by have := keptOf_length (fatesTo sb l k); rw [fatesTo_length _ _ _ hk] at this; omega
            go_wp2_with (at_builtin; refine wpList_append_lies _ rfl (.tmp 39) (.tmp 44) 33 rfl (w1.heap.size + 1) 25 q0 (.agg #[.string ⟨#[]⟩, .string ⟨#[]⟩, .bool false, .int .i64 0]) 4 48 Try.underlying33 hi hz0 hz1 hz2 rfl (by decide) _ _ _ rfl (HOW.out.alloc _) ⟨W.heap.size, 0, none⟩ 1 1 (entsCells [⟨xk, xv, xd, xs⟩]) rfl rfl (World.news_of_block (heap_alloc_new W _)) (entsCells_one _) (by decide) (by unfold maxLen; omega) (by omega) (by simp; omega) _ rfl ?_)
            rintro g cp w3 hown3 hgrow hat hlt3
            have hne3 : ∀ j, u8.ownBlock = some j → w1.heap.size < j := fun j hj => (HOW.out.lt j hj).1
            have far : ∀ j, j < W.heap.size → some j ≠ u8.ownBlock → w3.heap[j]? = W.heap[j]? := fun j hj hj2 => (hgrow.block j (by simp; omega) hj2).trans (Below.heap_alloc _ _ _ hj)
            have hnb3 : w3.heap[w1.heap.size]? = some (.cells #[.bool sa, .string sl, .bool sb] 23 (0, 0)) := (far _ nz0' (fun e => by have := hne3 _ e.symm; omega)).trans HNW.out
            have hB3 : Below w.heap.size w w3 := (HBW.out.trans (HBW2.out.mono HBW.out.size)).trans (Below.grown (row := u8.ownBlock) ((Below.refl _ W).alloc (by have := HBW2.out.size; have := HBW.out.size; omega) _) hgrow (by simp; have := HBW2.out.size; have := HBW.out.size; omega) (fun j hj => by have := hne3 j hj; omega))
            have t3 : ∀ o, w3.cell? ⟨nk, o, none⟩ = (#[.bool true, .string xk, .bool sb] : Array Value)[o]? := fun o => (World.cell?_of_block (w := W) (w' := w3) (a := ⟨nk, o, none⟩) (far nk hnk2 (fun e => by have := (HOWN.out.lt nk e.symm).2; omega))).trans (t0 o)
            obtain ⟨n0, nf, nz⟩ := blkAt hnb3
            have HN3 := Lib.hid hnb3
            have HO3 := Lib.hid hown3
            have HB3 := Lib.hid hB3
            clear hnb3 hown3 hB3 far hne3 hgrow hat hlt3 t0
            go_wp2
            go_roundw
            case rel =>
              refine ⟨k + 1, by omega, by go_num, ?_, ?_, ?_, Lib.hid fun j hj => ?_⟩
              · rw [E2.out, keptOf_snoc, if_pos HF.out, List.length_append, entsCells_append]
                have hlow := HO3.out.lt g rfl
                exact owns_same HO3.out (fun j hj => by
                  obtain rfl : g = j := by simpa [Value.ownBlock] using hj
                  rw [Below.heap_setCell _ _ _ _ (by simp; omega), Below.heap_setCell _ _ _ _ (by simp; omega), Below.heap_setCell _ _ _ _ (by simp; omega)])
              · rw [E3.out]
                exact three_setCell (three_setCell (three_setCell HN3.out 0) 1) 2
              · exact ((HB3.out.setCell (p := ⟨w1.heap.size, 0, none⟩) hw1 _).setCell (p := ⟨w1.heap.size, 1, none⟩) hw1 _).setCell (p := ⟨w1.heap.size, 2, none⟩) hw1 _
              · by_cases e : j = k
                · subst e; rw [E1.out]; exact HZ.out
                · exact HE.out j (by omega)
            case measure => simp [intOf]; omega
        · have t0 : ∀ o, (((w2.setCell ⟨wr.heap.size, 0, none⟩ (.bool true)).setCell ⟨wr.heap.size, 1, none⟩ (.string xk)).setCell ⟨wr.heap.size, 2, none⟩ (.bool sb)).cell? ⟨wr.heap.size, o, none⟩ = (#[.bool true, .string xk, .bool sb] : Array Value)[o]? := cellSet (cellSet (cellSet b0 0 _) 1 _) 2 _
          have hBW : Below wr.heap.size wr (((w2.setCell ⟨wr.heap.size, 0, none⟩ (.bool true)).setCell ⟨wr.heap.size, 1, none⟩ (.string xk)).setCell ⟨wr.heap.size, 2, none⟩ (.bool sb)) := ((hB2.out.setCell (p := ⟨wr.heap.size, 0, none⟩) (Nat.le_refl _) _).setCell (p := ⟨wr.heap.size, 1, none⟩) (Nat.le_refl _) _).setCell (p := ⟨wr.heap.size, 2, none⟩) (Nat.le_refl _) _
          have hnk : wr.heap.size ≤ wr.heap.size := Nat.le_refl _
          have hnk2 : wr.heap.size < (((w2.setCell ⟨wr.heap.size, 0, none⟩ (.bool true)).setCell ⟨wr.heap.size, 1, none⟩ (.string xk)).setCell ⟨wr.heap.size, 2, none⟩ (.bool sb)).heap.size := by simp [World.setCell]; exact x0
          clear hB2
          obtain ⟨W, hW⟩ : ∃ W, Hid ((((w2.setCell ⟨wr.heap.size, 0, none⟩ (.bool true)).setCell ⟨wr.heap.size, 1, none⟩ (.string xk)).setCell ⟨wr.heap.size, 2, none⟩ (.bool sb)) = W) := ⟨_, Lib.hid rfl⟩
          rw [hW.out] at t0 hBW hnk2 ⊢
          have hrel := hBW
          have a0' := Below.cellSome hBW a0
          have a1' := Below.cellSome hBW a1
          have a2' := Below.cellSome hBW a2
          have a3' := Below.cellSome hBW a3
          obtain ⟨nc0', nf0', nz0'⟩ := keepC hBW nz0 nc0
          have hown' := owns_same HOWN.out (fun j hj => hBW.block j (HOWN.out.lt j hj).2)
          have HOW := Lib.hid hown'
          have hnbW : W.heap[w1.heap.size]? = some (.cells #[.bool sa, .string sl, .bool sb] 23 (0, 0)) := (hBW.block _ nz0).trans HNB.out
          have HNW := Lib.hid hnbW
          have HBW2 := Lib.hid hBW
          clear hown' hnbW hrel a0 a1 a2 a3
          cases hf : (fateOf ⟨sa, sl, sb⟩ ⟨xk, xv, xd, xs⟩ == 0)
          · have hf' : ¬ fateOf ⟨sa, sl, sb⟩ ⟨xk, xv, xd, xs⟩ = 0 := by simpa using hf
            have HF := Lib.hid hf'
            clear hf hf'
            go_wp2
            go_roundw
            case rel =>
              refine ⟨k + 1, by omega, by go_num, ?_, ?_, ?_, Lib.hid fun j hj => ?_⟩
              · rw [E2.out, keptOf_snoc, if_neg HF.out]
                exact owns_same HOW.out (fun j hj => by
                  have := (HOW.out.lt j hj).1
                  rw [Below.heap_setCell _ _ _ _ (by simp; omega), Below.heap_setCell _ _ _ _ (by simp; omega), Below.heap_setCell _ _ _ _ (by simp; omega)])
              · rw [E3.out]
                exact three_setCell (three_setCell (three_setCell HNW.out 0) 1) 2
              · exact (((HBW.out.trans (HBW2.out.mono HBW.out.size)).setCell (p := ⟨w1.heap.size, 0, none⟩) hw1 _).setCell (p := ⟨w1.heap.size, 1, none⟩) hw1 _).setCell (p := ⟨w1.heap.size, 2, none⟩) hw1 _
              · by_cases e : j = k
                · subst e; rw [E1.out]; exact HZ.out
                · exact HE.out j (by omega)
            case measure => simp [intOf]; omega
          · have hf' : fateOf ⟨sa, sl, sb⟩ ⟨xk, xv, xd, xs⟩ = 0 := by simpa using hf
            have HF := Lib.hid hf'
            clear hf hf'
            have hkl : (keptOf (fatesTo sb l k)).length ≤ k := by have := keptOf_length (fatesTo sb l k); rw [fatesTo_length _ _ _ hk] at this; omega
            go_wp2_with (at_builtin; refine wpList_append_lies _ rfl (.tmp 39) (.tmp 44) 33 rfl (w1.heap.size + 1) 25 q0 (.agg #[.string ⟨#[]⟩, .string ⟨#[]⟩, .bool false, .int .i64 0]) 4 48 Try.underlying33 hi hz0 hz1 hz2 rfl (by decide) _ _ _ rfl (HOW.out.alloc _) ⟨W.heap.size, 0, none⟩ 1 1 (entsCells [⟨xk, xv, xd, xs⟩]) rfl rfl (World.news_of_block (heap_alloc_new W _)) (entsCells_one _) (by decide) (by unfold maxLen; omega) (by omega) (by simp; omega) _ rfl ?_)
            rintro g cp w3 hown3 hgrow hat hlt3
            have hne3 : ∀ j, u8.ownBlock = some j → w1.heap.size < j := fun j hj => (HOW.out.lt j hj).1
            have far : ∀ j, j < W.heap.size → some j ≠ u8.ownBlock → w3.heap[j]? = W.heap[j]? := fun j hj hj2 => (hgrow.block j (by simp; omega) hj2).trans (Below.heap_alloc _ _ _ hj)
            have hnb3 : w3.heap[w1.heap.size]? = some (.cells #[.bool sa, .string sl, .bool sb] 23 (0, 0)) := (far _ nz0' (fun e => by have := hne3 _ e.symm; omega)).trans HNW.out
            have hB3 : Below w.heap.size w w3 := (HBW.out.trans (HBW2.out.mono HBW.out.size)).trans (Below.grown (row := u8.ownBlock) ((Below.refl _ W).alloc (by have := HBW2.out.size; have := HBW.out.size; omega) _) hgrow (by simp; have := HBW2.out.size; have := HBW.out.size; omega) (fun j hj => by have := hne3 j hj; omega))
            have t3 : ∀ o, w3.cell? ⟨wr.heap.size, o, none⟩ = (#[.bool true, .string xk, .bool sb] : Array Value)[o]? := fun o => (World.cell?_of_block (w := W) (w' := w3) (a := ⟨wr.heap.size, o, none⟩) (far wr.heap.size hnk2 (fun e => by have := (HOWN.out.lt _ e.symm).2; omega))).trans (t0 o)
            obtain ⟨n0, nf, nz⟩ := blkAt hnb3
            have HN3 := Lib.hid hnb3
            have HO3 := Lib.hid hown3
            have HB3 := Lib.hid hB3
            clear hnb3 hown3 hB3 far hne3 hgrow hat hlt3 t0
            go_wp2
            go_roundw
            case rel =>
              refine ⟨k + 1, by omega, by go_num, ?_, ?_, ?_, Lib.hid fun j hj => ?_⟩
              · rw [E2.out, keptOf_snoc, if_pos HF.out, List.length_append, entsCells_append]
                have hlow := HO3.out.lt g rfl
                exact owns_same HO3.out (fun j hj => by
                  obtain rfl : g = j := by simpa [Value.ownBlock] using hj
                  rw [Below.heap_setCell _ _ _ _ (by simp; omega), Below.heap_setCell _ _ _ _ (by simp; omega), Below.heap_setCell _ _ _ _ (by simp; omega)])
              · rw [E3.out]
                exact three_setCell (three_setCell (three_setCell HN3.out 0) 1) 2
              · exact ((HB3.out.setCell (p := ⟨w1.heap.size, 0, none⟩) hw1 _).setCell (p := ⟨w1.heap.size, 1, none⟩) hw1 _).setCell (p := ⟨w1.heap.size, 2, none⟩) hw1 _
              · by_cases e : j = k
                · subst e; rw [E1.out]; exact HZ.out
                · exact HE.out j (by omega)
            case measure => simp [intOf]; omega
      · have hne : (stepErr ⟨sa, sl, sb⟩ ⟨xk, xv, xd, xs⟩ != 0) = true := by simpa using hE
        have HN := Lib.hid (step_err hE)
        have HE' := Lib.hid hE
        clear hE
        go_wp2_with (fail)
        have hS : ∀ W, Below wr.heap.size wr W → (Below wr.heap.size wr W ∧ (∀ o, W.cell? ⟨w1.heap.size, o, none⟩ = (#[.bool sa, .string sl, .bool sb] : Array Value)[o]?) ∧ W.cell? ⟨ba, oa + k * 4, none⟩ = some (.string xk) ∧ W.cell? ⟨ba, oa + k * 4 + 1, none⟩ = some (.string xv) ∧ W.cell? ⟨ba, oa + k * 4 + 2, none⟩ = some (.bool xd) ∧ W.cell? ⟨ba, oa + k * 4 + 3, none⟩ = some (.int .i64 xs)) := fun W h => ⟨h, fun o => (h.cell (p := ⟨w1.heap.size, o, none⟩) nz0).trans (nc0 o), Below.cellSome h a0, Below.cellSome h a1, Below.cellSome h a2, Below.cellSome h a3⟩
        have HS := Lib.hid hS
        clear hS
        go_region_held3 (fun W => (Below wr.heap.size wr W ∧ (∀ o, W.cell? ⟨w1.heap.size, o, none⟩ = (#[.bool sa, .string sl, .bool sb] : Array Value)[o]?) ∧ W.cell? ⟨ba, oa + k * 4, none⟩ = some (.string xk) ∧ W.cell? ⟨ba, oa + k * 4 + 1, none⟩ = some (.string xv) ∧ W.cell? ⟨ba, oa + k * 4 + 2, none⟩ = some (.bool xd) ∧ W.cell? ⟨ba, oa + k * 4 + 3, none⟩ = some (.int .i64 xs)))
          (first
            | exact HS.out _ ((Below.refl _ _).drew)
            | exact HS.out _ hB2.out
            | exact HS.out _ (hB2.out.alloc hB2.out.size _)
            | exact HS.out _ (((hB2.out.setCell (p := ⟨wr.heap.size, 0, none⟩) (Nat.le_refl _) _).setCell (p := ⟨wr.heap.size, 1, none⟩) (Nat.le_refl _) _).setCell (p := ⟨wr.heap.size, 2, none⟩) (Nat.le_refl _) _)
            | exact HS.out _ ((Below.refl _ _).alloc (Nat.le_refl _) _).drew
            | (trace_state; fail))
          (first
            | (go_at_call 12; (with_reducible refine (refStepNew _ _ _ _ _ _ _ _ _ _ _ HN.out hst s1 s2).mono ?_); rintro e w2 ⟨rfl, b0, g0, x0, hb⟩; have hB2 := Lib.hid hb)
            | (go_at_call 12; (with_reducible refine (refStepAt _ _ _ _ _ _ _ _ _ HN.out hst s1 s2).mono ?_); rintro e w2 ⟨rfl, hb⟩; have hB2 := Lib.hid (Below.trans (And.left ‹Below wr.heap.size wr _ ∧ _›) (hb.mono (Below.size (And.left ‹Below wr.heap.size wr _ ∧ _›))))))
        all_goals
          have HW := Lib.hid hB2.out
          go_wp2
          go_ret3
          refine ⟨.slice none 0 0, _, _, k, .inr (.inl ⟨hl, hlt, rfl, E1.out.symm, HE'.out, HE.out⟩), rfl, ?_, ?_⟩
          · rw [outOf, if_neg HE'.out]
            exact ⟨none, 0, rfl, by simp, fun h => absurd rfl h⟩
          · refine (HBW.out.trans (Below.mono (B := wr.heap.size) ?_ HBW.out.size))
            repeat' (first | exact HW.out | with_reducible apply Below.setCell | with_reducible apply Below.alloc)
            all_goals first | exact HW.out.size | exact Nat.le_refl _
    · obtain rfl : k = l.length := by omega
      go_wp2
      go_ret3
      refine ⟨u8, 0, 0, l.length, .inr (.inr ⟨hl, rfl, rfl, rfl, HE.out⟩), rfl, ?_, HBW.out⟩
      rw [outOf, if_pos rfl]
      exact EntSl.of_owns HOWN.out
end Go.Proofs.Ytmegjnanieafbaa
