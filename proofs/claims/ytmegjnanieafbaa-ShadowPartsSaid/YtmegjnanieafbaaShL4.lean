/-
  The statement ShadowParts: its walk.
-/
import Derived.Test.YtmegjnanieafbaaShL7
import Derived.Test.YtmegjnanieafbaaShZ
namespace Go.Proofs.Ytmegjnanieafbaa
open Go.RowKit Bk

theorem stepPNew (a b d : Bool) (l k v : ByteArray) (s : Int) (w : World) (A : Array Value) (t : TypeId) (r : Value) (hr : stepVal ⟨a, l, b⟩ ⟨k, v, d, s⟩ = r) (hl : l.size ≤ maxLen) (hk : k.size ≤ maxLen) (hv : v.size ≤ maxLen) :
    Calls Try.prog 11 #[.agg #[.bool a, .string l, .bool b], .agg #[.string k, .string v, .bool d, .int .i64 s]] (w.alloc (.cells A t)).drew fun e w' => e = .returned r ∧
      (∀ o, w'.cell? ⟨w.heap.size, o, none⟩ = A[o]?) ∧ (∀ o, w'.frozen? ⟨w.heap.size, o, none⟩ = false) ∧ w.heap.size < w'.heap.size ∧ Below w.heap.size w w' :=
  (hr ▸ stepAny a b d l k v s _ hl hk hv).mono fun _ _ ⟨he, hb⟩ => ⟨he, own1d hb⟩
theorem stepPAt (a b d : Bool) (l k v : ByteArray) (s : Int) (w : World) (r : Value) (hr : stepVal ⟨a, l, b⟩ ⟨k, v, d, s⟩ = r) (hl : l.size ≤ maxLen) (hk : k.size ≤ maxLen) (hv : v.size ≤ maxLen) :
    Calls Try.prog 11 #[.agg #[.bool a, .string l, .bool b], .agg #[.string k, .string v, .bool d, .int .i64 s]] w fun e w' => e = .returned r ∧ Below w.heap.size w w' := hr ▸ stepAny a b d l k v s w hl hk hv

theorem chkOk (k : ByteArray) (b : Bool) (w : World) (h : shErr ⟨true, k, b⟩ = 0) (hl : k.size ≤ maxLen) :
    Calls Try.prog 15 #[.agg #[.bool true, .string k, .bool b]] w fun e w' => e = .returned (.int .i64 0) ∧ Below w.heap.size w w' :=
  h ▸ shadowCheck true k b w hl

set_option maxRecDepth 100000 in
set_option maxHeartbeats 4000000 in
theorem lawParts {l : List Ent} {v : Value} (bot : Bool) (w : World) (hok : ∀ x ∈ l, x.ok) (hv : EntSl w v l) :
    Calls Try.prog 6 #[v, .bool bot] w fun e w' => e = .returned (.bool true) ∧ Below w.heap.size w w' := by
  have HV := Lib.hid hv
  have HO := Lib.hid hok
  clear hok hv
  go_enter Try.func6, Try.ntmps6
  go_wp2_with (fail)
  refine (farAny w HO.out HV.out).mono ?_
  rintro e w' ⟨bb, rfl, rfl⟩
  cases bb
  · go_wp2_with (fail)
    refine (filterAny bot w HO.out HV.out).mono ?_
    rintro e w1 ⟨a, i, E, m, hend, rfl, ha, hb1⟩
    have HE := Lib.hid hend
    clear hend
    by_cases hE : E = 0
    · subst hE
      obtain ⟨rfl, rfl, hlen⟩ := walk_full HE.out
      obtain ⟨p1, p2⟩ := again_all (walk_zero HE.out) hlen
      have hoa := kept_ok (bot := bot) HO.out l.length
      have ha' : EntSl w1 a (keptOf (fatesTo bot l l.length)) := ha
      have HOA := Lib.hid hoa
      have P1 := Lib.hid p1
      have P2 : Hid (outOf bot (keptOf (fatesTo bot l l.length)) 0 (keptOf (fatesTo bot l l.length)).length = keptOf (fatesTo bot l l.length)) := p2
      clear p1 p2 hoa ha
      go_wp2_with (fail)
      refine (filterAny bot w1 HOA.out ha').mono ?_
      rintro e w2 ⟨b, i2, E2, m2, hend2, rfl, hb, hb2⟩
      obtain ⟨rfl, rfl, rfl⟩ := P1.out.inj hend2
      rw [P2.out] at hb
      have hB2 := Below.old hb1 hb2
      have ha2 := ha'.mono hb2
      clear hend2 hb1 hb2 ha'
      go_wp2_with (fail)
      refine (sameTrue _ hb ha2).mono ?_
      rintro e w3 ⟨rfl, hb3⟩
      have hB3 := Below.old hB2 hb3
      have ha3 := ha2.mono hb3
      have HA3 := Lib.hid ha3
      have HWE := Lib.hid (walk_zero HE.out)
      have HLEN := Lib.hid hlen
      clear ha2 hb hB2 hb3 HOA P1 P2 ha3
      have hv3 := HV.out.mono hB3
      have HV3 := Lib.hid hv3
      obtain ⟨va, vc, rfl, hvl, hvA⟩ := hv3
      have HVA := Lib.hid hvA
      clear hvA HV
      go_wp2_with (fail)
      refine (beginAny _ _).mono ?_
      rintro e w4 ⟨rfl, hb4⟩
      have hB4 := Below.old hB3 hb4
      have HB43 := Lib.hid hb4
      clear hb4 hB3
      have hw4 : w.heap.size ≤ w4.heap.size := hB4.size
      have HBelow := Lib.hid hB4
      clear hB4
      obtain ⟨q0, hi, hz0, hz1, hz2⟩ := info_parts info25
      go_wp2_with (fail)
      go_loopw [12, 13] (fun u t wr => ∃ (k : Nat), k ≤ l.length ∧ t = .int .i64 k ∧ wr.ownsRow (w4.heap.size + 1) 25 4 u (keptOf (fatesTo bot l k)).length (entsCells (keptOf (fatesTo bot l k))) ∧ wr.heap[w4.heap.size]? = some (.cells (Sh.arr (stAt bot l k)) 23 (0, 0)) ∧ Below w4.heap.size w4 wr) (fun _ t _ => l.length - (intOf t).toNat)
      case atStart =>
        refine ⟨0, Nat.zero_le _, rfl, World.ownsRow_nil _ _ _ _, heap_alloc_new w4 _, (Below.refl _ _).alloc (Nat.le_refl _) _⟩
      case round =>
        obtain ⟨k, hk, rfl, hown, hnb, hbw⟩ := hrel
        have HOWN := Lib.hid hown
        have HNB := Lib.hid hnb
        have HBW := Lib.hid hbw
        by_cases hlt : k < l.length
        · have hx' : l[k]? = some l[k] := List.getElem?_eq_getElem hlt
          obtain ⟨ba, oa, rfl, hva⟩ := HVA.out (fun e => by subst e; simp at hlt)
          have a0 := ((hva _ _ hx').mono HB43.out).mono hbw
          have hs := HO.out l[k] (List.getElem_mem hlt)
          have e1 := errAt_some (bot := bot) hx'
          rw [HWE.out k hlt] at e1
          have e2 := fatesTo_succ (bot := bot) hx'
          have e3 := stAt_some (bot := bot) hx'
          have hst := stAt_ok (bot := bot) HO.out k
          have hbot := stAt_bot bot l k
          obtain ⟨nc0, nf0, nz0⟩ := blkAt hnb
          clear hx' hnb hown hbw hva
          revert a0 hs e1 e2 e3 hst hbot nc0 HNB
          generalize l[k] = x
          generalize stAt bot l k = st
          obtain ⟨xk, xv, xd, xs⟩ := x
          obtain ⟨sa, sl, sb⟩ := st
          rintro HNB ⟨a0, a1, a2, a3⟩ ⟨s1, s2⟩ e1 e2 e3 hst rfl nc0
          simp only [Sh.arr] at nc0
          have hchk : shErr ⟨true, xk, sb⟩ = 0 := sh_key _ (ent_key (step_parts e1.symm).2.1)
          have HCHK := Lib.hid hchk
          have HN := Lib.hid (step_fine e1.symm)
          have E2 := Lib.hid e2
          have E3 := Lib.hid e3
          have i0 : (0 : Int) ≤ (k : Int) := by omega
          have i1 : (k : Int) < (l.length : Int) := by omega
          clear e1 e2 e3 hchk
          go_upto_region 14 with (fail)
          go_cut [14, 15, 16] (fun s14 s15 s16 wx => s14 = .bool (fateOf ⟨sa, sl, sb⟩ ⟨xk, xv, xd, xs⟩ == 0) ∧ s16 = .int .i64 0 ∧ ∃ g : Nat, s15 = .pointer (some ⟨g, 0, none⟩) ∧ wr.heap.size ≤ g ∧ g < wx.heap.size ∧ (∀ o, wx.cell? ⟨g, o, none⟩ = (#[.bool true, .string xk, .bool sb] : Array Value)[o]?) ∧ Below wr.heap.size wr wx)
          case first =>
            have hS : ∀ W, Below wr.heap.size wr W → (Below wr.heap.size wr W ∧ (∀ o, W.cell? ⟨w4.heap.size, o, none⟩ = (#[.bool sa, .string sl, .bool sb] : Array Value)[o]?) ∧ W.cell? ⟨ba, oa + k * 4, none⟩ = some (.string xk) ∧ W.cell? ⟨ba, oa + k * 4 + 1, none⟩ = some (.string xv) ∧ W.cell? ⟨ba, oa + k * 4 + 2, none⟩ = some (.bool xd) ∧ W.cell? ⟨ba, oa + k * 4 + 3, none⟩ = some (.int .i64 xs)) := fun W h => ⟨h, fun o => (h.cell (p := ⟨w4.heap.size, o, none⟩) nz0).trans (nc0 o), Below.cellSome h a0, Below.cellSome h a1, Below.cellSome h a2, Below.cellSome h a3⟩
            have HS := Lib.hid hS
            clear hS
            go_region_held3 (fun W => (Below wr.heap.size wr W ∧ (∀ o, W.cell? ⟨w4.heap.size, o, none⟩ = (#[.bool sa, .string sl, .bool sb] : Array Value)[o]?) ∧ W.cell? ⟨ba, oa + k * 4, none⟩ = some (.string xk) ∧ W.cell? ⟨ba, oa + k * 4 + 1, none⟩ = some (.string xv) ∧ W.cell? ⟨ba, oa + k * 4 + 2, none⟩ = some (.bool xd) ∧ W.cell? ⟨ba, oa + k * 4 + 3, none⟩ = some (.int .i64 xs)))
              (first
                | exact HS.out _ ((Below.refl _ _).drew)
                | exact HS.out _ hB2.out
                | exact HS.out _ (hB2.out.alloc hB2.out.size _)
                | exact HS.out _ (((hB2.out.setCell (p := ⟨wr.heap.size, 0, none⟩) (Nat.le_refl _) _).setCell (p := ⟨wr.heap.size, 1, none⟩) (Nat.le_refl _) _).setCell (p := ⟨wr.heap.size, 2, none⟩) (Nat.le_refl _) _)
                | exact HS.out _ ((Below.refl _ _).alloc (Nat.le_refl _) _).drew
                | (trace_state; fail))
              (first
                | (go_at_call 11; (with_reducible refine (stepPNew _ _ _ _ _ _ _ _ _ _ _ HN.out hst s1 s2).mono ?_); rintro e w2 ⟨rfl, b0, g0, x0, hb⟩; have hB2 := Lib.hid hb)
                | (go_at_call 11; (with_reducible refine (stepPAt _ _ _ _ _ _ _ _ _ HN.out hst s1 s2).mono ?_); rintro e w2 ⟨rfl, hb⟩; have hB2 := Lib.hid (Below.trans (And.left ‹Below wr.heap.size wr _ ∧ _›) (hb.mono (Below.size (And.left ‹Below wr.heap.size wr _ ∧ _›))))))
            · go_wp2_with (fail)
              go_meet
              exact ⟨rfl, rfl, _, rfl, hB2.out.size, by simp, newCell _ _ _, hB2.out.alloc hB2.out.size _⟩
            · go_wp2_with (fail)
              go_meet
              exact ⟨rfl, rfl, _, rfl, Nat.le_refl _, by simp [World.setCell]; exact x0, cellSet (cellSet (cellSet b0 0 _) 1 _) 2 _, ((hB2.out.setCell (p := ⟨wr.heap.size, 0, none⟩) (Nat.le_refl _) _).setCell (p := ⟨wr.heap.size, 1, none⟩) (Nat.le_refl _) _).setCell (p := ⟨wr.heap.size, 2, none⟩) (Nat.le_refl _) _⟩
          case rest =>
            obtain ⟨rfl, rfl, g, rfl, hg1, hg2, t0, hBW⟩ := hcut
            have a0' := Below.cellSome hBW a0
            have a1' := Below.cellSome hBW a1
            have a2' := Below.cellSome hBW a2
            have a3' := Below.cellSome hBW a3
            clear a0 a1 a2 a3 nc0 nf0
            go_upto_region 15 with (fail)
            go_cut [14, 90] (fun s14 s90 wx => s14 = .bool (fateOf ⟨sa, sl, sb⟩ ⟨xk, xv, xd, xs⟩ == 0) ∧ s90 = .bool false ∧ Below wc.heap.size wc wx)
            case first =>
              have hS : ∀ W, Below wc.heap.size wc W → (Below wc.heap.size wc W ∧ (W.cell? ⟨g, 0, none⟩ = some (.bool true) ∧ W.cell? ⟨g, 1, none⟩ = some (.string xk) ∧ W.cell? ⟨g, 2, none⟩ = some (.bool sb)) ∧ W.cell? ⟨ba, oa + k * 4, none⟩ = some (.string xk)) := fun W h => ⟨h, ⟨Below.cellSome h (t0 0), Below.cellSome h (t0 1), Below.cellSome h (t0 2)⟩, Below.cellSome h a0'⟩
              have HS := Lib.hid hS
              clear hS
              go_region_held3 (fun W => (Below wc.heap.size wc W ∧ (W.cell? ⟨g, 0, none⟩ = some (.bool true) ∧ W.cell? ⟨g, 1, none⟩ = some (.string xk) ∧ W.cell? ⟨g, 2, none⟩ = some (.bool sb)) ∧ W.cell? ⟨ba, oa + k * 4, none⟩ = some (.string xk)))
                (first
                  | exact HS.out _ ((Below.refl _ _).drew)
                  | exact HS.out _ hB2.out
                  | (trace_state; fail))
                (first
                  | (go_at_call 15; (with_reducible refine (chkOk _ _ _ HCHK.out s1).mono ?_); rintro e w2 ⟨rfl, hb⟩; have hB2 := Lib.hid (Below.trans (And.left ‹Below wc.heap.size wc _ ∧ _›) (hb.mono (Below.size (And.left ‹Below wc.heap.size wc _ ∧ _›))))))
              all_goals
                go_wp2_with (fail)
                go_meet
                first
                  | exact ⟨rfl, rfl, hB2.out⟩
                  | (trace_state; fail)
            case rest =>
              obtain ⟨rfl, rfl, hB2⟩ := hcut
              have hBX := hBW.trans (hB2.mono hBW.size)
              have t1 : ∀ o, wc.cell? ⟨g, o, none⟩ = (#[.bool true, .string xk, .bool sb] : Array Value)[o]? := fun o => (hB2.cell (p := ⟨g, o, none⟩) hg2).trans (t0 o)
              have b0' := Below.cellSome hB2 a0'
              have b1' := Below.cellSome hB2 a1'
              have b2' := Below.cellSome hB2 a2'
              have b3' := Below.cellSome hB2 a3'
              have hg3 : g < wc.heap.size := Nat.lt_of_lt_of_le hg2 hB2.size
              have hown' : wc.ownsRow (w4.heap.size + 1) 25 4 u12 (keptOf (fatesTo sb l k)).length (entsCells (keptOf (fatesTo sb l k))) := owns_same HOWN.out (fun j hj => hBX.block j (HOWN.out.lt j hj).2)
              have HOW := Lib.hid hown'
              have hnbW : wc.heap[w4.heap.size]? = some (.cells #[.bool sa, .string sl, .bool sb] 23 (0, 0)) := (hBX.block _ nz0).trans HNB.out
              obtain ⟨nc1, nf1, nz1⟩ := blkAt hnbW
              have HNW := Lib.hid hnbW
              have HBX := Lib.hid hBX
              clear hown' hnbW a0' a1' a2' a3' t0 hBW hB2 hBX hg2
              cases hf : (fateOf ⟨sa, sl, sb⟩ ⟨xk, xv, xd, xs⟩ == 0)
              · have hf' : ¬ fateOf ⟨sa, sl, sb⟩ ⟨xk, xv, xd, xs⟩ = 0 := by simpa using hf
                have HF := Lib.hid hf'
                clear hf hf'
                go_wp2_with (fail)
                go_roundw
                case rel =>
                  refine ⟨k + 1, by omega, by go_num, ?_, ?_, ?_⟩
                  · rw [E2.out, keptOf_snoc, if_neg HF.out]
                    exact owns_same HOW.out (fun j hj => by
                      have := (HOW.out.lt j hj).1
                      rw [Below.heap_setCell _ _ _ _ (by simp; omega), Below.heap_setCell _ _ _ _ (by simp; omega), Below.heap_setCell _ _ _ _ (by simp; omega)])
                  · rw [E3.out]
                    exact three_setCell (three_setCell (three_setCell HNW.out 0) 1) 2
                  · exact (((HBW.out.trans (HBX.out.mono HBW.out.size)).setCell (p := ⟨w4.heap.size, 0, none⟩) (Nat.le_refl _) _).setCell (p := ⟨w4.heap.size, 1, none⟩) (Nat.le_refl _) _).setCell (p := ⟨w4.heap.size, 2, none⟩) (Nat.le_refl _) _
                case measure => simp [intOf]; omega
              · have hf' : fateOf ⟨sa, sl, sb⟩ ⟨xk, xv, xd, xs⟩ = 0 := by simpa using hf
                have HF := Lib.hid hf'
                clear hf hf'
                have hkl : (keptOf (fatesTo sb l k)).length ≤ k := by have := keptOf_length (fatesTo sb l k); rw [fatesTo_length _ _ _ hk] at this; omega
                go_wp2_with (at_builtin; go_loud (refine wpList_append_lies _ rfl (.tmp 92) (.tmp 97) 33 rfl (w4.heap.size + 1) 25 q0 (.agg #[.string ⟨#[]⟩, .string ⟨#[]⟩, .bool false, .int .i64 0]) 4 48 Try.underlying33 hi hz0 hz1 hz2 rfl (by decide) _ _ _ rfl (HOW.out.alloc _) ⟨wc.heap.size, 0, none⟩ 1 1 (entsCells [⟨xk, xv, xd, xs⟩]) rfl rfl (World.news_of_block (heap_alloc_new wc _)) (entsCells_one _) (by decide) (by unfold maxLen; omega) (by omega) (by simp; omega) _ rfl ?_))
                rintro gg cp w5 hown3 hgrow hat hlt3
                have hne3 : ∀ j, u12.ownBlock = some j → w4.heap.size < j := fun j hj => (HOW.out.lt j hj).1
                have hsz := HBX.out.size
                have far : ∀ j, j < wc.heap.size → some j ≠ u12.ownBlock → w5.heap[j]? = wc.heap[j]? := fun j hj hj2 => (hgrow.block j (by simp; omega) hj2).trans (Below.heap_alloc _ _ _ hj)
                have hnb3 : w5.heap[w4.heap.size]? = some (.cells #[.bool sa, .string sl, .bool sb] 23 (0, 0)) := (far _ nz1 (fun e => by have := hne3 _ e.symm; omega)).trans HNW.out
                have hB3 : Below w4.heap.size w4 w5 := (HBW.out.trans (HBX.out.mono HBW.out.size)).trans (Below.grown (row := u12.ownBlock) ((Below.refl _ wc).alloc (by have := HBW.out.size; omega) _) hgrow (by simp; have := HBW.out.size; omega) (fun j hj => by have := hne3 j hj; omega))
                have t3 : ∀ o, w5.cell? ⟨g, o, none⟩ = (#[.bool true, .string xk, .bool sb] : Array Value)[o]? := fun o => (World.cell?_of_block (w := wc) (w' := w5) (a := ⟨g, o, none⟩) (far g hg3 (fun e => by have := (HOWN.out.lt _ e.symm).2; omega))).trans (t1 o)
                obtain ⟨n0, nf, nz⟩ := blkAt hnb3
                have HN3 := Lib.hid hnb3
                have HO3 := Lib.hid hown3
                have HB3 := Lib.hid hB3
                clear hnb3 hown3 hB3 far hne3 hgrow hat hlt3 t1
                go_wp2_with (fail)
                go_roundw
                case rel =>
                  refine ⟨k + 1, by omega, by go_num, ?_, ?_, ?_⟩
                  · rw [E2.out, keptOf_snoc, if_pos HF.out, List.length_append, entsCells_append]
                    have hlow := HO3.out.lt gg rfl
                    exact owns_same HO3.out (fun j hj => by
                      obtain rfl : gg = j := by simpa [Value.ownBlock] using hj
                      rw [Below.heap_setCell _ _ _ _ (by simp; omega), Below.heap_setCell _ _ _ _ (by simp; omega), Below.heap_setCell _ _ _ _ (by simp; omega)])
                  · rw [E3.out]
                    exact three_setCell (three_setCell (three_setCell HN3.out 0) 1) 2
                  · exact ((HB3.out.setCell (p := ⟨w4.heap.size, 0, none⟩) (Nat.le_refl _) _).setCell (p := ⟨w4.heap.size, 1, none⟩) (Nat.le_refl _) _).setCell (p := ⟨w4.heap.size, 2, none⟩) (Nat.le_refl _) _
                case measure => simp [intOf]; omega
        · obtain rfl : k = l.length := by omega
          go_wp2_with (fail)
          have hsl := EntSl.of_owns HOWN.out
          have ha4 := (HA3.out.mono HB43.out).mono HBW.out
          refine (sameTrue _ hsl ha4).mono ?_
          rintro e w5 ⟨rfl, hb5⟩
          clear hsl ha4
          go_wp2_with (go_at_call 10; refine (awakeAny _).mono ?_; rintro e w6 ⟨rfl, hb6⟩)
          go_ret
          exact ⟨rfl, Below.old (Below.old (HBelow.out.trans (HBW.out.mono hw4)) hb5) hb6⟩
    · have hne : (E != 0) = true := by simpa using hE
      clear hE
      go_wp2_with (go_at_call 10; refine (awakeAny _).mono ?_; rintro e w6 ⟨rfl, hb6⟩)
      go_ret
      exact ⟨rfl, Below.old hb1 hb6⟩
  · go_wp2_with (go_at_call 10; refine (awakeAny _).mono ?_; rintro e w6 ⟨rfl, hb6⟩)
    go_ret
    exact ⟨rfl, hb6⟩
end Go.Proofs.Ytmegjnanieafbaa
