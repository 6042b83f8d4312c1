/-
  The walk through entries, with whatever is done with what becomes of each.
-/
import Derived.Test.YtmegjnanieafbaaShF
import Derived.Test.YtmegjnanieafbaaShSpec
namespace Go.Proofs.Ytmegjnanieafbaa
open Go.RowKit Bk

/-- What the caller's work on the world is worth: it is kept by whatever the walk does beside it. 'row': the block that the work owns beside those that were there. -/
structure Work (f : Nat) (cap : Value) (w : World) (I : List (Nat × Ent) → Option Nat → World → Prop) : Prop where
  call : ∀ args w, (callFunc f args).run Try.prog w = .ok (.enter f args) w
  keep : ∀ d row W W', I d row W → Below w.heap.size W W' → (∀ k, row = some k → W'.heap[k]? = W.heap[k]?) → I d row W'
  lt : ∀ d row W, I d row W → ∀ k, row = some k → w.heap.size ≤ k ∧ k < W.heap.size
  step : ∀ d row W n x, I d row W → n < 3 → d.length < 20000 → Calls Try.prog f #[fateVal n x, cap] W fun e W' => e = .returned (.tuple #[]) ∧
    ∃ row', I (d ++ [(n, x)]) row' W' ∧ (row' = row ∨ ∃ g, row' = some g ∧ W.heap.size ≤ g) ∧ W.heap.size ≤ W'.heap.size ∧ ∀ k, w.heap.size ≤ k → k < W.heap.size → some k ≠ row → W'.heap[k]? = W.heap[k]?

/-- How the walk ends. -/
def WalkPost (bot : Bool) (l : List Ent) (I : List (Nat × Ent) → Option Nat → World → Prop) (e : Ending) (w' : World) : Prop :=
  ∃ i E m row, WalkEnd bot l i E m ∧ e = .returned (.tuple #[.int .i64 i, .int .i64 E]) ∧ I (fatesTo bot l m) row w'

/-- What a block holds. -/
theorem blkAt {w : World} {b : Nat} {A : Array Value} {t : TypeId} (h : w.heap[b]? = some (.cells A t (0, 0))) : (∀ o, w.cell? ⟨b, o, none⟩ = A[o]?) ∧ (∀ o, w.frozen? ⟨b, o, none⟩ = false) ∧ b < w.heap.size :=
  ⟨fun o => by simp [World.cell?, h], fun o => by simp [World.frozen?, h], lt_of_block h⟩
def Sh.arr (s : Sh) : Array Value := #[.bool s.some, .string s.last, .bool s.bottom]
theorem next_err {a b d : Bool} {l k v : ByteArray} {s : Int} (h : ¬ stepErr ⟨a, l, b⟩ ⟨k, v, d, s⟩ = 0) : nextVal ⟨a, l, b⟩ ⟨k, v, d, s⟩ = .tuple #[.nilIface, .agg #[.bool false, .string ⟨#[]⟩, .bool false], .int .i64 (stepErr ⟨a, l, b⟩ ⟨k, v, d, s⟩)] := by
  rw [nextVal, if_neg h]; rfl
theorem next_fine {a b d : Bool} {l k v : ByteArray} {s : Int} (h : stepErr ⟨a, l, b⟩ ⟨k, v, d, s⟩ = 0) : nextVal ⟨a, l, b⟩ ⟨k, v, d, s⟩ = .tuple #[fateVal (fateOf ⟨a, l, b⟩ ⟨k, v, d, s⟩) ⟨k, v, d, s⟩, .agg #[.bool true, .string k, .bool b], .int .i64 0] := by
  rw [nextVal, if_pos h]; rfl
theorem begin_cells (b : Bool) (w : World) : Calls Try.prog 13 #[.bool b] w fun e w' => e = .returned (.agg #[.bool false, .string ⟨#[]⟩, .bool b]) ∧ Below w.heap.size w w' := beginAny b w

set_option maxHeartbeats 1000000 in
theorem walkLong (l : List Ent) (a : Option Addr) (cap : Nat) (bot : Bool) (fv : Value) (w : World) (hl : l.length ≤ 9223372036854775807) (hL : 20000 < l.length) :
    Calls Try.prog 29 #[.slice a l.length cap, .bool bot, fv] w fun e w' => e = .returned (.tuple #[.int .i64 (-1), .int .i64 3]) ∧ w = w' := by
  have h2 : (20000 : Int) < (l.length : Int) := by omega
  go_enter Try.func29, Try.ntmps29
  go_wp2
  go_ret2
  exact ⟨rfl, rfl⟩

set_option maxHeartbeats 1000000 in
theorem walkFull (l : List Ent) (ba oa ca : Nat) (bot : Bool) (f : Nat) (cap : Value) (w : World) (I : List (Nat × Ent) → Option Nat → World → Prop) (hI : Work f cap w I) (h0 : I [] none w) (hl : l.length ≤ 20000) (hok : ∀ x ∈ l, x.ok)
   (hba : ∀ W d row, I d row W → ∀ i x, l[i]? = some x → EntAt W ba (oa + i * 4) x) :
    Calls Try.prog 29 #[.slice (some ⟨ba, oa, none⟩) l.length ca, .bool bot, .func (.func f) #[] #[cap]] w (WalkPost bot l I) := by
  have hcf := hI.call
  have H0 := Lib.hid h0
  have HOK := Lib.hid hok
  have HB := Lib.hid hba
  have HI := Lib.hid hI
  clear h0 hok hba hI
  have h2 : (l.length : Int) ≤ 20000 := by omega
  go_enter Try.func29, Try.ntmps29
  go_wp2_with (go_at_call 13; refine (begin_cells _ _).mono ?_; rintro e w1 ⟨rfl, hb⟩)
  have hw1 : w.heap.size ≤ w1.heap.size := hb.size
  have HBelow := Lib.hid hb
  clear hb
  go_loopw [21] (fun t wr => ∃ (k : Nat) (row : Option Nat), k ≤ l.length ∧ t = .int .i64 k ∧ I (fatesTo bot l k) row wr ∧ wr.heap[w1.heap.size]? = some (.cells (Sh.arr (stAt bot l k)) 23 (0, 0)) ∧ row ≠ some w1.heap.size ∧ Hid (∀ j, j < k → errAt bot l j = 0)) (fun t _ => l.length - (intOf t).toNat)
  case atStart =>
    refine ⟨0, none, Nat.zero_le _, rfl, ?_, ?_, by simp, Lib.hid fun j hj => absurd hj (by omega)⟩
    · exact HI.out.keep _ _ _ _ H0.out (HBelow.out.trans ((Below.refl _ _).alloc hw1 _)) (fun k hk => by cases hk)
    · exact heap_alloc_new w1 _
  case round =>
    obtain ⟨k, row, hk, rfl, hIr, hnb, hrow, HE⟩ := hrel
    have HIr := Lib.hid hIr
    have HROW := Lib.hid hrow
    have HNB := Lib.hid hnb
    by_cases hlt : k < l.length
    · have hx' : l[k]? = some l[k] := List.getElem?_eq_getElem hlt
      have a0 := HB.out wr _ _ hIr k _ hx'
      have hs := HOK.out l[k] (List.getElem_mem hlt)
      have e1 := errAt_some (bot := bot) hx'
      have e2 := fatesTo_succ (bot := bot) hx'
      have e3 := stAt_some (bot := bot) hx'
      have hst := stAt_ok (bot := bot) HOK.out k
      have hbot := stAt_bot bot l k
      obtain ⟨nc0, nf0, nz0⟩ := blkAt hnb
      clear hx' hnb hIr hrow
      revert a0 hs e1 e2 e3 hst hbot nc0 HNB
      generalize l[k] = x
      generalize stAt bot l k = st
      obtain ⟨xk, xv, xd, xs⟩ := x
      obtain ⟨sa, sl, sb⟩ := st
      rintro HNB ⟨a0, a1, a2, a3⟩ ⟨s1, s2⟩ e1 e2 e3 hst rfl nc0
      simp only [Sh.arr] at nc0
      have E1 := Lib.hid e1
      have E2 := Lib.hid e2
      have E3 := Lib.hid e3
      have i0 : (0 : Int) ≤ (k : Int) := by omega
      have i1 : (k : Int) < (l.length : Int) := by omega
      clear e1 e2 e3
      by_cases hE : stepErr ⟨sa, sl, sb⟩ ⟨xk, xv, xd, xs⟩ = 0
      · have HN := Lib.hid (next_fine hE)
        have hn := fate_cases ⟨sa, sl, sb⟩ ⟨xk, xv, xd, xs⟩
        have HZ := Lib.hid hE
        clear hE
        revert HN E2 hn
        generalize fateOf ⟨sa, sl, sb⟩ ⟨xk, xv, xd, xs⟩ = n
        intro E2 HN hn
        have HF : ∃ c, Hid (c = fateVal n ⟨xk, xv, xd, xs⟩) := ⟨_, Lib.hid rfl⟩
        obtain ⟨c, HF⟩ := HF
        rw [← HF.out] at HN
        go_wp2_with (go_at_call 26; refine (nextAt _ _ _ _ _ _ _ _ _ HN.out hst s1 s2).mono ?_; rintro e w2 ⟨rfl, hb⟩)
        obtain ⟨b0, g0, x0, hb0⟩ := own1 hb
        have hz2 : wr.heap.size ≤ w2.heap.size := hb0.size
        have hI3 : I (fatesTo sb l k) row (w2.alloc (.cells #[.bool true, .string xk, .bool sb] 23)) := by
          have hbB : Below wr.heap.size wr (w2.alloc (.cells #[.bool true, .string xk, .bool sb] 23)) := hb0.alloc hz2 _
          refine HI.out.keep _ _ _ _ HIr.out (hbB.mono (by omega)) (fun j hj => hbB.block j (HI.out.lt _ _ _ HIr.out j hj).2)
        have hstep := HI.out.step _ _ _ n ⟨xk, xv, xd, xs⟩ hI3 (by omega) (by rw [fatesTo_length _ _ _ hk]; omega)
        rw [← HF.out] at hstep
        refine hstep.mono ?_
        rintro e W' ⟨rfl, row', hI', hrow', hsz', hother⟩
        have hsz : w2.heap.size + 1 ≤ W'.heap.size := by simpa using hsz'
        have hrlt : ∀ j, row = some j → j < wr.heap.size := fun j hj => (HI.out.lt _ _ _ HIr.out j hj).2
        have hT : W'.heap[w2.heap.size]? = some (.cells #[.bool true, .string xk, .bool sb] 23 (0, 0)) :=
          (hother _ (by omega) (by simp) (fun e => by have := hrlt _ e.symm; omega)).trans (heap_alloc_new w2 _)
        have hN : W'.heap[w1.heap.size]? = some (.cells #[.bool sa, .string sl, .bool sb] 23 (0, 0)) := by
          rw [hother _ (by omega) (by simp; omega) (fun e => HROW.out e.symm), Below.heap_alloc _ _ _ (by omega), hb0.block _ (by omega)]
          exact HNB.out
        have HI' := Lib.hid hI'
        have HR' : Hid (row' ≠ some w1.heap.size) := by
          rcases hrow' with rfl | ⟨g, rfl, hg⟩
          · exact HROW.out
          · have hg' : w2.heap.size + 1 ≤ g := by simpa using hg
            exact fun e => by have := Option.some.inj e; omega
        have HOT := Lib.hid hother
        have HRW := Lib.hid hrow'
        have HN2 := Lib.hid hN
        obtain ⟨t0, tf, tz⟩ := blkAt hT
        obtain ⟨n0, nf, nz⟩ := blkAt hN
        clear hT hN hI' hrow' hother hstep hI3 hsz' hb b0 g0 x0 hrlt
        go_wp2
        go_roundw
        case rel =>
          refine ⟨k + 1, row', by omega, by go_num, ?_, ?_, HR'.out, Lib.hid fun j hj => ?_⟩
          · rw [E2.out]
            refine HI.out.keep _ _ _ _ HI'.out ((((Below.refl _ _).setCell (p := ⟨w1.heap.size, 0, none⟩) hw1 _).setCell (p := ⟨w1.heap.size, 1, none⟩) hw1 _).setCell (p := ⟨w1.heap.size, 2, none⟩) hw1 _) (fun j hj => ?_)
            have : j ≠ w1.heap.size := fun e => HR'.out (by rw [hj, e])
            rw [Below.heap_setCell _ _ _ _ this, Below.heap_setCell _ _ _ _ this, Below.heap_setCell _ _ _ _ this]
          · rw [E3.out]
            exact three_setCell (three_setCell (three_setCell HN2.out 0) 1) 2
          · by_cases e : j = k
            · subst e; rw [E1.out]; exact HZ.out
            · exact HE.out j (by omega)
        case measure => simp [intOf]; omega
      · have hne : (stepErr ⟨sa, sl, sb⟩ ⟨xk, xv, xd, xs⟩ != 0) = true := by simpa using hE
        have HN := Lib.hid (next_err hE)
        have HE' := Lib.hid hE
        clear hE
        go_wp2_with (go_at_call 26; refine (nextAt _ _ _ _ _ _ _ _ _ HN.out hst s1 s2).mono ?_; rintro e w2 ⟨rfl, hb⟩)
        go_ret2
        obtain ⟨b0, g0, x0, hb0⟩ := own1 hb
        refine ⟨_, _, k, row, .inr (.inl ⟨hl, hlt, rfl, E1.out.symm, HE'.out, HE.out⟩), rfl, ?_⟩
        have hbB : Below wr.heap.size wr (w2.alloc (.cells #[.bool false, .string ⟨#[]⟩, .bool false] 23)) := hb0.alloc hb0.size _
        exact HI.out.keep _ _ _ _ HIr.out (hbB.mono (by omega)) (fun j hj => hbB.block j (HI.out.lt _ _ _ HIr.out j hj).2)
    · obtain rfl : k = l.length := by omega
      go_wp2
      go_ret2
      exact ⟨0, 0, l.length, row, .inr (.inr ⟨hl, rfl, rfl, rfl, HE.out⟩), rfl, HIr.out⟩
end Go.Proofs.Ytmegjnanieafbaa
