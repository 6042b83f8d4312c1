/-
  The examples in the program: they come out as the document says.
-/
import Derived.Test.YtmegjnanieafbaaShI
import Derived.Test.YtmegjnanieafbaaShX
import Derived.Test.YtmegjnanieafbaaShK
import Derived.Deep.DeepCutAuto
namespace Go.Proofs.Ytmegjnanieafbaa
open Go.RowKit Bk

/-- A slice with known cells, its block a letter. -/
def ExSl (w : World) (v : Value) : Prop := ∃ b, v = .slice (some ⟨b, 0, none⟩) 5 5 ∧ ∀ i x, exL[i]? = some x → EntAt w b (0 + i * 4) x
theorem ExSl.sl {w : World} {v : Value} (h : ExSl w v) : EntSl w v exL := by
  obtain ⟨b, rfl, h⟩ := h
  exact ⟨_, 5, rfl, by simp [exL], fun _ => ⟨b, 0, rfl, h⟩⟩
def SomeEx (w : World) (e : Ending) (w' : World) : Prop := ∃ v, e = .returned v ∧ ExSl w' v ∧ Below w.heap.size w w'

set_option maxHeartbeats 1000000 in
theorem exampleAny (w : World) : Calls Try.prog 25 #[] w (SomeEx w) := by
  go_enter Try.func25, Try.ntmps25
  go_wp2
  go_ret
  refine ⟨_, rfl, ⟨w.heap.size, rfl, fun i x hx => ?_⟩, (Below.refl _ _).alloc (Nat.le_refl _) _⟩
  have hi : i < 5 := by have := (List.getElem?_eq_some_iff.1 hx).1; simpa [exL] using this
  refine ⟨(newCell _ _ _ _).trans ?_, (newCell _ _ _ _).trans ?_, (newCell _ _ _ _).trans ?_, (newCell _ _ _ _).trans ?_⟩
  all_goals
    match i, hi, hx with
    | 0, _, hx => obtain rfl : x0 = x := by simpa [exL] using hx
                  rfl
    | 1, _, hx => obtain rfl : x1 = x := by simpa [exL] using hx
                  rfl
    | 2, _, hx => obtain rfl : x2 = x := by simpa [exL] using hx
                  rfl
    | 3, _, hx => obtain rfl : x3 = x := by simpa [exL] using hx
                  rfl
    | 4, _, hx => obtain rfl : x4 = x := by simpa [exL] using hx
                  rfl

theorem filterEx {v : Value} (bot : Bool) (w : World) (hv : ExSl w v) :
    Calls Try.prog 18 #[v, .bool bot] w fun e w' => ∃ a, e = .returned (.tuple #[a, .int .i64 0, .int .i64 0]) ∧ EntSl w' a (keptOf (fatesTo bot exL 5)) ∧ Below w.heap.size w w' := by
  refine (filterAny bot w exOk hv.sl).mono ?_
  rintro e w' ⟨a, i, E, m, hend, rfl, h1, h2⟩
  obtain ⟨rfl, rfl, rfl⟩ := (exEnd bot).inj hend
  exact ⟨a, rfl, h1, h2⟩
theorem countEx {v : Value} (w : World) (hv : ExSl w v) :
    Calls Try.prog 20 #[v, .bool true] w fun e w' => e = .returned (.tuple #[.agg #[.int .i64 2, .int .i64 2, .int .i64 1], .int .i64 0, .int .i64 0]) ∧ Below w.heap.size w w' := by
  refine (countAny true w exOk hv.sl).mono ?_
  rintro e w' ⟨i, E, m, hend, rfl, h2⟩
  obtain ⟨rfl, rfl, rfl⟩ := (exEnd true).inj hend
  obtain ⟨c0, c1, c2⟩ := exCnt
  exact ⟨by rw [cntVal, if_pos rfl, c0, c1, c2], h2⟩
theorem ExSl.mono {w w' : World} {v : Value} (h : ExSl w v) (hb : Below w.heap.size w w') : ExSl w' v := by
  obtain ⟨b, rfl, h⟩ := h
  exact ⟨b, rfl, fun i x hx => (h i x hx).mono hb⟩

/-- The cells of one entry of the example, by number. -/
def CellsAt (w : World) (b o : Nat) (k : ByteArray) (d : Bool) (s : Int) : Prop :=
  w.cell? ⟨b, o, none⟩ = some (.string k) ∧ w.cell? ⟨b, o + 1, none⟩ = some (.string ⟨#[]⟩) ∧ w.cell? ⟨b, o + 2, none⟩ = some (.bool d) ∧ w.cell? ⟨b, o + 3, none⟩ = some (.int .i64 s)
def ExAt (w : World) (b : Nat) : Prop := ∀ i x, exL[i]? = some x → EntAt w b (0 + i * 4) x
theorem ExAt.mono {w w' : World} {b : Nat} (h : ExAt w b) (hb : Below w.heap.size w w') : ExAt w' b := fun i x hx => (h i x hx).mono hb
theorem ExAt.c0 {w : World} {b : Nat} (h : ExAt w b) : w.cell? ⟨b, 0, none⟩ = some (.string ⟨#[97]⟩) ∧ w.cell? ⟨b, 1, none⟩ = some (.string ⟨#[]⟩) ∧ w.cell? ⟨b, 2, none⟩ = some (.bool false) ∧ w.cell? ⟨b, 3, none⟩ = some (.int .i64 1) := h 0 x0 rfl
theorem ExAt.c1 {w : World} {b : Nat} (h : ExAt w b) : w.cell? ⟨b, 4, none⟩ = some (.string ⟨#[98]⟩) ∧ w.cell? ⟨b, 5, none⟩ = some (.string ⟨#[]⟩) ∧ w.cell? ⟨b, 6, none⟩ = some (.bool true) ∧ w.cell? ⟨b, 7, none⟩ = some (.int .i64 5) := h 1 x1 rfl
theorem ExAt.c3 {w : World} {b : Nat} (h : ExAt w b) : w.cell? ⟨b, 12, none⟩ = some (.string ⟨#[99]⟩) ∧ w.cell? ⟨b, 13, none⟩ = some (.string ⟨#[]⟩) ∧ w.cell? ⟨b, 14, none⟩ = some (.bool false) ∧ w.cell? ⟨b, 15, none⟩ = some (.int .i64 4) := h 3 x3 rfl
theorem stepEx (w : World) : Calls Try.prog 11 #[.agg #[.bool false, .string ⟨#[]⟩, .bool true], .agg #[.string ⟨#[98]⟩, .string ⟨#[]⟩, .bool true, .int .i64 5]] w fun e w' => e = .returned (.tuple #[.bool false, .agg #[.bool true, .string ⟨#[98]⟩, .bool true], .int .i64 0]) ∧ Below w.heap.size w w' := by
  have h := stepAny false true true ⟨#[]⟩ ⟨#[98]⟩ ⟨#[]⟩ 5 w (by show _ ≤ _; decide) (by show _ ≤ _; decide) (by show _ ≤ _; decide)
  have e : stepVal ⟨false, ⟨#[]⟩, true⟩ ⟨⟨#[98]⟩, ⟨#[]⟩, true, 5⟩ = .tuple #[.bool false, .agg #[.bool true, .string ⟨#[98]⟩, .bool true], .int .i64 0] := by
    obtain ⟨h1, h2⟩ := exStep
    rw [show (⟨⟨#[98]⟩, ⟨#[]⟩, true, 5⟩ : Ent) = x1 from rfl, stepVal, if_pos h1, h2]; rfl
  rw [e] at h
  exact h
theorem stepExNew (w : World) (A : Array Value) (t : TypeId) : Calls Try.prog 11 #[.agg #[.bool false, .string ⟨#[]⟩, .bool true], .agg #[.string ⟨#[98]⟩, .string ⟨#[]⟩, .bool true, .int .i64 5]] (w.alloc (.cells A t)) fun e w' => e = .returned (.tuple #[.bool false, .agg #[.bool true, .string ⟨#[98]⟩, .bool true], .int .i64 0]) ∧
      (∀ o, w'.cell? ⟨w.heap.size, o, none⟩ = A[o]?) ∧ (∀ o, w'.frozen? ⟨w.heap.size, o, none⟩ = false) ∧ w.heap.size < w'.heap.size ∧ Below w.heap.size w w' :=
  (stepEx _).mono fun _ _ ⟨he, hb⟩ => ⟨he, own1 hb⟩

/-- What the first four statements and the fifth leave. -/
def Mid (w wx : World) (b : Nat) (va vb : Value) (n g : Nat) : Prop :=
  ExAt wx b ∧ EntSl wx va (keptOf (fatesTo false exL 5)) ∧ EntSl wx vb (keptOf (fatesTo true exL 5)) ∧ (∀ o, wx.cell? ⟨n, o, none⟩ = (#[.int .i64 2, .int .i64 2, .int .i64 1] : Array Value)[o]?) ∧ (wx.cell? ⟨g, 0, none⟩ = some (.bool true) ∧ wx.cell? ⟨g, 1, none⟩ = some (.string ⟨#[98]⟩) ∧ wx.cell? ⟨g, 2, none⟩ = some (.bool true)) ∧ Below w.heap.size w wx

/-- A slice literal reads as its entries. -/
theorem litSl (w : World) (l : List Ent) (A : Array Value) (t : TypeId) (hA : A.toList = entsCells l) (hl : l.length ≤ 9223372036854775807) : EntSl (w.alloc (.cells A t)) (.slice (some ⟨w.heap.size, 0, none⟩) l.length l.length) l := by
  refine ⟨_, _, rfl, hl, fun _ => ⟨_, 0, rfl, fun i x hx => ?_⟩⟩
  have key : ∀ j, j < 4 → (w.alloc (.cells A t)).cell? ⟨w.heap.size, 0 + i * 4 + j, none⟩ = x.cells[j]? := fun j hj => by
    rw [newCell, Nat.zero_add, ← entsCells_at l i x j hx hj, ← hA]; simp
  exact ⟨key 0 (by omega), key 1 (by omega), key 2 (by omega), key 3 (by omega)⟩
theorem slDrew {w : World} {v : Value} {l : List Ent} (h : EntSl w v l) : EntSl w.drew v l := h
theorem badSl (w : World) : EntSl (w.alloc (.cells #[.string ⟨#[98]⟩, .string ⟨#[]⟩, .bool true, .int .i64 5, .string ⟨#[97]⟩, .string ⟨#[]⟩, .bool false, .int .i64 1] 25)) (.slice (some ⟨w.heap.size, 0, none⟩) 2 2) [x1, x0] := litSl w [x1, x0] _ _ rfl (by decide)
theorem threeSl (w : World) : EntSl (w.alloc (.cells #[.string ⟨#[97]⟩, .string ⟨#[]⟩, .bool false, .int .i64 1, .string ⟨#[98]⟩, .string ⟨#[]⟩, .bool true, .int .i64 5, .string ⟨#[99]⟩, .string ⟨#[]⟩, .bool false, .int .i64 4] 25)) (.slice (some ⟨w.heap.size, 0, none⟩) 3 3) [x0, x1, x3] := litSl w [x0, x1, x3] _ _ rfl (by decide)
theorem twoSl (w : World) : EntSl (w.alloc (.cells #[.string ⟨#[97]⟩, .string ⟨#[]⟩, .bool false, .int .i64 1, .string ⟨#[99]⟩, .string ⟨#[]⟩, .bool false, .int .i64 4] 25)) (.slice (some ⟨w.heap.size, 0, none⟩) 2 2) [x0, x3] := litSl w [x0, x3] _ _ rfl (by decide)
theorem filterBad {v : Value} (w : World) (hv : EntSl w v [x1, x0]) :
    Calls Try.prog 18 #[v, .bool false] w fun e w' => ∃ a, e = .returned (.tuple #[a, .int .i64 1, .int .i64 6]) ∧ Below w.heap.size w w' := by
  refine (filterAny false w (fun x hx => exOk x (by simp [exL] at hx ⊢; rcases hx with rfl | rfl <;> simp)) hv).mono ?_
  rintro e w' ⟨a, i, E, m, hend, rfl, h1, h2⟩
  obtain ⟨rfl, rfl, rfl⟩ := exBad.inj hend
  exact ⟨a, rfl, h2⟩
theorem sameTrue {l : List Ent} {va vb : Value} (w : World) (ha : EntSl w va l) (hb : EntSl w vb l) :
    Calls Try.prog 22 #[va, vb] w fun e w' => e = .returned (.bool true) ∧ Below w.heap.size w w' := by
  have h := sameAny w ha hb
  rw [(sameB_iff l l).2 rfl] at h
  exact h
theorem Mid.mono {w wx wy : World} {b n g : Nat} {va vb : Value} (h : Mid w wx b va vb n g) (hb : Below wx.heap.size wx wy) : Mid w wy b va vb n g := by
  obtain ⟨h1, h2, h3, h4, ⟨h5, h6, h7⟩, h8⟩ := h
  refine ⟨h1.mono hb, h2.mono hb, h3.mono hb, fun o => ?_, ⟨Below.cellSome hb h5, Below.cellSome hb h6, Below.cellSome hb h7⟩, h8.trans (hb.mono h8.size)⟩
  have hn : n < wx.heap.size := World.block_lt_of_cell? wx ⟨n, 0, none⟩ (h4 0)
  exact (hb.cell (p := ⟨n, o, none⟩) hn).trans (h4 o)

set_option maxRecDepth 100000 in
set_option maxHeartbeats 4000000 in
theorem awakeAny (w : World) : Calls Try.prog 10 #[] w fun e w' => e = .returned (.bool true) ∧ Below w.heap.size w w' := by
  go_enter Try.func10, Try.ntmps10
  go_upto_region 5 with (first
    | (go_at_call 25; refine (exampleAny _).mono ?_; rintro e w1 ⟨v, rfl, ⟨b, rfl, hx1⟩, hb1⟩; have hex : ExSl w1 _ := ⟨b, rfl, hx1⟩; replace hx1 : ExAt w1 b := hx1)
    | (go_at_call_of 18 (Value.bool false); refine (filterEx false _ hex).mono ?_; rintro e w2 ⟨va, rfl, ha, hb2⟩; have hex2 := hex.mono hb2; have hx2 := hx1.mono hb2; have hb2' := hb1.trans (hb2.mono hb1.size))
    | (go_at_call_of 18 (Value.bool true); refine (filterEx true _ hex2).mono ?_; rintro e w3 ⟨vb, rfl, hb, hb3⟩; have hex3 := hex2.mono hb3; have hx3 := hx2.mono hb3; have ha3 := ha.mono hb3; have hb3' := hb2'.trans (hb3.mono hb2'.size))
    | (go_at_call 20; refine (countEx _ hex3).mono ?_; rintro e w4 ⟨rfl, hb4⟩; have hx4 := hx3.mono hb4; have ha4 := ha3.mono hb4; have hb4s := hb.mono hb4; have hb4' := hb3'.trans (hb4.mono hb3'.size)))
  clear hex hex2 hex3 hx1 hx2 hx3 ha ha3 hb hb1 hb2 hb3 hb4 hb2' hb3'
  have hx0 := hx4.mono ((Below.refl _ w4).alloc (Nat.le_refl _) (.cells #[.int .i64 2, .int .i64 2, .int .i64 1] 38))
  have ha0 := ha4.mono ((Below.refl _ w4).alloc (Nat.le_refl _) (.cells #[.int .i64 2, .int .i64 2, .int .i64 1] 38))
  have hb0 := hb4s.mono ((Below.refl _ w4).alloc (Nat.le_refl _) (.cells #[.int .i64 2, .int .i64 2, .int .i64 1] 38))
  have hn0 := newCell w4 #[.int .i64 2, .int .i64 2, .int .i64 1] 38
  have hw0 := hb4'.alloc hb4'.size (.cells #[.int .i64 2, .int .i64 2, .int .i64 1] 38)
  have hs0 : w4.heap.size < (w4.alloc (.cells #[.int .i64 2, .int .i64 2, .int .i64 1] 38)).heap.size := by simp
  clear hx4 ha4 hb4s hb4'
  revert hx0 ha0 hb0 hn0 hw0 hs0
  generalize w4.alloc (.cells #[.int .i64 2, .int .i64 2, .int .i64 1] 38) = W0
  generalize w4.heap.size = n
  intro hx0 ha0 hb0 hn0 hw0 hs0
  have HN := Lib.hid hn0
  have HXX := Lib.hid hx0
  clear hn0
  go_cut [11, 12, 13] (fun s11 s12 s13 wx => s11 = .bool false ∧ s13 = .int .i64 0 ∧ ∃ g : Nat, s12 = .pointer (some ⟨g, 0, none⟩) ∧ Mid w wx b va vb n g)
  case first =>
    have hS : ∀ W, Below W0.heap.size W0 W → (Below W0.heap.size W0 W ∧ W.cell? ⟨b, 4, none⟩ = some (.string ⟨#[98]⟩) ∧ W.cell? ⟨b, 5, none⟩ = some (.string ⟨#[]⟩) ∧ W.cell? ⟨b, 6, none⟩ = some (.bool true) ∧ W.cell? ⟨b, 7, none⟩ = some (.int .i64 5)) := fun W h => ⟨h, (hx0.mono h).c1⟩
    have hend : ∀ W g, Below W0.heap.size W0 W → (W.cell? ⟨g, 0, none⟩ = some (.bool true) ∧ W.cell? ⟨g, 1, none⟩ = some (.string ⟨#[98]⟩) ∧ W.cell? ⟨g, 2, none⟩ = some (.bool true)) → Mid w W b va vb n g := fun W g h h2 =>
      ⟨hx0.mono h, ha0.mono h, hb0.mono h, fun o => (h.cell (p := ⟨n, o, none⟩) hs0).trans (HN.out o), h2, hw0.trans (h.mono hw0.size)⟩
    have HS := Lib.hid hS
    have HE := Lib.hid hend
    clear hS hend hx0 ha0 hb0 hw0
    go_region_held3 (fun W => (Below W0.heap.size W0 W ∧ W.cell? ⟨b, 4, none⟩ = some (.string ⟨#[98]⟩) ∧ W.cell? ⟨b, 5, none⟩ = some (.string ⟨#[]⟩) ∧ W.cell? ⟨b, 6, none⟩ = some (.bool true) ∧ W.cell? ⟨b, 7, none⟩ = some (.int .i64 5)))
      (first
        | exact HS.out _ hB6.out
        | exact HS.out _ (hB6.out.alloc hB6.out.size _)
        | exact HS.out _ hB5.out
        | exact HS.out _ (hB5.out.alloc hB5.out.size _)
        | exact HS.out _ ((Below.refl _ _).drew)
        | exact HS.out _ (((Below.refl _ _).alloc (Nat.le_refl _) _).drew)
        | exact HS.out _ (((hB6.out.setCell (p := ⟨W0.heap.size, 0, none⟩) (Nat.le_refl _) _).setCell (p := ⟨W0.heap.size, 1, none⟩) (Nat.le_refl _) _).setCell (p := ⟨W0.heap.size, 2, none⟩) (Nat.le_refl _) _)
        | exact HS.out _ (((hB6.out.setCell (p := ⟨w5.heap.size, 0, none⟩) hB5.out.size _).setCell (p := ⟨w5.heap.size, 1, none⟩) hB5.out.size _).setCell (p := ⟨w5.heap.size, 2, none⟩) hB5.out.size _))
      (first
        | (go_at_call 13; (with_reducible refine (beginAny _ _).mono ?_); rintro e w5 ⟨rfl, hb5⟩; have hB5 := Lib.hid (Below.trans (And.left ‹Below W0.heap.size W0 _ ∧ _›) (hb5.mono (Below.size (And.left ‹Below W0.heap.size W0 _ ∧ _›)))); obtain ⟨hc5, hf5⟩ := bcell hb5; have hz5 := hb5.size; (try simp at hz5); (try simp only [Nat.add_one_le_iff] at hz5))
        | (go_at_call 11; (with_reducible refine (stepEx _).mono ?_); rintro e w6 ⟨rfl, hb6⟩; have hB6 := Lib.hid (Below.trans (And.left ‹Below W0.heap.size W0 _ ∧ _›) (hb6.mono (Below.size (And.left ‹Below W0.heap.size W0 _ ∧ _›)))); obtain ⟨hc6, hf6⟩ := bcell hb6; have hz6 := hb6.size; (try simp at hz6); (try simp only [Nat.add_one_le_iff] at hz6)))
    all_goals
      go_wp2_with (fail)
      go_meet
      refine ⟨rfl, rfl, _, rfl, HE.out _ _ ?_ ?_⟩
      · first
          | exact (hB6.out.alloc hB6.out.size _)
          | exact (((hB6.out.setCell (p := ⟨W0.heap.size, 0, none⟩) (Nat.le_refl _) _).setCell (p := ⟨W0.heap.size, 1, none⟩) (Nat.le_refl _) _).setCell (p := ⟨W0.heap.size, 2, none⟩) (Nat.le_refl _) _)
          | exact (((hB6.out.setCell (p := ⟨w5.heap.size, 0, none⟩) hB5.out.size _).setCell (p := ⟨w5.heap.size, 1, none⟩) hB5.out.size _).setCell (p := ⟨w5.heap.size, 2, none⟩) hB5.out.size _)
      · refine ⟨?_, ?_, ?_⟩ <;> simp [go_sem, *]
  case rest =>
    obtain ⟨rfl, rfl, g, rfl, hm⟩ := hcut
    clear hx0 ha0 hb0 HN HXX hw0 hs0
    go_upto_region 6 with (fail)
    go_cut [14, 15, 16] (fun s14 s15 s16 wx => s15 = .int .i64 1 ∧ s16 = .int .i64 6 ∧ Mid w wx b va vb n g)
    case first =>
      have hS : ∀ W, Below wc.heap.size wc W → (Below wc.heap.size wc W ∧ (W.cell? ⟨b, 0, none⟩ = some (.string ⟨#[97]⟩) ∧ W.cell? ⟨b, 1, none⟩ = some (.string ⟨#[]⟩) ∧ W.cell? ⟨b, 2, none⟩ = some (.bool false) ∧ W.cell? ⟨b, 3, none⟩ = some (.int .i64 1)) ∧ (W.cell? ⟨b, 4, none⟩ = some (.string ⟨#[98]⟩) ∧ W.cell? ⟨b, 5, none⟩ = some (.string ⟨#[]⟩) ∧ W.cell? ⟨b, 6, none⟩ = some (.bool true) ∧ W.cell? ⟨b, 7, none⟩ = some (.int .i64 5))) := fun W h => ⟨h, (hm.1.mono h).c0, (hm.1.mono h).c1⟩
      have HS := Lib.hid hS
      have HM := Lib.hid hm
      clear hS hm
      go_region_held3 (fun W => (Below wc.heap.size wc W ∧ (W.cell? ⟨b, 0, none⟩ = some (.string ⟨#[97]⟩) ∧ W.cell? ⟨b, 1, none⟩ = some (.string ⟨#[]⟩) ∧ W.cell? ⟨b, 2, none⟩ = some (.bool false) ∧ W.cell? ⟨b, 3, none⟩ = some (.int .i64 1)) ∧ (W.cell? ⟨b, 4, none⟩ = some (.string ⟨#[98]⟩) ∧ W.cell? ⟨b, 5, none⟩ = some (.string ⟨#[]⟩) ∧ W.cell? ⟨b, 6, none⟩ = some (.bool true) ∧ W.cell? ⟨b, 7, none⟩ = some (.int .i64 5))))
        (first
          | exact HS.out _ hB6.out
          | exact HS.out _ ((Below.refl _ _).drew)
          | exact HS.out _ (((Below.refl _ _).alloc (Nat.le_refl _) _).drew))
        (first
          | (go_at_call 18; (with_reducible refine (filterBad _ (slDrew (badSl _))).mono ?_); rintro e w6 ⟨v3, rfl, hb6⟩; have hB6 := Lib.hid (Below.trans (And.left ‹Below wc.heap.size wc _ ∧ _›) (hb6.mono (Below.size (And.left ‹Below wc.heap.size wc _ ∧ _›))))))
      all_goals
        go_wp2_with (fail)
        go_meet
        exact ⟨rfl, rfl, HM.out.mono hB6.out⟩
    case rest =>
      obtain ⟨rfl, rfl, hm⟩ := hcut
      go_upto_region 7 with (fail)
      have HM := Lib.hid hm
      obtain ⟨w7, hw7⟩ : ∃ w7, Hid (wc = w7) := ⟨_, Lib.hid rfl⟩
      have hS : ∀ W, Below wc.heap.size wc W → (Below wc.heap.size wc W ∧ (W.cell? ⟨b, 0, none⟩ = some (.string ⟨#[97]⟩) ∧ W.cell? ⟨b, 1, none⟩ = some (.string ⟨#[]⟩) ∧ W.cell? ⟨b, 2, none⟩ = some (.bool false) ∧ W.cell? ⟨b, 3, none⟩ = some (.int .i64 1)) ∧ (W.cell? ⟨b, 4, none⟩ = some (.string ⟨#[98]⟩) ∧ W.cell? ⟨b, 5, none⟩ = some (.string ⟨#[]⟩) ∧ W.cell? ⟨b, 6, none⟩ = some (.bool true) ∧ W.cell? ⟨b, 7, none⟩ = some (.int .i64 5)) ∧ (W.cell? ⟨b, 12, none⟩ = some (.string ⟨#[99]⟩) ∧ W.cell? ⟨b, 13, none⟩ = some (.string ⟨#[]⟩) ∧ W.cell? ⟨b, 14, none⟩ = some (.bool false) ∧ W.cell? ⟨b, 15, none⟩ = some (.int .i64 4)) ∧ (W.cell? ⟨n, 0, none⟩ = some (.int .i64 2) ∧ W.cell? ⟨n, 1, none⟩ = some (.int .i64 2) ∧ W.cell? ⟨n, 2, none⟩ = some (.int .i64 1)) ∧ (W.cell? ⟨g, 0, none⟩ = some (.bool true) ∧ W.cell? ⟨g, 1, none⟩ = some (.string ⟨#[98]⟩) ∧ W.cell? ⟨g, 2, none⟩ = some (.bool true))) := fun W h =>
        have m := hm.mono h
        ⟨h, m.1.c0, m.1.c1, m.1.c3, ⟨m.2.2.2.1 0, m.2.2.2.1 1, m.2.2.2.1 2⟩, m.2.2.2.2.1⟩
      have HS := Lib.hid hS
      clear hS hm
      have hva : ∀ W, Below wc.heap.size wc W → EntSl W va [x0, x1, x3] := fun W h => exOutF ▸ (HM.out.mono h).2.1
      have hvb : ∀ W, Below wc.heap.size wc W → EntSl W vb [x0, x3] := fun W h => exOutT ▸ (HM.out.mono h).2.2.1
      have HVA := Lib.hid hva
      have HVB := Lib.hid hvb
      clear hva hvb
      go_region_held3 (fun W => (Below wc.heap.size wc W ∧ (W.cell? ⟨b, 0, none⟩ = some (.string ⟨#[97]⟩) ∧ W.cell? ⟨b, 1, none⟩ = some (.string ⟨#[]⟩) ∧ W.cell? ⟨b, 2, none⟩ = some (.bool false) ∧ W.cell? ⟨b, 3, none⟩ = some (.int .i64 1)) ∧ (W.cell? ⟨b, 4, none⟩ = some (.string ⟨#[98]⟩) ∧ W.cell? ⟨b, 5, none⟩ = some (.string ⟨#[]⟩) ∧ W.cell? ⟨b, 6, none⟩ = some (.bool true) ∧ W.cell? ⟨b, 7, none⟩ = some (.int .i64 5)) ∧ (W.cell? ⟨b, 12, none⟩ = some (.string ⟨#[99]⟩) ∧ W.cell? ⟨b, 13, none⟩ = some (.string ⟨#[]⟩) ∧ W.cell? ⟨b, 14, none⟩ = some (.bool false) ∧ W.cell? ⟨b, 15, none⟩ = some (.int .i64 4)) ∧ (W.cell? ⟨n, 0, none⟩ = some (.int .i64 2) ∧ W.cell? ⟨n, 1, none⟩ = some (.int .i64 2) ∧ W.cell? ⟨n, 2, none⟩ = some (.int .i64 1)) ∧ (W.cell? ⟨g, 0, none⟩ = some (.bool true) ∧ W.cell? ⟨g, 1, none⟩ = some (.string ⟨#[98]⟩) ∧ W.cell? ⟨g, 2, none⟩ = some (.bool true))))
        (first
          | exact HS.out _ hB8.out
          | exact HS.out _ (hB7.out.alloc hB7.out.size _)
          | exact HS.out _ hB7.out
          | exact HS.out _ ((Below.refl _ _).drew)
          | exact HS.out _ (((Below.refl _ _).alloc (Nat.le_refl _) _).drew))
        (first
          | (go_at_call 22; (with_reducible refine (sameTrue _ (HVA.out _ (((Below.refl _ _).alloc (Nat.le_refl _) _).drew)) (slDrew (threeSl _))).mono ?_); rintro e w7' ⟨rfl, hb7⟩; have hB7 := Lib.hid (Below.trans (And.left ‹Below wc.heap.size wc _ ∧ _›) (hb7.mono (Below.size (And.left ‹Below wc.heap.size wc _ ∧ _›)))))
          | (go_at_call 22; (with_reducible refine (sameTrue _ (HVB.out _ (hB7.out.alloc hB7.out.size _)) (twoSl _)).mono ?_); rintro e w8 ⟨rfl, hb8⟩; have hB8 := Lib.hid (Below.trans (And.left ‹Below wc.heap.size wc _ ∧ _›) (hb8.mono (Below.size (And.left ‹Below wc.heap.size wc _ ∧ _›))))))
      all_goals
        go_wp2_with (fail)
        go_ret
        exact ⟨rfl, HM.out.2.2.2.2.2.trans (hB8.out.mono HM.out.2.2.2.2.2.size)⟩
end Go.Proofs.Ytmegjnanieafbaa
