/-
  The statement ShadowSteps: its walk.
-/
import Derived.Test.YtmegjnanieafbaaShJ
namespace Go.Proofs.Ytmegjnanieafbaa
open Go.RowKit Bk

theorem stepAt (a b d : Bool) (l k v : ByteArray) (s : Int) (w : World) (r : Value) (hr : stepVal ⟨a, l, b⟩ ⟨k, v, d, s⟩ = r) (hl : l.size ≤ maxLen) (hk : k.size ≤ maxLen) (hv : v.size ≤ maxLen) :
    Calls Try.prog 11 #[.agg #[.bool a, .string l, .bool b], .agg #[.string k, .string v, .bool d, .int .i64 s]] w fun e w' => e = .returned r ∧ Below w.heap.size w w' := hr ▸ stepAny a b d l k v s w hl hk hv

set_option maxRecDepth 100000 in
set_option maxHeartbeats 4000000 in
theorem lawSteps (a b d bot : Bool) (l k v : ByteArray) (s : Int) (w : World) (hl : l.size ≤ maxLen) (hk : k.size ≤ maxLen) (hv : v.size ≤ maxLen) :
    Calls Try.prog 3 #[.agg #[.bool a, .string l, .bool b], .agg #[.string k, .string v, .bool d, .int .i64 s], .bool bot] w fun e w' => e = .returned (.bool true) ∧ Below w.heap.size w w' := by
  obtain ⟨c, ta, tl, tb, E, r, y, h1, h2, hta⟩ := next_form ⟨a, l, b⟩ ⟨k, v, d, s⟩
  have H2 := Lib.hid h2
  clear h1 h2 hta
  have hl' := Lib.hid hl
  have hk' := Lib.hid hk
  have hv' := Lib.hid hv
  unfold maxLen at hl hk hv
  go_enter Try.func3, Try.ntmps3
  go_wp2_with (first
    | (go_at_call 10; refine (awakeAny _).mono ?_; rintro e w9 ⟨rfl, hb⟩)
    | (go_at_call 11; refine (stepAt _ _ _ _ _ _ _ _ _ H2.out hl'.out hk'.out hv'.out).mono ?_; rintro e w1 ⟨rfl, hb⟩; obtain ⟨c0, f0, z0, c1, f1, z1, hB1⟩ := own2 hb; clear hb)
    | (go_at_call 12; refine (refStepAt _ _ _ _ _ _ _ _ _ H2.out hl'.out hk'.out hv'.out).mono ?_; rintro e w2 ⟨rfl, hb⟩; obtain ⟨t0, tf, tz, hB2⟩ := own1 hb; obtain ⟨d0, g0, y0⟩ := keepC hB2 z0 c0; have hB3 := Below.old hB1 hB2; clear hb))
  rotate_right
  · have u0 := newCell w2 #[.bool ta, .string tl, .bool tb] 23
    have hs0 := fun o => (oldCell w2 (.cells #[.bool ta, .string tl, .bool tb] 23) y0 o).trans (d0 o)
    have ht0 := fun o => (oldCell w2 (.cells #[.bool ta, .string tl, .bool tb] 23) tz o).trans (t0 o)
    have hB4 := hB3.alloc hB3.size (.cells #[.bool ta, .string tl, .bool tb] 23)
    have q0 : w.heap.size < (w2.alloc (.cells #[.bool ta, .string tl, .bool tb] 23)).heap.size := by simp; omega
    have q1 : w1.heap.size < (w2.alloc (.cells #[.bool ta, .string tl, .bool tb] 23)).heap.size := by simp; omega
    have q2 : w2.heap.size < (w2.alloc (.cells #[.bool ta, .string tl, .bool tb] 23)).heap.size := by simp
    clear c0 f0 z0 c1 f1 z1 hB1 t0 tf tz hB2 d0 g0 y0 hB3
    revert u0 hs0 ht0 hB4 q0 q1 q2
    generalize w2.alloc (.cells #[.bool ta, .string tl, .bool tb] 23) = W0
    have hB : ∃ n, Hid (n = w.heap.size) := ⟨_, Lib.hid rfl⟩
    obtain ⟨n0, hn0⟩ := hB
    rw [← hn0.out]
    generalize w1.heap.size = n1
    generalize w2.heap.size = n2
    intro u0 hs0 ht0 hB4 q0 q1 q2
    have hS : ∀ W, Below W0.heap.size W0 W → (Below W0.heap.size W0 W ∧ (W.cell? ⟨n0, 0, none⟩ = some (.bool a) ∧ W.cell? ⟨n0, 1, none⟩ = some (.string l) ∧ W.cell? ⟨n0, 2, none⟩ = some (.bool b)) ∧ (W.cell? ⟨n1, 0, none⟩ = some (.bool ta) ∧ W.cell? ⟨n1, 1, none⟩ = some (.string tl) ∧ W.cell? ⟨n1, 2, none⟩ = some (.bool tb)) ∧ (W.cell? ⟨n2, 0, none⟩ = some (.bool ta) ∧ W.cell? ⟨n2, 1, none⟩ = some (.string tl) ∧ W.cell? ⟨n2, 2, none⟩ = some (.bool tb))) := fun W h =>
      ⟨h, ⟨Below.cellSome h (hs0 0), Below.cellSome h (hs0 1), Below.cellSome h (hs0 2)⟩, ⟨Below.cellSome h (ht0 0), Below.cellSome h (ht0 1), Below.cellSome h (ht0 2)⟩, Below.cellSome h (u0 0), Below.cellSome h (u0 1), Below.cellSome h (u0 2)⟩
    have HS := Lib.hid hS
    clear hS u0 hs0 ht0 q0 q1 q2
    go_region_held3 (fun W => (Below W0.heap.size W0 W ∧ (W.cell? ⟨n0, 0, none⟩ = some (.bool a) ∧ W.cell? ⟨n0, 1, none⟩ = some (.string l) ∧ W.cell? ⟨n0, 2, none⟩ = some (.bool b)) ∧ (W.cell? ⟨n1, 0, none⟩ = some (.bool ta) ∧ W.cell? ⟨n1, 1, none⟩ = some (.string tl) ∧ W.cell? ⟨n1, 2, none⟩ = some (.bool tb)) ∧ (W.cell? ⟨n2, 0, none⟩ = some (.bool ta) ∧ W.cell? ⟨n2, 1, none⟩ = some (.string tl) ∧ W.cell? ⟨n2, 2, none⟩ = some (.bool tb))))
      (first
        | exact HS.out _ hB9.out
        | exact HS.out _ hB8.out
        | exact HS.out _ hB7.out
        | exact HS.out _ hB6.out
        | exact HS.out _ hB5.out
        | exact HS.out _ ((Below.refl _ _).drew))
      (first
        | (go_at_call 13; (with_reducible refine (beginAny _ _).mono ?_); rintro e w5 ⟨rfl, hb5⟩; have hB5 := Lib.hid (Below.trans (And.left ‹Below W0.heap.size W0 _ ∧ _›) (hb5.mono (Below.size (And.left ‹Below W0.heap.size W0 _ ∧ _›)))))
        | (go_at_call 14; (with_reducible refine (refBegin _ _).mono ?_); rintro e w6 ⟨rfl, hb6⟩; have hB6 := Lib.hid (Below.trans (And.left ‹Below W0.heap.size W0 _ ∧ _›) (hb6.mono (Below.size (And.left ‹Below W0.heap.size W0 _ ∧ _›)))))
        | (go_at_call 15; (with_reducible refine (shadowCheck _ _ _ _ hl'.out).mono ?_); rintro e w7 ⟨rfl, hb7⟩; have hB7 := Lib.hid (Below.trans (And.left ‹Below W0.heap.size W0 _ ∧ _›) (hb7.mono (Below.size (And.left ‹Below W0.heap.size W0 _ ∧ _›)))))
        | (go_at_call 16; (with_reducible refine (refShCheck _ _ _ _ hl'.out).mono ?_); rintro e w8 ⟨rfl, hb8⟩; have hB8 := Lib.hid (Below.trans (And.left ‹Below W0.heap.size W0 _ ∧ _›) (hb8.mono (Below.size (And.left ‹Below W0.heap.size W0 _ ∧ _›)))))
        | (go_at_call 10; (with_reducible refine (awakeAny _).mono ?_); rintro e w9 ⟨rfl, hb9⟩; have hB9 := Lib.hid (Below.trans (And.left ‹Below W0.heap.size W0 _ ∧ _›) (hb9.mono (Below.size (And.left ‹Below W0.heap.size W0 _ ∧ _›))))))
    all_goals
      go_wp2_with (fail)
      go_ret
      have hn1 := hn0.out
      subst hn1
      refine ⟨rfl, hB4.trans (hB9.out.mono hB4.size)⟩
  all_goals
    go_ret
    exact ⟨rfl, Below.trans (((Below.refl _ w).alloc (Nat.le_refl _) _).alloc (by simp) _) (hb.mono (by simp <;> omega))⟩
end Go.Proofs.Ytmegjnanieafbaa
