/-
  The closures of the filter of merges: what is not kept; counting.
-/
import Derived.Test.YtmegjnanieafbaaShE
namespace Go.Proofs.Ytmegjnanieafbaa
open Go.RowKit Bk

set_option maxHeartbeats 1000000 in
theorem filterOther (n : Nat) (hn : n = 1 ∨ n = 2) (k v : ByteArray) (d : Bool) (s : Int) (w : World) (p : Option Addr) :
    Calls Try.prog 30 #[fateVal n ⟨k, v, d, s⟩, .pointer p] w fun e w' => e = .returned (.tuple #[]) ∧ Below w.heap.size w w' := by
  rcases hn with rfl | rfl
  all_goals
    simp only [fateVal, Ent.val]
    go_enter Try.func30, Try.ntmps30
    go_wp2
    go_end0
    refine ⟨rfl, ?_⟩
    repeat' (first | exact Below.refl _ _ | with_reducible apply Below.setCell | with_reducible apply Below.alloc)
    all_goals (simp <;> omega)

def cnt (n i : Nat) (c : Int) : Int := if n = i then c + 1 else c
/-- A block of three counters, behind a store into one. -/
theorem three_setCell {w : World} {b : Nat} {x y z u : Value} {t : TypeId} (h : w.heap[b]? = some (.cells #[x, y, z] t (0, 0))) (j : Nat) : (w.setCell ⟨b, j, none⟩ u).heap[b]? = some (.cells ((#[x, y, z] : Array Value).setIfInBounds j u) t (0, 0)) :=
  heap_setCell_same w b j _ t u h

set_option maxHeartbeats 1000000 in
theorem countStep (n : Nat) (hn : n = 0 ∨ n = 1 ∨ n = 2) (k v : ByteArray) (d : Bool) (s : Int) (w : World) (nc : Nat) (a b c : Int) (hc : w.heap[nc]? = some (.cells #[.int .i64 a, .int .i64 b, .int .i64 c] 38 (0, 0)))
    (ha : 0 ≤ a ∧ a ≤ 20000) (hb : 0 ≤ b ∧ b ≤ 20000) (hd : 0 ≤ c ∧ c ≤ 20000) :
    Calls Try.prog 31 #[fateVal n ⟨k, v, d, s⟩, .pointer (some ⟨nc, 0, none⟩)] w fun e w' => e = .returned (.tuple #[]) ∧ w'.heap[nc]? = some (.cells #[.int .i64 (cnt n 0 a), .int .i64 (cnt n 1 b), .int .i64 (cnt n 2 c)] 38 (0, 0)) ∧ Below nc w w' ∧ ∀ k, nc < k → w'.heap[k]? = w.heap[k]? := by
  have h0 : w.cell? ⟨nc, 0, none⟩ = some (.int .i64 a) := by simp [World.cell?, hc]
  have h1 : w.cell? ⟨nc, 1, none⟩ = some (.int .i64 b) := by simp [World.cell?, hc]
  have h2 : w.cell? ⟨nc, 2, none⟩ = some (.int .i64 c) := by simp [World.cell?, hc]
  have f0 : ∀ j, w.frozen? ⟨nc, j, none⟩ = false := fun j => by simp [World.frozen?, hc]
  have HC := Lib.hid hc
  clear hc
  obtain ⟨a1, a2⟩ := ha
  obtain ⟨b1, b2⟩ := hb
  obtain ⟨c1, c2⟩ := hd
  rcases hn with rfl | rfl | rfl
  all_goals
    simp only [fateVal, Ent.val]
    go_enter Try.func31, Try.ntmps31
    go_wp2
    go_end0
    refine ⟨rfl, three_setCell HC.out _, (Below.refl nc w).setCell (p := ⟨nc, _, none⟩) (Nat.le_refl nc) _, fun k hk => Below.heap_setCell _ _ _ _ (by simp; omega)⟩
end Go.Proofs.Ytmegjnanieafbaa
