/-
  Slices of entries: what it means that a slice reads as a list of entries; two lists are compared.
-/
import Derived.Test.YtmegjnanieafbaaEntEq
import Derived.Laws.OwnMore
import Derived.BigQuiet
import Derived.Deep.QuietTactic
namespace Bk
open Go Go.RowKit

def EntAt (w : World) (b o : Nat) (x : Ent) : Prop :=
  w.cell? ⟨b, o, none⟩ = some (.string x.k) ∧ w.cell? ⟨b, o + 1, none⟩ = some (.string x.v) ∧ w.cell? ⟨b, o + 2, none⟩ = some (.bool x.d) ∧ w.cell? ⟨b, o + 3, none⟩ = some (.int .i64 x.s)
/-- A slice reads as a list of entries. -/
def EntSl (w : World) (v : Value) (l : List Ent) : Prop :=
  ∃ a cap, v = .slice a l.length cap ∧ l.length ≤ 9223372036854775807 ∧ (l ≠ [] → ∃ b o, a = some ⟨b, o, none⟩ ∧ ∀ i x, l[i]? = some x → EntAt w b (o + i * 4) x)

theorem Below.cellSome {w w' : World} (hb : Below w.heap.size w w') {b o : Nat} {u : Value} (h : w.cell? ⟨b, o, none⟩ = some u) : w'.cell? ⟨b, o, none⟩ = some u :=
  (hb.cell (p := ⟨b, o, none⟩) (World.block_lt_of_cell? w _ h)).trans h
theorem EntAt.mono {w w' : World} {b o : Nat} {x : Ent} (h : EntAt w b o x) (hb : Below w.heap.size w w') : EntAt w' b o x :=
  ⟨Below.cellSome hb h.1, Below.cellSome hb h.2.1, Below.cellSome hb h.2.2.1, Below.cellSome hb h.2.2.2⟩
theorem EntSl.mono {w w' : World} {v : Value} {l : List Ent} (h : EntSl w v l) (hb : Below w.heap.size w w') : EntSl w' v l := by
  obtain ⟨a, cap, hv, hl, hc⟩ := h
  refine ⟨a, cap, hv, hl, fun hne => ?_⟩
  obtain ⟨b, o, ha, hcell⟩ := hc hne
  exact ⟨b, o, ha, fun i x hx => (hcell i x hx).mono hb⟩

/-- All cells of a list of entries, one behind the other. -/
def entsCells (l : List Ent) : List Value := l.flatMap Ent.cells
theorem entsCells_length (l : List Ent) : (entsCells l).length = l.length * 4 := by
  induction l with
  | nil => rfl
  | cons x l ih => simp only [entsCells, List.flatMap_cons, List.length_append] at ih ⊢; rw [ih]; simp [Ent.cells]; omega
theorem entsCells_at : ∀ (l : List Ent) (i : Nat) (x : Ent) (j : Nat), l[i]? = some x → j < 4 → (entsCells l)[i * 4 + j]? = x.cells[j]?
  | [], i, x, j, h, _ => by simp at h
  | y :: l, 0, x, j, h, hj => by
    obtain rfl : y = x := by simpa using h
    simp only [entsCells, List.flatMap_cons]
    rw [List.getElem?_append_left (by simp [Ent.cells]; omega)]
    simp
  | y :: l, i + 1, x, j, h, hj => by
    have ih := entsCells_at l i x j (by simpa using h) hj
    simp only [entsCells, List.flatMap_cons] at ih ⊢
    rw [List.getElem?_append_right (by simp [Ent.cells]; omega), ← ih]
    congr 1
    simp [Ent.cells]
    omega
theorem entsCells_append (l m : List Ent) : entsCells (l ++ m) = entsCells l ++ entsCells m := by simp [entsCells]
theorem entsCells_one (l : List Ent) : ∀ u ∈ entsCells l, u.oneCell' = true := by
  intro u hu
  simp only [entsCells, List.mem_flatMap] at hu
  obtain ⟨x, _, hx⟩ := hu
  simp only [Ent.cells, List.mem_cons, List.not_mem_nil, or_false] at hx
  rcases hx with rfl | rfl | rfl | rfl <;> rfl
/-- A row of the call's own that holds entries is such a slice. -/
theorem EntSl.of_owns {w : World} {base E n : Nat} {v : Value} {l : List Ent} (h : w.ownsRow base E 4 v n (entsCells l)) : EntSl w v l := by
  have hn : n = l.length := by have := h.1; rw [entsCells_length] at this; omega
  subst hn
  rcases h.2 with ⟨rfl, h0⟩ | ⟨g, cap, cur, rfl, hb, hg, hnc, hcm, hcs, htake⟩
  · exact ⟨none, 0, by rw [h0], by omega, fun hne => absurd (List.eq_nil_of_length_eq_zero h0) hne⟩
  · refine ⟨_, cap, rfl, by simp only [maxLen] at hcm; omega, fun _ => ⟨g, 0, rfl, fun i x hx => ?_⟩⟩
    have hi : i < l.length := (List.getElem?_eq_some_iff.1 hx).1
    have key : ∀ j, j < 4 → w.cell? ⟨g, 0 + i * 4 + j, none⟩ = x.cells[j]? := fun j hj => by
      rw [h.cellAt _ (by omega), Nat.zero_add]
      exact entsCells_at l i x j hx hj
    exact ⟨key 0 (by omega), key 1 (by omega), key 2 (by omega), key 3 (by omega)⟩

def sameB : List Ent → List Ent → Bool
  | [], [] => true
  | x :: l, y :: m => entEq x y && sameB l m
  | _, _ => false
theorem sameB_iff : ∀ (l m : List Ent), sameB l m = true ↔ l = m
  | [], [] => by simp [sameB]
  | [], _ :: _ => by simp [sameB]
  | _ :: _, [] => by simp [sameB]
  | x :: l, y :: m => by
    simp only [sameB, Bool.and_eq_true, List.cons.injEq]
    rw [entEq_iff, sameB_iff l m]
theorem sameB_len {l m : List Ent} (h : ¬ l.length = m.length) : sameB l m = false := by
  cases h' : sameB l m
  · rfl
  · exact absurd (congrArg List.length ((sameB_iff l m).1 h')) h
theorem sameB_ne {l m : List Ent} {i : Nat} {x y : Ent} (hx : l[i]? = some x) (hy : m[i]? = some y) (h : entEq x y = false) : sameB l m = false := by
  cases h' : sameB l m
  · rfl
  · have := (sameB_iff l m).1 h'
    subst this
    rw [hx] at hy
    obtain rfl := Option.some.inj hy
    rw [(entEq_iff x x).2 rfl] at h
    cases h
theorem take_snoc' {α : Type} {l : List α} {k : Nat} {x : α} (h : l[k]? = some x) : l.take (k + 1) = l.take k ++ [x] := by
  rw [List.take_add_one, h]; rfl
end Bk

namespace Go.Proofs.Ytmegjnanieafbaa
open Go.RowKit Bk

theorem drewN_below (w : World) (n : Nat) : Below w.heap.size w (w.drewN n) := by
  induction n with
  | zero => exact Below.refl _ _
  | succ n ih => first | exact Below.drew ih | (rw [World.drewN_succ]; exact Below.drew ih)

set_option maxHeartbeats 400000 in
theorem sameFull (l m : List Ent) (ba oa ca bb ob cb : Nat) (w : World) (hl : l.length ≤ 9223372036854775807) (hm : m.length ≤ 9223372036854775807) (hlen : l.length = m.length)
   (hA : ∀ i x, l[i]? = some x → EntAt w ba (oa + i * 4) x) (hB : ∀ i x, m[i]? = some x → EntAt w bb (ob + i * 4) x) :
    Calls Try.prog 22 #[.slice (some ⟨ba, oa, none⟩) l.length ca, .slice (some ⟨bb, ob, none⟩) m.length cb] w fun e w' => e = .returned (.bool (sameB l m)) ∧ Below w.heap.size w w' := by
  have HL := Lib.hid hlen
  have HA := Lib.hid hA
  have HB := Lib.hid hB
  have hx : (l.length : Int) ≤ m.length := by omega
  have hy : (m.length : Int) ≤ l.length := by omega
  clear hlen hA hB
  go_enter Try.func22, Try.ntmps22
  go_wp2
  go_loopw [5] (fun i wr => ∃ k : Nat, k ≤ l.length ∧ i = .int .i64 k ∧ Hid (l.take k = m.take k) ∧ ∃ n, wr = w.drewN n) (fun i _ => l.length - (intOf i).toNat)
  case atStart => exact ⟨0, Nat.zero_le _, rfl, Lib.hid rfl, 0, rfl⟩
  case round =>
    obtain ⟨k, hk, rfl, HT, n, rfl⟩ := hrel
    by_cases hlt : k < l.length
    · have hlm : k < m.length := by have := HL.out; omega
      have hx' : l[k]? = some l[k] := List.getElem?_eq_getElem hlt
      have hy' : m[k]? = some m[k] := List.getElem?_eq_getElem hlm
      have a0 := HA.out k _ hx'
      have b0 := HB.out k _ hy'
      have HX := Lib.hid hx'
      have HY := Lib.hid hy'
      clear hx' hy'
      revert a0 b0 HX HY
      generalize l[k] = x
      generalize m[k] = y
      rintro ⟨a0, a1, a2, a3⟩ ⟨b0, b1, b2, b3⟩ HX HY
      have i0 : (0 : Int) ≤ (k : Int) := by omega
      have i1 : (k : Int) < (l.length : Int) := by omega
      have i2 : (k : Int) < (m.length : Int) := by omega
      go_wp2
      go_quiet (fail)
      cases hq : entEq ⟨x.k, x.v, x.d, x.s⟩ ⟨y.k, y.v, y.d, y.s⟩
      · go_wp2
        go_ret
        exact ⟨congrArg (fun b => Ending.returned (.bool b)) (sameB_ne HX.out HY.out hq).symm, by rw [World.drewN_drewN]; exact drewN_below _ _⟩
      · go_wp2
        go_roundw
        case rel => exact ⟨k + 1, by omega, by go_num, Lib.hid (by rw [take_snoc' HX.out, take_snoc' HY.out, HT.out, (entEq_iff x y).1 hq]), _, rfl⟩
        case measure => simp [intOf]; omega
    · go_wp2
      go_ret
      refine ⟨?_, drewN_below _ _⟩
      have h1 := HT.out
      have hlm := HL.out
      rw [List.take_of_length_le (by omega), List.take_of_length_le (by omega)] at h1
      exact congrArg (fun b => Ending.returned (.bool b)) ((sameB_iff l m).2 h1).symm

set_option maxHeartbeats 400000 in
theorem sameDiff (n m : Nat) (a b : Option Addr) (ca cb : Nat) (w : World) (hlen : ((n : Int) != (m : Int)) = true) :
    Calls Try.prog 22 #[.slice a n ca, .slice b m cb] w fun e w' => e = .returned (.bool false) ∧ w = w' := by
  go_enter Try.func22, Try.ntmps22
  go_wp2
  go_ret
  exact ⟨rfl, rfl⟩
set_option maxHeartbeats 400000 in
theorem sameNone (a b : Option Addr) (ca cb : Nat) (w : World) :
    Calls Try.prog 22 #[.slice a 0 ca, .slice b 0 cb] w fun e w' => e = .returned (.bool true) ∧ w = w' := by
  go_enter Try.func22, Try.ntmps22
  go_wp2
  go_loop [5] (fun i => i = .int .i64 0) (fun _ => 0)
  case atStart => rfl
  case round =>
    subst hrel
    go_wp2
    go_ret
    exact ⟨rfl, rfl⟩

/-- SameEntries. -/
theorem sameAny {l m : List Ent} {va vb : Value} (w : World) (ha : EntSl w va l) (hb : EntSl w vb m) :
    Calls Try.prog 22 #[va, vb] w fun e w' => e = .returned (.bool (sameB l m)) ∧ Below w.heap.size w w' := by
  obtain ⟨a, ca, rfl, hl, hA⟩ := ha
  obtain ⟨b, cb, rfl, hm, hB⟩ := hb
  by_cases hlen : l.length = m.length
  · by_cases hne : l = []
    · subst hne
      obtain rfl : m = [] := List.eq_nil_of_length_eq_zero hlen.symm
      exact (sameNone a b ca cb w).mono fun e w' ⟨h1, h2⟩ => ⟨h1, h2 ▸ Below.refl _ _⟩
    · obtain ⟨ba, oa, rfl, hA'⟩ := hA hne
      obtain ⟨bb, ob, rfl, hB'⟩ := hB (fun e => hne (by subst e; exact List.eq_nil_of_length_eq_zero hlen))
      exact sameFull l m ba oa ca bb ob cb w hl hm hlen hA' hB'
  · rw [sameB_len hlen]
    exact (sameDiff l.length m.length a b ca cb w (by simpa using fun e => hlen (by omega))).mono fun e w' ⟨h1, h2⟩ => ⟨h1, h2 ▸ Below.refl _ _⟩
end Go.Proofs.Ytmegjnanieafbaa
