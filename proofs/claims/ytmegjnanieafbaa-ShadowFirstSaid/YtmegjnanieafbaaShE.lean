/-
  The two closures of the filter of merges: one collects what is kept, one counts.
-/
import Derived.Test.YtmegjnanieafbaaShD
import Derived.Deep.RegionLaw
import Derived.Deep.AppendLies
namespace Bk
open Go Go.RowKit

/-- What a call that appends one entry to a captured slice leaves. -/
structure Filt (T E : TypeId) (nc : Nat) (v : Value) (l : List Ent) (w w' : World) : Prop where
  cell : ∃ v', w'.heap[nc]? = some (.cells #[v'] T (0, 0)) ∧ w'.ownsRow (nc + 1) E 4 v' l.length (entsCells l) ∧ (v'.ownBlock = v.ownBlock ∨ ∃ g, v'.ownBlock = some g ∧ w.heap.size ≤ g)
  rest : ∀ k, k < w.heap.size → k ≠ nc → some k ≠ v.ownBlock → w'.heap[k]? = w.heap[k]?
  os : w'.os = w.os
  tape : w'.tape = w.tape
  output : w'.output = w.output
  size : w.heap.size ≤ w'.heap.size

theorem owns_call {A : TypeId} {base e size n : Nat} {v : Value} {xs : List Value} {w w1 : World} {c1 : Array Value} (h : w.ownsRow base e size v n xs) (hb : Below (w.alloc (.cells c1 A)).drew.heap.size (w.alloc (.cells c1 A)).drew w1) : w1.ownsRow base e size v n xs :=
  World.ownsRow.kept (row := none) (w := (w.alloc (.cells c1 A)).drew) (World.ownsRow.drew (h.alloc _)) ⟨hb.os, hb.tape, hb.output, hb.size, fun k hk _ => hb.block k hk⟩ (by cases v.ownBlock <;> simp)
theorem filt_cell {T E A : TypeId} {nc : Nat} {v : Value} {w w1 w2 : World} {c1 c2 : Array Value} (hc : w.heap[nc]? = some (.cells #[v] T (0, 0))) (hne : ∀ k, v.ownBlock = some k → nc < k)
    (hb : Below (w.alloc (.cells c1 A)).drew.heap.size (w.alloc (.cells c1 A)).drew w1) (hg : (w1.alloc (.cells c2 E)).grownBy w2 v.ownBlock) : w2.heap[nc]? = some (.cells #[v] T (0, 0)) := by
  have s0 : (w.alloc (.cells c1 A)).drew.heap.size = w.heap.size + 1 := by show (w.alloc (.cells c1 A)).heap.size = _; simp
  have s1 : w.heap.size + 1 ≤ w1.heap.size := by have := hb.size; omega
  have hlt : nc < w.heap.size := (Array.getElem?_eq_some_iff.1 hc).1
  rw [hg.block nc (by simp; omega) (fun e => by have := hne nc e.symm; omega), Below.heap_alloc _ _ _ (by omega), hb.block nc (by omega)]
  exact (Below.heap_alloc _ _ _ hlt).trans hc
theorem filt_chain {T E A : TypeId} {nc : Nat} {v v' : Value} {l : List Ent} {x : Ent} {w w1 w2 : World} {c1 c2 : Array Value} (hc : w.heap[nc]? = some (.cells #[v] T (0, 0))) (hne : ∀ k, v.ownBlock = some k → nc < k)
    (hb : Below (w.alloc (.cells c1 A)).drew.heap.size (w.alloc (.cells c1 A)).drew w1) (hg : (w1.alloc (.cells c2 E)).grownBy w2 v.ownBlock) (hown : w2.ownsRow (nc + 1) E 4 v' (l.length + 1) (entsCells l ++ entsCells [x]))
    (hat : v'.ownBlock = v.ownBlock ∨ v'.ownBlock = some (w1.alloc (.cells c2 E)).heap.size) (hgt : ∀ k, v'.ownBlock = some k → nc < k) : Filt T E nc v (l ++ [x]) w (w2.setCell ⟨nc, 0, none⟩ v') := by
  have s0 : (w.alloc (.cells c1 A)).drew.heap.size = w.heap.size + 1 := by show (w.alloc (.cells c1 A)).heap.size = _; simp
  have s1 : w.heap.size + 1 ≤ w1.heap.size := by have := hb.size; omega
  have s2 : w1.heap.size + 1 ≤ w2.heap.size := by have := hg.size; simpa using this
  have hlt : nc < w.heap.size := (Array.getElem?_eq_some_iff.1 hc).1
  have key : ∀ k, k < w.heap.size → some k ≠ v.ownBlock → w2.heap[k]? = w.heap[k]? := fun k hk hk2 => by
    rw [hg.block k (by simp; omega) hk2, Below.heap_alloc _ _ _ (by omega), hb.block k (by omega)]
    exact Below.heap_alloc _ _ _ hk
  have hnc : w2.heap[nc]? = some (.cells #[v] T (0, 0)) := (key nc hlt (fun e => by have := hne nc e.symm; omega)).trans hc
  have hmine : ∀ k, k ≠ nc → (w2.setCell ⟨nc, 0, none⟩ v').heap[k]? = w2.heap[k]? := fun k hk => Below.heap_setCell _ _ _ _ hk
  refine ⟨⟨v', one_setCell hnc, ?_, ?_⟩, fun k hk h1 h2 => (hmine k h1).trans (key k hk h2), ?_, ?_, ?_, ?_⟩
  · rw [List.length_append, entsCells_append]
    exact ownsRow_setCell_other hown (fun e => by have := hgt nc e; omega) v'
  · rcases hat with h | h
    · exact .inl h
    · exact .inr ⟨_, h, by simp; omega⟩
  · exact hg.os.trans hb.os
  · exact hg.tape.trans hb.tape
  · exact hg.output.trans hb.output
  · simp [World.setCell]; omega
end Bk

namespace Go.Proofs.Ytmegjnanieafbaa
open Go.RowKit Bk

theorem info25 : (Try.prog.info? 25).map (fun i => (i.zero, i.size, i.bytes)) = some (some (.agg #[.string ⟨#[]⟩, .string ⟨#[]⟩, .bool false, .int .i64 0]), 4, 48) := by kernel_rfl
@[go_sem] theorem methodKept (n : Nat) (v : Value) (w : World) : (method (n + 1) 50 v "bookend/shadow.entry").run Try.prog w = .ok (53, v) w := by kernel_rfl

theorem keptEntry (k v : ByteArray) (d : Bool) (s : Int) (w : World) :
    Calls Try.prog 53 #[.agg #[.string k, .string v, .bool d, .int .i64 s]] w fun e w' => e = .returned (.agg #[.string k, .string v, .bool d, .int .i64 s]) ∧ Below w.heap.size w w' := by
  go_enter Try.func53, Try.ntmps53
  go_wp2
  refine bodyPost_ret (v := .agg #[.string k, .string v, .bool d, .int .i64 s]) (by simp [results, Try.results53, go_sem]) rfl ⟨rfl, ?_⟩
  repeat' (first | exact Below.refl _ _ | with_reducible apply Below.setCell | with_reducible apply Below.alloc)
  all_goals (simp <;> omega)

set_option maxHeartbeats 1000000 in
theorem filterKept (k v : ByteArray) (d : Bool) (s : Int) (w : World) (nc : Nat) (u : Value) (l : List Ent) (hc : w.heap[nc]? = some (.cells #[u] 33 (0, 0))) (hown : w.ownsRow (nc + 1) 25 4 u l.length (entsCells l)) (hl : l.length < 20000) :
    Calls Try.prog 30 #[.iface 50 (.agg #[.string k, .string v, .bool d, .int .i64 s]), .pointer (some ⟨nc, 0, none⟩)] w fun e w' => e = .returned (.tuple #[]) ∧ Filt 33 25 nc u (l ++ [⟨k, v, d, s⟩]) w w' := by
  have hcell := cell_of_one hc
  have hfree := free_of_one hc
  have hlt := lt_of_block hc
  have HC := Lib.hid hc
  have HO := Lib.hid hown
  clear hc hown
  obtain ⟨i0, hi, hz0, hz1, hz2⟩ := info_parts info25
  go_enter Try.func30, Try.ntmps30
  go_wp2
  have hne : ∀ k, u.ownBlock = some k → nc < k := fun k hk => (HO.out.lt k hk).1
  have HN := Lib.hid hne
  clear hne
  go_region_law (first
    | (refine step_append_lies _ rfl (.tmp 11) (.tmp 14) 33 rfl (nc + 1) 25 i0 (.agg #[.string ⟨#[]⟩, .string ⟨#[]⟩, .bool false, .int .i64 0]) 4 48 Try.underlying33 hi hz0 hz1 hz2 rfl (by decide) u l.length (entsCells l) rfl ((owns_call HO.out hb).alloc _) ⟨w1.heap.size, 0, none⟩ 1 1 (entsCells [⟨k, v, d, s⟩]) rfl rfl (World.news_of_block (heap_alloc_new w1 _)) (entsCells_one _) (by decide) (by unfold maxLen; omega) (by omega) (by have := hb.size; simp at this ⊢; omega) _ rfl (fun g cap w2 hown2 hgrow hat hlt2 => ?_)
       have q := filt_cell HC.out HN.out hb hgrow
       have q1 := cell_of_one q
       have q2 := free_of_one q
       clear q)
    | (go_simp; go_at_call 53; refine (keptEntry _ _ _ _ _).mono ?_; rintro e w1 ⟨rfl, hb⟩; obtain ⟨d0, g0, y0⟩ := keepB hb (n := nc) (by simp; omega)))
  all_goals
    go_end0
    refine ⟨rfl, filt_chain HC.out HN.out hb hgrow hown2 ?_ ?_⟩
    · rcases hat with h | h
      · exact .inl h.symm
      · exact .inr (congrArg some h)
    · intro k hk
      exact (hown2.lt k hk).1
end Go.Proofs.Ytmegjnanieafbaa
