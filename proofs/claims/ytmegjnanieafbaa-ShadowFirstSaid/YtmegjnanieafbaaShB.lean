/-
  Contracts of one step of the filter of merges, in the program and in the document.
-/
import Derived.Test.YtmegjnanieafbaaShA
import Derived.BigQuiet
import Derived.Deep.QuietTactic
namespace Go.Proofs.Ytmegjnanieafbaa
open Go.RowKit Bk

def entZero : Value := .agg #[.string ⟨#[]⟩, .string ⟨#[]⟩, .bool false, .int .i64 0]
@[go_sem] theorem as_nil_kept (w : World) : (Instr.typeAssert .nilIface 47 50 true).run Try.prog w = .ok (.tuple #[.agg #[.string ⟨#[]⟩, .string ⟨#[]⟩, .bool false, .int .i64 0], .bool false]) w := by kernel_rfl
@[go_sem] theorem as_kept_kept (v : Value) (w : World) : (Instr.typeAssert (.iface 50 v) 47 50 true).run Try.prog w = .ok (.tuple #[v, .bool true]) w := by kernel_rfl
@[go_sem] theorem as_shadowed_kept (v : Value) (w : World) : (Instr.typeAssert (.iface 58 v) 47 50 true).run Try.prog w = .ok (.tuple #[.agg #[.string ⟨#[]⟩, .string ⟨#[]⟩, .bool false, .int .i64 0], .bool false]) w := by kernel_rfl
@[go_sem] theorem as_dropped_kept (v : Value) (w : World) : (Instr.typeAssert (.iface 59 v) 47 50 true).run Try.prog w = .ok (.tuple #[.agg #[.string ⟨#[]⟩, .string ⟨#[]⟩, .bool false, .int .i64 0], .bool false]) w := by kernel_rfl
@[go_sem] theorem as_nil_shadowed (w : World) : (Instr.typeAssert .nilIface 47 58 true).run Try.prog w = .ok (.tuple #[.agg #[.string ⟨#[]⟩, .string ⟨#[]⟩, .bool false, .int .i64 0], .bool false]) w := by kernel_rfl
@[go_sem] theorem as_kept_shadowed (v : Value) (w : World) : (Instr.typeAssert (.iface 50 v) 47 58 true).run Try.prog w = .ok (.tuple #[.agg #[.string ⟨#[]⟩, .string ⟨#[]⟩, .bool false, .int .i64 0], .bool false]) w := by kernel_rfl
@[go_sem] theorem as_shadowed_shadowed (v : Value) (w : World) : (Instr.typeAssert (.iface 58 v) 47 58 true).run Try.prog w = .ok (.tuple #[v, .bool true]) w := by kernel_rfl
@[go_sem] theorem as_dropped_shadowed (v : Value) (w : World) : (Instr.typeAssert (.iface 59 v) 47 58 true).run Try.prog w = .ok (.tuple #[.agg #[.string ⟨#[]⟩, .string ⟨#[]⟩, .bool false, .int .i64 0], .bool false]) w := by kernel_rfl
@[go_sem] theorem as_nil_dropped (w : World) : (Instr.typeAssert .nilIface 47 59 true).run Try.prog w = .ok (.tuple #[.agg #[.string ⟨#[]⟩, .string ⟨#[]⟩, .bool false, .int .i64 0], .bool false]) w := by kernel_rfl
@[go_sem] theorem as_kept_dropped (v : Value) (w : World) : (Instr.typeAssert (.iface 50 v) 47 59 true).run Try.prog w = .ok (.tuple #[.agg #[.string ⟨#[]⟩, .string ⟨#[]⟩, .bool false, .int .i64 0], .bool false]) w := by kernel_rfl
@[go_sem] theorem as_shadowed_dropped (v : Value) (w : World) : (Instr.typeAssert (.iface 58 v) 47 59 true).run Try.prog w = .ok (.tuple #[.agg #[.string ⟨#[]⟩, .string ⟨#[]⟩, .bool false, .int .i64 0], .bool false]) w := by kernel_rfl
@[go_sem] theorem as_dropped_dropped (v : Value) (w : World) : (Instr.typeAssert (.iface 59 v) 47 59 true).run Try.prog w = .ok (.tuple #[v, .bool true]) w := by kernel_rfl

def stepVal (s : Sh) (x : Ent) : Value :=
  if stepErr s x = 0 then .tuple #[.bool (fateOf s x == 0), Sh.val ⟨true, x.k, s.bottom⟩, .int .i64 0] else .tuple #[.bool false, Sh.val ⟨false, ⟨#[]⟩, false⟩, .int .i64 (stepErr s x)]
theorem fate_cases (s : Sh) (x : Ent) : fateOf s x = 0 ∨ fateOf s x = 1 ∨ fateOf s x = 2 := by unfold fateOf; split <;> (try split) <;> simp

theorem nextAt (a b d : Bool) (l k v : ByteArray) (s : Int) (w : World) (r : Value) (hr : nextVal ⟨a, l, b⟩ ⟨k, v, d, s⟩ = r) (hl : l.size ≤ maxLen) (hk : k.size ≤ maxLen) (hv : v.size ≤ maxLen) :
    Calls Try.prog 26 #[.agg #[.bool a, .string l, .bool b], .agg #[.string k, .string v, .bool d, .int .i64 s]] w fun e w' => e = .returned r ∧ Below w.heap.size w w' := hr ▸ nextAny a b d l k v s w hl hk hv

theorem next_form (s : Sh) (x : Ent) : ∃ c ta tl tb E r y, nextVal s x = .tuple #[c, .agg #[.bool ta, .string tl, .bool tb], .int .i64 E] ∧ stepVal s x = .tuple #[.bool r, .agg #[.bool ta, .string tl, .bool tb], .int .i64 E] ∧
    ∀ w, (Instr.typeAssert c 47 50 true).run Try.prog w = .ok (.tuple #[y, .bool r]) w := by
  unfold nextVal stepVal
  by_cases h : stepErr s x = 0
  · rw [if_pos h, if_pos h]
    rcases fate_cases s x with hf | hf | hf <;> rw [hf]
    · exact ⟨_, _, _, _, _, _, _, rfl, rfl, as_kept_kept _⟩
    · exact ⟨_, _, _, _, _, _, _, rfl, rfl, as_shadowed_kept _⟩
    · exact ⟨_, _, _, _, _, _, _, rfl, rfl, as_dropped_kept _⟩
  · rw [if_neg h, if_neg h]
    exact ⟨_, _, _, _, _, _, _, rfl, rfl, as_nil_kept⟩

set_option profiler true in
set_option maxHeartbeats 1000000 in
theorem stepAny (a b d : Bool) (l k v : ByteArray) (s : Int) (w : World) (hl : l.size ≤ maxLen) (hk : k.size ≤ maxLen) (hv : v.size ≤ maxLen) :
    Calls Try.prog 11 #[.agg #[.bool a, .string l, .bool b], .agg #[.string k, .string v, .bool d, .int .i64 s]] w fun e w' => e = .returned (stepVal ⟨a, l, b⟩ ⟨k, v, d, s⟩) ∧ Below w.heap.size w w' := by
  obtain ⟨c, ta, tl, tb, E, r, y, h1, h2, hta⟩ := next_form ⟨a, l, b⟩ ⟨k, v, d, s⟩
  have H1 := Lib.hid h1
  rw [h2]
  clear h1 h2
  go_enter Try.func11, Try.ntmps11
  go_wp2_with (go_at_call 26; refine (nextAt _ _ _ _ _ _ _ _ _ H1.out hl hk hv).mono ?_; rintro e w1 ⟨rfl, hb⟩; obtain ⟨c0, f0, z0, c1, f1, z1, c2, f2, z2, hB1⟩ := own3 hb; clear hb)
  trace "A"
  go_region
  trace "B"
  go_wp2
  trace "C"
  refine bodyPost_ret (v := .tuple #[.bool r, .agg #[.bool ta, .string tl, .bool tb], .int .i64 E]) ?_ rfl ⟨rfl, ?_⟩
  · exact results3 rfl rfl (RVal.struct rfl (cellDrew (cellSet (cellSet (cellSet (cellSet (cellSet (cellSet c2 _ _) _ _) _ _) _ _) _ _) _ _)) Try.underlying23 rfl (by kernel_rfl)) rfl
  · repeat' (first | with_reducible assumption | with_reducible apply Below.drew | with_reducible apply Below.setCell | with_reducible apply Below.alloc)
    all_goals (simp <;> omega)
end Go.Proofs.Ytmegjnanieafbaa
