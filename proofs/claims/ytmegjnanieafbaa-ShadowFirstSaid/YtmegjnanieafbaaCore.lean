/-
  Contracts of the small functions on keys and entries: what each call returns, for all arguments that fit in memory.
-/
import Derived.Test.YtmegjnanieafbaaProg
import Derived.Test.YtmegjnanieafbaaData
import Derived.Test.YtmegjnanieafbaaMem
import Derived.WalkKit
import Derived.WalkSpells
import Derived.WalkLawsBesides
import Derived.BigGuardPart
import Derived.Lib.Hide
namespace Go.Proofs.Ytmegjnanieafbaa
open Go.RowKit Bk

set_option maxHeartbeats 400000 in
theorem keysCheck (k : ByteArray) (w : World) (hs : k.size ≤ maxLen) :
    Calls Try.prog 28 #[.string k] w fun e w' => e = .returned (.int .i64 (keyErr k)) ∧ w = w' := by
  unfold maxLen at hs
  by_cases h : 32 < k.size
  all_goals
    go_enter Try.func28, Try.ntmps28
    go_wp2
    go_ret
    exact ⟨by simp [keyErr, *], rfl⟩

set_option maxHeartbeats 1000000 in
theorem entriesCheck (k v : ByteArray) (d : Bool) (s : Int) (w : World) (hk : k.size ≤ maxLen) (hv : v.size ≤ maxLen) :
    Calls Try.prog 34 #[.agg #[.string k, .string v, .bool d, .int .i64 s]] w fun e w' => e = .returned (.int .i64 (entErr ⟨k, v, d, s⟩)) ∧ Below w.heap.size w w' := by
  have hk' := Lib.hid hk
  unfold maxLen at hv
  have hke : ¬ keyErr k = 0 ↔ 32 < k.size := by unfold keyErr; split <;> simp [*]
  have HE := Lib.hid hke
  clear hke
  go_enter Try.func34, Try.ntmps34
  go_wp2_with (go_at_call 28; refine (keysCheck _ _ hk'.out).mono ?_; rintro e w' ⟨rfl, rfl⟩)
  all_goals
    have HE := HE.out
    go_ret
    refine ⟨?_, (Below.refl _ _).alloc (Nat.le_refl _) _⟩
    simp_all [entErr]
    try omega

set_option maxHeartbeats 1000000 in
theorem ref03Check (k v : ByteArray) (d : Bool) (s : Int) (w : World) (hk : k.size ≤ maxLen) (hv : v.size ≤ maxLen) :
    Calls Try.prog 27 #[.agg #[.string k, .string v, .bool d, .int .i64 s]] w fun e w' => e = .returned (.int .i64 (entErr ⟨k, v, d, s⟩)) ∧ Below w.heap.size w w' := by
  unfold maxLen at hk hv
  go_enter Try.func27, Try.ntmps27
  go_wp2
  all_goals
    go_ret
    refine ⟨?_, (Below.refl _ _).alloc (Nat.le_refl _) _⟩
    simp_all [entErr]
    try omega
end Go.Proofs.Ytmegjnanieafbaa
