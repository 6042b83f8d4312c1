/-
  The first test of the statements: whatever it answers, it answers, and leaves memory alone.
-/
import Derived.Test.YtmegjnanieafbaaSl
import Derived.Test.YtmegjnanieafbaaShC
namespace Go.Proofs.Ytmegjnanieafbaa
open Go.RowKit Bk

/-- It returns one bool or the other; the world is as it was. -/
def RetBool (w : World) (e : Ending) (w' : World) : Prop := ∃ b, e = .returned (.bool b) ∧ w = w'

set_option maxHeartbeats 1000000 in
theorem farFull (l : List Ent) (ba oa ca : Nat) (w : World) (hl : l.length ≤ 9223372036854775807) (hok : ∀ x ∈ l, x.ok)
   (hA : ∀ i x, l[i]? = some x → EntAt w ba (oa + i * 4) x) :
    Calls Try.prog 17 #[.slice (some ⟨ba, oa, none⟩) l.length ca] w (RetBool w) := by
  have HA := Lib.hid hA
  have HO := Lib.hid hok
  clear hA hok
  go_enter Try.func17, Try.ntmps17
  go_wp2
  all_goals first
    | (go_ret; exact ⟨_, rfl, rfl⟩)
    | skip
  all_goals
    go_loop [3] (fun i => ∃ k : Nat, k ≤ l.length ∧ i = .int .i64 k) (fun i => l.length - (intOf i).toNat)
    case atStart => exact ⟨0, Nat.zero_le _, rfl⟩
    case round =>
      obtain ⟨k, hk, rfl⟩ := hrel
      by_cases hlt : k < l.length
      · have hx' : l[k]? = some l[k] := List.getElem?_eq_getElem hlt
        have a0 := HA.out k _ hx'
        have hs := HO.out l[k] (List.getElem_mem hlt)
        clear hx'
        revert a0 hs
        generalize l[k] = x
        rintro ⟨a0, a1, a2, a3⟩ ⟨s1, s2⟩
        unfold maxLen at s1 s2
        have i0 : (0 : Int) ≤ (k : Int) := by omega
        have i1 : (k : Int) < (l.length : Int) := by omega
        go_wp2
        all_goals first
          | (go_ret; exact ⟨_, rfl, rfl⟩)
          | (go_round
             case rel => exact ⟨k + 1, by omega, by go_num⟩
             case measure => simp [intOf]; omega)
      · go_wp2
        go_ret
        exact ⟨_, rfl, rfl⟩
end Go.Proofs.Ytmegjnanieafbaa
