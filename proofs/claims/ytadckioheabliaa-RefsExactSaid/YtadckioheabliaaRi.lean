/-
  The laws of tables and of changes.
-/
import Derived.Test.YtadckioheabliaaRh
namespace Go.Proofs.Ytadckioheabliaa
open Av

theorem held_len (t : List rcT.El) : (heldR t).1.length ≤ t.length := by
  unfold heldR
  split
  · exact Nat.zero_le _
  · exact Nat.le_of_eq (List.length_map _)
theorem sameC_refl (l : List rcT.El) : sameL rcT l l = true := sameC_iff.2 rfl
theorem drop_len (t : List rcT.El) (ids : List Int) : (dropL t ids).1.length ≤ t.length + ids.length ∧ (dropL t ids).2.1.length ≤ t.length := by
  unfold dropL
  split
  · exact ⟨Nat.zero_le _, Nat.zero_le _⟩
  · split
    · exact ⟨Nat.zero_le _, Nat.zero_le _⟩
    · exact ⟨bmp_len _, frdL_len _ _⟩
end Go.Proofs.Ytadckioheabliaa
