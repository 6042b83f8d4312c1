/-
  Drop undoes Add.
-/
import Derived.Test.YtadckioheabliaaRi
namespace Go.Proofs.Ytadckioheabliaa
open Av

/-- Tables that are in order. -/
structure OkT (t : List rcT.El) : Prop where
  ck : ckL t = (0, 0)
  ln : t.length ≤ 500
  good : ∀ x ∈ t, goodX x
  asc : ascC t
theorem OkT.pos {t : List rcT.El} (h : OkT t) : posC t := good_pos h.good
theorem limE_zero {t : List rcT.El} (h : limE t = 0) : t.length ≤ 500 ∧ ∀ x ∈ t, nC x ≤ 1000000 := by
  unfold limE at h
  split at h
  · exact absurd h (by decide)
  · split at h
    · exact absurd h (by decide)
    · rename_i h1 h2
      refine ⟨by omega, mostB_iff.1 ?_⟩
      cases hc : mostB t with
      | true => rfl
      | false => exact absurd hc h2
end Go.Proofs.Ytadckioheabliaa
