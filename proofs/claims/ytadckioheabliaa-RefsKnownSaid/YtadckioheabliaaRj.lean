/-
  Drop undoes Add.
-/
import Derived.Test.YtadckioheabliaaRi
namespace Go.Proofs.Ytadckioheabliaa
open Av

/-- Tables that are in order. -/
structure OkT (t : List rcT.El) : Prop where
  ck : ckL t = (0, 0)
  ln : t.length ≤ 500
  good : ∀ x ∈ t, goodX x
  asc : ascC t
theorem OkT.pos {t : List rcT.El} (h : OkT t) : posC t := good_pos h.good
end Go.Proofs.Ytadckioheabliaa
