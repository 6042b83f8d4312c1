/-
  The laws of tables and of changes.
-/
import Derived.Test.YtadckioheabliaaRh
namespace Go.Proofs.Ytadckioheabliaa
open Av

theorem sameC_refl (l : List rcT.El) : sameL rcT l l = true := sameC_iff.2 rfl
end Go.Proofs.Ytadckioheabliaa
