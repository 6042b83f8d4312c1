/-
  Differ and Merge by the reference.
-/
import Derived.Test.YtadckioheabliaaRd
namespace Go.Proofs.Ytadckioheabliaa
open Av

/-! ### Differ -/
/-! ### Merge -/
end Go.Proofs.Ytadckioheabliaa
