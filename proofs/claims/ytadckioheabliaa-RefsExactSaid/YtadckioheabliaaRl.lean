/-
  Differ and Merge, by the code. (Printed by mk24.py of src24/XRl.src.)
-/
import Derived.Test.YtadckioheabliaaRe
import Derived.Test.YtadckioheabliaaRk
namespace Go.Proofs.Ytadckioheabliaa
open Av

/-! ### The least difference -/
end Go.Proofs.Ytadckioheabliaa
