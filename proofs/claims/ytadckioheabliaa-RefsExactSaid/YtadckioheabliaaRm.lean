/-
  Merge, by the code. (Printed by mk24.py of src24/XRm.src.)
-/
import Derived.Test.YtadckioheabliaaRl
namespace Go.Proofs.Ytadckioheabliaa
open Av

end Go.Proofs.Ytadckioheabliaa
