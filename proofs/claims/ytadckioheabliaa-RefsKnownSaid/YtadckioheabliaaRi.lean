/-
  The laws of tables and of changes.
-/
import Derived.Test.YtadckioheabliaaRh
namespace Go.Proofs.Ytadckioheabliaa
open Av

end Go.Proofs.Ytadckioheabliaa
