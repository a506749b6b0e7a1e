/-
  My own work: tranterref10.Way: its contract.
-/
import Derived.Test.YtnhcgpkcmfelkaaMPol
namespace Go.Proofs.Ytnhcgpkcmfelkaa
open Go.RowKit
set_option linter.unusedVariables false
set_option maxRecDepth 100000

end Go.Proofs.Ytnhcgpkcmfelkaa
