/-
  My own work: tranterref11.Suits: its contract.
-/
import Derived.Test.YtnhcgpkcmfelkaaAloneI
import Derived.Test.YtnhcgpkcmfelkaaAloneG
namespace Go.Proofs.Ytnhcgpkcmfelkaa
open Go.RowKit
set_option linter.unusedVariables false
set_option maxRecDepth 100000
attribute [local go_sem ↓] Go.wp_at_zero Go.wp_at_succ

end Go.Proofs.Ytnhcgpkcmfelkaa
