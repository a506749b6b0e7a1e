/-
  My own work: tranterref11.Suits: its contract.
-/
import Derived.Test.YtnhcgpkcmfelkaaGreatAloneI
import Derived.Test.YtnhcgpkcmfelkaaGreatAloneG
namespace Go.Proofs.YtnhcgpkcmfelkaaGreat
open Go.RowKit
set_option linter.unusedVariables false
set_option maxRecDepth 100000
attribute [local go_sem ↓] Go.wp_at_zero Go.wp_at_succ

end Go.Proofs.YtnhcgpkcmfelkaaGreat
