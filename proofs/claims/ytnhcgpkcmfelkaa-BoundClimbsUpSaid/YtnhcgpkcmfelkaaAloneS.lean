/-
  My own work: tranterref10.Filled: its contract.
-/
import Derived.Test.YtnhcgpkcmfelkaaMAl
import Derived.Test.YtnhcgpkcmfelkaaAloneF
import Derived.Test.YtnhcgpkcmfelkaaMStock
namespace Go.Proofs.Ytnhcgpkcmfelkaa
open Go.RowKit
set_option linter.unusedVariables false
set_option maxRecDepth 100000
attribute [local go_sem ↓] Go.wp_at_zero Go.wp_at_succ

def FilledOut (st sz rt cap : Int) (S n : Nat) (w : World) (e : Ending) (w' : World) : Prop :=
  ∃ v, e = .returned (.tuple #[v, .bool (decide (OkTo st sz rt cap S n))]) ∧ (OkTo st sz rt cap S n → Own w' w.heap.size v (fillQ st sz rt S n)) ∧ Below w.heap.size w w'
theorem fillQ_succ (st sz rt : Int) (S k : Nat) : fillQ st sz rt S (k + 1) = fillQ st sz rt S k ++ [qS st sz rt S k] := by unfold fillQ; rw [List.range_succ, List.map_append]; rfl

end Go.Proofs.Ytnhcgpkcmfelkaa
