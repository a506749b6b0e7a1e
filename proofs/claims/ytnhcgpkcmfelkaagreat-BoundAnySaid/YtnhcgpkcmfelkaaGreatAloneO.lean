/-
  My own work: tranterlaw11.lives: its contract.
-/
import Derived.Test.YtnhcgpkcmfelkaaGreatAloneN
namespace Go.Proofs.YtnhcgpkcmfelkaaGreat
open Go.RowKit
set_option linter.unusedVariables false
set_option maxRecDepth 100000
attribute [local go_sem ↓] Go.wp_at_zero Go.wp_at_succ

theorem live_stp : stp 3 6 2 0 9 [9, 1, 9] 3 3 = some (1, 1) := by decide +kernel
theorem live_fill : ∀ S, S < 8 → OkTo 3 6 2 9 S 3 → costS 3 6 2 0 [9, 1, 9] S 3 = 1 → visitsOf (fillQ 3 6 2 S 3) = [(1, 5)] := by decide +kernel
theorem live_cost : costV 2 3 2 6 0 [9, 1, 9] [(1, 5)] 3 = 1 := by decide +kernel
theorem live_price : ∀ d, 0 ≤ priceAt [9, 1, 9] d ∧ priceAt [9, 1, 9] d ≤ 1000 := priceAt_bd (by decide)
theorem live_tank : TankOk 3 2 6 1 0 := ⟨by decide, by decide, by decide, by decide, by decide, by decide, by decide, by decide, by decide⟩

theorem ints_new (w : World) (xs : List Int) (h : xs.length ≤ 9223372036854775807) : Ints (w.alloc (.cells (xs.map (Value.int .i64)).toArray 3)) (.slice (some ⟨w.heap.size, 0, none⟩) xs.length xs.length) xs :=
  ints_of (Lies.new w _ _) h

end Go.Proofs.YtnhcgpkcmfelkaaGreat
