/-
  My own work: alone.Suits: its contract.
-/
import Derived.Test.YtnhcgpkcmfelkaaGreatAloneF
import Derived.Test.YtnhcgpkcmfelkaaGreatMAl
import Derived.Test.YtnhcgpkcmfelkaaGreatMStock
namespace Go.Proofs.YtnhcgpkcmfelkaaGreat
open Go.RowKit
set_option linter.unusedVariables false
set_option maxRecDepth 100000
attribute [local go_sem ↓] Go.wp_at_zero Go.wp_at_succ

theorem any_no {ps : List Nat} {f : Nat → Bool} (h : ∀ j, j < ps.length → f (nthN ps j) = false) : ps.any f = false := by
  rw [List.any_eq_false]
  intro x hx
  obtain ⟨j, hj, rfl⟩ := List.getElem_of_mem hx
  rw [← nthN_lt hj, h j hj]
  simp
theorem any_yes {ps : List Nat} {f : Nat → Bool} {j : Nat} (hj : j < ps.length) (h : f (nthN ps j) = true) : ps.any f = true := by
  rw [List.any_eq_true]
  exact ⟨_, nthN_mem hj, h⟩

end Go.Proofs.YtnhcgpkcmfelkaaGreat
