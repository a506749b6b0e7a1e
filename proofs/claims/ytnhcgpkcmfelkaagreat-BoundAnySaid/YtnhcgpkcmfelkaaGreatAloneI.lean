/-
  My own work: alone.Suits: its contract (the rest).
-/
import Derived.Test.YtnhcgpkcmfelkaaGreatAloneH
import Derived.Test.YtnhcgpkcmfelkaaGreatMStock
namespace Go.Proofs.YtnhcgpkcmfelkaaGreat
open Go.RowKit
set_option linter.unusedVariables false
set_option maxRecDepth 100000
attribute [local go_sem ↓] Go.wp_at_zero Go.wp_at_succ

theorem fits_no {cap : Int} {V : List (Int × Int)} {k : Nat} (hk : k < V.length) (h : cap < (nthV V k).2) : fitsV cap V = false := by
  unfold fitsV
  rw [List.all_eq_false]
  exact ⟨nthV V k, by rw [nthV_lt hk]; exact List.getElem_mem hk, by simp; omega⟩
theorem fits_yes {cap : Int} {V : List (Int × Int)} (h : ∀ j, j < V.length → (nthV V j).2 ≤ cap) : fitsV cap V = true := by
  unfold fitsV
  rw [List.all_eq_true]
  intro x hx
  obtain ⟨j, hj, rfl⟩ := List.getElem_of_mem hx
  have := h j hj
  rw [nthV_lt hj] at this
  simpa using this

end Go.Proofs.YtnhcgpkcmfelkaaGreat
