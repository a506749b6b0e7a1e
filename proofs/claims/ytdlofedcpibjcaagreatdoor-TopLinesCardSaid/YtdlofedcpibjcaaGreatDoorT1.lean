/- The closed facts of the statement hold. Conditions: none. -/
import Derived.Test.YtdlofedcpibjcaaGreatDoorRows
import Derived.WalkKit
import Derived.Handed
import Derived.LaidMore
import Derived.Lay
import Derived.SevenTiedAt
import Derived.Stop.Joined
namespace Go.Proofs.YtdlofedcpibjcaaGreatDoor
open Go.RowKit
set_option maxRecDepth 100000
set_option maxHeartbeats 25600000
theorem topLines_facts : joinedFacts Tryz.prog 3 Tryz.f3 Rows.topLinesSpec Rows.topLinesRow = true := by
  unfold joinedFacts
  iterate 31 (refine Bool.and_eq_true_iff.2 ⟨?_, ?_⟩)
  all_goals (as_aux_lemma => kernel_rfl)
theorem topLines_wrap : Tryz.f3.isWrapper Tryz.prog Rows.topLinesRow.wrapper Rows.topLinesRow.mainSum := by
  unfold Func.isWrapper
  rw [if_neg (by decide +kernel)]
  exact ⟨rfl, rfl⟩
end Go.Proofs.YtdlofedcpibjcaaGreatDoor
