/- The card follows from the plain statement. Conditions: none. -/
import Derived.Test.YtdlofedcpibjcaaGreatDoorCards
import Derived.Test.YtdlofedcpibjcaaGreatDoorTie
import Derived.SevenTiedAt
import Derived.WalkKit
namespace Go.Proofs.YtdlofedcpibjcaaGreatDoor
open Go
set_option maxRecDepth 100000
theorem topLines_tied (h : Rows.TopLinesSaid) : Rows.TopLinesCardSaid :=
  Claim7.holds_tied_plain_at .later [] [.data, .pinned] true (true, "d6bc0c71225e5641ca20368ffbd4420594000571d1cacb092797e6e0435eea20") true h (fun _ h => by cases h) (by kernel_rfl) (fun _ h => by cases h) topLines_row_tie rfl ⟨rfl, rfl⟩ (by kernel_rfl) rfl
    (fun f fn hf hfn => by
      obtain rfl : f = 3 := Option.some.inj ((show Tryz.prog.funcNamed "tranter/trantertop.TopLines" = some 3 by kernel_rfl).symm.trans hf) |>.symm
      obtain rfl : fn = Tryz.f3 := (Option.some.inj (Tryz.func3.symm.trans hfn)).symm
      exact ⟨by kernel_rfl, fun j t ht => by
        rw [Tryz.params3] at ht
        have hm : t ∈ [9, 22] := by simpa using Array.mem_of_getElem? ht
        have hall : ([9, 22].all fun u => !Tryz.prog.wantsStandIn u) = true := by kernel_rfl
        exact (show Tryz.prog.wantsStandIn t = false by simpa using List.all_eq_true.1 hall t hm)⟩)
    (by kernel_rfl)
end Go.Proofs.YtdlofedcpibjcaaGreatDoor
