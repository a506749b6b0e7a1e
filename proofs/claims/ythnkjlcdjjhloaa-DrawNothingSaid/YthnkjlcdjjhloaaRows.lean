/-
  No cell of these rows narrows 'for every input' (looked for: loops, veiled, ifaces, maps, wideKeys, modest, calm, conditions, laid).
  DERIVED. THE GIVEN ROWS OF THIS SEAT. 10 by the template 'for every input the law returns true; each argument reads behind the call as it read before'; 0 by the template 'total and deterministic' (their statements: YthnkjlcdjjhloaaTotals.lean).
  GIVEN WITH THE SEED: the statements are not yours to turn. If you find one false, say at which input.
  Laid BY PROGRAM, IN A SANDBOX (cutbox-rows.mjs): the forced cells as the released guide's own fill.sh prints them over the translation 991ca79c998e524c… (all of the seat's roots in one cut). By AI agents, Wed Nov 11 2026. No macro, syntax, notation, axiom, sorry.
-/
import Derived.Test.YthnkjlcdjjhloaaChecked
import GoSem.Claim
import GoSem.ClaimJoined
import GoSem.ClaimMapViews
import Derived.JoinedTies
import Derived.KernelRfl
namespace Go.Proofs.Ythnkjlcdjjhloaa
/- THE CELL 'sum', in the pinned program and in every row, IS THE sha256 OF THE DUMP (.gsa) THAT YthnkjlcdjjhloaaProg.lean LOADS. Nothing in Lean hashes anything: it is a label: what it is worth is what the hold of that sum in a sandbox is worth. -/
noncomputable def Try.pinned : Pinned := { name := "ythnkjlcdjjhloaa", sum := "991ca79c998e524c83ca68d1736b41f7d3fbc47a165d6eadae5cc18fef616f21", checked := Try.checked }
namespace Rows
def none {H : Type} : Left H := { results := [], args := [] }

/-- 'tranterlaw04.DrawAgain': WHATEVER THE INPUT: true; the input reads as it did. -/
def drawAgainSpec : ChangeSpec := { name := "drawAgain", fn := fun _ => fun
  | [d1, d2] => { results := [.lit (.bool true)], args := [d1, d2] }
  | _ => none }
def drawAgainRow : OpenClaim := { program := "ythnkjlcdjjhloaa", sum := "991ca79c998e524c83ca68d1736b41f7d3fbc47a165d6eadae5cc18fef616f21", func := "tranter/tranterlaw04.DrawAgain", spec := "drawAgain", apart := false }
def DrawAgainSaid : Prop := drawAgainRow.holds Try.pinned (OpenSpec.ofChange drawAgainSpec)

/-- ITS FALSE NEIGHBOUR: 'it returns false'. Refute it at one input. -/
def drawAgainWrong : ChangeSpec := { name := "drawAgain", fn := fun _ => fun
  | [d1, d2] => { results := [.lit (.bool false)], args := [d1, d2] }
  | _ => none }
def DrawAgainWrongFalsely : Prop := drawAgainRow.holds Try.pinned (OpenSpec.ofChange drawAgainWrong)

/-- 'tranterlaw04.DrawForks': WHATEVER THE INPUT: true; the input reads as it did. -/
def drawForksSpec : ChangeSpec := { name := "drawForks", fn := fun _ => fun
  | [d1, d2] => { results := [.lit (.bool true)], args := [d1, d2] }
  | _ => none }
def drawForksRow : OpenClaim := { program := "ythnkjlcdjjhloaa", sum := "991ca79c998e524c83ca68d1736b41f7d3fbc47a165d6eadae5cc18fef616f21", func := "tranter/tranterlaw04.DrawForks", spec := "drawForks", apart := false }
def DrawForksSaid : Prop := drawForksRow.holds Try.pinned (OpenSpec.ofChange drawForksSpec)

/-- ITS FALSE NEIGHBOUR: 'it returns false'. Refute it at one input. -/
def drawForksWrong : ChangeSpec := { name := "drawForks", fn := fun _ => fun
  | [d1, d2] => { results := [.lit (.bool false)], args := [d1, d2] }
  | _ => none }
def DrawForksWrongFalsely : Prop := drawForksRow.holds Try.pinned (OpenSpec.ofChange drawForksWrong)

/-- 'tranterlaw09.StockNights': WHATEVER THE INPUT: true; the input reads as it did. -/
def stockNightsSpec : ChangeSpec := { name := "stockNights", fn := fun _ => fun
  | [d1, d2] => { results := [.lit (.bool true)], args := [d1, d2] }
  | _ => none }
def stockNightsRow : OpenClaim := { program := "ythnkjlcdjjhloaa", sum := "991ca79c998e524c83ca68d1736b41f7d3fbc47a165d6eadae5cc18fef616f21", func := "tranter/tranterlaw09.StockNights", spec := "stockNights", unfollowed := true, recurses := true, apart := false }
def StockNightsSaid : Prop := stockNightsRow.holds Try.pinned (OpenSpec.ofChange stockNightsSpec)

/-- ITS FALSE NEIGHBOUR: 'it returns false'. Refute it at one input. -/
def stockNightsWrong : ChangeSpec := { name := "stockNights", fn := fun _ => fun
  | [d1, d2] => { results := [.lit (.bool false)], args := [d1, d2] }
  | _ => none }
def StockNightsWrongFalsely : Prop := stockNightsRow.holds Try.pinned (OpenSpec.ofChange stockNightsWrong)

/-- 'tranterlaw09.StockMore': WHATEVER THE INPUT: true; the input reads as it did. -/
def stockMoreSpec : ChangeSpec := { name := "stockMore", fn := fun _ => fun
  | [d1, d2, d3] => { results := [.lit (.bool true)], args := [d1, d2, d3] }
  | _ => none }
def stockMoreRow : OpenClaim := { program := "ythnkjlcdjjhloaa", sum := "991ca79c998e524c83ca68d1736b41f7d3fbc47a165d6eadae5cc18fef616f21", func := "tranter/tranterlaw09.StockMore", spec := "stockMore", unfollowed := true, recurses := true, apart := false }
def StockMoreSaid : Prop := stockMoreRow.holds Try.pinned (OpenSpec.ofChange stockMoreSpec)

/-- ITS FALSE NEIGHBOUR: 'it returns false'. Refute it at one input. -/
def stockMoreWrong : ChangeSpec := { name := "stockMore", fn := fun _ => fun
  | [d1, d2, d3] => { results := [.lit (.bool false)], args := [d1, d2, d3] }
  | _ => none }
def StockMoreWrongFalsely : Prop := stockMoreRow.holds Try.pinned (OpenSpec.ofChange stockMoreWrong)

/-- 'tranterlaw04.DrawRows': WHATEVER THE INPUT: true; the input reads as it did. -/
def drawRowsSpec : ChangeSpec := { name := "drawRows", fn := fun _ => fun
  | [d1, d2] => { results := [.lit (.bool true)], args := [d1, d2] }
  | _ => none }
def drawRowsRow : OpenClaim := { program := "ythnkjlcdjjhloaa", sum := "991ca79c998e524c83ca68d1736b41f7d3fbc47a165d6eadae5cc18fef616f21", func := "tranter/tranterlaw04.DrawRows", spec := "drawRows", unfollowed := true, recurses := true, apart := false }
def DrawRowsSaid : Prop := drawRowsRow.holds Try.pinned (OpenSpec.ofChange drawRowsSpec)

/-- ITS FALSE NEIGHBOUR: 'it returns false'. Refute it at one input. -/
def drawRowsWrong : ChangeSpec := { name := "drawRows", fn := fun _ => fun
  | [d1, d2] => { results := [.lit (.bool false)], args := [d1, d2] }
  | _ => none }
def DrawRowsWrongFalsely : Prop := drawRowsRow.holds Try.pinned (OpenSpec.ofChange drawRowsWrong)

/-- 'tranterlaw09.StockFirst': WHATEVER THE INPUT: true; the input reads as it did. -/
def stockFirstSpec : ChangeSpec := { name := "stockFirst", fn := fun _ => fun
  | [d1, d2, d3] => { results := [.lit (.bool true)], args := [d1, d2, d3] }
  | _ => none }
def stockFirstRow : OpenClaim := { program := "ythnkjlcdjjhloaa", sum := "991ca79c998e524c83ca68d1736b41f7d3fbc47a165d6eadae5cc18fef616f21", func := "tranter/tranterlaw09.StockFirst", spec := "stockFirst", unfollowed := true, recurses := true, apart := false }
def StockFirstSaid : Prop := stockFirstRow.holds Try.pinned (OpenSpec.ofChange stockFirstSpec)

/-- ITS FALSE NEIGHBOUR: 'it returns false'. Refute it at one input. -/
def stockFirstWrong : ChangeSpec := { name := "stockFirst", fn := fun _ => fun
  | [d1, d2, d3] => { results := [.lit (.bool false)], args := [d1, d2, d3] }
  | _ => none }
def StockFirstWrongFalsely : Prop := stockFirstRow.holds Try.pinned (OpenSpec.ofChange stockFirstWrong)

/-- 'tranterlaw04.DrawPicks': WHATEVER THE INPUT: true; the input reads as it did. -/
def drawPicksSpec : ChangeSpec := { name := "drawPicks", fn := fun _ => fun
  | [d1, d2] => { results := [.lit (.bool true)], args := [d1, d2] }
  | _ => none }
def drawPicksRow : OpenClaim := { program := "ythnkjlcdjjhloaa", sum := "991ca79c998e524c83ca68d1736b41f7d3fbc47a165d6eadae5cc18fef616f21", func := "tranter/tranterlaw04.DrawPicks", spec := "drawPicks", apart := false }
def DrawPicksSaid : Prop := drawPicksRow.holds Try.pinned (OpenSpec.ofChange drawPicksSpec)

/-- ITS FALSE NEIGHBOUR: 'it returns false'. Refute it at one input. -/
def drawPicksWrong : ChangeSpec := { name := "drawPicks", fn := fun _ => fun
  | [d1, d2] => { results := [.lit (.bool false)], args := [d1, d2] }
  | _ => none }
def DrawPicksWrongFalsely : Prop := drawPicksRow.holds Try.pinned (OpenSpec.ofChange drawPicksWrong)

/-- 'tranterlaw09.StockHolds': WHATEVER THE INPUT: true; the input reads as it did. -/
def stockHoldsSpec : ChangeSpec := { name := "stockHolds", fn := fun _ => fun
  | [d1, d2, d3] => { results := [.lit (.bool true)], args := [d1, d2, d3] }
  | _ => none }
def stockHoldsRow : OpenClaim := { program := "ythnkjlcdjjhloaa", sum := "991ca79c998e524c83ca68d1736b41f7d3fbc47a165d6eadae5cc18fef616f21", func := "tranter/tranterlaw09.StockHolds", spec := "stockHolds", unfollowed := true, recurses := true, apart := false }
def StockHoldsSaid : Prop := stockHoldsRow.holds Try.pinned (OpenSpec.ofChange stockHoldsSpec)

/-- ITS FALSE NEIGHBOUR: 'it returns false'. Refute it at one input. -/
def stockHoldsWrong : ChangeSpec := { name := "stockHolds", fn := fun _ => fun
  | [d1, d2, d3] => { results := [.lit (.bool false)], args := [d1, d2, d3] }
  | _ => none }
def StockHoldsWrongFalsely : Prop := stockHoldsRow.holds Try.pinned (OpenSpec.ofChange stockHoldsWrong)

/-- 'tranterlaw04.DrawNothing': WHATEVER THE INPUT: true; the input reads as it did. -/
def drawNothingSpec : ChangeSpec := { name := "drawNothing", fn := fun _ => fun
  | [d1, d2, d3] => { results := [.lit (.bool true)], args := [d1, d2, d3] }
  | _ => none }
def drawNothingRow : OpenClaim := { program := "ythnkjlcdjjhloaa", sum := "991ca79c998e524c83ca68d1736b41f7d3fbc47a165d6eadae5cc18fef616f21", func := "tranter/tranterlaw04.DrawNothing", spec := "drawNothing", unfollowed := true, recurses := true, apart := false }
def DrawNothingSaid : Prop := drawNothingRow.holds Try.pinned (OpenSpec.ofChange drawNothingSpec)

/-- ITS FALSE NEIGHBOUR: 'it returns false'. Refute it at one input. -/
def drawNothingWrong : ChangeSpec := { name := "drawNothing", fn := fun _ => fun
  | [d1, d2, d3] => { results := [.lit (.bool false)], args := [d1, d2, d3] }
  | _ => none }
def DrawNothingWrongFalsely : Prop := drawNothingRow.holds Try.pinned (OpenSpec.ofChange drawNothingWrong)

/-- 'tranterlaw09.StockLeft': WHATEVER THE INPUT: true; the input reads as it did. -/
def stockLeftSpec : ChangeSpec := { name := "stockLeft", fn := fun _ => fun
  | [d1, d2] => { results := [.lit (.bool true)], args := [d1, d2] }
  | _ => none }
def stockLeftRow : OpenClaim := { program := "ythnkjlcdjjhloaa", sum := "991ca79c998e524c83ca68d1736b41f7d3fbc47a165d6eadae5cc18fef616f21", func := "tranter/tranterlaw09.StockLeft", spec := "stockLeft", unfollowed := true, recurses := true, apart := false }
def StockLeftSaid : Prop := stockLeftRow.holds Try.pinned (OpenSpec.ofChange stockLeftSpec)

/-- ITS FALSE NEIGHBOUR: 'it returns false'. Refute it at one input. -/
def stockLeftWrong : ChangeSpec := { name := "stockLeft", fn := fun _ => fun
  | [d1, d2] => { results := [.lit (.bool false)], args := [d1, d2] }
  | _ => none }
def StockLeftWrongFalsely : Prop := stockLeftRow.holds Try.pinned (OpenSpec.ofChange stockLeftWrong)

/- THE SECOND FORM. 'bulk': how many values and letters a reading holds, each counted each time it is reached (what is shared counts as often as it is met; a slice's spare places count too). A statement '..UptoSaid' is the law's where the arguments, and the package variables that the reading takes, are together of bulk at most 1048576: NARROWER than '..Said'. Prove '..Said' where nothing that the law and all that it calls make is longer than what came in: it says more and counts as full. Else prove '..UptoSaid'. A law counts once. -/
mutual
def uptoBulk {H : Type} : DataW H → Nat
  | .lit (.string bytes) => bytes.length + 1
  | .lit _ => 1
  | .nil => 1
  | .ptr d => uptoBulk d + 1
  | .slice elems spare => uptoBulkAll elems + uptoBulkAll spare + 1
  | .agg parts => uptoBulkAll parts + 1
  | .iface _ d => uptoBulk d + 1
  | .map entries => uptoBulkEntries entries + 1
  | .held _ => 1
def uptoBulkAll {H : Type} : List (DataW H) → Nat
  | [] => 0
  | d :: r => uptoBulk d + uptoBulkAll r
def uptoBulkEntries {H : Type} : List (Lit × DataW H) → Nat
  | [] => 0
  | x :: r => uptoBulkEntry x + uptoBulkEntries r
def uptoBulkEntry {H : Type} : Lit × DataW H → Nat
  | (.string bytes, d) => bytes.length + uptoBulk d + 1
  | (_, d) => uptoBulk d + 1
 end
def uptoSmall : (H : Type) → List (DataW H) → Bool := fun _ ds => decide (uptoBulkAll ds ≤ 1048576)
def OpenSpec.upto (s : _root_.Go.ChangeSpec) : _root_.Go.OpenSpec := { _root_.Go.OpenSpec.ofChange s with cond := some uptoSmall }

/-- 'tranterlaw04.DrawAgain', WHERE WHAT IT READS IS OF BULK AT MOST 1048576: true; the input reads as it did. -/
def drawAgainUptoRow : OpenClaim := { program := "ythnkjlcdjjhloaa", sum := "991ca79c998e524c83ca68d1736b41f7d3fbc47a165d6eadae5cc18fef616f21", func := "tranter/tranterlaw04.DrawAgain", spec := "drawAgain", apart := false, narrowed := true }
def DrawAgainUptoSaid : Prop := drawAgainUptoRow.holds Try.pinned (OpenSpec.upto drawAgainSpec)

/-- 'tranterlaw04.DrawForks', WHERE WHAT IT READS IS OF BULK AT MOST 1048576: true; the input reads as it did. -/
def drawForksUptoRow : OpenClaim := { program := "ythnkjlcdjjhloaa", sum := "991ca79c998e524c83ca68d1736b41f7d3fbc47a165d6eadae5cc18fef616f21", func := "tranter/tranterlaw04.DrawForks", spec := "drawForks", apart := false, narrowed := true }
def DrawForksUptoSaid : Prop := drawForksUptoRow.holds Try.pinned (OpenSpec.upto drawForksSpec)

/-- 'tranterlaw09.StockNights', WHERE WHAT IT READS IS OF BULK AT MOST 1048576: true; the input reads as it did. -/
def stockNightsUptoRow : OpenClaim := { program := "ythnkjlcdjjhloaa", sum := "991ca79c998e524c83ca68d1736b41f7d3fbc47a165d6eadae5cc18fef616f21", func := "tranter/tranterlaw09.StockNights", spec := "stockNights", unfollowed := true, recurses := true, apart := false, narrowed := true }
def StockNightsUptoSaid : Prop := stockNightsUptoRow.holds Try.pinned (OpenSpec.upto stockNightsSpec)

/-- 'tranterlaw09.StockMore', WHERE WHAT IT READS IS OF BULK AT MOST 1048576: true; the input reads as it did. -/
def stockMoreUptoRow : OpenClaim := { program := "ythnkjlcdjjhloaa", sum := "991ca79c998e524c83ca68d1736b41f7d3fbc47a165d6eadae5cc18fef616f21", func := "tranter/tranterlaw09.StockMore", spec := "stockMore", unfollowed := true, recurses := true, apart := false, narrowed := true }
def StockMoreUptoSaid : Prop := stockMoreUptoRow.holds Try.pinned (OpenSpec.upto stockMoreSpec)

/-- 'tranterlaw04.DrawRows', WHERE WHAT IT READS IS OF BULK AT MOST 1048576: true; the input reads as it did. -/
def drawRowsUptoRow : OpenClaim := { program := "ythnkjlcdjjhloaa", sum := "991ca79c998e524c83ca68d1736b41f7d3fbc47a165d6eadae5cc18fef616f21", func := "tranter/tranterlaw04.DrawRows", spec := "drawRows", unfollowed := true, recurses := true, apart := false, narrowed := true }
def DrawRowsUptoSaid : Prop := drawRowsUptoRow.holds Try.pinned (OpenSpec.upto drawRowsSpec)

/-- 'tranterlaw09.StockFirst', WHERE WHAT IT READS IS OF BULK AT MOST 1048576: true; the input reads as it did. -/
def stockFirstUptoRow : OpenClaim := { program := "ythnkjlcdjjhloaa", sum := "991ca79c998e524c83ca68d1736b41f7d3fbc47a165d6eadae5cc18fef616f21", func := "tranter/tranterlaw09.StockFirst", spec := "stockFirst", unfollowed := true, recurses := true, apart := false, narrowed := true }
def StockFirstUptoSaid : Prop := stockFirstUptoRow.holds Try.pinned (OpenSpec.upto stockFirstSpec)

/-- 'tranterlaw04.DrawPicks', WHERE WHAT IT READS IS OF BULK AT MOST 1048576: true; the input reads as it did. -/
def drawPicksUptoRow : OpenClaim := { program := "ythnkjlcdjjhloaa", sum := "991ca79c998e524c83ca68d1736b41f7d3fbc47a165d6eadae5cc18fef616f21", func := "tranter/tranterlaw04.DrawPicks", spec := "drawPicks", apart := false, narrowed := true }
def DrawPicksUptoSaid : Prop := drawPicksUptoRow.holds Try.pinned (OpenSpec.upto drawPicksSpec)

/-- 'tranterlaw09.StockHolds', WHERE WHAT IT READS IS OF BULK AT MOST 1048576: true; the input reads as it did. -/
def stockHoldsUptoRow : OpenClaim := { program := "ythnkjlcdjjhloaa", sum := "991ca79c998e524c83ca68d1736b41f7d3fbc47a165d6eadae5cc18fef616f21", func := "tranter/tranterlaw09.StockHolds", spec := "stockHolds", unfollowed := true, recurses := true, apart := false, narrowed := true }
def StockHoldsUptoSaid : Prop := stockHoldsUptoRow.holds Try.pinned (OpenSpec.upto stockHoldsSpec)

/-- 'tranterlaw04.DrawNothing', WHERE WHAT IT READS IS OF BULK AT MOST 1048576: true; the input reads as it did. -/
def drawNothingUptoRow : OpenClaim := { program := "ythnkjlcdjjhloaa", sum := "991ca79c998e524c83ca68d1736b41f7d3fbc47a165d6eadae5cc18fef616f21", func := "tranter/tranterlaw04.DrawNothing", spec := "drawNothing", unfollowed := true, recurses := true, apart := false, narrowed := true }
def DrawNothingUptoSaid : Prop := drawNothingUptoRow.holds Try.pinned (OpenSpec.upto drawNothingSpec)

/-- 'tranterlaw09.StockLeft', WHERE WHAT IT READS IS OF BULK AT MOST 1048576: true; the input reads as it did. -/
def stockLeftUptoRow : OpenClaim := { program := "ythnkjlcdjjhloaa", sum := "991ca79c998e524c83ca68d1736b41f7d3fbc47a165d6eadae5cc18fef616f21", func := "tranter/tranterlaw09.StockLeft", spec := "stockLeft", unfollowed := true, recurses := true, apart := false, narrowed := true }
def StockLeftUptoSaid : Prop := stockLeftUptoRow.holds Try.pinned (OpenSpec.upto stockLeftSpec)

end Rows
end Go.Proofs.Ythnkjlcdjjhloaa
