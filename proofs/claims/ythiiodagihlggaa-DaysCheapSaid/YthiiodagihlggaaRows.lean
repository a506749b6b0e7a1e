/-
  No cell of these rows narrows 'for every input' (looked for: loops, veiled, ifaces, maps, wideKeys, modest, calm, conditions, laid).
  DERIVED. THE GIVEN ROWS OF THIS SEAT. 8 by the template 'for every input the law returns true; each argument reads behind the call as it read before'; 0 by the template 'total and deterministic' (their statements: YthiiodagihlggaaTotals.lean).
  GIVEN WITH THE SEED: the statements are not yours to turn. If you find one false, say at which input.
  Laid BY PROGRAM, IN A SANDBOX (cutbox-rows.mjs): the forced cells as the released guide's own fill.sh prints them over the translation 41d42106b21479cf… (all of the seat's roots in one cut). By AI agents, Wed Nov 11 2026. No macro, syntax, notation, axiom, sorry.
-/
import Derived.Test.YthiiodagihlggaaChecked
import GoSem.Claim
import GoSem.ClaimJoined
import GoSem.ClaimMapViews
import Derived.JoinedTies
import Derived.KernelRfl
namespace Go.Proofs.Ythiiodagihlggaa
/- THE CELL 'sum', in the pinned program and in every row, IS THE sha256 OF THE DUMP (.gsa) THAT YthiiodagihlggaaProg.lean LOADS. Nothing in Lean hashes anything: it is a label: what it is worth is what the hold of that sum in a sandbox is worth. -/
noncomputable def Try.pinned : Pinned := { name := "ythiiodagihlggaa", sum := "41d42106b21479cf6a1aa511bad618c7fd60f5532349c12418c893ed15ac56b6", checked := Try.checked }
namespace Rows
def none {H : Type} : Left H := { results := [], args := [] }

/-- 'tranterlaw02.DaysOf': WHATEVER THE INPUT: true; the input reads as it did. -/
def daysOfSpec : ChangeSpec := { name := "daysOf", fn := fun _ => fun
  | [d] => { results := [.lit (.bool true)], args := [d] }
  | _ => none }
def daysOfRow : OpenClaim := { program := "ythiiodagihlggaa", sum := "41d42106b21479cf6a1aa511bad618c7fd60f5532349c12418c893ed15ac56b6", func := "tranter/tranterlaw02.DaysOf", spec := "daysOf", unfollowed := true, recurses := true, apart := false }
def DaysOfSaid : Prop := daysOfRow.holds Try.pinned (OpenSpec.ofChange daysOfSpec)

/-- ITS FALSE NEIGHBOUR: 'it returns false'. Refute it at one input. -/
def daysOfWrong : ChangeSpec := { name := "daysOf", fn := fun _ => fun
  | [d] => { results := [.lit (.bool false)], args := [d] }
  | _ => none }
def DaysOfWrongFalsely : Prop := daysOfRow.holds Try.pinned (OpenSpec.ofChange daysOfWrong)

/-- 'tranterlaw02.DaysTexts': WHATEVER THE INPUT: true; the input reads as it did. -/
def daysTextsSpec : ChangeSpec := { name := "daysTexts", fn := fun _ => fun
  | [d1, d2] => { results := [.lit (.bool true)], args := [d1, d2] }
  | _ => none }
def daysTextsRow : OpenClaim := { program := "ythiiodagihlggaa", sum := "41d42106b21479cf6a1aa511bad618c7fd60f5532349c12418c893ed15ac56b6", func := "tranter/tranterlaw02.DaysTexts", spec := "daysTexts", unfollowed := true, recurses := true, apart := false }
def DaysTextsSaid : Prop := daysTextsRow.holds Try.pinned (OpenSpec.ofChange daysTextsSpec)

/-- ITS FALSE NEIGHBOUR: 'it returns false'. Refute it at one input. -/
def daysTextsWrong : ChangeSpec := { name := "daysTexts", fn := fun _ => fun
  | [d1, d2] => { results := [.lit (.bool false)], args := [d1, d2] }
  | _ => none }
def DaysTextsWrongFalsely : Prop := daysTextsRow.holds Try.pinned (OpenSpec.ofChange daysTextsWrong)

/-- 'tranterlaw02.DaysParses': WHATEVER THE INPUT: true; the input reads as it did. -/
def daysParsesSpec : ChangeSpec := { name := "daysParses", fn := fun _ => fun
  | [d] => { results := [.lit (.bool true)], args := [d] }
  | _ => none }
def daysParsesRow : OpenClaim := { program := "ythiiodagihlggaa", sum := "41d42106b21479cf6a1aa511bad618c7fd60f5532349c12418c893ed15ac56b6", func := "tranter/tranterlaw02.DaysParses", spec := "daysParses", unfollowed := true, recurses := true, apart := false }
def DaysParsesSaid : Prop := daysParsesRow.holds Try.pinned (OpenSpec.ofChange daysParsesSpec)

/-- ITS FALSE NEIGHBOUR: 'it returns false'. Refute it at one input. -/
def daysParsesWrong : ChangeSpec := { name := "daysParses", fn := fun _ => fun
  | [d] => { results := [.lit (.bool false)], args := [d] }
  | _ => none }
def DaysParsesWrongFalsely : Prop := daysParsesRow.holds Try.pinned (OpenSpec.ofChange daysParsesWrong)

/-- 'tranterlaw02.DaysNexts': WHATEVER THE INPUT: true; the input reads as it did. -/
def daysNextsSpec : ChangeSpec := { name := "daysNexts", fn := fun _ => fun
  | [d] => { results := [.lit (.bool true)], args := [d] }
  | _ => none }
def daysNextsRow : OpenClaim := { program := "ythiiodagihlggaa", sum := "41d42106b21479cf6a1aa511bad618c7fd60f5532349c12418c893ed15ac56b6", func := "tranter/tranterlaw02.DaysNexts", spec := "daysNexts", unfollowed := true, recurses := true, apart := false }
def DaysNextsSaid : Prop := daysNextsRow.holds Try.pinned (OpenSpec.ofChange daysNextsSpec)

/-- ITS FALSE NEIGHBOUR: 'it returns false'. Refute it at one input. -/
def daysNextsWrong : ChangeSpec := { name := "daysNexts", fn := fun _ => fun
  | [d] => { results := [.lit (.bool false)], args := [d] }
  | _ => none }
def DaysNextsWrongFalsely : Prop := daysNextsRow.holds Try.pinned (OpenSpec.ofChange daysNextsWrong)

/-- 'tranterlaw02.DaysBest': WHATEVER THE INPUT: true; the input reads as it did. -/
def daysBestSpec : ChangeSpec := { name := "daysBest", fn := fun _ => fun
  | [d1, d2] => { results := [.lit (.bool true)], args := [d1, d2] }
  | _ => none }
def daysBestRow : OpenClaim := { program := "ythiiodagihlggaa", sum := "41d42106b21479cf6a1aa511bad618c7fd60f5532349c12418c893ed15ac56b6", func := "tranter/tranterlaw02.DaysBest", spec := "daysBest", unfollowed := true, recurses := true, apart := false }
def DaysBestSaid : Prop := daysBestRow.holds Try.pinned (OpenSpec.ofChange daysBestSpec)

/-- ITS FALSE NEIGHBOUR: 'it returns false'. Refute it at one input. -/
def daysBestWrong : ChangeSpec := { name := "daysBest", fn := fun _ => fun
  | [d1, d2] => { results := [.lit (.bool false)], args := [d1, d2] }
  | _ => none }
def DaysBestWrongFalsely : Prop := daysBestRow.holds Try.pinned (OpenSpec.ofChange daysBestWrong)

/-- 'tranterlaw02.DaysCheap': WHATEVER THE INPUT: true; the input reads as it did. -/
def daysCheapSpec : ChangeSpec := { name := "daysCheap", fn := fun _ => fun
  | [d1, d2, d3] => { results := [.lit (.bool true)], args := [d1, d2, d3] }
  | _ => none }
def daysCheapRow : OpenClaim := { program := "ythiiodagihlggaa", sum := "41d42106b21479cf6a1aa511bad618c7fd60f5532349c12418c893ed15ac56b6", func := "tranter/tranterlaw02.DaysCheap", spec := "daysCheap", unfollowed := true, recurses := true, apart := false }
def DaysCheapSaid : Prop := daysCheapRow.holds Try.pinned (OpenSpec.ofChange daysCheapSpec)

/-- ITS FALSE NEIGHBOUR: 'it returns false'. Refute it at one input. -/
def daysCheapWrong : ChangeSpec := { name := "daysCheap", fn := fun _ => fun
  | [d1, d2, d3] => { results := [.lit (.bool false)], args := [d1, d2, d3] }
  | _ => none }
def DaysCheapWrongFalsely : Prop := daysCheapRow.holds Try.pinned (OpenSpec.ofChange daysCheapWrong)

/-- 'tranterlaw02.DaysTwice': WHATEVER THE INPUT: true; the input reads as it did. -/
def daysTwiceSpec : ChangeSpec := { name := "daysTwice", fn := fun _ => fun
  | [d1, d2] => { results := [.lit (.bool true)], args := [d1, d2] }
  | _ => none }
def daysTwiceRow : OpenClaim := { program := "ythiiodagihlggaa", sum := "41d42106b21479cf6a1aa511bad618c7fd60f5532349c12418c893ed15ac56b6", func := "tranter/tranterlaw02.DaysTwice", spec := "daysTwice", unfollowed := true, recurses := true, apart := false }
def DaysTwiceSaid : Prop := daysTwiceRow.holds Try.pinned (OpenSpec.ofChange daysTwiceSpec)

/-- ITS FALSE NEIGHBOUR: 'it returns false'. Refute it at one input. -/
def daysTwiceWrong : ChangeSpec := { name := "daysTwice", fn := fun _ => fun
  | [d1, d2] => { results := [.lit (.bool false)], args := [d1, d2] }
  | _ => none }
def DaysTwiceWrongFalsely : Prop := daysTwiceRow.holds Try.pinned (OpenSpec.ofChange daysTwiceWrong)

/-- 'tranterlaw02.DaysSets': WHATEVER THE INPUT: true; the input reads as it did. -/
def daysSetsSpec : ChangeSpec := { name := "daysSets", fn := fun _ => fun
  | [d1, d2] => { results := [.lit (.bool true)], args := [d1, d2] }
  | _ => none }
def daysSetsRow : OpenClaim := { program := "ythiiodagihlggaa", sum := "41d42106b21479cf6a1aa511bad618c7fd60f5532349c12418c893ed15ac56b6", func := "tranter/tranterlaw02.DaysSets", spec := "daysSets", unfollowed := true, recurses := true, apart := false }
def DaysSetsSaid : Prop := daysSetsRow.holds Try.pinned (OpenSpec.ofChange daysSetsSpec)

/-- ITS FALSE NEIGHBOUR: 'it returns false'. Refute it at one input. -/
def daysSetsWrong : ChangeSpec := { name := "daysSets", fn := fun _ => fun
  | [d1, d2] => { results := [.lit (.bool false)], args := [d1, d2] }
  | _ => none }
def DaysSetsWrongFalsely : Prop := daysSetsRow.holds Try.pinned (OpenSpec.ofChange daysSetsWrong)

/- THE SECOND FORM. 'bulk': how many values and letters a reading holds, each counted each time it is reached (what is shared counts as often as it is met; a slice's spare places count too). A statement '..UptoSaid' is the law's where the arguments, and the package variables that the reading takes, are together of bulk at most 1048576: NARROWER than '..Said'. Prove '..Said' where nothing that the law and all that it calls make is longer than what came in: it says more and counts as full. Else prove '..UptoSaid'. A law counts once. -/
mutual
def uptoBulk {H : Type} : DataW H → Nat
  | .lit (.string bytes) => bytes.length + 1
  | .lit _ => 1
  | .nil => 1
  | .ptr d => uptoBulk d + 1
  | .slice elems spare => uptoBulkAll elems + uptoBulkAll spare + 1
  | .agg parts => uptoBulkAll parts + 1
  | .iface _ d => uptoBulk d + 1
  | .map entries => uptoBulkEntries entries + 1
  | .held _ => 1
def uptoBulkAll {H : Type} : List (DataW H) → Nat
  | [] => 0
  | d :: r => uptoBulk d + uptoBulkAll r
def uptoBulkEntries {H : Type} : List (Lit × DataW H) → Nat
  | [] => 0
  | x :: r => uptoBulkEntry x + uptoBulkEntries r
def uptoBulkEntry {H : Type} : Lit × DataW H → Nat
  | (.string bytes, d) => bytes.length + uptoBulk d + 1
  | (_, d) => uptoBulk d + 1
 end
def uptoSmall : (H : Type) → List (DataW H) → Bool := fun _ ds => decide (uptoBulkAll ds ≤ 1048576)
def OpenSpec.upto (s : _root_.Go.ChangeSpec) : _root_.Go.OpenSpec := { _root_.Go.OpenSpec.ofChange s with cond := some uptoSmall }

/-- 'tranterlaw02.DaysOf', WHERE WHAT IT READS IS OF BULK AT MOST 1048576: true; the input reads as it did. -/
def daysOfUptoRow : OpenClaim := { program := "ythiiodagihlggaa", sum := "41d42106b21479cf6a1aa511bad618c7fd60f5532349c12418c893ed15ac56b6", func := "tranter/tranterlaw02.DaysOf", spec := "daysOf", unfollowed := true, recurses := true, apart := false, narrowed := true }
def DaysOfUptoSaid : Prop := daysOfUptoRow.holds Try.pinned (OpenSpec.upto daysOfSpec)

/-- 'tranterlaw02.DaysTexts', WHERE WHAT IT READS IS OF BULK AT MOST 1048576: true; the input reads as it did. -/
def daysTextsUptoRow : OpenClaim := { program := "ythiiodagihlggaa", sum := "41d42106b21479cf6a1aa511bad618c7fd60f5532349c12418c893ed15ac56b6", func := "tranter/tranterlaw02.DaysTexts", spec := "daysTexts", unfollowed := true, recurses := true, apart := false, narrowed := true }
def DaysTextsUptoSaid : Prop := daysTextsUptoRow.holds Try.pinned (OpenSpec.upto daysTextsSpec)

/-- 'tranterlaw02.DaysParses', WHERE WHAT IT READS IS OF BULK AT MOST 1048576: true; the input reads as it did. -/
def daysParsesUptoRow : OpenClaim := { program := "ythiiodagihlggaa", sum := "41d42106b21479cf6a1aa511bad618c7fd60f5532349c12418c893ed15ac56b6", func := "tranter/tranterlaw02.DaysParses", spec := "daysParses", unfollowed := true, recurses := true, apart := false, narrowed := true }
def DaysParsesUptoSaid : Prop := daysParsesUptoRow.holds Try.pinned (OpenSpec.upto daysParsesSpec)

/-- 'tranterlaw02.DaysNexts', WHERE WHAT IT READS IS OF BULK AT MOST 1048576: true; the input reads as it did. -/
def daysNextsUptoRow : OpenClaim := { program := "ythiiodagihlggaa", sum := "41d42106b21479cf6a1aa511bad618c7fd60f5532349c12418c893ed15ac56b6", func := "tranter/tranterlaw02.DaysNexts", spec := "daysNexts", unfollowed := true, recurses := true, apart := false, narrowed := true }
def DaysNextsUptoSaid : Prop := daysNextsUptoRow.holds Try.pinned (OpenSpec.upto daysNextsSpec)

/-- 'tranterlaw02.DaysBest', WHERE WHAT IT READS IS OF BULK AT MOST 1048576: true; the input reads as it did. -/
def daysBestUptoRow : OpenClaim := { program := "ythiiodagihlggaa", sum := "41d42106b21479cf6a1aa511bad618c7fd60f5532349c12418c893ed15ac56b6", func := "tranter/tranterlaw02.DaysBest", spec := "daysBest", unfollowed := true, recurses := true, apart := false, narrowed := true }
def DaysBestUptoSaid : Prop := daysBestUptoRow.holds Try.pinned (OpenSpec.upto daysBestSpec)

/-- 'tranterlaw02.DaysCheap', WHERE WHAT IT READS IS OF BULK AT MOST 1048576: true; the input reads as it did. -/
def daysCheapUptoRow : OpenClaim := { program := "ythiiodagihlggaa", sum := "41d42106b21479cf6a1aa511bad618c7fd60f5532349c12418c893ed15ac56b6", func := "tranter/tranterlaw02.DaysCheap", spec := "daysCheap", unfollowed := true, recurses := true, apart := false, narrowed := true }
def DaysCheapUptoSaid : Prop := daysCheapUptoRow.holds Try.pinned (OpenSpec.upto daysCheapSpec)

/-- 'tranterlaw02.DaysTwice', WHERE WHAT IT READS IS OF BULK AT MOST 1048576: true; the input reads as it did. -/
def daysTwiceUptoRow : OpenClaim := { program := "ythiiodagihlggaa", sum := "41d42106b21479cf6a1aa511bad618c7fd60f5532349c12418c893ed15ac56b6", func := "tranter/tranterlaw02.DaysTwice", spec := "daysTwice", unfollowed := true, recurses := true, apart := false, narrowed := true }
def DaysTwiceUptoSaid : Prop := daysTwiceUptoRow.holds Try.pinned (OpenSpec.upto daysTwiceSpec)

/-- 'tranterlaw02.DaysSets', WHERE WHAT IT READS IS OF BULK AT MOST 1048576: true; the input reads as it did. -/
def daysSetsUptoRow : OpenClaim := { program := "ythiiodagihlggaa", sum := "41d42106b21479cf6a1aa511bad618c7fd60f5532349c12418c893ed15ac56b6", func := "tranter/tranterlaw02.DaysSets", spec := "daysSets", unfollowed := true, recurses := true, apart := false, narrowed := true }
def DaysSetsUptoSaid : Prop := daysSetsUptoRow.holds Try.pinned (OpenSpec.upto daysSetsSpec)

end Rows
end Go.Proofs.Ythiiodagihlggaa
