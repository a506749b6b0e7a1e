/-
  No cell of these rows narrows 'for every input' (looked for: loops, veiled, ifaces, maps, wideKeys, modest, calm, conditions, laid).
  DERIVED. THE GIVEN ROWS OF THIS SEAT. 8 by the template 'for every input the law returns true; each argument reads behind the call as it read before'; 0 by the template 'total and deterministic' (their statements: YtpelbfjhljlbkaaTotals.lean).
  GIVEN WITH THE SEED: the statements are not yours to turn. If you find one false, say at which input.
  Laid BY PROGRAM, IN A SANDBOX (cutbox-rows.mjs): the forced cells as the released guide's own fill.sh prints them over the translation fd420170ce95e100… (all of the seat's roots in one cut). By AI agents, Wed Nov 11 2026. No macro, syntax, notation, axiom, sorry.
-/
import Derived.Test.YtpelbfjhljlbkaaChecked
import GoSem.Claim
import GoSem.ClaimJoined
import GoSem.ClaimMapViews
import Derived.JoinedTies
import Derived.KernelRfl
namespace Go.Proofs.Ytpelbfjhljlbkaa
/- THE CELL 'sum', in the pinned program and in every row, IS THE sha256 OF THE DUMP (.gsa) THAT YtpelbfjhljlbkaaProg.lean LOADS. Nothing in Lean hashes anything: it is a label: what it is worth is what the hold of that sum in a sandbox is worth. -/
noncomputable def Try.pinned : Pinned := { name := "ytpelbfjhljlbkaa", sum := "fd420170ce95e100ac8408be4b49ad9fb8562721094d39f5428ad4dc5bd05a2e", checked := Try.checked }
namespace Rows
def none {H : Type} : Left H := { results := [], args := [] }

/-- 'tranterlaw11.AloneWider': WHATEVER THE INPUT: true; the input reads as it did. -/
def aloneWiderSpec : ChangeSpec := { name := "aloneWider", fn := fun _ => fun
  | [d1, d2, d3, d4, d5] => { results := [.lit (.bool true)], args := [d1, d2, d3, d4, d5] }
  | _ => none }
def aloneWiderRow : OpenClaim := { program := "ytpelbfjhljlbkaa", sum := "fd420170ce95e100ac8408be4b49ad9fb8562721094d39f5428ad4dc5bd05a2e", func := "tranter/tranterlaw11.AloneWider", spec := "aloneWider", unfollowed := true, recurses := true, apart := false }
def AloneWiderSaid : Prop := aloneWiderRow.holds Try.pinned (OpenSpec.ofChange aloneWiderSpec)

/-- ITS FALSE NEIGHBOUR: 'it returns false'. Refute it at one input. -/
def aloneWiderWrong : ChangeSpec := { name := "aloneWider", fn := fun _ => fun
  | [d1, d2, d3, d4, d5] => { results := [.lit (.bool false)], args := [d1, d2, d3, d4, d5] }
  | _ => none }
def AloneWiderWrongFalsely : Prop := aloneWiderRow.holds Try.pinned (OpenSpec.ofChange aloneWiderWrong)

/-- 'tranterlaw11.AloneVisits': WHATEVER THE INPUT: true; the input reads as it did. -/
def aloneVisitsSpec : ChangeSpec := { name := "aloneVisits", fn := fun _ => fun
  | [d1, d2, d3, d4] => { results := [.lit (.bool true)], args := [d1, d2, d3, d4] }
  | _ => none }
def aloneVisitsRow : OpenClaim := { program := "ytpelbfjhljlbkaa", sum := "fd420170ce95e100ac8408be4b49ad9fb8562721094d39f5428ad4dc5bd05a2e", func := "tranter/tranterlaw11.AloneVisits", spec := "aloneVisits", unfollowed := true, recurses := true, apart := false }
def AloneVisitsSaid : Prop := aloneVisitsRow.holds Try.pinned (OpenSpec.ofChange aloneVisitsSpec)

/-- ITS FALSE NEIGHBOUR: 'it returns false'. Refute it at one input. -/
def aloneVisitsWrong : ChangeSpec := { name := "aloneVisits", fn := fun _ => fun
  | [d1, d2, d3, d4] => { results := [.lit (.bool false)], args := [d1, d2, d3, d4] }
  | _ => none }
def AloneVisitsWrongFalsely : Prop := aloneVisitsRow.holds Try.pinned (OpenSpec.ofChange aloneVisitsWrong)

/-- 'tranterlaw11.AloneSuits': WHATEVER THE INPUT: true; the input reads as it did. -/
def aloneSuitsSpec : ChangeSpec := { name := "aloneSuits", fn := fun _ => fun
  | [d1, d2, d3, d4] => { results := [.lit (.bool true)], args := [d1, d2, d3, d4] }
  | _ => none }
def aloneSuitsRow : OpenClaim := { program := "ytpelbfjhljlbkaa", sum := "fd420170ce95e100ac8408be4b49ad9fb8562721094d39f5428ad4dc5bd05a2e", func := "tranter/tranterlaw11.AloneSuits", spec := "aloneSuits", unfollowed := true, recurses := true, apart := false }
def AloneSuitsSaid : Prop := aloneSuitsRow.holds Try.pinned (OpenSpec.ofChange aloneSuitsSpec)

/-- ITS FALSE NEIGHBOUR: 'it returns false'. Refute it at one input. -/
def aloneSuitsWrong : ChangeSpec := { name := "aloneSuits", fn := fun _ => fun
  | [d1, d2, d3, d4] => { results := [.lit (.bool false)], args := [d1, d2, d3, d4] }
  | _ => none }
def AloneSuitsWrongFalsely : Prop := aloneSuitsRow.holds Try.pinned (OpenSpec.ofChange aloneSuitsWrong)

/-- 'tranterlaw11.AloneCosts': WHATEVER THE INPUT: true; the input reads as it did. -/
def aloneCostsSpec : ChangeSpec := { name := "aloneCosts", fn := fun _ => fun
  | [d1, d2, d3] => { results := [.lit (.bool true)], args := [d1, d2, d3] }
  | _ => none }
def aloneCostsRow : OpenClaim := { program := "ytpelbfjhljlbkaa", sum := "fd420170ce95e100ac8408be4b49ad9fb8562721094d39f5428ad4dc5bd05a2e", func := "tranter/tranterlaw11.AloneCosts", spec := "aloneCosts", unfollowed := true, recurses := true, apart := false }
def AloneCostsSaid : Prop := aloneCostsRow.holds Try.pinned (OpenSpec.ofChange aloneCostsSpec)

/-- ITS FALSE NEIGHBOUR: 'it returns false'. Refute it at one input. -/
def aloneCostsWrong : ChangeSpec := { name := "aloneCosts", fn := fun _ => fun
  | [d1, d2, d3] => { results := [.lit (.bool false)], args := [d1, d2, d3] }
  | _ => none }
def AloneCostsWrongFalsely : Prop := aloneCostsRow.holds Try.pinned (OpenSpec.ofChange aloneCostsWrong)

/-- 'tranterlaw11.AloneSolves': WHATEVER THE INPUT: true; the input reads as it did. -/
def aloneSolvesSpec : ChangeSpec := { name := "aloneSolves", fn := fun _ => fun
  | [d1, d2, d3, d4] => { results := [.lit (.bool true)], args := [d1, d2, d3, d4] }
  | _ => none }
def aloneSolvesRow : OpenClaim := { program := "ytpelbfjhljlbkaa", sum := "fd420170ce95e100ac8408be4b49ad9fb8562721094d39f5428ad4dc5bd05a2e", func := "tranter/tranterlaw11.AloneSolves", spec := "aloneSolves", unfollowed := true, recurses := true, apart := false }
def AloneSolvesSaid : Prop := aloneSolvesRow.holds Try.pinned (OpenSpec.ofChange aloneSolvesSpec)

/-- ITS FALSE NEIGHBOUR: 'it returns false'. Refute it at one input. -/
def aloneSolvesWrong : ChangeSpec := { name := "aloneSolves", fn := fun _ => fun
  | [d1, d2, d3, d4] => { results := [.lit (.bool false)], args := [d1, d2, d3, d4] }
  | _ => none }
def AloneSolvesWrongFalsely : Prop := aloneSolvesRow.holds Try.pinned (OpenSpec.ofChange aloneSolvesWrong)

/-- 'tranterlaw11.AloneBounds': WHATEVER THE INPUT: true; the input reads as it did. -/
def aloneBoundsSpec : ChangeSpec := { name := "aloneBounds", fn := fun _ => fun
  | [d1, d2, d3, d4] => { results := [.lit (.bool true)], args := [d1, d2, d3, d4] }
  | _ => none }
def aloneBoundsRow : OpenClaim := { program := "ytpelbfjhljlbkaa", sum := "fd420170ce95e100ac8408be4b49ad9fb8562721094d39f5428ad4dc5bd05a2e", func := "tranter/tranterlaw11.AloneBounds", spec := "aloneBounds", unfollowed := true, recurses := true, apart := false }
def AloneBoundsSaid : Prop := aloneBoundsRow.holds Try.pinned (OpenSpec.ofChange aloneBoundsSpec)

/-- ITS FALSE NEIGHBOUR: 'it returns false'. Refute it at one input. -/
def aloneBoundsWrong : ChangeSpec := { name := "aloneBounds", fn := fun _ => fun
  | [d1, d2, d3, d4] => { results := [.lit (.bool false)], args := [d1, d2, d3, d4] }
  | _ => none }
def AloneBoundsWrongFalsely : Prop := aloneBoundsRow.holds Try.pinned (OpenSpec.ofChange aloneBoundsWrong)

/-- 'tranterlaw11.AloneCheaper': WHATEVER THE INPUT: true; the input reads as it did. -/
def aloneCheaperSpec : ChangeSpec := { name := "aloneCheaper", fn := fun _ => fun
  | [d1, d2, d3, d4, d5] => { results := [.lit (.bool true)], args := [d1, d2, d3, d4, d5] }
  | _ => none }
def aloneCheaperRow : OpenClaim := { program := "ytpelbfjhljlbkaa", sum := "fd420170ce95e100ac8408be4b49ad9fb8562721094d39f5428ad4dc5bd05a2e", func := "tranter/tranterlaw11.AloneCheaper", spec := "aloneCheaper", unfollowed := true, recurses := true, apart := false }
def AloneCheaperSaid : Prop := aloneCheaperRow.holds Try.pinned (OpenSpec.ofChange aloneCheaperSpec)

/-- ITS FALSE NEIGHBOUR: 'it returns false'. Refute it at one input. -/
def aloneCheaperWrong : ChangeSpec := { name := "aloneCheaper", fn := fun _ => fun
  | [d1, d2, d3, d4, d5] => { results := [.lit (.bool false)], args := [d1, d2, d3, d4, d5] }
  | _ => none }
def AloneCheaperWrongFalsely : Prop := aloneCheaperRow.holds Try.pinned (OpenSpec.ofChange aloneCheaperWrong)

/-- 'tranterlaw11.AloneBelow': WHATEVER THE INPUT: true; the input reads as it did. -/
def aloneBelowSpec : ChangeSpec := { name := "aloneBelow", fn := fun _ => fun
  | [d1, d2, d3] => { results := [.lit (.bool true)], args := [d1, d2, d3] }
  | _ => none }
def aloneBelowRow : OpenClaim := { program := "ytpelbfjhljlbkaa", sum := "fd420170ce95e100ac8408be4b49ad9fb8562721094d39f5428ad4dc5bd05a2e", func := "tranter/tranterlaw11.AloneBelow", spec := "aloneBelow", unfollowed := true, recurses := true, apart := false }
def AloneBelowSaid : Prop := aloneBelowRow.holds Try.pinned (OpenSpec.ofChange aloneBelowSpec)

/-- ITS FALSE NEIGHBOUR: 'it returns false'. Refute it at one input. -/
def aloneBelowWrong : ChangeSpec := { name := "aloneBelow", fn := fun _ => fun
  | [d1, d2, d3] => { results := [.lit (.bool false)], args := [d1, d2, d3] }
  | _ => none }
def AloneBelowWrongFalsely : Prop := aloneBelowRow.holds Try.pinned (OpenSpec.ofChange aloneBelowWrong)

/- THE SECOND FORM. 'bulk': how many values and letters a reading holds, each counted each time it is reached (what is shared counts as often as it is met; a slice's spare places count too). A statement '..UptoSaid' is the law's where the arguments, and the package variables that the reading takes, are together of bulk at most 1048576: NARROWER than '..Said'. Prove '..Said' where nothing that the law and all that it calls make is longer than what came in: it says more and counts as full. Else prove '..UptoSaid'. A law counts once. -/
mutual
def uptoBulk {H : Type} : DataW H → Nat
  | .lit (.string bytes) => bytes.length + 1
  | .lit _ => 1
  | .nil => 1
  | .ptr d => uptoBulk d + 1
  | .slice elems spare => uptoBulkAll elems + uptoBulkAll spare + 1
  | .agg parts => uptoBulkAll parts + 1
  | .iface _ d => uptoBulk d + 1
  | .map entries => uptoBulkEntries entries + 1
  | .held _ => 1
def uptoBulkAll {H : Type} : List (DataW H) → Nat
  | [] => 0
  | d :: r => uptoBulk d + uptoBulkAll r
def uptoBulkEntries {H : Type} : List (Lit × DataW H) → Nat
  | [] => 0
  | x :: r => uptoBulkEntry x + uptoBulkEntries r
def uptoBulkEntry {H : Type} : Lit × DataW H → Nat
  | (.string bytes, d) => bytes.length + uptoBulk d + 1
  | (_, d) => uptoBulk d + 1
 end
def uptoSmall : (H : Type) → List (DataW H) → Bool := fun _ ds => decide (uptoBulkAll ds ≤ 1048576)
def OpenSpec.upto (s : _root_.Go.ChangeSpec) : _root_.Go.OpenSpec := { _root_.Go.OpenSpec.ofChange s with cond := some uptoSmall }

/-- 'tranterlaw11.AloneWider', WHERE WHAT IT READS IS OF BULK AT MOST 1048576: true; the input reads as it did. -/
def aloneWiderUptoRow : OpenClaim := { program := "ytpelbfjhljlbkaa", sum := "fd420170ce95e100ac8408be4b49ad9fb8562721094d39f5428ad4dc5bd05a2e", func := "tranter/tranterlaw11.AloneWider", spec := "aloneWider", unfollowed := true, recurses := true, apart := false, narrowed := true }
def AloneWiderUptoSaid : Prop := aloneWiderUptoRow.holds Try.pinned (OpenSpec.upto aloneWiderSpec)

/-- 'tranterlaw11.AloneVisits', WHERE WHAT IT READS IS OF BULK AT MOST 1048576: true; the input reads as it did. -/
def aloneVisitsUptoRow : OpenClaim := { program := "ytpelbfjhljlbkaa", sum := "fd420170ce95e100ac8408be4b49ad9fb8562721094d39f5428ad4dc5bd05a2e", func := "tranter/tranterlaw11.AloneVisits", spec := "aloneVisits", unfollowed := true, recurses := true, apart := false, narrowed := true }
def AloneVisitsUptoSaid : Prop := aloneVisitsUptoRow.holds Try.pinned (OpenSpec.upto aloneVisitsSpec)

/-- 'tranterlaw11.AloneSuits', WHERE WHAT IT READS IS OF BULK AT MOST 1048576: true; the input reads as it did. -/
def aloneSuitsUptoRow : OpenClaim := { program := "ytpelbfjhljlbkaa", sum := "fd420170ce95e100ac8408be4b49ad9fb8562721094d39f5428ad4dc5bd05a2e", func := "tranter/tranterlaw11.AloneSuits", spec := "aloneSuits", unfollowed := true, recurses := true, apart := false, narrowed := true }
def AloneSuitsUptoSaid : Prop := aloneSuitsUptoRow.holds Try.pinned (OpenSpec.upto aloneSuitsSpec)

/-- 'tranterlaw11.AloneCosts', WHERE WHAT IT READS IS OF BULK AT MOST 1048576: true; the input reads as it did. -/
def aloneCostsUptoRow : OpenClaim := { program := "ytpelbfjhljlbkaa", sum := "fd420170ce95e100ac8408be4b49ad9fb8562721094d39f5428ad4dc5bd05a2e", func := "tranter/tranterlaw11.AloneCosts", spec := "aloneCosts", unfollowed := true, recurses := true, apart := false, narrowed := true }
def AloneCostsUptoSaid : Prop := aloneCostsUptoRow.holds Try.pinned (OpenSpec.upto aloneCostsSpec)

/-- 'tranterlaw11.AloneSolves', WHERE WHAT IT READS IS OF BULK AT MOST 1048576: true; the input reads as it did. -/
def aloneSolvesUptoRow : OpenClaim := { program := "ytpelbfjhljlbkaa", sum := "fd420170ce95e100ac8408be4b49ad9fb8562721094d39f5428ad4dc5bd05a2e", func := "tranter/tranterlaw11.AloneSolves", spec := "aloneSolves", unfollowed := true, recurses := true, apart := false, narrowed := true }
def AloneSolvesUptoSaid : Prop := aloneSolvesUptoRow.holds Try.pinned (OpenSpec.upto aloneSolvesSpec)

/-- 'tranterlaw11.AloneBounds', WHERE WHAT IT READS IS OF BULK AT MOST 1048576: true; the input reads as it did. -/
def aloneBoundsUptoRow : OpenClaim := { program := "ytpelbfjhljlbkaa", sum := "fd420170ce95e100ac8408be4b49ad9fb8562721094d39f5428ad4dc5bd05a2e", func := "tranter/tranterlaw11.AloneBounds", spec := "aloneBounds", unfollowed := true, recurses := true, apart := false, narrowed := true }
def AloneBoundsUptoSaid : Prop := aloneBoundsUptoRow.holds Try.pinned (OpenSpec.upto aloneBoundsSpec)

/-- 'tranterlaw11.AloneCheaper', WHERE WHAT IT READS IS OF BULK AT MOST 1048576: true; the input reads as it did. -/
def aloneCheaperUptoRow : OpenClaim := { program := "ytpelbfjhljlbkaa", sum := "fd420170ce95e100ac8408be4b49ad9fb8562721094d39f5428ad4dc5bd05a2e", func := "tranter/tranterlaw11.AloneCheaper", spec := "aloneCheaper", unfollowed := true, recurses := true, apart := false, narrowed := true }
def AloneCheaperUptoSaid : Prop := aloneCheaperUptoRow.holds Try.pinned (OpenSpec.upto aloneCheaperSpec)

/-- 'tranterlaw11.AloneBelow', WHERE WHAT IT READS IS OF BULK AT MOST 1048576: true; the input reads as it did. -/
def aloneBelowUptoRow : OpenClaim := { program := "ytpelbfjhljlbkaa", sum := "fd420170ce95e100ac8408be4b49ad9fb8562721094d39f5428ad4dc5bd05a2e", func := "tranter/tranterlaw11.AloneBelow", spec := "aloneBelow", unfollowed := true, recurses := true, apart := false, narrowed := true }
def AloneBelowUptoSaid : Prop := aloneBelowUptoRow.holds Try.pinned (OpenSpec.upto aloneBelowSpec)

end Rows
end Go.Proofs.Ytpelbfjhljlbkaa
