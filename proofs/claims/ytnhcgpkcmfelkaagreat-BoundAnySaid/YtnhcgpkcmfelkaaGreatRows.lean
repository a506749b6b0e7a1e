/-
  No cell of these rows narrows 'for every input' (looked for: loops, veiled, ifaces, maps, wideKeys, modest, calm, conditions, laid).
  DERIVED. THE GIVEN ROWS OF THIS SEAT. 4 by the template 'for every input the law returns true; each argument reads behind the call as it read before'; 0 by the template 'total and deterministic' (their statements: YtnhcgpkcmfelkaaGreatTotals.lean).
  GIVEN WITH THE SEED: the statements are not yours to turn. If you find one false, say at which input.
  Laid BY PROGRAM, IN A SANDBOX (cutbox-rows.mjs): the forced cells as the released guide's own fill.sh prints them over the translation 0091b17416cb1f26… (all of the seat's roots in one cut). By AI agents, Wed Nov 11 2026. No macro, syntax, notation, axiom, sorry.
-/
import Derived.Test.YtnhcgpkcmfelkaaGreatChecked
import GoSem.Claim
import GoSem.ClaimJoined
import GoSem.ClaimMapViews
import Derived.JoinedTies
import Derived.KernelRfl
namespace Go.Proofs.YtnhcgpkcmfelkaaGreat
/- THE CELL 'sum', in the pinned program and in every row, IS THE sha256 OF THE DUMP (.gsa) THAT YtnhcgpkcmfelkaaGreatProg.lean LOADS. Nothing in Lean hashes anything: it is a label: what it is worth is what the hold of that sum in a sandbox is worth. -/
noncomputable def Tryz.pinned : Pinned := { name := "ytnhcgpkcmfelkaagreat", sum := "0091b17416cb1f269f1af4b7936726102cc74a1d6500db012692a07df17ed1aa", checked := Tryz.checked }
namespace Rows
def none {H : Type} : Left H := { results := [], args := [] }

/-- 'tranterlaw18.BoundValues': WHATEVER THE INPUT: true; the input reads as it did. -/
def boundValuesSpec : ChangeSpec := { name := "boundValues", fn := fun _ => fun
  | [d1, d2] => { results := [.lit (.bool true)], args := [d1, d2] }
  | _ => none }
def boundValuesRow : OpenClaim := { program := "ytnhcgpkcmfelkaagreat", sum := "0091b17416cb1f269f1af4b7936726102cc74a1d6500db012692a07df17ed1aa", func := "tranter/tranterlaw18.BoundValues", spec := "boundValues", unfollowed := true, recurses := true, apart := false }
def BoundValuesSaid : Prop := boundValuesRow.holds Tryz.pinned (OpenSpec.ofChange boundValuesSpec)

/-- ITS FALSE NEIGHBOUR: 'it returns false'. Refute it at one input. -/
def boundValuesWrong : ChangeSpec := { name := "boundValues", fn := fun _ => fun
  | [d1, d2] => { results := [.lit (.bool false)], args := [d1, d2] }
  | _ => none }
def BoundValuesWrongFalsely : Prop := boundValuesRow.holds Tryz.pinned (OpenSpec.ofChange boundValuesWrong)

/-- 'tranterlaw18.BoundBelow': WHATEVER THE INPUT: true; the input reads as it did. -/
def boundBelowSpec : ChangeSpec := { name := "boundBelow", fn := fun _ => fun
  | [d1, d2, d3, d4] => { results := [.lit (.bool true)], args := [d1, d2, d3, d4] }
  | _ => none }
def boundBelowRow : OpenClaim := { program := "ytnhcgpkcmfelkaagreat", sum := "0091b17416cb1f269f1af4b7936726102cc74a1d6500db012692a07df17ed1aa", func := "tranter/tranterlaw18.BoundBelow", spec := "boundBelow", unfollowed := true, recurses := true, apart := false }
def BoundBelowSaid : Prop := boundBelowRow.holds Tryz.pinned (OpenSpec.ofChange boundBelowSpec)

/-- ITS FALSE NEIGHBOUR: 'it returns false'. Refute it at one input. -/
def boundBelowWrong : ChangeSpec := { name := "boundBelow", fn := fun _ => fun
  | [d1, d2, d3, d4] => { results := [.lit (.bool false)], args := [d1, d2, d3, d4] }
  | _ => none }
def BoundBelowWrongFalsely : Prop := boundBelowRow.holds Tryz.pinned (OpenSpec.ofChange boundBelowWrong)

/-- 'tranterlaw18.BoundAny': WHATEVER THE INPUT: true; the input reads as it did. -/
def boundAnySpec : ChangeSpec := { name := "boundAny", fn := fun _ => fun
  | [d1, d2, d3, d4, d5] => { results := [.lit (.bool true)], args := [d1, d2, d3, d4, d5] }
  | _ => none }
def boundAnyRow : OpenClaim := { program := "ytnhcgpkcmfelkaagreat", sum := "0091b17416cb1f269f1af4b7936726102cc74a1d6500db012692a07df17ed1aa", func := "tranter/tranterlaw18.BoundAny", spec := "boundAny", unfollowed := true, recurses := true, apart := false }
def BoundAnySaid : Prop := boundAnyRow.holds Tryz.pinned (OpenSpec.ofChange boundAnySpec)

/-- ITS FALSE NEIGHBOUR: 'it returns false'. Refute it at one input. -/
def boundAnyWrong : ChangeSpec := { name := "boundAny", fn := fun _ => fun
  | [d1, d2, d3, d4, d5] => { results := [.lit (.bool false)], args := [d1, d2, d3, d4, d5] }
  | _ => none }
def BoundAnyWrongFalsely : Prop := boundAnyRow.holds Tryz.pinned (OpenSpec.ofChange boundAnyWrong)

/-- 'tranterlaw18.BoundZero': WHATEVER THE INPUT: true; the input reads as it did. -/
def boundZeroSpec : ChangeSpec := { name := "boundZero", fn := fun _ => fun
  | [d1, d2] => { results := [.lit (.bool true)], args := [d1, d2] }
  | _ => none }
def boundZeroRow : OpenClaim := { program := "ytnhcgpkcmfelkaagreat", sum := "0091b17416cb1f269f1af4b7936726102cc74a1d6500db012692a07df17ed1aa", func := "tranter/tranterlaw18.BoundZero", spec := "boundZero", unfollowed := true, recurses := true, apart := false }
def BoundZeroSaid : Prop := boundZeroRow.holds Tryz.pinned (OpenSpec.ofChange boundZeroSpec)

/-- ITS FALSE NEIGHBOUR: 'it returns false'. Refute it at one input. -/
def boundZeroWrong : ChangeSpec := { name := "boundZero", fn := fun _ => fun
  | [d1, d2] => { results := [.lit (.bool false)], args := [d1, d2] }
  | _ => none }
def BoundZeroWrongFalsely : Prop := boundZeroRow.holds Tryz.pinned (OpenSpec.ofChange boundZeroWrong)

/- THE SECOND FORM. 'bulk': how many values and letters a reading holds, each counted each time it is reached (what is shared counts as often as it is met; a slice's spare places count too). A statement '..UptoSaid' is the law's where the arguments, and the package variables that the reading takes, are together of bulk at most 1048576: NARROWER than '..Said'. Prove '..Said' where nothing that the law and all that it calls make is longer than what came in: it says more and counts as full. Else prove '..UptoSaid'. A law counts once. -/
mutual
def uptoBulk {H : Type} : DataW H → Nat
  | .lit (.string bytes) => bytes.length + 1
  | .lit _ => 1
  | .nil => 1
  | .ptr d => uptoBulk d + 1
  | .slice elems spare => uptoBulkAll elems + uptoBulkAll spare + 1
  | .agg parts => uptoBulkAll parts + 1
  | .iface _ d => uptoBulk d + 1
  | .map entries => uptoBulkEntries entries + 1
  | .held _ => 1
def uptoBulkAll {H : Type} : List (DataW H) → Nat
  | [] => 0
  | d :: r => uptoBulk d + uptoBulkAll r
def uptoBulkEntries {H : Type} : List (Lit × DataW H) → Nat
  | [] => 0
  | x :: r => uptoBulkEntry x + uptoBulkEntries r
def uptoBulkEntry {H : Type} : Lit × DataW H → Nat
  | (.string bytes, d) => bytes.length + uptoBulk d + 1
  | (_, d) => uptoBulk d + 1
 end
def uptoSmall : (H : Type) → List (DataW H) → Bool := fun _ ds => decide (uptoBulkAll ds ≤ 1048576)
def OpenSpec.upto (s : _root_.Go.ChangeSpec) : _root_.Go.OpenSpec := { _root_.Go.OpenSpec.ofChange s with cond := some uptoSmall }

/-- 'tranterlaw18.BoundValues', WHERE WHAT IT READS IS OF BULK AT MOST 1048576: true; the input reads as it did. -/
def boundValuesUptoRow : OpenClaim := { program := "ytnhcgpkcmfelkaagreat", sum := "0091b17416cb1f269f1af4b7936726102cc74a1d6500db012692a07df17ed1aa", func := "tranter/tranterlaw18.BoundValues", spec := "boundValues", unfollowed := true, recurses := true, apart := false, narrowed := true }
def BoundValuesUptoSaid : Prop := boundValuesUptoRow.holds Tryz.pinned (OpenSpec.upto boundValuesSpec)

/-- 'tranterlaw18.BoundBelow', WHERE WHAT IT READS IS OF BULK AT MOST 1048576: true; the input reads as it did. -/
def boundBelowUptoRow : OpenClaim := { program := "ytnhcgpkcmfelkaagreat", sum := "0091b17416cb1f269f1af4b7936726102cc74a1d6500db012692a07df17ed1aa", func := "tranter/tranterlaw18.BoundBelow", spec := "boundBelow", unfollowed := true, recurses := true, apart := false, narrowed := true }
def BoundBelowUptoSaid : Prop := boundBelowUptoRow.holds Tryz.pinned (OpenSpec.upto boundBelowSpec)

/-- 'tranterlaw18.BoundAny', WHERE WHAT IT READS IS OF BULK AT MOST 1048576: true; the input reads as it did. -/
def boundAnyUptoRow : OpenClaim := { program := "ytnhcgpkcmfelkaagreat", sum := "0091b17416cb1f269f1af4b7936726102cc74a1d6500db012692a07df17ed1aa", func := "tranter/tranterlaw18.BoundAny", spec := "boundAny", unfollowed := true, recurses := true, apart := false, narrowed := true }
def BoundAnyUptoSaid : Prop := boundAnyUptoRow.holds Tryz.pinned (OpenSpec.upto boundAnySpec)

/-- 'tranterlaw18.BoundZero', WHERE WHAT IT READS IS OF BULK AT MOST 1048576: true; the input reads as it did. -/
def boundZeroUptoRow : OpenClaim := { program := "ytnhcgpkcmfelkaagreat", sum := "0091b17416cb1f269f1af4b7936726102cc74a1d6500db012692a07df17ed1aa", func := "tranter/tranterlaw18.BoundZero", spec := "boundZero", unfollowed := true, recurses := true, apart := false, narrowed := true }
def BoundZeroUptoSaid : Prop := boundZeroUptoRow.holds Tryz.pinned (OpenSpec.upto boundZeroSpec)

end Rows
end Go.Proofs.YtnhcgpkcmfelkaaGreat
