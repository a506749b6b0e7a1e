/-
  No cell of these rows narrows 'for every input' (looked for: loops, veiled, ifaces, maps, wideKeys, modest, calm, conditions, laid).
  DERIVED. THE GIVEN ROWS OF THIS SEAT. 7 by the template 'for every input the law returns true; each argument reads behind the call as it read before'; 0 by the template 'total and deterministic' (their statements: YtodikaekpncjjaaTotals.lean).
  GIVEN WITH THE SEED: the statements are not yours to turn. If you find one false, say at which input.
  Laid BY PROGRAM, IN A SANDBOX (cutbox-rows.mjs): the forced cells as the released guide's own fill.sh prints them over the translation 567b3cc72665a762… (all of the seat's roots in one cut). By AI agents, Wed Nov 11 2026. No macro, syntax, notation, axiom, sorry.
-/
import Derived.Test.YtodikaekpncjjaaChecked
import GoSem.Claim
import GoSem.ClaimJoined
import GoSem.ClaimMapViews
import Derived.JoinedTies
import Derived.KernelRfl
namespace Go.Proofs.Ytodikaekpncjjaa
/- THE CELL 'sum', in the pinned program and in every row, IS THE sha256 OF THE DUMP (.gsa) THAT YtodikaekpncjjaaProg.lean LOADS. Nothing in Lean hashes anything: it is a label: what it is worth is what the hold of that sum in a sandbox is worth. -/
noncomputable def Try.pinned : Pinned := { name := "ytodikaekpncjjaa", sum := "567b3cc72665a762404284923c2c563b5b32141cf51a7bc7281c2103f8b187d9", checked := Try.checked }
namespace Rows
def none {H : Type} : Left H := { results := [], args := [] }

/-- 'tranterlaw01.NumMany': WHATEVER THE INPUT: true; the input reads as it did. -/
def numManySpec : ChangeSpec := { name := "numMany", fn := fun _ => fun
  | [d] => { results := [.lit (.bool true)], args := [d] }
  | _ => none }
def numManyRow : OpenClaim := { program := "ytodikaekpncjjaa", sum := "567b3cc72665a762404284923c2c563b5b32141cf51a7bc7281c2103f8b187d9", func := "tranter/tranterlaw01.NumMany", spec := "numMany", inPlace := ["math/bits.Add64"], apart := false }
def NumManySaid : Prop := numManyRow.holds Try.pinned (OpenSpec.ofChange numManySpec)

/-- ITS FALSE NEIGHBOUR: 'it returns false'. Refute it at one input. -/
def numManyWrong : ChangeSpec := { name := "numMany", fn := fun _ => fun
  | [d] => { results := [.lit (.bool false)], args := [d] }
  | _ => none }
def NumManyWrongFalsely : Prop := numManyRow.holds Try.pinned (OpenSpec.ofChange numManyWrong)

/-- 'tranterlaw01.NumFloors': WHATEVER THE INPUT: true; the input reads as it did. -/
def numFloorsSpec : ChangeSpec := { name := "numFloors", fn := fun _ => fun
  | [d1, d2] => { results := [.lit (.bool true)], args := [d1, d2] }
  | _ => none }
def numFloorsRow : OpenClaim := { program := "ytodikaekpncjjaa", sum := "567b3cc72665a762404284923c2c563b5b32141cf51a7bc7281c2103f8b187d9", func := "tranter/tranterlaw01.NumFloors", spec := "numFloors", inPlace := ["math/bits.Add64"], apart := false }
def NumFloorsSaid : Prop := numFloorsRow.holds Try.pinned (OpenSpec.ofChange numFloorsSpec)

/-- ITS FALSE NEIGHBOUR: 'it returns false'. Refute it at one input. -/
def numFloorsWrong : ChangeSpec := { name := "numFloors", fn := fun _ => fun
  | [d1, d2] => { results := [.lit (.bool false)], args := [d1, d2] }
  | _ => none }
def NumFloorsWrongFalsely : Prop := numFloorsRow.holds Try.pinned (OpenSpec.ofChange numFloorsWrong)

/-- 'tranterlaw01.NumOrder': WHATEVER THE INPUT: true; the input reads as it did. -/
def numOrderSpec : ChangeSpec := { name := "numOrder", fn := fun _ => fun
  | [d] => { results := [.lit (.bool true)], args := [d] }
  | _ => none }
def numOrderRow : OpenClaim := { program := "ytodikaekpncjjaa", sum := "567b3cc72665a762404284923c2c563b5b32141cf51a7bc7281c2103f8b187d9", func := "tranter/tranterlaw01.NumOrder", spec := "numOrder", inPlace := ["math/bits.Add64"], apart := false }
def NumOrderSaid : Prop := numOrderRow.holds Try.pinned (OpenSpec.ofChange numOrderSpec)

/-- ITS FALSE NEIGHBOUR: 'it returns false'. Refute it at one input. -/
def numOrderWrong : ChangeSpec := { name := "numOrder", fn := fun _ => fun
  | [d] => { results := [.lit (.bool false)], args := [d] }
  | _ => none }
def NumOrderWrongFalsely : Prop := numOrderRow.holds Try.pinned (OpenSpec.ofChange numOrderWrong)

/-- 'tranterlaw01.NumClips': WHATEVER THE INPUT: true; the input reads as it did. -/
def numClipsSpec : ChangeSpec := { name := "numClips", fn := fun _ => fun
  | [d1, d2, d3] => { results := [.lit (.bool true)], args := [d1, d2, d3] }
  | _ => none }
def numClipsRow : OpenClaim := { program := "ytodikaekpncjjaa", sum := "567b3cc72665a762404284923c2c563b5b32141cf51a7bc7281c2103f8b187d9", func := "tranter/tranterlaw01.NumClips", spec := "numClips", inPlace := ["math/bits.Add64"], apart := false }
def NumClipsSaid : Prop := numClipsRow.holds Try.pinned (OpenSpec.ofChange numClipsSpec)

/-- ITS FALSE NEIGHBOUR: 'it returns false'. Refute it at one input. -/
def numClipsWrong : ChangeSpec := { name := "numClips", fn := fun _ => fun
  | [d1, d2, d3] => { results := [.lit (.bool false)], args := [d1, d2, d3] }
  | _ => none }
def NumClipsWrongFalsely : Prop := numClipsRow.holds Try.pinned (OpenSpec.ofChange numClipsWrong)

/-- 'tranterlaw01.NumSums': WHATEVER THE INPUT: true; the input reads as it did. -/
def numSumsSpec : ChangeSpec := { name := "numSums", fn := fun _ => fun
  | [d1, d2] => { results := [.lit (.bool true)], args := [d1, d2] }
  | _ => none }
def numSumsRow : OpenClaim := { program := "ytodikaekpncjjaa", sum := "567b3cc72665a762404284923c2c563b5b32141cf51a7bc7281c2103f8b187d9", func := "tranter/tranterlaw01.NumSums", spec := "numSums", inPlace := ["math/bits.Add64"], apart := false }
def NumSumsSaid : Prop := numSumsRow.holds Try.pinned (OpenSpec.ofChange numSumsSpec)

/-- ITS FALSE NEIGHBOUR: 'it returns false'. Refute it at one input. -/
def numSumsWrong : ChangeSpec := { name := "numSums", fn := fun _ => fun
  | [d1, d2] => { results := [.lit (.bool false)], args := [d1, d2] }
  | _ => none }
def NumSumsWrongFalsely : Prop := numSumsRow.holds Try.pinned (OpenSpec.ofChange numSumsWrong)

/-- 'tranterlaw01.NumUndo': WHATEVER THE INPUT: true; the input reads as it did. -/
def numUndoSpec : ChangeSpec := { name := "numUndo", fn := fun _ => fun
  | [d1, d2] => { results := [.lit (.bool true)], args := [d1, d2] }
  | _ => none }
def numUndoRow : OpenClaim := { program := "ytodikaekpncjjaa", sum := "567b3cc72665a762404284923c2c563b5b32141cf51a7bc7281c2103f8b187d9", func := "tranter/tranterlaw01.NumUndo", spec := "numUndo", inPlace := ["math/bits.Add64"], apart := false }
def NumUndoSaid : Prop := numUndoRow.holds Try.pinned (OpenSpec.ofChange numUndoSpec)

/-- ITS FALSE NEIGHBOUR: 'it returns false'. Refute it at one input. -/
def numUndoWrong : ChangeSpec := { name := "numUndo", fn := fun _ => fun
  | [d1, d2] => { results := [.lit (.bool false)], args := [d1, d2] }
  | _ => none }
def NumUndoWrongFalsely : Prop := numUndoRow.holds Try.pinned (OpenSpec.ofChange numUndoWrong)

/-- 'tranterlaw01.NumSigns': WHATEVER THE INPUT: true; the input reads as it did. -/
def numSignsSpec : ChangeSpec := { name := "numSigns", fn := fun _ => fun
  | [d1, d2] => { results := [.lit (.bool true)], args := [d1, d2] }
  | _ => none }
def numSignsRow : OpenClaim := { program := "ytodikaekpncjjaa", sum := "567b3cc72665a762404284923c2c563b5b32141cf51a7bc7281c2103f8b187d9", func := "tranter/tranterlaw01.NumSigns", spec := "numSigns", inPlace := ["math/bits.Add64"], apart := false }
def NumSignsSaid : Prop := numSignsRow.holds Try.pinned (OpenSpec.ofChange numSignsSpec)

/-- ITS FALSE NEIGHBOUR: 'it returns false'. Refute it at one input. -/
def numSignsWrong : ChangeSpec := { name := "numSigns", fn := fun _ => fun
  | [d1, d2] => { results := [.lit (.bool false)], args := [d1, d2] }
  | _ => none }
def NumSignsWrongFalsely : Prop := numSignsRow.holds Try.pinned (OpenSpec.ofChange numSignsWrong)

/- THE SECOND FORM. 'bulk': how many values and letters a reading holds, each counted each time it is reached (what is shared counts as often as it is met; a slice's spare places count too). A statement '..UptoSaid' is the law's where the arguments, and the package variables that the reading takes, are together of bulk at most 1048576: NARROWER than '..Said'. Prove '..Said' where nothing that the law and all that it calls make is longer than what came in: it says more and counts as full. Else prove '..UptoSaid'. A law counts once. -/
mutual
def uptoBulk {H : Type} : DataW H → Nat
  | .lit (.string bytes) => bytes.length + 1
  | .lit _ => 1
  | .nil => 1
  | .ptr d => uptoBulk d + 1
  | .slice elems spare => uptoBulkAll elems + uptoBulkAll spare + 1
  | .agg parts => uptoBulkAll parts + 1
  | .iface _ d => uptoBulk d + 1
  | .map entries => uptoBulkEntries entries + 1
  | .held _ => 1
def uptoBulkAll {H : Type} : List (DataW H) → Nat
  | [] => 0
  | d :: r => uptoBulk d + uptoBulkAll r
def uptoBulkEntries {H : Type} : List (Lit × DataW H) → Nat
  | [] => 0
  | x :: r => uptoBulkEntry x + uptoBulkEntries r
def uptoBulkEntry {H : Type} : Lit × DataW H → Nat
  | (.string bytes, d) => bytes.length + uptoBulk d + 1
  | (_, d) => uptoBulk d + 1
 end
def uptoSmall : (H : Type) → List (DataW H) → Bool := fun _ ds => decide (uptoBulkAll ds ≤ 1048576)
def OpenSpec.upto (s : _root_.Go.ChangeSpec) : _root_.Go.OpenSpec := { _root_.Go.OpenSpec.ofChange s with cond := some uptoSmall }

/-- 'tranterlaw01.NumMany', WHERE WHAT IT READS IS OF BULK AT MOST 1048576: true; the input reads as it did. -/
def numManyUptoRow : OpenClaim := { program := "ytodikaekpncjjaa", sum := "567b3cc72665a762404284923c2c563b5b32141cf51a7bc7281c2103f8b187d9", func := "tranter/tranterlaw01.NumMany", spec := "numMany", inPlace := ["math/bits.Add64"], apart := false, narrowed := true }
def NumManyUptoSaid : Prop := numManyUptoRow.holds Try.pinned (OpenSpec.upto numManySpec)

/-- 'tranterlaw01.NumFloors', WHERE WHAT IT READS IS OF BULK AT MOST 1048576: true; the input reads as it did. -/
def numFloorsUptoRow : OpenClaim := { program := "ytodikaekpncjjaa", sum := "567b3cc72665a762404284923c2c563b5b32141cf51a7bc7281c2103f8b187d9", func := "tranter/tranterlaw01.NumFloors", spec := "numFloors", inPlace := ["math/bits.Add64"], apart := false, narrowed := true }
def NumFloorsUptoSaid : Prop := numFloorsUptoRow.holds Try.pinned (OpenSpec.upto numFloorsSpec)

/-- 'tranterlaw01.NumOrder', WHERE WHAT IT READS IS OF BULK AT MOST 1048576: true; the input reads as it did. -/
def numOrderUptoRow : OpenClaim := { program := "ytodikaekpncjjaa", sum := "567b3cc72665a762404284923c2c563b5b32141cf51a7bc7281c2103f8b187d9", func := "tranter/tranterlaw01.NumOrder", spec := "numOrder", inPlace := ["math/bits.Add64"], apart := false, narrowed := true }
def NumOrderUptoSaid : Prop := numOrderUptoRow.holds Try.pinned (OpenSpec.upto numOrderSpec)

/-- 'tranterlaw01.NumClips', WHERE WHAT IT READS IS OF BULK AT MOST 1048576: true; the input reads as it did. -/
def numClipsUptoRow : OpenClaim := { program := "ytodikaekpncjjaa", sum := "567b3cc72665a762404284923c2c563b5b32141cf51a7bc7281c2103f8b187d9", func := "tranter/tranterlaw01.NumClips", spec := "numClips", inPlace := ["math/bits.Add64"], apart := false, narrowed := true }
def NumClipsUptoSaid : Prop := numClipsUptoRow.holds Try.pinned (OpenSpec.upto numClipsSpec)

/-- 'tranterlaw01.NumSums', WHERE WHAT IT READS IS OF BULK AT MOST 1048576: true; the input reads as it did. -/
def numSumsUptoRow : OpenClaim := { program := "ytodikaekpncjjaa", sum := "567b3cc72665a762404284923c2c563b5b32141cf51a7bc7281c2103f8b187d9", func := "tranter/tranterlaw01.NumSums", spec := "numSums", inPlace := ["math/bits.Add64"], apart := false, narrowed := true }
def NumSumsUptoSaid : Prop := numSumsUptoRow.holds Try.pinned (OpenSpec.upto numSumsSpec)

/-- 'tranterlaw01.NumUndo', WHERE WHAT IT READS IS OF BULK AT MOST 1048576: true; the input reads as it did. -/
def numUndoUptoRow : OpenClaim := { program := "ytodikaekpncjjaa", sum := "567b3cc72665a762404284923c2c563b5b32141cf51a7bc7281c2103f8b187d9", func := "tranter/tranterlaw01.NumUndo", spec := "numUndo", inPlace := ["math/bits.Add64"], apart := false, narrowed := true }
def NumUndoUptoSaid : Prop := numUndoUptoRow.holds Try.pinned (OpenSpec.upto numUndoSpec)

/-- 'tranterlaw01.NumSigns', WHERE WHAT IT READS IS OF BULK AT MOST 1048576: true; the input reads as it did. -/
def numSignsUptoRow : OpenClaim := { program := "ytodikaekpncjjaa", sum := "567b3cc72665a762404284923c2c563b5b32141cf51a7bc7281c2103f8b187d9", func := "tranter/tranterlaw01.NumSigns", spec := "numSigns", inPlace := ["math/bits.Add64"], apart := false, narrowed := true }
def NumSignsUptoSaid : Prop := numSignsUptoRow.holds Try.pinned (OpenSpec.upto numSignsSpec)

end Rows
end Go.Proofs.Ytodikaekpncjjaa
