/-
  No cell of these rows narrows 'for every input' (looked for: loops, veiled, ifaces, maps, wideKeys, modest, calm, conditions, laid).
  DERIVED. THE GIVEN ROWS OF THIS SEAT. 10 by the template 'for every input the law returns true; each argument reads behind the call as it read before'; 0 by the template 'total and deterministic' (their statements: YthilfibgpobcjaaTotals.lean).
  GIVEN WITH THE SEED: the statements are not yours to turn. If you find one false, say at which input.
  Laid BY PROGRAM, IN A SANDBOX (cutbox-rows.mjs): the forced cells as the released guide's own fill.sh prints them over the translation b2d798cf68d4ca23… (all of the seat's roots in one cut). By AI agents, Wed Nov 11 2026. No macro, syntax, notation, axiom, sorry.
-/
import Derived.Test.YthilfibgpobcjaaChecked
import GoSem.Claim
import GoSem.ClaimJoined
import GoSem.ClaimMapViews
import Derived.JoinedTies
import Derived.KernelRfl
namespace Go.Proofs.Ythilfibgpobcjaa
/- THE CELL 'sum', in the pinned program and in every row, IS THE sha256 OF THE DUMP (.gsa) THAT YthilfibgpobcjaaProg.lean LOADS. Nothing in Lean hashes anything: it is a label: what it is worth is what the hold of that sum in a sandbox is worth. -/
noncomputable def Try.pinned : Pinned := { name := "ythilfibgpobcjaa", sum := "b2d798cf68d4ca231220e2383900bbdbeb35699f45456bc38813b0a9666af6b9", checked := Try.checked }
namespace Rows
def none {H : Type} : Left H := { results := [], args := [] }

/-- 'tranterlaw17.DualBounds': WHATEVER THE INPUT: true; the input reads as it did. -/
def dualBoundsSpec : ChangeSpec := { name := "dualBounds", fn := fun _ => fun
  | [d1, d2, d3, d4] => { results := [.lit (.bool true)], args := [d1, d2, d3, d4] }
  | _ => none }
def dualBoundsRow : OpenClaim := { program := "ythilfibgpobcjaa", sum := "b2d798cf68d4ca231220e2383900bbdbeb35699f45456bc38813b0a9666af6b9", func := "tranter/tranterlaw17.DualBounds", spec := "dualBounds", unfollowed := true, recurses := true, apart := false }
def DualBoundsSaid : Prop := dualBoundsRow.holds Try.pinned (OpenSpec.ofChange dualBoundsSpec)

/-- ITS FALSE NEIGHBOUR: 'it returns false'. Refute it at one input. -/
def dualBoundsWrong : ChangeSpec := { name := "dualBounds", fn := fun _ => fun
  | [d1, d2, d3, d4] => { results := [.lit (.bool false)], args := [d1, d2, d3, d4] }
  | _ => none }
def DualBoundsWrongFalsely : Prop := dualBoundsRow.holds Try.pinned (OpenSpec.ofChange dualBoundsWrong)

/-- 'tranterlaw17.DualMay': WHATEVER THE INPUT: true; the input reads as it did. -/
def dualMaySpec : ChangeSpec := { name := "dualMay", fn := fun _ => fun
  | [d1, d2, d3, d4, d5] => { results := [.lit (.bool true)], args := [d1, d2, d3, d4, d5] }
  | _ => none }
def dualMayRow : OpenClaim := { program := "ythilfibgpobcjaa", sum := "b2d798cf68d4ca231220e2383900bbdbeb35699f45456bc38813b0a9666af6b9", func := "tranter/tranterlaw17.DualMay", spec := "dualMay", unfollowed := true, recurses := true, apart := false }
def DualMaySaid : Prop := dualMayRow.holds Try.pinned (OpenSpec.ofChange dualMaySpec)

/-- ITS FALSE NEIGHBOUR: 'it returns false'. Refute it at one input. -/
def dualMayWrong : ChangeSpec := { name := "dualMay", fn := fun _ => fun
  | [d1, d2, d3, d4, d5] => { results := [.lit (.bool false)], args := [d1, d2, d3, d4, d5] }
  | _ => none }
def DualMayWrongFalsely : Prop := dualMayRow.holds Try.pinned (OpenSpec.ofChange dualMayWrong)

/-- 'tranterlaw17.DualTight': WHATEVER THE INPUT: true; the input reads as it did. -/
def dualTightSpec : ChangeSpec := { name := "dualTight", fn := fun _ => fun
  | [d1, d2] => { results := [.lit (.bool true)], args := [d1, d2] }
  | _ => none }
def dualTightRow : OpenClaim := { program := "ythilfibgpobcjaa", sum := "b2d798cf68d4ca231220e2383900bbdbeb35699f45456bc38813b0a9666af6b9", func := "tranter/tranterlaw17.DualTight", spec := "dualTight", unfollowed := true, recurses := true, apart := false }
def DualTightSaid : Prop := dualTightRow.holds Try.pinned (OpenSpec.ofChange dualTightSpec)

/-- ITS FALSE NEIGHBOUR: 'it returns false'. Refute it at one input. -/
def dualTightWrong : ChangeSpec := { name := "dualTight", fn := fun _ => fun
  | [d1, d2] => { results := [.lit (.bool false)], args := [d1, d2] }
  | _ => none }
def DualTightWrongFalsely : Prop := dualTightRow.holds Try.pinned (OpenSpec.ofChange dualTightWrong)

/-- 'tranterlaw17.DualFits': WHATEVER THE INPUT: true; the input reads as it did. -/
def dualFitsSpec : ChangeSpec := { name := "dualFits", fn := fun _ => fun
  | [d1, d2, d3, d4] => { results := [.lit (.bool true)], args := [d1, d2, d3, d4] }
  | _ => none }
def dualFitsRow : OpenClaim := { program := "ythilfibgpobcjaa", sum := "b2d798cf68d4ca231220e2383900bbdbeb35699f45456bc38813b0a9666af6b9", func := "tranter/tranterlaw17.DualFits", spec := "dualFits", unfollowed := true, recurses := true, apart := false }
def DualFitsSaid : Prop := dualFitsRow.holds Try.pinned (OpenSpec.ofChange dualFitsSpec)

/-- ITS FALSE NEIGHBOUR: 'it returns false'. Refute it at one input. -/
def dualFitsWrong : ChangeSpec := { name := "dualFits", fn := fun _ => fun
  | [d1, d2, d3, d4] => { results := [.lit (.bool false)], args := [d1, d2, d3, d4] }
  | _ => none }
def DualFitsWrongFalsely : Prop := dualFitsRow.holds Try.pinned (OpenSpec.ofChange dualFitsWrong)

/-- 'tranterlaw17.DualHolds': WHATEVER THE INPUT: true; the input reads as it did. -/
def dualHoldsSpec : ChangeSpec := { name := "dualHolds", fn := fun _ => fun
  | [d1, d2, d3, d4] => { results := [.lit (.bool true)], args := [d1, d2, d3, d4] }
  | _ => none }
def dualHoldsRow : OpenClaim := { program := "ythilfibgpobcjaa", sum := "b2d798cf68d4ca231220e2383900bbdbeb35699f45456bc38813b0a9666af6b9", func := "tranter/tranterlaw17.DualHolds", spec := "dualHolds", unfollowed := true, recurses := true, apart := false }
def DualHoldsSaid : Prop := dualHoldsRow.holds Try.pinned (OpenSpec.ofChange dualHoldsSpec)

/-- ITS FALSE NEIGHBOUR: 'it returns false'. Refute it at one input. -/
def dualHoldsWrong : ChangeSpec := { name := "dualHolds", fn := fun _ => fun
  | [d1, d2, d3, d4] => { results := [.lit (.bool false)], args := [d1, d2, d3, d4] }
  | _ => none }
def DualHoldsWrongFalsely : Prop := dualHoldsRow.holds Try.pinned (OpenSpec.ofChange dualHoldsWrong)

/-- 'tranterlaw17.DualSame': WHATEVER THE INPUT: true; the input reads as it did. -/
def dualSameSpec : ChangeSpec := { name := "dualSame", fn := fun _ => fun
  | [d1, d2, d3] => { results := [.lit (.bool true)], args := [d1, d2, d3] }
  | _ => none }
def dualSameRow : OpenClaim := { program := "ythilfibgpobcjaa", sum := "b2d798cf68d4ca231220e2383900bbdbeb35699f45456bc38813b0a9666af6b9", func := "tranter/tranterlaw17.DualSame", spec := "dualSame", unfollowed := true, recurses := true, apart := false }
def DualSameSaid : Prop := dualSameRow.holds Try.pinned (OpenSpec.ofChange dualSameSpec)

/-- ITS FALSE NEIGHBOUR: 'it returns false'. Refute it at one input. -/
def dualSameWrong : ChangeSpec := { name := "dualSame", fn := fun _ => fun
  | [d1, d2, d3] => { results := [.lit (.bool false)], args := [d1, d2, d3] }
  | _ => none }
def DualSameWrongFalsely : Prop := dualSameRow.holds Try.pinned (OpenSpec.ofChange dualSameWrong)

/-- 'tranterlaw10.PolicyMost': WHATEVER THE INPUT: true; the input reads as it did. -/
def policyMostSpec : ChangeSpec := { name := "policyMost", fn := fun _ => fun
  | [d1, d2, d3] => { results := [.lit (.bool true)], args := [d1, d2, d3] }
  | _ => none }
def policyMostRow : OpenClaim := { program := "ythilfibgpobcjaa", sum := "b2d798cf68d4ca231220e2383900bbdbeb35699f45456bc38813b0a9666af6b9", func := "tranter/tranterlaw10.PolicyMost", spec := "policyMost", unfollowed := true, recurses := true, apart := false }
def PolicyMostSaid : Prop := policyMostRow.holds Try.pinned (OpenSpec.ofChange policyMostSpec)

/-- ITS FALSE NEIGHBOUR: 'it returns false'. Refute it at one input. -/
def policyMostWrong : ChangeSpec := { name := "policyMost", fn := fun _ => fun
  | [d1, d2, d3] => { results := [.lit (.bool false)], args := [d1, d2, d3] }
  | _ => none }
def PolicyMostWrongFalsely : Prop := policyMostRow.holds Try.pinned (OpenSpec.ofChange policyMostWrong)

/-- 'tranterlaw10.PolicyWays': WHATEVER THE INPUT: true; the input reads as it did. -/
def policyWaysSpec : ChangeSpec := { name := "policyWays", fn := fun _ => fun
  | [d1, d2, d3] => { results := [.lit (.bool true)], args := [d1, d2, d3] }
  | _ => none }
def policyWaysRow : OpenClaim := { program := "ythilfibgpobcjaa", sum := "b2d798cf68d4ca231220e2383900bbdbeb35699f45456bc38813b0a9666af6b9", func := "tranter/tranterlaw10.PolicyWays", spec := "policyWays", unfollowed := true, recurses := true, apart := false }
def PolicyWaysSaid : Prop := policyWaysRow.holds Try.pinned (OpenSpec.ofChange policyWaysSpec)

/-- ITS FALSE NEIGHBOUR: 'it returns false'. Refute it at one input. -/
def policyWaysWrong : ChangeSpec := { name := "policyWays", fn := fun _ => fun
  | [d1, d2, d3] => { results := [.lit (.bool false)], args := [d1, d2, d3] }
  | _ => none }
def PolicyWaysWrongFalsely : Prop := policyWaysRow.holds Try.pinned (OpenSpec.ofChange policyWaysWrong)

/-- 'tranterlaw10.PolicyLess': WHATEVER THE INPUT: true; the input reads as it did. -/
def policyLessSpec : ChangeSpec := { name := "policyLess", fn := fun _ => fun
  | [d1, d2, d3] => { results := [.lit (.bool true)], args := [d1, d2, d3] }
  | _ => none }
def policyLessRow : OpenClaim := { program := "ythilfibgpobcjaa", sum := "b2d798cf68d4ca231220e2383900bbdbeb35699f45456bc38813b0a9666af6b9", func := "tranter/tranterlaw10.PolicyLess", spec := "policyLess", unfollowed := true, recurses := true, apart := false }
def PolicyLessSaid : Prop := policyLessRow.holds Try.pinned (OpenSpec.ofChange policyLessSpec)

/-- ITS FALSE NEIGHBOUR: 'it returns false'. Refute it at one input. -/
def policyLessWrong : ChangeSpec := { name := "policyLess", fn := fun _ => fun
  | [d1, d2, d3] => { results := [.lit (.bool false)], args := [d1, d2, d3] }
  | _ => none }
def PolicyLessWrongFalsely : Prop := policyLessRow.holds Try.pinned (OpenSpec.ofChange policyLessWrong)

/-- 'tranterlaw10.PolicyWider': WHATEVER THE INPUT: true; the input reads as it did. -/
def policyWiderSpec : ChangeSpec := { name := "policyWider", fn := fun _ => fun
  | [d1, d2, d3, d4] => { results := [.lit (.bool true)], args := [d1, d2, d3, d4] }
  | _ => none }
def policyWiderRow : OpenClaim := { program := "ythilfibgpobcjaa", sum := "b2d798cf68d4ca231220e2383900bbdbeb35699f45456bc38813b0a9666af6b9", func := "tranter/tranterlaw10.PolicyWider", spec := "policyWider", unfollowed := true, recurses := true, apart := false }
def PolicyWiderSaid : Prop := policyWiderRow.holds Try.pinned (OpenSpec.ofChange policyWiderSpec)

/-- ITS FALSE NEIGHBOUR: 'it returns false'. Refute it at one input. -/
def policyWiderWrong : ChangeSpec := { name := "policyWider", fn := fun _ => fun
  | [d1, d2, d3, d4] => { results := [.lit (.bool false)], args := [d1, d2, d3, d4] }
  | _ => none }
def PolicyWiderWrongFalsely : Prop := policyWiderRow.holds Try.pinned (OpenSpec.ofChange policyWiderWrong)

/- THE SECOND FORM. 'bulk': how many values and letters a reading holds, each counted each time it is reached (what is shared counts as often as it is met; a slice's spare places count too). A statement '..UptoSaid' is the law's where the arguments, and the package variables that the reading takes, are together of bulk at most 1048576: NARROWER than '..Said'. Prove '..Said' where nothing that the law and all that it calls make is longer than what came in: it says more and counts as full. Else prove '..UptoSaid'. A law counts once. -/
mutual
def uptoBulk {H : Type} : DataW H → Nat
  | .lit (.string bytes) => bytes.length + 1
  | .lit _ => 1
  | .nil => 1
  | .ptr d => uptoBulk d + 1
  | .slice elems spare => uptoBulkAll elems + uptoBulkAll spare + 1
  | .agg parts => uptoBulkAll parts + 1
  | .iface _ d => uptoBulk d + 1
  | .map entries => uptoBulkEntries entries + 1
  | .held _ => 1
def uptoBulkAll {H : Type} : List (DataW H) → Nat
  | [] => 0
  | d :: r => uptoBulk d + uptoBulkAll r
def uptoBulkEntries {H : Type} : List (Lit × DataW H) → Nat
  | [] => 0
  | x :: r => uptoBulkEntry x + uptoBulkEntries r
def uptoBulkEntry {H : Type} : Lit × DataW H → Nat
  | (.string bytes, d) => bytes.length + uptoBulk d + 1
  | (_, d) => uptoBulk d + 1
 end
def uptoSmall : (H : Type) → List (DataW H) → Bool := fun _ ds => decide (uptoBulkAll ds ≤ 1048576)
def OpenSpec.upto (s : _root_.Go.ChangeSpec) : _root_.Go.OpenSpec := { _root_.Go.OpenSpec.ofChange s with cond := some uptoSmall }

/-- 'tranterlaw17.DualBounds', WHERE WHAT IT READS IS OF BULK AT MOST 1048576: true; the input reads as it did. -/
def dualBoundsUptoRow : OpenClaim := { program := "ythilfibgpobcjaa", sum := "b2d798cf68d4ca231220e2383900bbdbeb35699f45456bc38813b0a9666af6b9", func := "tranter/tranterlaw17.DualBounds", spec := "dualBounds", unfollowed := true, recurses := true, apart := false, narrowed := true }
def DualBoundsUptoSaid : Prop := dualBoundsUptoRow.holds Try.pinned (OpenSpec.upto dualBoundsSpec)

/-- 'tranterlaw17.DualMay', WHERE WHAT IT READS IS OF BULK AT MOST 1048576: true; the input reads as it did. -/
def dualMayUptoRow : OpenClaim := { program := "ythilfibgpobcjaa", sum := "b2d798cf68d4ca231220e2383900bbdbeb35699f45456bc38813b0a9666af6b9", func := "tranter/tranterlaw17.DualMay", spec := "dualMay", unfollowed := true, recurses := true, apart := false, narrowed := true }
def DualMayUptoSaid : Prop := dualMayUptoRow.holds Try.pinned (OpenSpec.upto dualMaySpec)

/-- 'tranterlaw17.DualTight', WHERE WHAT IT READS IS OF BULK AT MOST 1048576: true; the input reads as it did. -/
def dualTightUptoRow : OpenClaim := { program := "ythilfibgpobcjaa", sum := "b2d798cf68d4ca231220e2383900bbdbeb35699f45456bc38813b0a9666af6b9", func := "tranter/tranterlaw17.DualTight", spec := "dualTight", unfollowed := true, recurses := true, apart := false, narrowed := true }
def DualTightUptoSaid : Prop := dualTightUptoRow.holds Try.pinned (OpenSpec.upto dualTightSpec)

/-- 'tranterlaw17.DualFits', WHERE WHAT IT READS IS OF BULK AT MOST 1048576: true; the input reads as it did. -/
def dualFitsUptoRow : OpenClaim := { program := "ythilfibgpobcjaa", sum := "b2d798cf68d4ca231220e2383900bbdbeb35699f45456bc38813b0a9666af6b9", func := "tranter/tranterlaw17.DualFits", spec := "dualFits", unfollowed := true, recurses := true, apart := false, narrowed := true }
def DualFitsUptoSaid : Prop := dualFitsUptoRow.holds Try.pinned (OpenSpec.upto dualFitsSpec)

/-- 'tranterlaw17.DualHolds', WHERE WHAT IT READS IS OF BULK AT MOST 1048576: true; the input reads as it did. -/
def dualHoldsUptoRow : OpenClaim := { program := "ythilfibgpobcjaa", sum := "b2d798cf68d4ca231220e2383900bbdbeb35699f45456bc38813b0a9666af6b9", func := "tranter/tranterlaw17.DualHolds", spec := "dualHolds", unfollowed := true, recurses := true, apart := false, narrowed := true }
def DualHoldsUptoSaid : Prop := dualHoldsUptoRow.holds Try.pinned (OpenSpec.upto dualHoldsSpec)

/-- 'tranterlaw17.DualSame', WHERE WHAT IT READS IS OF BULK AT MOST 1048576: true; the input reads as it did. -/
def dualSameUptoRow : OpenClaim := { program := "ythilfibgpobcjaa", sum := "b2d798cf68d4ca231220e2383900bbdbeb35699f45456bc38813b0a9666af6b9", func := "tranter/tranterlaw17.DualSame", spec := "dualSame", unfollowed := true, recurses := true, apart := false, narrowed := true }
def DualSameUptoSaid : Prop := dualSameUptoRow.holds Try.pinned (OpenSpec.upto dualSameSpec)

/-- 'tranterlaw10.PolicyMost', WHERE WHAT IT READS IS OF BULK AT MOST 1048576: true; the input reads as it did. -/
def policyMostUptoRow : OpenClaim := { program := "ythilfibgpobcjaa", sum := "b2d798cf68d4ca231220e2383900bbdbeb35699f45456bc38813b0a9666af6b9", func := "tranter/tranterlaw10.PolicyMost", spec := "policyMost", unfollowed := true, recurses := true, apart := false, narrowed := true }
def PolicyMostUptoSaid : Prop := policyMostUptoRow.holds Try.pinned (OpenSpec.upto policyMostSpec)

/-- 'tranterlaw10.PolicyWays', WHERE WHAT IT READS IS OF BULK AT MOST 1048576: true; the input reads as it did. -/
def policyWaysUptoRow : OpenClaim := { program := "ythilfibgpobcjaa", sum := "b2d798cf68d4ca231220e2383900bbdbeb35699f45456bc38813b0a9666af6b9", func := "tranter/tranterlaw10.PolicyWays", spec := "policyWays", unfollowed := true, recurses := true, apart := false, narrowed := true }
def PolicyWaysUptoSaid : Prop := policyWaysUptoRow.holds Try.pinned (OpenSpec.upto policyWaysSpec)

/-- 'tranterlaw10.PolicyLess', WHERE WHAT IT READS IS OF BULK AT MOST 1048576: true; the input reads as it did. -/
def policyLessUptoRow : OpenClaim := { program := "ythilfibgpobcjaa", sum := "b2d798cf68d4ca231220e2383900bbdbeb35699f45456bc38813b0a9666af6b9", func := "tranter/tranterlaw10.PolicyLess", spec := "policyLess", unfollowed := true, recurses := true, apart := false, narrowed := true }
def PolicyLessUptoSaid : Prop := policyLessUptoRow.holds Try.pinned (OpenSpec.upto policyLessSpec)

/-- 'tranterlaw10.PolicyWider', WHERE WHAT IT READS IS OF BULK AT MOST 1048576: true; the input reads as it did. -/
def policyWiderUptoRow : OpenClaim := { program := "ythilfibgpobcjaa", sum := "b2d798cf68d4ca231220e2383900bbdbeb35699f45456bc38813b0a9666af6b9", func := "tranter/tranterlaw10.PolicyWider", spec := "policyWider", unfollowed := true, recurses := true, apart := false, narrowed := true }
def PolicyWiderUptoSaid : Prop := policyWiderUptoRow.holds Try.pinned (OpenSpec.upto policyWiderSpec)

end Rows
end Go.Proofs.Ythilfibgpobcjaa
