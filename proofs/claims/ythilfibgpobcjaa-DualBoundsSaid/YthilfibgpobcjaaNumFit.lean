/-
  My own work: what fits an int.
-/
import Derived.Test.YthilfibgpobcjaaBase
namespace Go.Proofs.Ythilfibgpobcjaa
open Go.RowKit
set_option linter.unusedVariables false

/-- It fits an int. -/
def fitsI (x : Int) : Bool := decide (-9223372036854775808 ≤ x) && decide (x ≤ 9223372036854775807)
theorem fitsI_iff {x : Int} : fitsI x = true ↔ -9223372036854775808 ≤ x ∧ x ≤ 9223372036854775807 := by simp [fitsI]
theorem fitsI_of_wf {x : Int} (h : (Lit.int .i64 x).wf = true) : fitsI x = true := fitsI_iff.2 (wf_i64 h)
def addE (a b : Int) : Int × Bool := if fitsI (a + b) = true then (a + b, true) else (0, false)
def satI (a b : Int) : Int := if fitsI (a + b) = true then a + b else if b < 0 then -9223372036854775808 else 9223372036854775807

theorem satI_fits (a b : Int) : fitsI (satI a b) = true := by
  unfold satI
  split
  · assumption
  · split <;> decide

def sumE (T : Int) : Int × Bool := if fitsI T = true then (T, true) else (0, false)
end Go.Proofs.Ythilfibgpobcjaa
