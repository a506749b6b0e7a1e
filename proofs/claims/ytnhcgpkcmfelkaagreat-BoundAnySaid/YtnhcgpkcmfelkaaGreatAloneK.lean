/-
  My own work: tranterref11.Customer, tranterlaw11.round, tranterref11.Prices: their contracts.
-/
import Derived.Test.YtnhcgpkcmfelkaaGreatGood4
import Derived.Test.YtnhcgpkcmfelkaaGreatLiveX
import Derived.Test.YtnhcgpkcmfelkaaGreatMPl
namespace Go.Proofs.YtnhcgpkcmfelkaaGreat
open Go.RowKit
set_option linter.unusedVariables false
set_option maxRecDepth 100000

theorem wf_mk {n : Int} (h1 : -9223372036854775808 ≤ n) (h2 : n ≤ 9223372036854775807) : (Lit.int .i64 n).wf = true := by
  simp only [Lit.wf, Bool.and_eq_true, decide_eq_true_eq]
  exact ⟨h1, h2⟩
def CustOut (n : Nat) (w : World) (e : Ending) (w' : World) : Prop :=
  ∃ (X : Cu) (xv : Value), e = .returned (.agg #[.int .i64 X.kd, .int .i64 X.dm, xv, .int .i64 X.rt, .int .i64 X.sz, .int .i64 X.st, .int .i64 X.ru, .int .i64 X.hd]) ∧ GoodC n X ∧ Words w' xv X.ps ∧ Below w.heap.size w w'
theorem words_form {w : World} {v : Value} {xs : List Nat} (h : Words w v xs) : ∃ a n c, v = .slice a n c := by
  obtain ⟨a, c, rfl, _⟩ := h
  exact ⟨_, _, _, rfl⟩

end Go.Proofs.YtnhcgpkcmfelkaaGreat
