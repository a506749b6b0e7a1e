/-
  My own work: the walk of PolicyLess.
-/
import Derived.Test.YtnhcgpkcmfelkaaGreatMPol
import Derived.Deep.QuietTactic
import Derived.BigQuiet
namespace Go.Proofs.YtnhcgpkcmfelkaaGreat
open Go.RowKit
set_option linter.unusedVariables false
set_option maxRecDepth 100000

/-- Where the late way may be: both ways' nights, and one is never above the other. -/
theorem both_nights (R Z S cap : Int) (n : Nat) (r0 : 0 ≤ R) (z1 : Z ≤ 2147483648) (s0 : 0 ≤ S) (s1 : S ≤ Z) (h : (holdsE S R Z 2 (wayQ true Z 2 R cap S n) == 0) = true) :
    (holdsE S R Z 2 (wayQ false Z 2 R cap S n) == 0) = true ∧ nightsE S R Z (wayQ true Z 2 R cap S n) = (0, nightL S R (wayQ true Z 2 R cap S n) n) ∧ nightsE S R Z (wayQ false Z 2 R cap S n) = (0, nightL S R (wayQ false Z 2 R cap S n) n) ∧
      ∀ d, d < n → nth (nightL S R (wayQ true Z 2 R cap S n) n) d ≤ nth (nightL S R (wayQ false Z 2 R cap S n) n) d := by
  rw [beq_iff_eq, holdsE_zero] at h
  have hok := nightsE_zero h
  rw [wayQ_len] at hok
  have hq1 := way_okQ (late := true) (ru := 2) (rt := R) (cap := cap) (st := S) (show 0 ≤ Z by omega) z1 n
  have hq2 := way_okQ (late := false) (ru := 2) (rt := R) (cap := cap) (st := S) (show 0 ≤ Z by omega) z1 n
  have hl := late_daily Z R cap S n s0 s1 r0 hok
  have e1 := nightsE_ok (st := S) (rt := R) (sz := Z) hq1 (by rw [wayQ_len]; exact hok)
  have e2 := nightsE_ok (st := S) (rt := R) (sz := Z) hq2 (by rw [wayQ_len]; intro j hj; exact (hl j (by omega)).2.2.2 hj)
  rw [wayQ_len] at e1 e2
  refine ⟨?_, e1, e2, fun d hd => ?_⟩
  · rw [beq_iff_eq, holdsE_zero, e2]
  · rw [nth_nightL _ _ _ _ _ hd, nth_nightL _ _ _ _ _ hd, ← wayT_morn (d + 1) n (by omega), ← wayT_morn (d + 1) n (by omega)]
    exact (hl (d + 1) (by omega)).2.1

end Go.Proofs.YtnhcgpkcmfelkaaGreat
