/-
  My own work: tranterref11.Least, Any: their contracts.
-/
import Derived.Test.YtnhcgpkcmfelkaaAloneT
import Derived.Test.YtnhcgpkcmfelkaaAloneG
import Derived.Test.YtnhcgpkcmfelkaaAloneM
namespace Go.Proofs.Ytnhcgpkcmfelkaa
open Go.RowKit
set_option linter.unusedVariables false
set_option maxRecDepth 100000
attribute [local go_sem ↓] Go.wp_at_zero Go.wp_at_succ

/-- The least cost of the first k lists of visits. -/
def leastU (f : List (Int × Int) → Int) (L : List (List (Int × Int))) : Nat → Int
  | 0 => 0
  | k + 1 => if k = 0 ∨ f (nthU L k) < leastU f L k then f (nthU L k) else leastU f L k
theorem leastU_le (f : List (Int × Int) → Int) (L : List (List (Int × Int))) (k j : Nat) (hj : j < k) : leastU f L k ≤ f (nthU L j) := by
  induction k with
  | zero => omega
  | succ k ih =>
    rw [leastU]
    by_cases e : j = k
    · subst e
      split <;> omega
    · have := ih (by omega)
      split <;> omega
theorem leastU_mem (f : List (Int × Int) → Int) (L : List (List (Int × Int))) (k : Nat) (hk : 0 < k) : ∃ j, j < k ∧ leastU f L k = f (nthU L j) := by
  induction k with
  | zero => omega
  | succ k ih =>
    rw [leastU]
    by_cases h : k = 0 ∨ f (nthU L k) < leastU f L k
    · rw [if_pos h]; exact ⟨k, by omega, rfl⟩
    · rw [if_neg h]
      obtain ⟨j, hj, he⟩ := ih (by omega)
      exact ⟨j, by omega, he⟩
theorem leastU_eq {f : List (Int × Int) → Int} {L : List (List (Int × Int))} {V : List (Int × Int)} (hV : V ∈ L) (hle : ∀ U ∈ L, f V ≤ f U) : leastU f L L.length = f V := by
  obtain ⟨i, hi, he⟩ := List.mem_iff_getElem.1 hV
  have h1 := leastU_le f L L.length i hi
  obtain ⟨j, hj, he2⟩ := leastU_mem f L L.length (by omega)
  have h2 := hle _ (nthU_mem hj)
  rw [nthU_lt hi, he] at h1
  omega

end Go.Proofs.Ytnhcgpkcmfelkaa
