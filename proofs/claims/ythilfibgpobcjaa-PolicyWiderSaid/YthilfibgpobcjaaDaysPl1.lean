/-
  My own work: plain facts on sets of days, day by day.
-/
import Derived.Test.YthilfibgpobcjaaDaysPl
namespace Go.Proofs.Ythilfibgpobcjaa
open Go.RowKit
set_option linter.unusedVariables false

theorem test_over {s k : Nat} (hs : s < 18446744073709551616) (hk : 64 ≤ k) : s.testBit k = false :=
  Nat.testBit_lt_two_pow (Nat.lt_of_lt_of_le (show s < 2 ^ 64 by simpa using hs) (Nat.pow_le_pow_right (by decide) hk))
theorem set_ext {s t : Nat} (hs : s < 18446744073709551616) (ht : t < 18446744073709551616) (h : ∀ k, k < 64 → s.testBit k = t.testBit k) : s = t := by
  apply Nat.eq_of_testBit_eq
  intro k
  by_cases hk : k < 64
  · exact h k hk
  · rw [test_over hs (by omega), test_over ht (by omega)]
theorem test_with' (s : Nat) (d : Int) (k : Nat) (hk : k < 64) : (withN s d).testBit k = (s.testBit k || decide (d = (k : Int))) := by
  cases ht : thereB d with
  | true =>
    obtain ⟨h0, h1⟩ := there_yes ht
    obtain ⟨n, rfl⟩ := Int.eq_ofNat_of_zero_le h0
    rw [test_with s n k (by omega)]
    congr 1
    rw [decide_eq_decide]
    omega
  | false =>
    have := there_no ht
    unfold withN
    rw [ht, if_neg (by simp), decide_eq_false (by omega), Bool.or_false]
theorem test_without' (s : Nat) (d : Int) (k : Nat) (hs : s < 18446744073709551616) (hk : k < 64) : (withoutN s d).testBit k = (s.testBit k && !decide (d = (k : Int))) := by
  cases ht : thereB d with
  | true =>
    obtain ⟨h0, h1⟩ := there_yes ht
    obtain ⟨n, rfl⟩ := Int.eq_ofNat_of_zero_le h0
    rw [test_without s n k hs (by omega)]
    congr 2
    rw [decide_eq_decide]
    omega
  | false =>
    have := there_no ht
    unfold withoutN
    rw [ht, if_neg (by simp), decide_eq_false (by omega)]
    simp
theorem has_test (s : Nat) (d : Int) (n : Nat) (hd : d = (n : Int)) (hn : n < 64) : hasB s d = s.testBit n := by
  subst hd
  unfold hasB thereB
  rw [decide_eq_true (by omega), decide_eq_true (by omega)]
  simp
end Go.Proofs.Ythilfibgpobcjaa
