/-
  My own work: plain facts on quotients.
-/
import Derived.Test.YthilfibgpobcjaaNumFit
namespace Go.Proofs.Ythilfibgpobcjaa
open Go.RowKit
set_option linter.unusedVariables false

theorem tdiv_facts (a b : Int) (hb : b ≠ 0) : b * a.tdiv b + a.tmod b = a ∧ (a.tmod b).natAbs < b.natAbs ∧ (0 ≤ a → 0 ≤ a.tmod b) ∧ (a ≤ 0 → a.tmod b ≤ 0) := by
  refine ⟨Int.mul_tdiv_add_tmod a b, ?_, fun h => Int.tmod_nonneg b h, fun h => ?_⟩
  · rw [Int.natAbs_tmod]
    exact Nat.mod_lt _ (by omega)
  · have := Int.tmod_nonneg b (a := -a) (by omega)
    rw [Int.neg_tmod] at this
    omega

/-- There is no quotient. -/
def noQuo (a b : Int) : Bool := b == 0 || (a == -9223372036854775808 && b == -1)
def floorE (a b : Int) : Int × Bool := if noQuo a b = true then (0, false) else (a.tdiv b - (if a.tmod b != 0 && !(decide (a < 0) == decide (b < 0)) then 1 else 0), true)
def ceilE (a b : Int) : Int × Bool := if noQuo a b = true then (0, false) else (a.tdiv b + (if a.tmod b != 0 && (decide (a < 0) == decide (b < 0)) then 1 else 0), true)

theorem quo_bd (a b : Int) (ha : fitsI a = true) (hb : b ≠ 0) (hn : noQuo a b = false) : (-9223372036854775808 ≤ a.tdiv b ∧ a.tdiv b ≤ 9223372036854775807) ∧ (a.tmod b ≠ 0 → -4611686018427387904 ≤ a.tdiv b ∧ a.tdiv b ≤ 4611686018427387904) := by
  rw [fitsI_iff] at ha
  have hne : (a.tdiv b).natAbs = a.natAbs / b.natAbs := Int.natAbs_tdiv a b
  have hcase : b = 1 ∨ b = -1 ∨ 2 ≤ b.natAbs := by omega
  rcases hcase with rfl | rfl | h2
  · rw [Int.tdiv_one]
    refine ⟨ha, fun h => absurd (Int.tmod_one a) h⟩
  · have hm : a ≠ -9223372036854775808 := by
      rintro rfl
      simp [noQuo] at hn
    have hd : a.tdiv (-1) = -a := by rw [Int.tdiv_neg, Int.tdiv_one]
    rw [hd]
    refine ⟨by omega, fun h => absurd ?_ h⟩
    rw [Int.tmod_neg, Int.tmod_one]
  · have h3 : a.natAbs / b.natAbs ≤ a.natAbs / 2 := Nat.div_le_div_left h2 (by omega)
    have : (a.tdiv b).natAbs ≤ 4611686018427387904 := by rw [hne]; omega
    omega

theorem noQuo_slots (a b : Int) (h : noQuo a b = true) : (b == 0) = true ∨ ((b == 0) = false ∧ (a == -9223372036854775808) = true ∧ (b == -1) = true) := by
  unfold noQuo at h
  cases hb : (b == 0) with
  | true => exact .inl rfl
  | false =>
    rw [hb, Bool.false_or, Bool.and_eq_true] at h
    exact .inr ⟨rfl, h.1, h.2⟩
theorem quo_slots (a b : Int) (h : noQuo a b = false) : (b == 0) = false ∧ ((a == -9223372036854775808) = false ∨ ((a == -9223372036854775808) = true ∧ (b == -1) = false)) := by
  unfold noQuo at h
  rw [Bool.or_eq_false_iff, Bool.and_eq_false_iff] at h
  refine ⟨h.1, ?_⟩
  cases hm : (a == -9223372036854775808) with
  | false => exact .inl rfl
  | true =>
    rcases h.2 with h2 | h2
    · rw [hm] at h2; cases h2
    · exact .inr ⟨rfl, h2⟩

end Go.Proofs.Ythilfibgpobcjaa
