/-
  My own work: plain facts behind NumFloors.
-/
import Derived.Test.YtodikaekpncjjaaNumLaws
namespace Go.Proofs.Ytodikaekpncjjaa
open Go.RowKit
set_option linter.unusedVariables false

theorem floor_law (a b : Int) (ha : fitsI a = true) (hn : noQuo a b = false) : ∃ F C : Int, floorE a b = (F, true) ∧ ceilE a b = (C, true) ∧ fitsI F = true ∧ fitsI C = true ∧
    (0 < b → 0 ≤ a + -(F * b) ∧ a + -(F * b) < b ∧ 0 ≤ C * b + -a ∧ C * b + -a < b) ∧ (b < 0 → 0 ≤ -(a + -(F * b)) ∧ -(a + -(F * b)) < -b ∧ 0 ≤ -(C * b + -a) ∧ -(C * b + -a) < -b) := by
  have hb : b ≠ 0 := by
    intro h
    subst h
    unfold noQuo at hn
    simp at hn
  obtain ⟨⟨q1, q2⟩, q3⟩ := quo_bd a b ha hb hn
  obtain ⟨t1, t2, t3, t4⟩ := tdiv_facts a b hb
  unfold floorE ceilE
  rw [hn]
  simp only [Bool.false_eq_true, if_false]
  generalize hq : a.tdiv b = q at *
  generalize hm : a.tmod b = m at *
  rw [Int.mul_comm] at t1
  by_cases hm0 : m = 0
  · subst hm0
    refine ⟨_, _, rfl, rfl, by simp [fitsI_iff]; omega, by simp [fitsI_iff]; omega, ?_, ?_⟩ <;> (intro h0; simp; omega)
  · have hmb : (m != 0) = true := by simpa using hm0
    have hq3 := q3 hm0
    rw [hmb]
    by_cases hs : (decide (a < 0) == decide (b < 0)) = true
    · rw [hs]
      refine ⟨_, _, rfl, rfl, by simp [fitsI_iff]; omega, by simp [fitsI_iff]; omega, ?_, ?_⟩
      all_goals
        intro h0
        simp at hs
        simp [Int.add_mul]
        omega
    · rw [Bool.not_eq_true] at hs
      rw [hs]
      refine ⟨_, _, rfl, rfl, by simp [fitsI_iff]; omega, by simp [fitsI_iff]; omega, ?_, ?_⟩
      all_goals
        intro h0
        simp at hs
        simp [Int.sub_mul]
        omega
end Go.Proofs.Ytodikaekpncjjaa
