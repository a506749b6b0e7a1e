/-
  My own work: num.Less, Times, Floor, Ceil: their contracts.
-/
import Derived.Test.YtnhcgpkcmfelkaaGreatNumB
import Derived.Test.YtnhcgpkcmfelkaaGreatMNum
namespace Go.Proofs.YtnhcgpkcmfelkaaGreat
open Go.RowKit
set_option linter.unusedVariables false
set_option maxRecDepth 100000

def lessE (a b : Int) : Int × Bool := if fitsI (a - b) = true then (a - b, true) else (0, false)
theorem less_test (a b : Int) (ha : fitsI a = true) (hb : fitsI b = true) : (!(decide (a < wrap64 (a - b)) == decide (b < 0))) = !fitsI (a - b) := by
  rw [fitsI_iff] at ha hb
  by_cases h : fitsI (a - b) = true
  · rw [h]
    rw [fitsI_iff] at h
    rw [wrap_id h.1 h.2]
    by_cases hb0 : b < 0
    · simp [hb0]; omega
    · simp [hb0]; omega
  · have h' : ¬ (-9223372036854775808 ≤ a - b ∧ a - b ≤ 9223372036854775807) := fun h' => h (fitsI_iff.2 h')
    rw [Bool.not_eq_true] at h
    rw [h]
    unfold wrap64
    by_cases hb0 : b < 0
    · simp [hb0]; omega
    · simp [hb0]; omega

def timesE (a b : Int) : Int × Bool := if fitsI (a * b) = true then (a * b, true) else (0, false)

/-- The test of num.Times. -/
theorem times_test (a b : Int) (ha : fitsI a = true) (hb : fitsI b = true) (h0 : b ≠ 0) :
    (fitsI (a * b) = true → wrap64 (a * b) = a * b ∧ wrap64 ((a * b).tdiv b) = a ∧ ¬ (a = -9223372036854775808 ∧ b = -1)) ∧
    (fitsI (a * b) = false → wrap64 ((wrap64 (a * b)).tdiv b) ≠ a ∨ (a = -9223372036854775808 ∧ b = -1)) := by
  rw [fitsI_iff] at ha hb
  constructor
  · intro h
    rw [fitsI_iff] at h
    refine ⟨wrap_id h.1 h.2, ?_, ?_⟩
    · rw [Int.mul_tdiv_cancel _ h0]
      exact wrap_id ha.1 ha.2
    · rintro ⟨rfl, rfl⟩
      omega
  · intro h
    by_cases hb1 : b = -1
    · subst hb1
      have h' : ¬ (-9223372036854775808 ≤ a * -1 ∧ a * -1 ≤ 9223372036854775807) := fun h' => by rw [fitsI_iff.2 h'] at h; cases h
      right
      exact ⟨by omega, rfl⟩
    · left
      intro he
      have h' : ¬ (-9223372036854775808 ≤ a * b ∧ a * b ≤ 9223372036854775807) := fun h' => by rw [fitsI_iff.2 h'] at h; cases h
      obtain ⟨P, hP⟩ : ∃ P, wrap64 (a * b) = P := ⟨_, rfl⟩
      have hPb : -9223372036854775808 ≤ P ∧ P ≤ 9223372036854775807 := by rw [← hP]; unfold wrap64; omega
      obtain ⟨k, hk⟩ : ∃ k : Int, a * b = P + 18446744073709551616 * k := ⟨(a * b + 9223372036854775808) / 18446744073709551616, by rw [← hP]; unfold wrap64; omega⟩
      rw [hP] at he
      obtain ⟨f1, f2, f3, f4⟩ := tdiv_facts P b h0
      have hQb : -9223372036854775808 ≤ P.tdiv b ∧ P.tdiv b ≤ 9223372036854775807 := by
        have hne : (P.tdiv b).natAbs = P.natAbs / b.natAbs := Int.natAbs_tdiv P b
        have hb2 : 2 ≤ b.natAbs ∨ b = 1 := by omega
        rcases hb2 with hb2 | rfl
        · have hn2 : (P.tdiv b).natAbs ≤ 4611686018427387904 := by
            rw [hne]
            have : P.natAbs ≤ 9223372036854775808 := by omega
            have h3 : P.natAbs / b.natAbs ≤ P.natAbs / 2 := Nat.div_le_div_left hb2 (by omega)
            omega
          omega
        · rw [Int.tdiv_one]; exact hPb
      rw [wrap_id hQb.1 hQb.2] at he
      rw [he] at f1
      have hab : b * a = a * b := Int.mul_comm _ _
      rw [hab] at f1
      have : k ≠ 0 := by
        intro hk0
        subst hk0
        omega
      omega

set_option maxHeartbeats 400000 in
theorem times_is (a b : Int) (w : World) (ha : fitsI a = true) (hb : fitsI b = true) :
    Calls Tryz.prog 33 #[.int .i64 a, .int .i64 b] w fun e w' => e = .returned (.tuple #[.int .i64 (timesE a b).1, .bool (timesE a b).2]) ∧ w = w' := by
  by_cases ha0 : a = 0
  · have he : Hid (timesE a b = (0, true)) := by show _ = _; unfold timesE; rw [ha0, Int.zero_mul]; rfl
    have hz : (a == 0) = true := by simpa using ha0
    clear ha hb ha0
    go_enter Tryz.func33, Tryz.ntmps33
    go_wp2_with fail
    go_ret2
    rw [he.out]
    exact ⟨rfl, rfl⟩
  by_cases hb0 : b = 0
  · have he : Hid (timesE a b = (0, true)) := by show _ = _; unfold timesE; rw [hb0, Int.mul_zero]; rfl
    have hz : (a == 0) = false := by simpa using ha0
    have hz2 : (b == 0) = true := by simpa using hb0
    clear ha hb hb0 ha0
    go_enter Tryz.func33, Tryz.ntmps33
    go_wp2_with fail
    go_ret2
    rw [he.out]
    exact ⟨rfl, rfl⟩
  obtain ⟨t1, t2⟩ := times_test a b ha hb hb0
  have hz : (a == 0) = false := by simpa using ha0
  have hz2 : (b == 0) = false := by simpa using hb0
  have hz3 : ¬ b = 0 := hb0
  by_cases h : fitsI (a * b) = true
  · have he : Hid (timesE a b = (a * b, true)) := by show _ = _; unfold timesE; rw [if_pos h]
    obtain ⟨e1, e2, e3⟩ := t1 h
    have e4 : (a == -9223372036854775808 && b == -1) = false := by
      rw [Bool.eq_false_iff]; intro hh; simp only [Bool.and_eq_true, beq_iff_eq] at hh; exact e3 hh
    have hq : wrap64 ((wrap64 (a * b)).tdiv b) = a := by rw [e1, e2]
    have He1 := Lib.hid e1
    clear t1 t2 h e1 e2 e3 hb0 ha0 ha hb
    by_cases hm : (a == -9223372036854775808) = true
    · rw [hm, Bool.true_and] at e4
      go_enter Tryz.func33, Tryz.ntmps33
      go_wp2_with fail
      go_ret2
      rw [he.out]
      exact ⟨by rw [He1.out]; rfl, rfl⟩
    · rw [Bool.not_eq_true] at hm
      clear e4
      go_enter Tryz.func33, Tryz.ntmps33
      go_wp2_with fail
      go_ret2
      rw [he.out]
      exact ⟨by rw [He1.out]; rfl, rfl⟩
  · have he : Hid (timesE a b = (0, false)) := by show _ = _; unfold timesE; rw [if_neg h]
    rw [Bool.not_eq_true] at h
    by_cases hq : wrap64 ((wrap64 (a * b)).tdiv b) = a
    · have h2 : a = -9223372036854775808 ∧ b = -1 := (t2 h).resolve_left (fun hh => hh hq)
      have hm : (a == -9223372036854775808) = true := by rw [h2.1]; rfl
      have hm2 : (b == -1) = true := by rw [h2.2]; rfl
      clear t1 t2 h h2 hb0 ha0 ha hb
      go_enter Tryz.func33, Tryz.ntmps33
      go_wp2_with fail
      go_ret2
      rw [he.out]
      exact ⟨rfl, rfl⟩
    · have hq' : (wrap64 ((wrap64 (a * b)).tdiv b) != a) = true := by simpa using hq
      clear t1 t2 h hq hb0 ha0 ha hb
      go_enter Tryz.func33, Tryz.ntmps33
      go_wp2_with fail
      go_ret2
      rw [he.out]
      exact ⟨rfl, rfl⟩

end Go.Proofs.YtnhcgpkcmfelkaaGreat
