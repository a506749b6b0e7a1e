/-
  My own work: num.Add, Sat, Clip, Less: their contracts.
-/
import Derived.Test.YthiiodagihlggaaBase
namespace Go.Proofs.Ythiiodagihlggaa
open Go.RowKit
set_option linter.unusedVariables false

/-- It fits an int. -/
def fitsI (x : Int) : Bool := decide (-9223372036854775808 ≤ x) && decide (x ≤ 9223372036854775807)
theorem fitsI_iff {x : Int} : fitsI x = true ↔ -9223372036854775808 ≤ x ∧ x ≤ 9223372036854775807 := by simp [fitsI]
theorem fitsI_of_wf {x : Int} (h : (Lit.int .i64 x).wf = true) : fitsI x = true := fitsI_iff.2 (wf_i64 h)
def addE (a b : Int) : Int × Bool := if fitsI (a + b) = true then (a + b, true) else (0, false)
def satI (a b : Int) : Int := if fitsI (a + b) = true then a + b else if b < 0 then -9223372036854775808 else 9223372036854775807

theorem satI_fits (a b : Int) : fitsI (satI a b) = true := by
  unfold satI
  split
  · assumption
  · split <;> decide

theorem add_test (a b : Int) (ha : fitsI a = true) (hb : fitsI b = true) : (!(decide (wrap64 (a + b) < a) == decide (b < 0))) = !fitsI (a + b) := by
  rw [fitsI_iff] at ha hb
  by_cases h : fitsI (a + b) = true
  · rw [h]
    rw [fitsI_iff] at h
    rw [wrap_id h.1 h.2]
    by_cases hb0 : b < 0
    · simp [hb0]; omega
    · simp [hb0]; omega
  · have h' : ¬ (-9223372036854775808 ≤ a + b ∧ a + b ≤ 9223372036854775807) := fun h' => h (fitsI_iff.2 h')
    rw [Bool.not_eq_true] at h
    rw [h]
    unfold wrap64
    by_cases hb0 : b < 0
    · simp [hb0]; omega
    · simp [hb0]; omega

theorem add_is (a b : Int) (w : World) (ha : fitsI a = true) (hb : fitsI b = true) :
    Calls Try.prog 38 #[.int .i64 a, .int .i64 b] w fun e w' => e = .returned (.tuple #[.int .i64 (addE a b).1, .bool (addE a b).2]) ∧ w = w' := by
  have ht := add_test a b ha hb
  by_cases h : fitsI (a + b) = true
  · have he : Hid (addE a b = (a + b, true)) := by show _ = _; unfold addE; rw [if_pos h]
    have hw : Hid (wrap64 (a + b) = a + b) := by show _ = _; rw [fitsI_iff] at h; exact wrap_id h.1 h.2
    rw [h] at ht
    simp only [Bool.not_true] at ht
    clear ha hb h
    go_enter Try.func38, Try.ntmps38
    go_wp2_with fail
    go_ret2
    rw [he.out]
    exact ⟨by rw [hw.out]; rfl, rfl⟩
  · have he : Hid (addE a b = (0, false)) := by show _ = _; unfold addE; rw [if_neg h]
    rw [Bool.not_eq_true] at h
    rw [h] at ht
    simp only [Bool.not_false] at ht
    clear ha hb h
    go_enter Try.func38, Try.ntmps38
    go_wp2_with fail
    go_ret2
    rw [he.out]
    exact ⟨rfl, rfl⟩

theorem sat_is (a b : Int) (w : World) (ha : fitsI a = true) (hb : fitsI b = true) :
    Calls Try.prog 36 #[.int .i64 a, .int .i64 b] w fun e w' => e = .returned (.int .i64 (satI a b)) ∧ w = w' := by
  by_cases h : fitsI (a + b) = true
  · have he : addE a b = (a + b, true) := by unfold addE; rw [if_pos h]
    have hs : Hid (satI a b = a + b) := by show _ = _; unfold satI; rw [if_pos h]
    have hc := add_is a b w ha hb
    rw [he] at hc
    have Hc := Lib.hid hc
    clear hc he ha hb h
    go_enter Try.func36, Try.ntmps36
    go_wp2_with fail
    refine Hc.out.mono ?_
    rintro e w' ⟨rfl, rfl⟩
    go_wp2_with fail
    go_ret
    rw [hs.out]
    exact ⟨rfl, rfl⟩
  · have he : addE a b = (0, false) := by unfold addE; rw [if_neg h]
    have hc := add_is a b w ha hb
    rw [he] at hc
    have Hc := Lib.hid hc
    by_cases hb0 : b < 0
    · have hs : Hid (satI a b = -9223372036854775808) := by show _ = _; unfold satI; rw [if_neg h, if_pos hb0]
      clear hc he ha hb h
      go_enter Try.func36, Try.ntmps36
      go_wp2_with fail
      refine Hc.out.mono ?_
      rintro e w' ⟨rfl, rfl⟩
      go_wp2_with fail
      go_ret
      rw [hs.out]
      exact ⟨rfl, rfl⟩
    · have hs : Hid (satI a b = 9223372036854775807) := by show _ = _; unfold satI; rw [if_neg h, if_neg hb0]
      clear hc he ha hb h
      go_enter Try.func36, Try.ntmps36
      go_wp2_with fail
      refine Hc.out.mono ?_
      rintro e w' ⟨rfl, rfl⟩
      go_wp2_with fail
      go_ret
      rw [hs.out]
      exact ⟨rfl, rfl⟩

def sumE (T : Int) : Int × Bool := if fitsI T = true then (T, true) else (0, false)
end Go.Proofs.Ythiiodagihlggaa
