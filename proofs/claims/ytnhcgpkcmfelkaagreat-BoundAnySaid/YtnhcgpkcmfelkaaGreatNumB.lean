/-
  My own work: num.Sum: its contract.
-/
import Derived.Test.YtnhcgpkcmfelkaaGreatMNum
import Derived.Laws.Externs
namespace Go.Proofs.YtnhcgpkcmfelkaaGreat
open Go.RowKit
set_option linter.unusedVariables false
set_option maxRecDepth 100000

/-- The low and the high word of a number, and its bits seen as a number with a sign. -/
def lo64 (x : Int) : Int := x % 18446744073709551616
def hi64 (x : Int) : Int := x / 18446744073709551616

/-- The words of all numbers together. -/
def lowS (T : Int) : Int := lo64 T
def highS (T : Int) : Int := lo64 (hi64 T)

theorem low_step (T a : Int) : lo64 (lowS T + IntKind.u64.wrap a) = lowS (T + a) := by
  unfold lowS lo64
  rw [IntKind.wrap_u64]
  omega
theorem high_step (T a : Int) (ha : fitsI a = true) : IntKind.u64.wrap (highS T + IntKind.u64.wrap (IntKind.u64.wrap (a / 9223372036854775808) + hi64 (lowS T + IntKind.u64.wrap a))) = highS (T + a) := by
  rw [fitsI_iff] at ha
  unfold highS lowS lo64 hi64
  simp only [IntKind.wrap_u64]
  obtain ⟨q, r, hT, hr0, hr1, hq, hr⟩ : ∃ q r : Int, T = 18446744073709551616 * q + r ∧ 0 ≤ r ∧ r < 18446744073709551616 ∧ T / 18446744073709551616 = q ∧ T % 18446744073709551616 = r :=
    ⟨T / 18446744073709551616, T % 18446744073709551616, by omega, by omega, by omega, rfl, rfl⟩
  rw [hq, hr]
  by_cases h : a < 0
  · rw [show a / 9223372036854775808 = -1 by omega, show a % 18446744073709551616 = a + 18446744073709551616 by omega]
    obtain ⟨c, hc⟩ : ∃ c, (r + (a + 18446744073709551616)) / 18446744073709551616 = c := ⟨_, rfl⟩
    rw [hc, show (T + a) / 18446744073709551616 = q - 1 + c by omega]
    omega
  · rw [show a / 9223372036854775808 = 0 by omega, show a % 18446744073709551616 = a by omega]
    obtain ⟨c, hc⟩ : ∃ c, (r + a) / 18446744073709551616 = c := ⟨_, rfl⟩
    rw [hc, show (T + a) / 18446744073709551616 = q + c by omega]
    omega
theorem sum_test (T : Int) (h1 : -9671406556917033397649408 ≤ T) (h2 : T ≤ 9671406556917033397649408) : (wrap64 (highS T) != wrap64 (lowS T) / 9223372036854775808) = !fitsI T := by
  have e : (wrap64 (highS T) = wrap64 (lowS T) / 9223372036854775808) ↔ fitsI T = true := by
    rw [fitsI_iff]
    unfold highS lowS lo64 hi64
    obtain ⟨q, r, hT, hr0, hr1, hq, hr⟩ : ∃ q r : Int, T = 18446744073709551616 * q + r ∧ 0 ≤ r ∧ r < 18446744073709551616 ∧ T / 18446744073709551616 = q ∧ T % 18446744073709551616 = r :=
      ⟨T / 18446744073709551616, T % 18446744073709551616, by omega, by omega, by omega, rfl, rfl⟩
    rw [hq, hr]
    have hw : wrap64 (q % 18446744073709551616) = q := by unfold wrap64; omega
    rw [hw]
    by_cases h : r < 9223372036854775808
    · rw [show wrap64 r / 9223372036854775808 = 0 by rw [wrap_id (by omega) (by omega)]; omega]
      omega
    · rw [show wrap64 r / 9223372036854775808 = -1 by rw [show wrap64 r = r - 18446744073709551616 by unfold wrap64; omega]; omega]
      omega
  by_cases h : fitsI T = true
  · rw [h, bne_eq_false_iff_eq.2 (e.2 h)]; rfl
  · have h' : wrap64 (highS T) ≠ wrap64 (lowS T) / 9223372036854775808 := fun h' => h (e.1 h')
    rw [Bool.not_eq_true] at h
    rw [h, bne_iff_ne.2 h']; rfl
theorem low_fits (T : Int) (h : fitsI T = true) : wrap64 (lowS T) = T := by
  rw [fitsI_iff] at h
  unfold lowS lo64 wrap64
  omega
theorem sum_bdI (q : List Int) (hf : ∀ x ∈ q, fitsI x = true) : -(9223372036854775808 * (q.length : Int)) ≤ q.sum ∧ q.sum ≤ 9223372036854775808 * (q.length : Int) := by
  induction q with
  | nil => simp
  | cons x q ih =>
    have h1 := fitsI_iff.1 (hf x (List.mem_cons_self ..))
    have h2 := ih (fun y hy => hf y (List.mem_cons_of_mem _ hy))
    simp only [List.sum_cons, List.length_cons]
    omega
theorem u64_nonneg (x : Int) : 0 ≤ IntKind.u64.wrap x := by rw [IntKind.wrap_u64]; omega

end Go.Proofs.YtnhcgpkcmfelkaaGreat
