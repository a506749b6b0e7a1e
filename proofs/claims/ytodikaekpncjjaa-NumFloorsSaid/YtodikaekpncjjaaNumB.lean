/-
  My own work: num.Sum: its contract.
-/
import Derived.Test.YtodikaekpncjjaaNum
import Derived.Laws.Externs
namespace Go.Proofs.Ytodikaekpncjjaa
open Go.RowKit
set_option linter.unusedVariables false

/-- The low and the high word of a number, and its bits seen as a number with a sign. -/
def lo64 (x : Int) : Int := x % 18446744073709551616
def hi64 (x : Int) : Int := x / 18446744073709551616

theorem add64_is (x y : Int) (hx : 0 ≤ x) (hy : 0 ≤ y) (w : World) :
    (callFunc 29 #[.int .u64 x, .int .u64 y, .int .u64 0]).run Try.prog w =
      .ok (.value (.tuple #[.int .u64 (lo64 (x + y)), .int .u64 (hi64 (x + y))])) w := by
  have h := run_add64 (P := Try.prog) x y 0 hx hy (by omega) (by omega) w
  rw [run_callFunc_extern Try.func29 (by kernel_rfl) (by kernel_rfl) (by kernel_rfl) (e := add64Entry) (by kernel_rfl), h, Int.add_zero]
  rfl

/-- The words of all numbers together. -/
def lowS (T : Int) : Int := lo64 T
def highS (T : Int) : Int := lo64 (hi64 T)

theorem low_step (T a : Int) : lo64 (lowS T + IntKind.u64.wrap a) = lowS (T + a) := by
  unfold lowS lo64
  rw [IntKind.wrap_u64]
  omega
theorem high_step (T a : Int) (ha : fitsI a = true) : IntKind.u64.wrap (highS T + IntKind.u64.wrap (IntKind.u64.wrap (a / 9223372036854775808) + hi64 (lowS T + IntKind.u64.wrap a))) = highS (T + a) := by
  rw [fitsI_iff] at ha
  unfold highS lowS lo64 hi64
  simp only [IntKind.wrap_u64]
  obtain ⟨q, r, hT, hr0, hr1, hq, hr⟩ : ∃ q r : Int, T = 18446744073709551616 * q + r ∧ 0 ≤ r ∧ r < 18446744073709551616 ∧ T / 18446744073709551616 = q ∧ T % 18446744073709551616 = r :=
    ⟨T / 18446744073709551616, T % 18446744073709551616, by omega, by omega, by omega, rfl, rfl⟩
  rw [hq, hr]
  by_cases h : a < 0
  · rw [show a / 9223372036854775808 = -1 by omega, show a % 18446744073709551616 = a + 18446744073709551616 by omega]
    obtain ⟨c, hc⟩ : ∃ c, (r + (a + 18446744073709551616)) / 18446744073709551616 = c := ⟨_, rfl⟩
    rw [hc, show (T + a) / 18446744073709551616 = q - 1 + c by omega]
    omega
  · rw [show a / 9223372036854775808 = 0 by omega, show a % 18446744073709551616 = a by omega]
    obtain ⟨c, hc⟩ : ∃ c, (r + a) / 18446744073709551616 = c := ⟨_, rfl⟩
    rw [hc, show (T + a) / 18446744073709551616 = q + c by omega]
    omega
theorem sum_test (T : Int) (h1 : -9671406556917033397649408 ≤ T) (h2 : T ≤ 9671406556917033397649408) : (wrap64 (highS T) != wrap64 (lowS T) / 9223372036854775808) = !fitsI T := by
  have e : (wrap64 (highS T) = wrap64 (lowS T) / 9223372036854775808) ↔ fitsI T = true := by
    rw [fitsI_iff]
    unfold highS lowS lo64 hi64
    obtain ⟨q, r, hT, hr0, hr1, hq, hr⟩ : ∃ q r : Int, T = 18446744073709551616 * q + r ∧ 0 ≤ r ∧ r < 18446744073709551616 ∧ T / 18446744073709551616 = q ∧ T % 18446744073709551616 = r :=
      ⟨T / 18446744073709551616, T % 18446744073709551616, by omega, by omega, by omega, rfl, rfl⟩
    rw [hq, hr]
    have hw : wrap64 (q % 18446744073709551616) = q := by unfold wrap64; omega
    rw [hw]
    by_cases h : r < 9223372036854775808
    · rw [show wrap64 r / 9223372036854775808 = 0 by rw [wrap_id (by omega) (by omega)]; omega]
      omega
    · rw [show wrap64 r / 9223372036854775808 = -1 by rw [show wrap64 r = r - 18446744073709551616 by unfold wrap64; omega]; omega]
      omega
  by_cases h : fitsI T = true
  · rw [h, bne_eq_false_iff_eq.2 (e.2 h)]; rfl
  · have h' : wrap64 (highS T) ≠ wrap64 (lowS T) / 9223372036854775808 := fun h' => h (e.1 h')
    rw [Bool.not_eq_true] at h
    rw [h, bne_iff_ne.2 h']; rfl
theorem low_fits (T : Int) (h : fitsI T = true) : wrap64 (lowS T) = T := by
  rw [fitsI_iff] at h
  unfold lowS lo64 wrap64
  omega
def sumE (T : Int) : Int × Bool := if fitsI T = true then (T, true) else (0, false)
theorem sum_bdI (q : List Int) (hf : ∀ x ∈ q, fitsI x = true) : -(9223372036854775808 * (q.length : Int)) ≤ q.sum ∧ q.sum ≤ 9223372036854775808 * (q.length : Int) := by
  induction q with
  | nil => simp
  | cons x q ih =>
    have h1 := fitsI_iff.1 (hf x (List.mem_cons_self ..))
    have h2 := ih (fun y hy => hf y (List.mem_cons_of_mem _ hy))
    simp only [List.sum_cons, List.length_cons]
    omega
theorem u64_nonneg (x : Int) : 0 ≤ IntKind.u64.wrap x := by rw [IntKind.wrap_u64]; omega

set_option maxHeartbeats 800000 in
theorem sum_is (qv : Value) (q : List Int) (w : World) (hq : Ints w qv q) (hf : ∀ x ∈ q, fitsI x = true) (hlen : q.length ≤ 1048576) :
    Calls Try.prog 12 #[qv] w fun e w' => e = .returned (.tuple #[.int .i64 (sumE q.sum).1, .bool (sumE q.sum).2]) ∧ w = w' := by
  obtain ⟨a, n, c, rfl, hn, hmax, hcell⟩ := hq.open
  have Hn := Lib.hid hn
  have Hcell := Lib.hid hcell
  have Hf := Lib.hid hf
  have hl : n ≤ 1048576 := by omega
  clear hn hcell hq hmax hf hlen
  go_enter Try.func12, Try.ntmps12
  go_wp2_with fail
  go_loop [4, 5, 13] (fun h l i => ∃ (k : Nat) (T : Int), k ≤ n ∧ i = .int .i64 k ∧ (q.take k).sum = T ∧ h = .int .u64 (highS T) ∧ l = .int .u64 (lowS T)) (fun _ _ i => n - (intOf i).toNat)
  case atStart => exact ⟨0, 0, Nat.zero_le _, rfl, rfl, rfl, rfl⟩
  case round =>
    obtain ⟨k, T, hk, rfl, hT, rfl, rfl⟩ := hrel
    have HT := Lib.hid hT
    clear hT
    by_cases hlt : k < n
    · obtain ⟨b, o, rfl, hc⟩ := Hcell.out k hlt
      have h64 := fun W => add64_is (lowS T) (IntKind.u64.wrap (nth q k)) (by unfold lowS lo64; omega) (u64_nonneg _) W
      have e1 := low_step T (nth q k)
      have e2 := high_step T (nth q k) (Hf.out _ (nth_mem (by rw [Hn.out]; exact hlt)))
      have E := Lib.hid (And.intro e1 e2)
      clear e1 e2
      go_wp2_with fail
      clear h64
      go_round
      case rel =>
        refine ⟨k + 1, T + nth q k, by omega, by go_num, ?_, ?_, ?_⟩
        · rw [take_succ_nth q k (by rw [Hn.out]; exact hlt), List.sum_append, HT.out]; simp
        · rw [E.out.2]
        · rw [E.out.1]
      case measure => simp [intOf]; omega
    · have hTq : q.sum = T := by rw [← HT.out, List.take_of_length_le (by rw [Hn.out]; omega)]
      have hbd := sum_bdI q Hf.out
      rw [hTq, Hn.out] at hbd
      have ht := sum_test T (by omega) (by omega)
      have HTq := Lib.hid hTq
      clear hbd hTq
      by_cases hfit : fitsI T = true
      · have hs : Hid (sumE T = (wrap64 (lowS T), true)) := by show _ = _; unfold sumE; rw [if_pos hfit, low_fits T hfit]
        rw [hfit] at ht
        simp only [Bool.not_true] at ht
        clear hfit
        go_wp2_with fail
        go_ret2
        rw [HTq.out, hs.out]
        exact ⟨rfl, rfl⟩
      · have hs : Hid (sumE T = (0, false)) := by show _ = _; unfold sumE; rw [if_neg hfit]
        rw [Bool.not_eq_true] at hfit
        rw [hfit] at ht
        simp only [Bool.not_false] at ht
        clear hfit
        go_wp2_with fail
        go_ret2
        rw [HTq.out, hs.out]
        exact ⟨rfl, rfl⟩
end Go.Proofs.Ytodikaekpncjjaa
