/-
  My own work: days.there, Has, With, Without: their contracts.
-/
import Derived.Test.YthilfibgpobcjaaBase
import Derived.Laws.BitsAllLaws
import Derived.IntWalk
namespace Go.Proofs.Ythilfibgpobcjaa
open Go.RowKit
set_option linter.unusedVariables false

theorem ret_bool {a b : Bool} (h : a = b) : Ending.returned (.bool a) = .returned (.bool b) := by rw [h]
def thereB (d : Int) : Bool := decide (0 ≤ d) && decide (d < 64)
theorem there_yes {d : Int} (h : thereB d = true) : 0 ≤ d ∧ d < 64 := by
  unfold thereB at h
  simpa using h
theorem there_no {d : Int} (h : thereB d = false) : d < 0 ∨ 64 ≤ d := by
  unfold thereB at h
  by_cases h0 : 0 ≤ d
  · by_cases h1 : d < 64
    · simp [h0, h1] at h
    · omega
  · omega

theorem there_is (d : Int) (w : World) : Calls Try.prog 72 #[.int .i64 d] w fun e w' => e = .returned (.bool (thereB d)) ∧ w = w' := by
  by_cases h0 : 0 ≤ d
  · have h0' : decide (0 ≤ d) = true := by simpa using h0
    have ht : Hid (thereB d = decide (d < 64)) := Lib.hid (by unfold thereB; rw [h0']; rfl)
    go_enter Try.func72, Try.ntmps72
    go_wp2_with fail
    go_ret
    rw [ht.out]
    exact ⟨rfl, rfl⟩
  · have h0' : decide (0 ≤ d) = false := by simpa using h0
    have ht : Hid (thereB d = false) := Lib.hid (by unfold thereB; rw [h0']; rfl)
    go_enter Try.func72, Try.ntmps72
    go_wp2_with fail
    go_ret
    rw [ht.out]
    exact ⟨rfl, rfl⟩

def hasB (s : Nat) (d : Int) : Bool := thereB d && s.testBit d.toNat

theorem has_bit (s n : Nat) (hs : s < 18446744073709551616) : (bits .and .u64 ((s : Int) / 2 ^ n) 1 == 1) = s.testBit n := by
  have e : ((s : Int) / 2 ^ n) = ((s / 2 ^ n : Nat) : Int) := by simp
  have hl : s / 2 ^ n < 18446744073709551616 := Nat.lt_of_le_of_lt (Nat.div_le_self _ _) hs
  have h2 := u64_and_nat (s / 2 ^ n) 1 hl (by decide)
  rw [e, show (1 : Int) = ((1 : Nat) : Int) from rfl, h2, nat_mask1, Nat.testBit_eq_decide_div_mod_eq]
  by_cases h : s / 2 ^ n % 2 = 1
  · rw [h]; rfl
  · have : s / 2 ^ n % 2 = 0 := by omega
    rw [this]; rfl

theorem has_is (s : Nat) (d : Int) (w : World) (hs : s < 18446744073709551616) : Calls Try.prog 65 #[.int .u64 s, .int .i64 d] w fun e w' => e = .returned (.bool (hasB s d)) ∧ w = w' := by
  cases ht : thereB d with
  | false =>
    have Hh : Hid (hasB s d = false) := Lib.hid (by unfold hasB; rw [ht]; rfl)
    have H1 := Lib.hid (there_is d w)
    rw [ht] at H1
    clear ht
    go_enter Try.func65, Try.ntmps65
    go_wp2_with fail
    refine H1.out.mono ?_
    rintro e w' ⟨rfl, rfl⟩
    go_wp2_with fail
    go_ret
    rw [Hh.out]
    exact ⟨rfl, rfl⟩
  | true =>
    have H1 := Lib.hid (there_is d w)
    rw [ht] at H1
    obtain ⟨hd0, hd1⟩ := there_yes ht
    clear ht
    obtain ⟨n, rfl⟩ := Int.eq_ofNat_of_zero_le hd0
    go_enter Try.func65, Try.ntmps65
    go_wp2_with fail
    refine H1.out.mono ?_
    rintro e w' ⟨rfl, rfl⟩
    have Hb : Hid ((bits .and .u64 ((s : Int) / 2 ^ n) 1 == 1) = hasB s (n : Int)) := Lib.hid (by rw [has_bit s n hs]; unfold hasB thereB; rw [decide_eq_true hd0, decide_eq_true hd1]; simp)
    go_wp2_with fail
    go_ret
    exact ⟨ret_bool Hb.out, rfl⟩

/-- A set with a day, without a day. -/
def withN (s : Nat) (d : Int) : Nat := if thereB d = true then s ||| 2 ^ d.toNat else s
def withoutN (s : Nat) (d : Int) : Nat := if thereB d = true then s &&& (18446744073709551615 - 2 ^ d.toNat) else s
theorem ret_u64 {a b : Int} (h : a = b) : Ending.returned (.int .u64 a) = .returned (.int .u64 b) := by rw [h]

theorem pow_lt64 (n : Nat) (h : n < 64) : 2 ^ n < 18446744073709551616 := by
  have : 2 ^ n < 2 ^ 64 := Nat.pow_lt_pow_right (by decide) h
  simpa using this
theorem pow_wrap (n : Nat) (h : n < 64) : IntKind.u64.wrap ((2 : Int) ^ n) = ((2 ^ n : Nat) : Int) := by
  have h1 := pow_lt64 n h
  have e : ((2 : Int) ^ n) = ((2 ^ n : Nat) : Int) := by simp
  rw [e]
  generalize 2 ^ n = m at *
  exact IntWalk.u64_in _ (by omega)

theorem with_is (s : Nat) (d : Int) (w : World) (hs : s < 18446744073709551616) : Calls Try.prog 66 #[.int .u64 s, .int .i64 d] w fun e w' => e = .returned (.int .u64 (withN s d)) ∧ w = w' := by
  cases ht : thereB d with
  | false =>
    have Hh : Hid (withN s d = s) := Lib.hid (by unfold withN; rw [ht]; rfl)
    have H1 := Lib.hid (there_is d w)
    rw [ht] at H1
    clear ht
    go_enter Try.func66, Try.ntmps66
    go_wp2_with fail
    refine H1.out.mono ?_
    rintro e w' ⟨rfl, rfl⟩
    go_wp2_with fail
    go_ret
    rw [Hh.out]
    exact ⟨rfl, rfl⟩
  | true =>
    have H1 := Lib.hid (there_is d w)
    rw [ht] at H1
    obtain ⟨hd0, hd1⟩ := there_yes ht
    clear ht
    obtain ⟨n, rfl⟩ := Int.eq_ofNat_of_zero_le hd0
    go_enter Try.func66, Try.ntmps66
    go_wp2_with fail
    refine H1.out.mono ?_
    rintro e w' ⟨rfl, rfl⟩
    have Hh : Hid (bits .or .u64 (s : Int) (IntKind.u64.wrap (2 ^ n)) = (withN s (n : Int) : Int)) := Lib.hid (by
      rw [pow_wrap n (by omega), u64_or_nat s (2 ^ n) hs (pow_lt64 n (by omega))]
      unfold withN thereB
      rw [decide_eq_true hd0, decide_eq_true hd1]
      simp)
    go_wp2_with fail
    go_ret
    exact ⟨ret_u64 Hh.out, rfl⟩
end Go.Proofs.Ythilfibgpobcjaa
