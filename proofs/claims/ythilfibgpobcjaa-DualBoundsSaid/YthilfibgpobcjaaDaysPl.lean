/-
  My own work: plain facts on sets of days as numbers.
-/
import Derived.Test.YthilfibgpobcjaaDaysA
namespace Go.Proofs.Ythilfibgpobcjaa
open Go.RowKit
set_option linter.unusedVariables false

/-- A set's day as a nought or a one. -/
def bitI (s d : Nat) : Int := ((s / 2 ^ d % 2 : Nat) : Int)
def bitsOf (s : Nat) : List Int := (List.range 64).map (bitI s)
theorem bitI_of (s d : Nat) : bitI s d = if s.testBit d = true then 1 else 0 := by
  unfold bitI
  rw [Nat.testBit_eq_decide_div_mod_eq]
  by_cases h : s / 2 ^ d % 2 = 1
  · rw [h]; rfl
  · have : s / 2 ^ d % 2 = 0 := by omega
    rw [this]; rfl
theorem bitI_bd (s d : Nat) : 0 ≤ bitI s d ∧ bitI s d ≤ 1 := by unfold bitI; omega
theorem bitI_one (s d : Nat) : (bitI s d == 1) = s.testBit d := by
  rw [bitI_of]
  cases s.testBit d <;> rfl
theorem bitsOf_len (s : Nat) : (bitsOf s).length = 64 := by simp [bitsOf]
theorem nth_bits (s d : Nat) (h : d < 64) : nth (bitsOf s) d = bitI s d := nth_map_range _ _ _ h
theorem pow_succ2 (d : Nat) : 2 ^ (d + 1) = 2 ^ d * 2 := Nat.pow_succ ..
theorem half_step (s d : Nat) : s / 2 ^ d / 2 = s / 2 ^ (d + 1) := by rw [pow_succ2, Nat.div_div_eq_div_mul]
theorem number_step (s d : Nat) : 2 * (s / 2 ^ (d + 1)) + s / 2 ^ d % 2 = s / 2 ^ d := by
  rw [← half_step]
  omega

theorem with_lt {s : Nat} (d : Int) (hs : s < 18446744073709551616) : withN s d < 18446744073709551616 := by
  unfold withN
  split
  · rename_i h
    obtain ⟨h0, h1⟩ := there_yes h
    have := pow_lt64 d.toNat (by omega)
    exact Nat.or_lt_two_pow (n := 64) (by simpa using hs) (by simpa using this)
  · exact hs
theorem without_lt {s : Nat} (d : Int) (hs : s < 18446744073709551616) : withoutN s d < 18446744073709551616 := by
  unfold withoutN
  split
  · exact Nat.lt_of_le_of_lt Nat.and_le_left hs
  · exact hs
theorem test_with (s d k : Nat) (hd : d < 64) : (withN s (d : Int)).testBit k = (s.testBit k || decide (d = k)) := by
  have : thereB (d : Int) = true := by unfold thereB; rw [decide_eq_true (by omega), decide_eq_true (by omega)]; rfl
  unfold withN
  rw [if_pos this, Int.toNat_natCast, Nat.testBit_or, Nat.testBit_two_pow]
theorem test_without (s d k : Nat) (hs : s < 18446744073709551616) (hd : d < 64) : (withoutN s (d : Int)).testBit k = (s.testBit k && !decide (d = k)) := by
  have ht : thereB (d : Int) = true := by unfold thereB; rw [decide_eq_true (by omega), decide_eq_true (by omega)]; rfl
  unfold withoutN
  rw [if_pos ht, Int.toNat_natCast, Nat.testBit_and]
  have hx : 2 ^ d < 2 ^ 64 := Nat.pow_lt_pow_right (by decide) hd
  have := Nat.testBit_two_pow_sub_succ (n := 64) (x := 2 ^ d) hx k
  rw [show 2 ^ 64 - (2 ^ d + 1) = 18446744073709551615 - 2 ^ d by omega] at this
  rw [this, Nat.testBit_two_pow]
  by_cases hk : k < 64
  · simp [hk]
  · have : s.testBit k = false := Nat.testBit_lt_two_pow (Nat.lt_of_lt_of_le (show s < 2 ^ 64 by simpa using hs) (Nat.pow_le_pow_right (by decide) (by omega)))
    simp [this]

/-- The bits with one of them put. -/
theorem bits_put1 (s d : Nat) (hd : d < 64) : (bitsOf s).set d 1 = bitsOf (withN s (d : Int)) := by
  apply ext_nth (by simp [bitsOf_len])
  intro k hk
  rw [List.length_set, bitsOf_len] at hk
  rw [nth_set (by rw [bitsOf_len]; exact hd), nth_bits _ _ hk, nth_bits _ _ hk, bitI_of, bitI_of, test_with s d k hd]
  by_cases h : d = k <;> simp [h]
theorem bits_put0 (s d : Nat) (hs : s < 18446744073709551616) (hd : d < 64) : (bitsOf s).set d 0 = bitsOf (withoutN s (d : Int)) := by
  apply ext_nth (by simp [bitsOf_len])
  intro k hk
  rw [List.length_set, bitsOf_len] at hk
  rw [nth_set (by rw [bitsOf_len]; exact hd), nth_bits _ _ hk, nth_bits _ _ hk, bitI_of, bitI_of, test_without s d k hs hd]
  by_cases h : d = k <;> simp [h]

/-- What is laid after d rounds of Bits. -/
def bitsUpto (s d : Nat) : List Int := (List.range 64).map fun j => if j < d then bitI s j else 0
theorem bitsUpto_len (s d : Nat) : (bitsUpto s d).length = 64 := by simp [bitsUpto]
theorem bitsUpto_zero (s : Nat) : bitsUpto s 0 = List.replicate 64 0 := by simp [bitsUpto, List.map_const']
theorem bitsUpto_all (s : Nat) : bitsUpto s 64 = bitsOf s := by
  unfold bitsUpto bitsOf
  apply List.map_congr_left
  intro j hj
  rw [if_pos (by simpa using hj)]
theorem bitsUpto_succ (s d : Nat) (hd : d < 64) : (bitsUpto s d).set d (bitI s d) = bitsUpto s (d + 1) := by
  apply ext_nth (by simp [bitsUpto_len])
  intro k hk
  rw [List.length_set, bitsUpto_len] at hk
  rw [nth_set (by rw [bitsUpto_len]; exact hd)]
  unfold bitsUpto
  rw [nth_map_range _ _ _ hk, nth_map_range _ _ _ hk]
  by_cases h : d = k
  · subst h; simp
  · rw [if_neg h]
    by_cases h2 : k < d
    · rw [if_pos h2, if_pos (by omega)]
    · rw [if_neg h2, if_neg (by omega)]
end Go.Proofs.Ythilfibgpobcjaa
