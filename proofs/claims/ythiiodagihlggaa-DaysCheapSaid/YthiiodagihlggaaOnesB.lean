/-
  My own work: plain facts behind math/bits.OnesCount64: the words of the count.
-/
import Derived.Test.YthiiodagihlggaaOnesPl
namespace Go.Proofs.Ythiiodagihlggaa
set_option linter.unusedVariables false

theorem m85 : rep 85 8 = 6148914691236517205 := by decide +kernel
theorem m51 : rep 51 8 = 3689348814741910323 := by decide +kernel
theorem m15 : rep 15 8 = 1085102592571150095 := by decide +kernel

theorem fours_le : ∀ n y, fours n y → y ≤ 68 * (256 ^ n - 1) / 255 := by
  intro n
  induction n with
  | zero => intro y hy; have : y = 0 := hy; omega
  | succ n ih =>
    intro y ⟨h1, h2, h3⟩
    have h4 := ih _ h3
    have hp : 1 ≤ 256 ^ n := Nat.one_le_pow _ _ (by decide)
    rw [Nat.pow_succ]
    generalize 256 ^ n = P at *
    omega

/-- The words of the count, one by one. -/
theorem ones_words (x : Nat) (hx : x < 18446744073709551616) : ∃ x1 x2 x3 x4 x5 x6 : Nat,
    x1 < 18446744073709551616 ∧ x2 ≤ 4919131752989213764 ∧ x3 < 18446744073709551616 ∧ x4 < 18446744073709551616 ∧ x5 < 18446744073709551616 ∧ x6 < 9223372036854775808 ∧
    (x / 2 &&& 6148914691236517205) + (x &&& 6148914691236517205) = x1 ∧ (x1 / 4 &&& 3689348814741910323) + (x1 &&& 3689348814741910323) = x2 ∧ (x2 / 16 + x2) &&& 1085102592571150095 = x3 ∧
    x3 + x3 / 256 = x4 ∧ x4 + x4 / 65536 = x5 ∧ x5 + x5 / 4294967296 = x6 ∧ x6 % 128 = cnt x 64 := by
  have hx' : x < 256 ^ 8 := by simpa using hx
  have s1 := step1 8 x hx'
  have l1 := bytes_lt g1 g1_lt 8 x
  have s2 := step2 8 (bytes g1 8 x) l1
  rw [bytes_comp g1 g2 g1_lt] at s2
  have hf := bytes_fours (fun b => g2 (g1 b)) g12_four 8 x
  have s3 := step3 8 _ hf
  rw [bytes_comp (fun b => g2 (g1 b)) g3 (fun b hb => (g12_four b hb).1)] at s3
  rw [m85] at s1
  rw [m51] at s2
  rw [m15] at s3
  have hc : ∀ y, g3 (g2 (g1 (y % 256))) = cnt (y % 256) 8 := fun y => cnt_byte _ (Nat.mod_lt _ (by decide))
  have l2 := fours_le 8 _ hf
  rw [show 68 * (256 ^ 8 - 1) / 255 = 4919131752989213764 from rfl] at l2
  generalize hX3 : bytes (fun b => g3 (g2 (g1 b))) 8 x = x3 at *
  have h3 : x3 = 256 * (256 * (256 * (256 * (256 * (256 * (256 * (256 * 0 + cnt (x / 256 / 256 / 256 / 256 / 256 / 256 / 256 % 256) 8) + cnt (x / 256 / 256 / 256 / 256 / 256 / 256 % 256) 8) + cnt (x / 256 / 256 / 256 / 256 / 256 % 256) 8) + cnt (x / 256 / 256 / 256 / 256 % 256) 8) + cnt (x / 256 / 256 / 256 % 256) 8) + cnt (x / 256 / 256 % 256) 8) + cnt (x / 256 % 256) 8) + cnt (x % 256) 8 := by
    rw [← hX3]
    simp only [bytes, hc]
  obtain ⟨k4, k5, k6, k7⟩ := fold8 _ _ _ _ _ _ _ _ x3 _ _ _ ⟨cnt_le _ 8, cnt_le _ 8, cnt_le _ 8, cnt_le _ 8, cnt_le _ 8, cnt_le _ 8, cnt_le _ 8, cnt_le _ 8⟩ h3 rfl rfl rfl
  refine ⟨_, _, x3, _, _, _, ?_, l2, ?_, k4, k5, k6, s1, s2, s3, rfl, rfl, rfl, ?_⟩
  · simpa using l1
  · omega
  · rw [k7]
    have c1 : cnt x 64 = cnt (x % 256) 8 + cnt (x / 256) 56 := cnt_add x 56
    have c2 : cnt (x / 256) 56 = cnt (x / 256 % 256) 8 + cnt (x / 256 / 256) 48 := cnt_add _ 48
    have c3 : cnt (x / 256 / 256) 48 = cnt (x / 256 / 256 % 256) 8 + cnt (x / 256 / 256 / 256) 40 := cnt_add _ 40
    have c4 : cnt (x / 256 / 256 / 256) 40 = cnt (x / 256 / 256 / 256 % 256) 8 + cnt (x / 256 / 256 / 256 / 256) 32 := cnt_add _ 32
    have c5 : cnt (x / 256 / 256 / 256 / 256) 32 = cnt (x / 256 / 256 / 256 / 256 % 256) 8 + cnt (x / 256 / 256 / 256 / 256 / 256) 24 := cnt_add _ 24
    have c6 : cnt (x / 256 / 256 / 256 / 256 / 256) 24 = cnt (x / 256 / 256 / 256 / 256 / 256 % 256) 8 + cnt (x / 256 / 256 / 256 / 256 / 256 / 256) 16 := cnt_add _ 16
    have c7 : cnt (x / 256 / 256 / 256 / 256 / 256 / 256) 16 = cnt (x / 256 / 256 / 256 / 256 / 256 / 256 % 256) 8 + cnt (x / 256 / 256 / 256 / 256 / 256 / 256 / 256) 8 := cnt_add _ 8
    have c8 : cnt (x / 256 / 256 / 256 / 256 / 256 / 256 / 256) 8 = cnt (x / 256 / 256 / 256 / 256 / 256 / 256 / 256 % 256) 8 + cnt (x / 256 / 256 / 256 / 256 / 256 / 256 / 256 / 256) 0 := cnt_add _ 0
    rw [c1, c2, c3, c4, c5, c6, c7, c8, cnt_zero, Nat.add_zero]
    simp only [Nat.add_assoc]
end Go.Proofs.Ythiiodagihlggaa
