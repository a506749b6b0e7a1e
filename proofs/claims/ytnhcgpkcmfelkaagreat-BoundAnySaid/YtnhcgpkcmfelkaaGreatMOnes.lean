/-
  My own work: plain facts behind math/bits.OnesCount64: bytes and how many ones they have.
  My own work: plain facts behind math/bits.OnesCount64: the words of the count.
-/
import Derived.Laws.BitsAllLaws
import Derived.IntWalk
namespace Go.Proofs.YtnhcgpkcmfelkaaGreat
section
set_option linter.unusedVariables false
set_option maxRecDepth 100000

theorem land_split (a b c d : Nat) (hb : b < 256) (hd : d < 256) : (256 * a + b) &&& (256 * c + d) = 256 * (a &&& c) + (b &&& d) := by
  have hbd : b &&& d < 2 ^ 8 := Nat.lt_of_le_of_lt Nat.and_le_left (by simpa using hb)
  apply Nat.eq_of_testBit_eq
  intro j
  rw [Nat.testBit_and]
  have h1 := Nat.testBit_two_pow_mul_add a (i := 8) (by simpa using hb) j
  have h2 := Nat.testBit_two_pow_mul_add c (i := 8) (by simpa using hd) j
  have h3 := Nat.testBit_two_pow_mul_add (a &&& c) (i := 8) hbd j
  simp only [show (2 : Nat) ^ 8 = 256 from rfl] at h1 h2 h3
  rw [h1, h2, h3]
  by_cases hj : j < 8
  · simp [hj]
  · simp [hj]

/-- A byte, repeated n times. -/
def rep (d : Nat) : Nat → Nat
  | 0 => 0
  | n + 1 => 256 * rep d n + d
def g1 (b : Nat) : Nat := (b / 2 &&& 85) + (b &&& 85)
def g2 (b : Nat) : Nat := (b / 4 &&& 51) + (b &&& 51)
def g3 (b : Nat) : Nat := (b / 16 + b) &&& 15
/-- A number whose n lowest bytes are turned, one by one. -/
def bytes (f : Nat → Nat) : Nat → Nat → Nat
  | 0, _ => 0
  | n + 1, x => 256 * bytes f n (x / 256) + f (x % 256)

theorem byte_all (P : Nat → Bool) (h : (List.range 256).all P = true) (b : Nat) (hb : b < 256) : P b = true := by
  rw [List.all_eq_true] at h
  exact h b (by simpa using hb)

theorem half85 (b : Nat) (hb : b < 256) : ∀ t, t < 2 → (128 * t + b / 2) &&& 85 = b / 2 &&& 85 := by
  intro t ht
  have := byte_all (fun b => (128 * 0 + b / 2 &&& 85) == (b / 2 &&& 85) && (128 * 1 + b / 2 &&& 85) == (b / 2 &&& 85)) (by decide +kernel) b hb
  rw [Bool.and_eq_true, beq_iff_eq, beq_iff_eq] at this
  match t, ht with
  | 0, _ => exact this.1
  | 1, _ => exact this.2
theorem quart51 (b : Nat) (hb : b < 256) : ∀ t, t < 4 → (64 * t + b / 4) &&& 51 = b / 4 &&& 51 := by
  intro t ht
  have := byte_all (fun b => (List.range 4).all fun t => (64 * t + b / 4 &&& 51) == (b / 4 &&& 51)) (by decide +kernel) b hb
  rw [List.all_eq_true] at this
  simpa using this t (by simpa using ht)

theorem step1 (n : Nat) : ∀ x, x < 256 ^ n → (x / 2 &&& rep 85 n) + (x &&& rep 85 n) = bytes g1 n x := by
  induction n with
  | zero => intro x _; simp [rep, bytes]
  | succ n ih =>
    intro x hx
    have hy : x / 256 < 256 ^ n := by rw [Nat.pow_succ] at hx; omega
    have e1 : x = 256 * (x / 256) + x % 256 := by omega
    have e2 : x / 2 = 256 * (x / 256 / 2) + (128 * (x / 256 % 2) + x % 256 / 2) := by omega
    have h1 := land_split (x / 256 / 2) (128 * (x / 256 % 2) + x % 256 / 2) (rep 85 n) 85 (by omega) (by decide)
    have h2 := land_split (x / 256) (x % 256) (rep 85 n) 85 (by omega) (by decide)
    rw [← e2] at h1
    rw [← e1] at h2
    have h3 := half85 (x % 256) (by omega) (x / 256 % 2) (by omega)
    simp only [rep, bytes]
    rw [h1, h2, h3, ← ih (x / 256) hy]
    unfold g1
    omega
theorem step2 (n : Nat) : ∀ x, x < 256 ^ n → (x / 4 &&& rep 51 n) + (x &&& rep 51 n) = bytes g2 n x := by
  induction n with
  | zero => intro x _; simp [rep, bytes]
  | succ n ih =>
    intro x hx
    have hy : x / 256 < 256 ^ n := by rw [Nat.pow_succ] at hx; omega
    have e1 : x = 256 * (x / 256) + x % 256 := by omega
    have e2 : x / 4 = 256 * (x / 256 / 4) + (64 * (x / 256 % 4) + x % 256 / 4) := by omega
    have h1 := land_split (x / 256 / 4) (64 * (x / 256 % 4) + x % 256 / 4) (rep 51 n) 51 (by omega) (by decide)
    have h2 := land_split (x / 256) (x % 256) (rep 51 n) 51 (by omega) (by decide)
    rw [← e2] at h1
    rw [← e1] at h2
    have h3 := quart51 (x % 256) (by omega) (x / 256 % 4) (by omega)
    simp only [rep, bytes]
    rw [h1, h2, h3, ← ih (x / 256) hy]
    unfold g2
    omega
/-- Each of the n lowest bytes has at most 4 in each half. -/
def fours : Nat → Nat → Prop
  | 0, x => x = 0
  | n + 1, x => x % 16 ≤ 4 ∧ x / 16 % 16 ≤ 4 ∧ fours n (x / 256)
theorem low15 (b : Nat) (hb : b < 256) (t : Nat) (ht : t ≤ 4) (h1 : b % 16 ≤ 4) (h2 : b / 16 ≤ 4) : (16 * t + (b / 16 + b)) &&& 15 = (b / 16 + b) &&& 15 := by
  have hm (x : Nat) : x &&& 15 = x % 16 := Nat.and_two_pow_sub_one_eq_mod x 4
  rw [hm, hm]
  omega
theorem step3 (n : Nat) : ∀ x, fours n x → (x / 16 + x) &&& rep 15 n = bytes g3 n x := by
  induction n with
  | zero => intro x _; simp [rep, bytes]
  | succ n ih =>
    intro x ⟨ha, hb, hc⟩
    have ht : x / 256 % 16 ≤ 4 := by
      cases n with
      | zero =>
        have : x / 256 = 0 := hc
        omega
      | succ n => exact hc.1
    have e1 : x / 16 + x = 256 * (x / 256 / 16 + x / 256) + (16 * (x / 256 % 16) + (x % 256 / 16 + x % 256)) := by omega
    have h1 := land_split (x / 256 / 16 + x / 256) (16 * (x / 256 % 16) + (x % 256 / 16 + x % 256)) (rep 15 n) 15 (by omega) (by decide)
    rw [← e1] at h1
    have h3 := low15 (x % 256) (by omega) (x / 256 % 16) ht (by omega) (by omega)
    simp only [rep, bytes]
    rw [h1, h3, ← ih (x / 256) hc]
    rfl

theorem bytes_lt (f : Nat → Nat) (hf : ∀ b, b < 256 → f b < 256) (n : Nat) : ∀ x, bytes f n x < 256 ^ n := by
  induction n with
  | zero => intro x; simp [bytes]
  | succ n ih =>
    intro x
    have h1 := ih (x / 256)
    have h2 := hf (x % 256) (by omega)
    simp only [bytes, Nat.pow_succ]
    omega
theorem bytes_comp (f g : Nat → Nat) (hf : ∀ b, b < 256 → f b < 256) (n : Nat) : ∀ x, bytes g n (bytes f n x) = bytes (fun b => g (f b)) n x := by
  induction n with
  | zero => intro x; rfl
  | succ n ih =>
    intro x
    have h2 := hf (x % 256) (by omega)
    simp only [bytes]
    rw [show (256 * bytes f n (x / 256) + f (x % 256)) / 256 = bytes f n (x / 256) by omega, show (256 * bytes f n (x / 256) + f (x % 256)) % 256 = f (x % 256) by omega, ih]
theorem bytes_fours (f : Nat → Nat) (hf : ∀ b, b < 256 → f b < 256 ∧ f b % 16 ≤ 4 ∧ f b / 16 ≤ 4) (n : Nat) : ∀ x, fours n (bytes f n x) := by
  induction n with
  | zero => intro x; rfl
  | succ n ih =>
    intro x
    obtain ⟨h0, h1, h2⟩ := hf (x % 256) (by omega)
    simp only [bytes, fours]
    refine ⟨by omega, by omega, ?_⟩
    rw [show (256 * bytes f n (x / 256) + f (x % 256)) / 256 = bytes f n (x / 256) by omega]
    exact ih _

/-- How many ones the n lowest bits have. -/
def cnt (s n : Nat) : Nat := ((List.range n).filter s.testBit).length
theorem cnt_byte (b : Nat) (hb : b < 256) : g3 (g2 (g1 b)) = cnt b 8 := by
  have := byte_all (fun b => g3 (g2 (g1 b)) == cnt b 8) (by decide +kernel) b hb
  simpa using this
theorem cnt_le (s n : Nat) : cnt s n ≤ n := by
  have := List.length_filter_le s.testBit (List.range n)
  rwa [List.length_range] at this
theorem cnt_add (s n : Nat) : cnt s (8 + n) = cnt (s % 256) 8 + cnt (s / 256) n := by
  unfold cnt
  rw [List.range_add, List.filter_append, List.length_append, List.filter_map, List.length_map]
  congr 1
  · congr 1
    apply List.filter_congr
    intro k hk
    simp at hk
    have := Nat.testBit_mod_two_pow s 8 k
    rw [show (2 : Nat) ^ 8 = 256 from rfl] at this
    rw [this]
    simp [hk]
  · congr 1
    apply List.filter_congr
    intro k _
    have := Nat.testBit_div_two_pow (n := 8) s k
    rw [show (2 : Nat) ^ 8 = 256 from rfl] at this
    rw [this, Nat.add_comm]
    rfl
theorem cnt_zero (s : Nat) : cnt s 0 = 0 := rfl

theorem g12_four (b : Nat) (hb : b < 256) : g2 (g1 b) < 256 ∧ g2 (g1 b) % 16 ≤ 4 ∧ g2 (g1 b) / 16 ≤ 4 := by
  have := byte_all (fun b => decide (g2 (g1 b) < 256 ∧ g2 (g1 b) % 16 ≤ 4 ∧ g2 (g1 b) / 16 ≤ 4)) (by decide +kernel) b hb
  simpa using this
theorem g1_lt (b : Nat) (hb : b < 256) : g1 b < 256 := by
  have := byte_all (fun b => decide (g1 b < 256)) (by decide +kernel) b hb
  simpa using this
theorem g2_lt (b : Nat) (hb : b < 256) : g2 b < 256 := by
  have := byte_all (fun b => decide (g2 b < 256)) (by decide +kernel) b hb
  simpa using this

theorem fold8 (p0 p1 p2 p3 p4 p5 p6 p7 x3 x4 x5 x6 : Nat) (h : p0 ≤ 8 ∧ p1 ≤ 8 ∧ p2 ≤ 8 ∧ p3 ≤ 8 ∧ p4 ≤ 8 ∧ p5 ≤ 8 ∧ p6 ≤ 8 ∧ p7 ≤ 8)
    (h3 : x3 = 256 * (256 * (256 * (256 * (256 * (256 * (256 * (256 * 0 + p7) + p6) + p5) + p4) + p3) + p2) + p1) + p0)
    (h4 : x4 = x3 + x3 / 256) (h5 : x5 = x4 + x4 / 65536) (h6 : x6 = x5 + x5 / 4294967296) :
    x4 < 18446744073709551616 ∧ x5 < 18446744073709551616 ∧ x6 < 9223372036854775808 ∧ x6 % 128 = p0 + p1 + p2 + p3 + p4 + p5 + p6 + p7 := by
  obtain ⟨a0, a1, a2, a3, a4, a5, a6, a7⟩ := h
  have d3 : x3 / 256 = 256 * (256 * (256 * (256 * (256 * (256 * p7 + p6) + p5) + p4) + p3) + p2) + p1 := by omega
  have e4 : x4 = 256 * (256 * (256 * (256 * (256 * (256 * (256 * p7 + (p6 + p7)) + (p5 + p6)) + (p4 + p5)) + (p3 + p4)) + (p2 + p3)) + (p1 + p2)) + (p0 + p1) := by omega
  clear h3 h4 d3
  have d4 : x4 / 65536 = 256 * (256 * (256 * (256 * (256 * p7 + (p6 + p7)) + (p5 + p6)) + (p4 + p5)) + (p3 + p4)) + (p2 + p3) := by omega
  have e5 : x5 = 256 * (256 * (256 * (256 * (256 * (256 * (256 * p7 + (p6 + p7)) + (p5 + p6 + p7)) + (p4 + p5 + p6 + p7)) + (p3 + p4 + p5 + p6)) + (p2 + p3 + p4 + p5)) + (p1 + p2 + p3 + p4)) + (p0 + p1 + p2 + p3) := by omega
  clear h5 d4
  have d5 : x5 / 4294967296 = 256 * (256 * (256 * p7 + (p6 + p7)) + (p5 + p6 + p7)) + (p4 + p5 + p6 + p7) := by omega
  refine ⟨by omega, by omega, by omega, ?_⟩
  rw [h6, d5, e5]
  omega
end

section
set_option linter.unusedVariables false
set_option maxRecDepth 100000

theorem m85 : rep 85 8 = 6148914691236517205 := by decide +kernel
theorem m51 : rep 51 8 = 3689348814741910323 := by decide +kernel
theorem m15 : rep 15 8 = 1085102592571150095 := by decide +kernel

theorem fours_le : ∀ n y, fours n y → y ≤ 68 * (256 ^ n - 1) / 255 := by
  intro n
  induction n with
  | zero => intro y hy; have : y = 0 := hy; omega
  | succ n ih =>
    intro y ⟨h1, h2, h3⟩
    have h4 := ih _ h3
    have hp : 1 ≤ 256 ^ n := Nat.one_le_pow _ _ (by decide)
    rw [Nat.pow_succ]
    generalize 256 ^ n = P at *
    omega

/-- The words of the count, one by one. -/
theorem ones_words (x : Nat) (hx : x < 18446744073709551616) : ∃ x1 x2 x3 x4 x5 x6 : Nat,
    x1 < 18446744073709551616 ∧ x2 ≤ 4919131752989213764 ∧ x3 < 18446744073709551616 ∧ x4 < 18446744073709551616 ∧ x5 < 18446744073709551616 ∧ x6 < 9223372036854775808 ∧
    (x / 2 &&& 6148914691236517205) + (x &&& 6148914691236517205) = x1 ∧ (x1 / 4 &&& 3689348814741910323) + (x1 &&& 3689348814741910323) = x2 ∧ (x2 / 16 + x2) &&& 1085102592571150095 = x3 ∧
    x3 + x3 / 256 = x4 ∧ x4 + x4 / 65536 = x5 ∧ x5 + x5 / 4294967296 = x6 ∧ x6 % 128 = cnt x 64 := by
  have hx' : x < 256 ^ 8 := by simpa using hx
  have s1 := step1 8 x hx'
  have l1 := bytes_lt g1 g1_lt 8 x
  have s2 := step2 8 (bytes g1 8 x) l1
  rw [bytes_comp g1 g2 g1_lt] at s2
  have hf := bytes_fours (fun b => g2 (g1 b)) g12_four 8 x
  have s3 := step3 8 _ hf
  rw [bytes_comp (fun b => g2 (g1 b)) g3 (fun b hb => (g12_four b hb).1)] at s3
  rw [m85] at s1
  rw [m51] at s2
  rw [m15] at s3
  have hc : ∀ y, g3 (g2 (g1 (y % 256))) = cnt (y % 256) 8 := fun y => cnt_byte _ (Nat.mod_lt _ (by decide))
  have l2 := fours_le 8 _ hf
  rw [show 68 * (256 ^ 8 - 1) / 255 = 4919131752989213764 from rfl] at l2
  generalize hX3 : bytes (fun b => g3 (g2 (g1 b))) 8 x = x3 at *
  have h3 : x3 = 256 * (256 * (256 * (256 * (256 * (256 * (256 * (256 * 0 + cnt (x / 256 / 256 / 256 / 256 / 256 / 256 / 256 % 256) 8) + cnt (x / 256 / 256 / 256 / 256 / 256 / 256 % 256) 8) + cnt (x / 256 / 256 / 256 / 256 / 256 % 256) 8) + cnt (x / 256 / 256 / 256 / 256 % 256) 8) + cnt (x / 256 / 256 / 256 % 256) 8) + cnt (x / 256 / 256 % 256) 8) + cnt (x / 256 % 256) 8) + cnt (x % 256) 8 := by
    rw [← hX3]
    simp only [bytes, hc]
  obtain ⟨k4, k5, k6, k7⟩ := fold8 _ _ _ _ _ _ _ _ x3 _ _ _ ⟨cnt_le _ 8, cnt_le _ 8, cnt_le _ 8, cnt_le _ 8, cnt_le _ 8, cnt_le _ 8, cnt_le _ 8, cnt_le _ 8⟩ h3 rfl rfl rfl
  refine ⟨_, _, x3, _, _, _, ?_, l2, ?_, k4, k5, k6, s1, s2, s3, rfl, rfl, rfl, ?_⟩
  · simpa using l1
  · omega
  · rw [k7]
    have c1 : cnt x 64 = cnt (x % 256) 8 + cnt (x / 256) 56 := cnt_add x 56
    have c2 : cnt (x / 256) 56 = cnt (x / 256 % 256) 8 + cnt (x / 256 / 256) 48 := cnt_add _ 48
    have c3 : cnt (x / 256 / 256) 48 = cnt (x / 256 / 256 % 256) 8 + cnt (x / 256 / 256 / 256) 40 := cnt_add _ 40
    have c4 : cnt (x / 256 / 256 / 256) 40 = cnt (x / 256 / 256 / 256 % 256) 8 + cnt (x / 256 / 256 / 256 / 256) 32 := cnt_add _ 32
    have c5 : cnt (x / 256 / 256 / 256 / 256) 32 = cnt (x / 256 / 256 / 256 / 256 % 256) 8 + cnt (x / 256 / 256 / 256 / 256 / 256) 24 := cnt_add _ 24
    have c6 : cnt (x / 256 / 256 / 256 / 256 / 256) 24 = cnt (x / 256 / 256 / 256 / 256 / 256 % 256) 8 + cnt (x / 256 / 256 / 256 / 256 / 256 / 256) 16 := cnt_add _ 16
    have c7 : cnt (x / 256 / 256 / 256 / 256 / 256 / 256) 16 = cnt (x / 256 / 256 / 256 / 256 / 256 / 256 % 256) 8 + cnt (x / 256 / 256 / 256 / 256 / 256 / 256 / 256) 8 := cnt_add _ 8
    have c8 : cnt (x / 256 / 256 / 256 / 256 / 256 / 256 / 256) 8 = cnt (x / 256 / 256 / 256 / 256 / 256 / 256 / 256 % 256) 8 + cnt (x / 256 / 256 / 256 / 256 / 256 / 256 / 256 / 256) 0 := cnt_add _ 0
    rw [c1, c2, c3, c4, c5, c6, c7, c8, cnt_zero, Nat.add_zero]
    simp only [Nat.add_assoc]
end

end Go.Proofs.YtnhcgpkcmfelkaaGreat
