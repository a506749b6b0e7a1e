/-
  My own work: days.there, Has, With, Without: their contracts.
  My own work: plain facts on sets of days as numbers.
  My own work: tranterref02.Bits, Number, Has, Put: their contracts.
  My own work: days.among, All, Next, Of; tranterref02.All, Next, Same: their contracts.
  My own work: plain facts on sets of days, day by day.
-/
import Derived.Test.YtnhcgpkcmfelkaaGreatBase
import Derived.Laws.BitsAllLaws
import Derived.IntWalk
import Derived.Deep.QuietTactic
import Derived.BigQuiet
namespace Go.Proofs.YtnhcgpkcmfelkaaGreat
section
open Go.RowKit
set_option linter.unusedVariables false
set_option maxRecDepth 100000

theorem ret_bool {a b : Bool} (h : a = b) : Ending.returned (.bool a) = .returned (.bool b) := by rw [h]
def thereB (d : Int) : Bool := decide (0 ≤ d) && decide (d < 64)
theorem there_yes {d : Int} (h : thereB d = true) : 0 ≤ d ∧ d < 64 := by
  unfold thereB at h
  simpa using h
theorem there_no {d : Int} (h : thereB d = false) : d < 0 ∨ 64 ≤ d := by
  unfold thereB at h
  by_cases h0 : 0 ≤ d
  · by_cases h1 : d < 64
    · simp [h0, h1] at h
    · omega
  · omega

theorem there_is (d : Int) (w : World) : Calls Tryz.prog 129 #[.int .i64 d] w fun e w' => e = .returned (.bool (thereB d)) ∧ w = w' := by
  by_cases h0 : 0 ≤ d
  · have h0' : decide (0 ≤ d) = true := by simpa using h0
    have ht : Hid (thereB d = decide (d < 64)) := Lib.hid (by unfold thereB; rw [h0']; rfl)
    go_enter Tryz.func129, Tryz.ntmps129
    go_wp2_with fail
    go_ret
    rw [ht.out]
    exact ⟨rfl, rfl⟩
  · have h0' : decide (0 ≤ d) = false := by simpa using h0
    have ht : Hid (thereB d = false) := Lib.hid (by unfold thereB; rw [h0']; rfl)
    go_enter Tryz.func129, Tryz.ntmps129
    go_wp2_with fail
    go_ret
    rw [ht.out]
    exact ⟨rfl, rfl⟩

def hasB (s : Nat) (d : Int) : Bool := thereB d && s.testBit d.toNat

theorem has_bit (s n : Nat) (hs : s < 18446744073709551616) : (bits .and .u64 ((s : Int) / 2 ^ n) 1 == 1) = s.testBit n := by
  have e : ((s : Int) / 2 ^ n) = ((s / 2 ^ n : Nat) : Int) := by simp
  have hl : s / 2 ^ n < 18446744073709551616 := Nat.lt_of_le_of_lt (Nat.div_le_self _ _) hs
  have h2 := u64_and_nat (s / 2 ^ n) 1 hl (by decide)
  rw [e, show (1 : Int) = ((1 : Nat) : Int) from rfl, h2, nat_mask1, Nat.testBit_eq_decide_div_mod_eq]
  by_cases h : s / 2 ^ n % 2 = 1
  · rw [h]; rfl
  · have : s / 2 ^ n % 2 = 0 := by omega
    rw [this]; rfl

theorem has_is (s : Nat) (d : Int) (w : World) (hs : s < 18446744073709551616) : Calls Tryz.prog 135 #[.int .u64 s, .int .i64 d] w fun e w' => e = .returned (.bool (hasB s d)) ∧ w = w' := by
  cases ht : thereB d with
  | false =>
    have Hh : Hid (hasB s d = false) := Lib.hid (by unfold hasB; rw [ht]; rfl)
    have H1 := Lib.hid (there_is d w)
    rw [ht] at H1
    clear ht
    go_enter Tryz.func135, Tryz.ntmps135
    go_wp2_with fail
    refine H1.out.mono ?_
    rintro e w' ⟨rfl, rfl⟩
    go_wp2_with fail
    go_ret
    rw [Hh.out]
    exact ⟨rfl, rfl⟩
  | true =>
    have H1 := Lib.hid (there_is d w)
    rw [ht] at H1
    obtain ⟨hd0, hd1⟩ := there_yes ht
    clear ht
    obtain ⟨n, rfl⟩ := Int.eq_ofNat_of_zero_le hd0
    go_enter Tryz.func135, Tryz.ntmps135
    go_wp2_with fail
    refine H1.out.mono ?_
    rintro e w' ⟨rfl, rfl⟩
    have Hb : Hid ((bits .and .u64 ((s : Int) / 2 ^ n) 1 == 1) = hasB s (n : Int)) := Lib.hid (by rw [has_bit s n hs]; unfold hasB thereB; rw [decide_eq_true hd0, decide_eq_true hd1]; simp)
    go_wp2_with fail
    go_ret
    exact ⟨ret_bool Hb.out, rfl⟩

/-- A set with a day, without a day. -/
def withN (s : Nat) (d : Int) : Nat := if thereB d = true then s ||| 2 ^ d.toNat else s
def withoutN (s : Nat) (d : Int) : Nat := if thereB d = true then s &&& (18446744073709551615 - 2 ^ d.toNat) else s
theorem ret_u64 {a b : Int} (h : a = b) : Ending.returned (.int .u64 a) = .returned (.int .u64 b) := by rw [h]

theorem pow_lt64 (n : Nat) (h : n < 64) : 2 ^ n < 18446744073709551616 := by
  have : 2 ^ n < 2 ^ 64 := Nat.pow_lt_pow_right (by decide) h
  simpa using this
theorem pow_wrap (n : Nat) (h : n < 64) : IntKind.u64.wrap ((2 : Int) ^ n) = ((2 ^ n : Nat) : Int) := by
  have h1 := pow_lt64 n h
  have e : ((2 : Int) ^ n) = ((2 ^ n : Nat) : Int) := by simp
  rw [e]
  generalize 2 ^ n = m at *
  exact IntWalk.u64_in _ (by omega)

theorem with_is (s : Nat) (d : Int) (w : World) (hs : s < 18446744073709551616) : Calls Tryz.prog 118 #[.int .u64 s, .int .i64 d] w fun e w' => e = .returned (.int .u64 (withN s d)) ∧ w = w' := by
  cases ht : thereB d with
  | false =>
    have Hh : Hid (withN s d = s) := Lib.hid (by unfold withN; rw [ht]; rfl)
    have H1 := Lib.hid (there_is d w)
    rw [ht] at H1
    clear ht
    go_enter Tryz.func118, Tryz.ntmps118
    go_wp2_with fail
    refine H1.out.mono ?_
    rintro e w' ⟨rfl, rfl⟩
    go_wp2_with fail
    go_ret
    rw [Hh.out]
    exact ⟨rfl, rfl⟩
  | true =>
    have H1 := Lib.hid (there_is d w)
    rw [ht] at H1
    obtain ⟨hd0, hd1⟩ := there_yes ht
    clear ht
    obtain ⟨n, rfl⟩ := Int.eq_ofNat_of_zero_le hd0
    go_enter Tryz.func118, Tryz.ntmps118
    go_wp2_with fail
    refine H1.out.mono ?_
    rintro e w' ⟨rfl, rfl⟩
    have Hh : Hid (bits .or .u64 (s : Int) (IntKind.u64.wrap (2 ^ n)) = (withN s (n : Int) : Int)) := Lib.hid (by
      rw [pow_wrap n (by omega), u64_or_nat s (2 ^ n) hs (pow_lt64 n (by omega))]
      unfold withN thereB
      rw [decide_eq_true hd0, decide_eq_true hd1]
      simp)
    go_wp2_with fail
    go_ret
    exact ⟨ret_u64 Hh.out, rfl⟩
end

section
open Go.RowKit
set_option linter.unusedVariables false
set_option maxRecDepth 100000

/-- A set's day as a nought or a one. -/
def bitI (s d : Nat) : Int := ((s / 2 ^ d % 2 : Nat) : Int)
def bitsOf (s : Nat) : List Int := (List.range 64).map (bitI s)
theorem bitI_of (s d : Nat) : bitI s d = if s.testBit d = true then 1 else 0 := by
  unfold bitI
  rw [Nat.testBit_eq_decide_div_mod_eq]
  by_cases h : s / 2 ^ d % 2 = 1
  · rw [h]; rfl
  · have : s / 2 ^ d % 2 = 0 := by omega
    rw [this]; rfl
theorem bitI_bd (s d : Nat) : 0 ≤ bitI s d ∧ bitI s d ≤ 1 := by unfold bitI; omega
theorem bitI_one (s d : Nat) : (bitI s d == 1) = s.testBit d := by
  rw [bitI_of]
  cases s.testBit d <;> rfl
theorem bitsOf_len (s : Nat) : (bitsOf s).length = 64 := by simp [bitsOf]
theorem nth_bits (s d : Nat) (h : d < 64) : nth (bitsOf s) d = bitI s d := nth_map_range _ _ _ h
theorem pow_succ2 (d : Nat) : 2 ^ (d + 1) = 2 ^ d * 2 := Nat.pow_succ ..
theorem half_step (s d : Nat) : s / 2 ^ d / 2 = s / 2 ^ (d + 1) := by rw [pow_succ2, Nat.div_div_eq_div_mul]
theorem number_step (s d : Nat) : 2 * (s / 2 ^ (d + 1)) + s / 2 ^ d % 2 = s / 2 ^ d := by
  rw [← half_step]
  omega

theorem with_lt {s : Nat} (d : Int) (hs : s < 18446744073709551616) : withN s d < 18446744073709551616 := by
  unfold withN
  split
  · rename_i h
    obtain ⟨h0, h1⟩ := there_yes h
    have := pow_lt64 d.toNat (by omega)
    exact Nat.or_lt_two_pow (n := 64) (by simpa using hs) (by simpa using this)
  · exact hs
theorem without_lt {s : Nat} (d : Int) (hs : s < 18446744073709551616) : withoutN s d < 18446744073709551616 := by
  unfold withoutN
  split
  · exact Nat.lt_of_le_of_lt Nat.and_le_left hs
  · exact hs
theorem test_with (s d k : Nat) (hd : d < 64) : (withN s (d : Int)).testBit k = (s.testBit k || decide (d = k)) := by
  have : thereB (d : Int) = true := by unfold thereB; rw [decide_eq_true (by omega), decide_eq_true (by omega)]; rfl
  unfold withN
  rw [if_pos this, Int.toNat_natCast, Nat.testBit_or, Nat.testBit_two_pow]
theorem test_without (s d k : Nat) (hs : s < 18446744073709551616) (hd : d < 64) : (withoutN s (d : Int)).testBit k = (s.testBit k && !decide (d = k)) := by
  have ht : thereB (d : Int) = true := by unfold thereB; rw [decide_eq_true (by omega), decide_eq_true (by omega)]; rfl
  unfold withoutN
  rw [if_pos ht, Int.toNat_natCast, Nat.testBit_and]
  have hx : 2 ^ d < 2 ^ 64 := Nat.pow_lt_pow_right (by decide) hd
  have := Nat.testBit_two_pow_sub_succ (n := 64) (x := 2 ^ d) hx k
  rw [show 2 ^ 64 - (2 ^ d + 1) = 18446744073709551615 - 2 ^ d by omega] at this
  rw [this, Nat.testBit_two_pow]
  by_cases hk : k < 64
  · simp [hk]
  · have : s.testBit k = false := Nat.testBit_lt_two_pow (Nat.lt_of_lt_of_le (show s < 2 ^ 64 by simpa using hs) (Nat.pow_le_pow_right (by decide) (by omega)))
    simp [this]

/-- The bits with one of them put. -/
theorem bits_put1 (s d : Nat) (hd : d < 64) : (bitsOf s).set d 1 = bitsOf (withN s (d : Int)) := by
  apply ext_nth (by simp [bitsOf_len])
  intro k hk
  rw [List.length_set, bitsOf_len] at hk
  rw [nth_set (by rw [bitsOf_len]; exact hd), nth_bits _ _ hk, nth_bits _ _ hk, bitI_of, bitI_of, test_with s d k hd]
  by_cases h : d = k <;> simp [h]
theorem bits_put0 (s d : Nat) (hs : s < 18446744073709551616) (hd : d < 64) : (bitsOf s).set d 0 = bitsOf (withoutN s (d : Int)) := by
  apply ext_nth (by simp [bitsOf_len])
  intro k hk
  rw [List.length_set, bitsOf_len] at hk
  rw [nth_set (by rw [bitsOf_len]; exact hd), nth_bits _ _ hk, nth_bits _ _ hk, bitI_of, bitI_of, test_without s d k hs hd]
  by_cases h : d = k <;> simp [h]

/-- What is laid after d rounds of Bits. -/
def bitsUpto (s d : Nat) : List Int := (List.range 64).map fun j => if j < d then bitI s j else 0
theorem bitsUpto_len (s d : Nat) : (bitsUpto s d).length = 64 := by simp [bitsUpto]
theorem bitsUpto_zero (s : Nat) : bitsUpto s 0 = List.replicate 64 0 := by simp [bitsUpto, List.map_const']
theorem bitsUpto_all (s : Nat) : bitsUpto s 64 = bitsOf s := by
  unfold bitsUpto bitsOf
  apply List.map_congr_left
  intro j hj
  rw [if_pos (by simpa using hj)]
theorem bitsUpto_succ (s d : Nat) (hd : d < 64) : (bitsUpto s d).set d (bitI s d) = bitsUpto s (d + 1) := by
  apply ext_nth (by simp [bitsUpto_len])
  intro k hk
  rw [List.length_set, bitsUpto_len] at hk
  rw [nth_set (by rw [bitsUpto_len]; exact hd)]
  unfold bitsUpto
  rw [nth_map_range _ _ _ hk, nth_map_range _ _ _ hk]
  by_cases h : d = k
  · subst h; simp
  · rw [if_neg h]
    by_cases h2 : k < d
    · rw [if_pos h2, if_pos (by omega)]
    · rw [if_neg h2, if_neg (by omega)]
end

section
open Go.RowKit
set_option linter.unusedVariables false
set_option maxRecDepth 100000

theorem own_zeros (w' : World) (B g N : Nat) (h : w'.ownsRow B 3 1 (.slice (some ⟨g, 0, none⟩) N N) N (madeCells #[Value.int .i64 0] N).toList) : Own w' B (.slice (some ⟨g, 0, none⟩) N N) (List.replicate N 0) := by
  unfold Own
  rw [List.length_replicate]
  rw [toList_madeCells_one] at h
  rw [List.map_replicate]
  exact h

/-- A slice of the call's own of a known length. -/
theorem made_ints (w : World) (N : Nat) (hN : N ≤ 65536) : ∃ w4, (Instr.makeSlice 26 (.int .i64 (N : Int)) (.int .i64 (N : Int))).run Tryz.prog w = .ok (.slice (some ⟨w.heap.size, 0, none⟩) N N) w4 ∧
    Own w4 w.heap.size (.slice (some ⟨w.heap.size, 0, none⟩) N N) (List.replicate N 0) ∧ Below w.heap.size w w4 := by
  obtain ⟨ii, hi, hz, hsi, hby⟩ := info_parts info_int
  obtain ⟨w4, hmk, hown0, hg4⟩ := run_make_full (P := Tryz.prog) w w.heap.size 26 3 ii (.int .i64 0) 1 Tryz.underlying26 hi hz hsi .i64 .i64 N (by rw [hby]; omega) (by simp only [maxLen]; omega) (Nat.le_refl _)
  refine ⟨w4, hmk, own_zeros _ _ _ _ ?_, (Below.refl w.heap.size w).grown hg4 (Nat.le_refl _) (by simp)⟩
  rw [Nat.mul_one] at hown0
  exact hown0

/-- What Bits answers. -/
def BitsOut (w : World) (s : Nat) (e : Ending) (w' : World) : Prop := ∃ g c, e = .returned (.slice (some ⟨g, 0, none⟩) 64 c) ∧ Own w' w.heap.size (.slice (some ⟨g, 0, none⟩) 64 c) (bitsOf s) ∧ Below w.heap.size w w'

set_option maxRecDepth 100000 in
set_option maxHeartbeats 800000 in
theorem bits_is (s : Nat) (w : World) (hs : s < 18446744073709551616) : Calls Tryz.prog 79 #[.int .u64 s] w (BitsOut w s) := by
  obtain ⟨w1, hmk, hown, hb1⟩ := made_ints w 64 (by decide)
  rw [show ((64 : Nat) : Int) = 64 from rfl] at hmk
  have Hmk := Lib.hid hmk
  have Hown := Lib.hid hown
  have Hs : Hid (s / 2 ^ 0 = s) := Lib.hid (by simp)
  clear hmk hown
  go_enter Tryz.func79, Tryz.ntmps79
  go_wp2_with fail
  rw [Hmk.out]
  go_wp2_with fail
  generalize eg : w.heap.size = g at *
  have Heg := Lib.hid eg
  clear eg
  go_loopw [0, 4] (fun x i wr => ∃ d S : Nat, d ≤ 64 ∧ i = .int .i64 d ∧ x = .int .u64 (S : Int) ∧ S = s / 2 ^ d ∧ Own wr g (.slice (some ⟨g, 0, none⟩) 64 64) (bitsUpto s d) ∧ Below g w wr) (fun _ i _ => 64 - (intOf i).toNat)
  case atStart => exact ⟨0, s, Nat.zero_le _, rfl, rfl, Hs.out.symm, by rw [bitsUpto_zero]; exact Hown.out, hb1⟩
  case round =>
    obtain ⟨d, S, hd, rfl, rfl, hSe, hown, hb⟩ := hrel
    by_cases hlt : d < 64
    · obtain ⟨g2, c2, he, _, _, _, hcells⟩ := hown.out (by rw [bitsUpto_len]; decide)
      simp only [Value.slice.injEq, Option.some.injEq, Addr.mk.injEq, and_true] at he
      obtain ⟨rfl, hn2, hc2⟩ := he
      clear hn2 hc2
      obtain ⟨hO, hF⟩ := hcells d (by rw [bitsUpto_len]; exact hlt)
      rw [Nat.zero_add] at hO hF
      have hset := hown.set d (bitI s d) (by rw [bitsUpto_len]; exact hlt)
      rw [bitsUpto_succ s d hlt, Nat.zero_add] at hset
      have hS : S < 18446744073709551616 := by rw [hSe]; exact Nat.lt_of_le_of_lt (Nat.div_le_self _ _) hs
      have Hh : Hid (S / 2 = s / 2 ^ (d + 1)) := Lib.hid (by rw [hSe]; exact half_step s d)
      have Hset : Hid (Own (wr.setCell ⟨g, d, none⟩ (.int .i64 (S % 2))) g (.slice (some ⟨g, 0, none⟩) 64 64) (bitsUpto s (d + 1))) := Lib.hid (by
        have : ((S : Int) % 2) = bitI s d := by unfold bitI; rw [hSe]; omega
        rw [this]; exact hset)
      have w1 : wrap64 ((S : Int) % 2) = (S : Int) % 2 := wrap_id (by omega) (by omega)
      clear hcells hown hset hSe hs
      go_wp2_with fail
      go_roundw
      case rel => exact ⟨d + 1, S / 2, by omega, by go_num, by go_num, Hh.out, Hset.out, hb.setCell (Nat.le_refl _) _⟩
      case measure => simp [intOf]; omega
    · have hd64 : d = 64 := by omega
      subst hd64
      rw [bitsUpto_all] at hown
      clear hSe
      go_wp2_with fail
      go_ret
      exact ⟨g, 64, rfl, by rw [Heg.out]; exact hown, by rw [Heg.out]; exact hb⟩

set_option maxHeartbeats 800000 in
theorem number_is (v : Value) (s : Nat) (w : World) (hs : s < 18446744073709551616) (hv : Ints w v (bitsOf s)) : Calls Tryz.prog 80 #[v] w fun e w' => e = .returned (.int .u64 s) ∧ w = w' := by
  obtain ⟨a, n, c, rfl, hn, hmax, hcell⟩ := hv.open
  rw [bitsOf_len] at hn
  subst hn
  have Hcell := Lib.hid hcell
  have Hs : Hid (s / 2 ^ 64 = 0) := Lib.hid (Nat.div_eq_of_lt (by simpa using hs))
  have Hs0 : Hid (s / 2 ^ 0 = s) := Lib.hid (by simp)
  clear hcell hv
  go_enter Tryz.func80, Tryz.ntmps80
  go_wp2_with fail
  go_loop [3, 4] (fun x i => ∃ d S : Nat, d ≤ 64 ∧ i = .int .i64 ((d : Int) - 1) ∧ x = .int .u64 (S : Int) ∧ S = s / 2 ^ d) (fun _ i => (intOf i + 1).toNat)
  case atStart => exact ⟨64, 0, Nat.le_refl _, rfl, rfl, Hs.out.symm⟩
  case round =>
    obtain ⟨d, S, hd, rfl, rfl, hSe⟩ := hrel
    by_cases h1 : 1 ≤ d
    · obtain ⟨i, rfl⟩ : ∃ i, d = i + 1 := ⟨d - 1, by omega⟩
      rw [show ((i + 1 : Nat) : Int) - 1 = (i : Int) by omega]
      obtain ⟨b, o, rfl, hc⟩ := Hcell.out i (by omega)
      rw [nth_bits s i (by omega)] at hc
      have hb := bitI_bd s i
      obtain ⟨B, hB⟩ : ∃ B, B = bitI s i := ⟨_, rfl⟩
      have hT : 2 * S + (s / 2 ^ i % 2) = s / 2 ^ i := by rw [hSe]; exact number_step s i
      have hB2 : (B : Int) = ((s / 2 ^ i % 2 : Nat) : Int) := by rw [hB]; rfl
      have hlt : s / 2 ^ i < 18446744073709551616 := Nat.lt_of_le_of_lt (Nat.div_le_self _ _) hs
      rw [← hB] at hc hb
      obtain ⟨T, hTe⟩ : ∃ T, T = s / 2 ^ i := ⟨_, rfl⟩
      rw [← hTe] at hT hB2 hlt
      have HT : Hid (T = s / 2 ^ i) := Lib.hid hTe
      have HS2 : Hid (2 * (S : Int) + B = (T : Int)) := Lib.hid (by omega)
      have hS : S < 9223372036854775808 := by omega
      obtain ⟨hb0, hb1⟩ := hb
      have hi0 : (0 : Int) ≤ (i : Int) := by omega
      have hi1 : (i : Int) < 64 := by omega
      clear hTe hT hB2 hSe hB hs hlt
      go_wp2_with fail
      go_round
      case rel => exact ⟨i, T, by omega, by go_num, by rw [HS2.out], HT.out⟩
      case measure => simp [intOf]
    · have hd0 : d = 0 := by omega
      subst hd0
      have hS : S = s := by rw [hSe]; simp
      subst hS
      clear hSe h1
      go_wp2_with fail
      go_ret
      exact ⟨rfl, rfl⟩

theorem refHas_is (s : Nat) (d : Int) (w : World) (hs : s < 18446744073709551616) : Calls Tryz.prog 52 #[.int .u64 s, .int .i64 d] w fun e w' => e = .returned (.bool (hasB s d)) ∧ Below w.heap.size w w' := by
  cases ht : thereB d with
  | false =>
    have Hh : Hid (hasB s d = false) := Lib.hid (by unfold hasB; rw [ht]; rfl)
    rcases there_no ht with h | h
    all_goals
      have h1 : ¬ 0 ≤ d ∨ 63 < d := by omega
      clear ht h1
    · have h2 : decide (d < 0) = true := by simpa using h
      clear h
      go_enter Tryz.func52, Tryz.ntmps52
      go_wp2_with fail
      go_ret
      rw [Hh.out]
      exact ⟨rfl, Below.refl _ _⟩
    · have h2 : decide (d < 0) = false := by simp; omega
      have h3 : decide (63 < d) = true := by simp; omega
      clear h
      go_enter Tryz.func52, Tryz.ntmps52
      go_wp2_with fail
      go_ret
      rw [Hh.out]
      exact ⟨rfl, Below.refl _ _⟩
  | true =>
    obtain ⟨hd0, hd1⟩ := there_yes ht
    obtain ⟨n, rfl⟩ := Int.eq_ofNat_of_zero_le hd0
    have Hb : Hid ((bitI s n == 1) = hasB s (n : Int)) := Lib.hid (by rw [bitI_one]; unfold hasB; rw [ht]; simp)
    have h2 : decide ((n : Int) < 0) = false := by simp
    have h3 : decide (63 < (n : Int)) = false := by simp; omega
    clear ht
    go_enter Tryz.func52, Tryz.ntmps52
    go_wp2_with fail
    refine (bits_is s w hs).mono ?_
    rintro e w1 ⟨g, c, rfl, hown, hb1⟩
    obtain ⟨a, n1, c1, he, _, _, hcell⟩ := hown.ints.open
    simp only [Value.slice.injEq] at he
    obtain ⟨rfl, rfl, rfl⟩ := he
    obtain ⟨b, o, he, hc⟩ := hcell n (by omega)
    simp only [Option.some.injEq, Addr.mk.injEq, and_true] at he
    obtain ⟨rfl, rfl⟩ := he
    rw [nth_bits s n (by omega), Nat.zero_add] at hc
    clear hcell hown
    go_wp2_with fail
    go_ret
    exact ⟨ret_bool Hb.out, hb1⟩

/-- A set with a day put, or taken out. -/
def putN (s : Nat) (d bit : Int) : Nat := if bit = 1 then withN s d else withoutN s d
theorem put_lt {s : Nat} (d bit : Int) (hs : s < 18446744073709551616) : putN s d bit < 18446744073709551616 := by
  unfold putN
  split
  · exact with_lt d hs
  · exact without_lt d hs

set_option maxHeartbeats 400000 in
theorem put_is (s : Nat) (d bit : Int) (w : World) (hs : s < 18446744073709551616) (hbit : bit = 0 ∨ bit = 1) : Calls Tryz.prog 53 #[.int .u64 s, .int .i64 d, .int .i64 bit] w fun e w' => e = .returned (.int .u64 (putN s d bit)) ∧ Below w.heap.size w w' := by
  cases ht : thereB d with
  | false =>
    have Hh : Hid (putN s d bit = s) := Lib.hid (by unfold putN withN withoutN; rw [ht]; simp)
    rcases there_no ht with h | h
    all_goals clear ht
    · have h2 : decide (d < 0) = true := by simpa using h
      clear h
      go_enter Tryz.func53, Tryz.ntmps53
      go_wp2_with fail
      go_ret
      rw [Hh.out]
      exact ⟨rfl, Below.refl _ _⟩
    · have h2 : decide (d < 0) = false := by simp; omega
      have h3 : decide (63 < d) = true := by simp; omega
      clear h
      go_enter Tryz.func53, Tryz.ntmps53
      go_wp2_with fail
      go_ret
      rw [Hh.out]
      exact ⟨rfl, Below.refl _ _⟩
  | true =>
    obtain ⟨hd0, hd1⟩ := there_yes ht
    obtain ⟨n, rfl⟩ := Int.eq_ofNat_of_zero_le hd0
    have Hset : Hid ((bitsOf s).set n bit = bitsOf (putN s (n : Int) bit)) := Lib.hid (by
      unfold putN
      rcases hbit with rfl | rfl
      · exact bits_put0 s n hs (by omega)
      · exact bits_put1 s n (by omega))
    have h2 : decide ((n : Int) < 0) = false := by simp
    have h3 : decide (63 < (n : Int)) = false := by simp; omega
    have Hp := Lib.hid (put_lt (n : Int) bit hs)
    clear ht hbit
    go_enter Tryz.func53, Tryz.ntmps53
    go_wp2_with fail
    refine (bits_is s w hs).mono ?_
    rintro e w1 ⟨g, c, rfl, hown, hb1⟩
    obtain ⟨g2, c2, he, hgB, _, _, hcells⟩ := hown.out (by rw [bitsOf_len]; decide)
    simp only [Value.slice.injEq, Option.some.injEq, Addr.mk.injEq, and_true] at he
    obtain ⟨rfl, hn2, rfl⟩ := he
    clear hn2
    obtain ⟨hO, hF⟩ := hcells n (by rw [bitsOf_len]; omega)
    rw [Nat.zero_add] at hO hF
    have hset := hown.set n bit (by rw [bitsOf_len]; omega)
    rw [Hset.out, Nat.zero_add] at hset
    have HI := Lib.hid hset.ints
    have Hb2 := Lib.hid (hb1.setCell (p := ⟨g, n, none⟩) hgB (.int .i64 bit))
    clear hcells hown hset hb1
    go_wp2_with fail
    refine (number_is _ _ _ Hp.out HI.out).mono ?_
    rintro e w2 ⟨rfl, rfl⟩
    go_wp2_with fail
    go_ret
    exact ⟨rfl, Hb2.out⟩
end

section
open Go.RowKit
set_option linter.unusedVariables false
set_option maxRecDepth 100000

/-- The days of a set from m on and below d, rising. -/
def allUpto (s m d : Nat) : List Int := ((List.range d).filter fun k => decide (m ≤ k) && s.testBit k).map Int.ofNat
theorem allUpto_start (s m d : Nat) (h : d ≤ m) : allUpto s m d = [] := by
  unfold allUpto
  rw [List.map_eq_nil_iff, List.filter_eq_nil_iff]
  intro k hk
  simp at hk
  simp; omega
theorem allUpto_yes (s m d : Nat) (h : m ≤ d) (hb : s.testBit d = true) : allUpto s m (d + 1) = allUpto s m d ++ [(d : Int)] := by
  unfold allUpto
  rw [List.range_succ, List.filter_append, List.map_append]
  simp [h, hb]
theorem allUpto_no (s m d : Nat) (hb : s.testBit d = false) : allUpto s m (d + 1) = allUpto s m d := by
  unfold allUpto
  rw [List.range_succ, List.filter_append, List.map_append]
  simp [hb]
theorem allUpto_len (s m d : Nat) : (allUpto s m d).length ≤ d := by
  unfold allUpto
  rw [List.length_map]
  have := List.length_filter_le (fun k => decide (m ≤ k) && s.testBit k) (List.range d)
  rwa [List.length_range] at this

def ListOut (w : World) (xs : List Int) (e : Ending) (w' : World) : Prop := ∃ v, e = .returned v ∧ Own w' w.heap.size v xs ∧ Below w.heap.size w w'

set_option maxHeartbeats 800000 in
theorem among_nat (s m : Nat) (w : World) (hs : s < 18446744073709551616) : Calls Tryz.prog 134 #[.func (.func 135) #[.int .u64 s] #[], .int .i64 m] w (ListOut w (allUpto s m 64)) := by
  have hd : ¬ (m : Int) < 0 := by omega
  have hm : m = m := rfl
  go_enter Tryz.func134, Tryz.ntmps134
  go_wp2_with fail
  go_loopw [5, 6] (fun v i wr => ∃ (k : Nat) (u : Value), i = .int .i64 k ∧ u = v ∧ m ≤ k ∧ (k ≤ 64 ∨ k = m) ∧ Own wr w.heap.size u (allUpto s m k) ∧ Below w.heap.size w wr) (fun _ i _ => 64 - (intOf i).toNat)
  case atStart => exact ⟨m, _, rfl, rfl, Nat.le_refl _, .inr rfl, by rw [allUpto_start s m m (Nat.le_refl _)]; exact Own.nil _ _, Below.refl _ _⟩
  case round =>
    obtain ⟨k, v, rfl, rfl, hmk, hk, hown, hb⟩ := hrel
    by_cases hlt : k < 64
    · have Hmk := Lib.hid hmk
      have Hm := Lib.hid hm
      clear hk hmk hm
      have hh := has_is s (k : Int) wr hs
      have hhb : hasB s (k : Int) = s.testBit k := by
        unfold hasB thereB
        rw [decide_eq_true (by omega), decide_eq_true (by omega)]
        simp
      rw [hhb] at hh
      clear hhb
      cases ht : s.testBit k with
      | true =>
        rw [ht] at hh
        have Hh := Lib.hid hh
        have Hy := Lib.hid (allUpto_yes s m k Hmk.out ht)
        have Hl := Lib.hid (allUpto_len s m k)
        clear hh ht
        go_wp2_with fail
        refine Hh.out.mono ?_
        rintro e w1 ⟨rfl, rfl⟩
        go_wp2_with (at_builtin; refine wpList_push rfl _ _ rfl wr w.heap.size v (allUpto s m k) (k : Int) rfl rfl hown (by have := Hl.out; omega) hb.size ?_)
        intro v' w5 hown5 g5 hb5
        rw [← Hy.out] at hown5
        have hb5' := hb.trans hb5
        clear g5 hb5 hown
        go_wp2_with fail
        go_roundw
        case rel => exact ⟨k + 1, _, by go_num, rfl, by have := Hmk.out; omega, .inl (by omega), hown5, hb5'⟩
        case measure => simp [intOf]; omega
      | false =>
        rw [ht] at hh
        have Hh := Lib.hid hh
        have Hy := Lib.hid (allUpto_no s m k ht)
        clear hh ht
        go_wp2_with fail
        refine Hh.out.mono ?_
        rintro e w1 ⟨rfl, rfl⟩
        go_wp2_with fail
        go_roundw
        case rel => exact ⟨k + 1, _, by go_num, rfl, by have := Hmk.out; omega, .inl (by omega), by rw [Hy.out]; exact hown, hb⟩
        case measure => simp [intOf]; omega
    · have hfin : allUpto s m k = allUpto s m 64 := by
        rcases hk with h | h
        · rw [show k = 64 by omega]
        · rw [allUpto_start s m k (by omega), allUpto_start s m 64 (by omega)]
      rw [hfin] at hown
      clear hfin hk hmk
      have Hm := Lib.hid hm
      clear hm
      go_wp2_with fail
      go_ret
      exact ⟨_, rfl, hown, hb⟩

set_option maxHeartbeats 800000 in
theorem among_neg (s : Nat) (d : Int) (w : World) (hs : s < 18446744073709551616) (hd : d < 0) : Calls Tryz.prog 134 #[.func (.func 135) #[.int .u64 s] #[], .int .i64 d] w (ListOut w (allUpto s 0 64)) := by
  obtain ⟨m, hm⟩ : ∃ m : Nat, m = 0 := ⟨0, rfl⟩
  rw [← hm]
  go_enter Tryz.func134, Tryz.ntmps134
  go_wp2_with fail
  rw [show Value.int .i64 0 = .int .i64 (m : Int) by rw [hm]; rfl]
  go_loopw [5, 6] (fun v i wr => ∃ (k : Nat) (u : Value), i = .int .i64 k ∧ u = v ∧ m ≤ k ∧ (k ≤ 64 ∨ k = m) ∧ Own wr w.heap.size u (allUpto s m k) ∧ Below w.heap.size w wr) (fun _ i _ => 64 - (intOf i).toNat)
  case atStart => exact ⟨m, _, rfl, rfl, Nat.le_refl _, .inr rfl, by rw [allUpto_start s m m (Nat.le_refl _)]; exact Own.nil _ _, Below.refl _ _⟩
  case round =>
    obtain ⟨k, v, rfl, rfl, hmk, hk, hown, hb⟩ := hrel
    by_cases hlt : k < 64
    · have Hmk := Lib.hid hmk
      have Hm := Lib.hid hm
      clear hk hmk hm
      have hh := has_is s (k : Int) wr hs
      have hhb : hasB s (k : Int) = s.testBit k := by
        unfold hasB thereB
        rw [decide_eq_true (by omega), decide_eq_true (by omega)]
        simp
      rw [hhb] at hh
      clear hhb
      cases ht : s.testBit k with
      | true =>
        rw [ht] at hh
        have Hh := Lib.hid hh
        have Hy := Lib.hid (allUpto_yes s m k Hmk.out ht)
        have Hl := Lib.hid (allUpto_len s m k)
        clear hh ht
        go_wp2_with fail
        refine Hh.out.mono ?_
        rintro e w1 ⟨rfl, rfl⟩
        go_wp2_with (at_builtin; refine wpList_push rfl _ _ rfl wr w.heap.size v (allUpto s m k) (k : Int) rfl rfl hown (by have := Hl.out; omega) hb.size ?_)
        intro v' w5 hown5 g5 hb5
        rw [← Hy.out] at hown5
        have hb5' := hb.trans hb5
        clear g5 hb5 hown
        go_wp2_with fail
        go_roundw
        case rel => exact ⟨k + 1, _, by go_num, rfl, by have := Hmk.out; omega, .inl (by omega), hown5, hb5'⟩
        case measure => simp [intOf]; omega
      | false =>
        rw [ht] at hh
        have Hh := Lib.hid hh
        have Hy := Lib.hid (allUpto_no s m k ht)
        clear hh ht
        go_wp2_with fail
        refine Hh.out.mono ?_
        rintro e w1 ⟨rfl, rfl⟩
        go_wp2_with fail
        go_roundw
        case rel => exact ⟨k + 1, _, by go_num, rfl, by have := Hmk.out; omega, .inl (by omega), by rw [Hy.out]; exact hown, hb⟩
        case measure => simp [intOf]; omega
    · have hfin : allUpto s m k = allUpto s m 64 := by
        rcases hk with h | h
        · rw [show k = 64 by omega]
        · rw [allUpto_start s m k (by omega), allUpto_start s m 64 (by omega)]
      rw [hfin] at hown
      clear hfin hk hmk
      have Hm := Lib.hid hm
      clear hm
      go_wp2_with fail
      go_ret
      exact ⟨_, rfl, hown, hb⟩

set_option maxHeartbeats 800000 in
theorem among_is (s : Nat) (d : Int) (w : World) (hs : s < 18446744073709551616) : Calls Tryz.prog 134 #[.func (.func 135) #[.int .u64 s] #[], .int .i64 d] w (ListOut w (allUpto s d.toNat 64)) := by
  have H : ∃ m : Nat, d.toNat = m ∧ max d 0 = (m : Int) := ⟨d.toNat, rfl, by omega⟩
  obtain ⟨m, hm, hmx⟩ := H
  rw [hm]
  by_cases hd : d < 0
  · have hm0 : m = 0 := by omega
    subst hm0
    clear hmx hm
    exact among_neg s d w hs hd
  · have hdm : d = (m : Int) := by omega
    subst hdm
    clear hmx hm hd
    exact among_nat s m w hs

theorem all_is (s : Nat) (w : World) (hs : s < 18446744073709551616) : Calls Tryz.prog 128 #[.int .u64 s] w (ListOut w (allUpto s 0 64)) := by
  go_enter Tryz.func128, Tryz.ntmps128
  go_wp2_with fail
  refine (among_is s 0 w hs).mono ?_
  rintro e w1 ⟨v, rfl, hown, hb⟩
  go_wp2_with fail
  go_ret
  exact ⟨_, rfl, hown, hb⟩

set_option maxHeartbeats 800000 in
theorem refAll_is (s : Nat) (w : World) (hs : s < 18446744073709551616) : Calls Tryz.prog 56 #[.int .u64 s] w (ListOut w (allUpto s 0 64)) := by
  go_enter Tryz.func56, Tryz.ntmps56
  go_wp2_with fail
  refine (bits_is s w hs).mono ?_
  rintro e w1 ⟨g, c, rfl, hown1, hb1⟩
  obtain ⟨a, n1, c1, he, _, _, hcell⟩ := hown1.ints.open
  simp only [Value.slice.injEq] at he
  obtain ⟨rfl, rfl, rfl⟩ := he
  have hcell' : ∀ k, k < 64 → w1.cell? ⟨g, k, none⟩ = some (.int .i64 (bitI s k)) := fun k hk => by
    obtain ⟨b, o, he, hc⟩ := hcell k hk
    simp only [Option.some.injEq, Addr.mk.injEq, and_true] at he
    obtain ⟨rfl, rfl⟩ := he
    rw [nth_bits s k hk, Nat.zero_add] at hc
    exact hc
  have hgl : g < w1.heap.size := World.block_lt_of_cell? w1 _ (hcell' 0 (by decide))
  have Hcell := Lib.hid hcell'
  have Hb1 := Lib.hid hb1
  have hsz : w.heap.size ≤ w1.heap.size := hb1.size
  clear hcell hcell' hown1 hb1
  go_wp2_with fail
  go_loopw [3, 5] (fun v i wr => ∃ (k : Nat) (u : Value), i = .int .i64 k ∧ u = v ∧ k ≤ 64 ∧ Own wr w1.heap.size u (allUpto s 0 k) ∧ Below w1.heap.size w1 wr) (fun _ i _ => 64 - (intOf i).toNat)
  case atStart => exact ⟨0, _, rfl, rfl, by decide, Own.nil _ _, Below.refl _ _⟩
  case round =>
    obtain ⟨k, v, rfl, rfl, hk, hown, hb⟩ := hrel
    by_cases hlt : k < 64
    · have hc := cell_lt hb hgl (Hcell.out k hlt)
      have hbi := bitI_one s k
      obtain ⟨B, hB⟩ : ∃ B, B = bitI s k := ⟨_, rfl⟩
      rw [← hB] at hc hbi
      have hk0 : (0 : Int) ≤ (k : Int) := by omega
      clear hB hk
      cases ht : s.testBit k with
      | true =>
        rw [ht] at hbi
        have Hy := Lib.hid (allUpto_yes s 0 k (Nat.zero_le _) ht)
        have Hl := Lib.hid (allUpto_len s 0 k)
        clear ht
        go_wp2_with (at_builtin; refine wpList_push rfl _ _ rfl wr w1.heap.size v (allUpto s 0 k) (k : Int) rfl rfl hown (by have := Hl.out; omega) hb.size ?_)
        intro v' w5 hown5 g5 hb5
        rw [← Hy.out] at hown5
        have hb5' := hb.trans hb5
        clear g5 hb5 hown hbi hc
        go_wp2_with fail
        go_roundw
        case rel => exact ⟨k + 1, _, by go_num, rfl, by omega, hown5, hb5'⟩
        case measure => simp [intOf]; omega
      | false =>
        rw [ht] at hbi
        have Hy := Lib.hid (allUpto_no s 0 k ht)
        clear ht
        go_wp2_with fail
        go_roundw
        case rel => exact ⟨k + 1, _, by go_num, rfl, by omega, by rw [Hy.out]; exact hown, hb⟩
        case measure => simp [intOf]; omega
    · have hk64 : k = 64 := by omega
      subst hk64
      go_wp2_with fail
      go_ret
      exact ⟨_, rfl, hown.mono hsz, Hb1.out.trans (hb.mono hsz)⟩

/-- The first day of a set from m on; -1, where there is none. -/
def nextI (s : Nat) (d : Int) : Int := (allUpto s d.toNat 64).headD (-1)
theorem allUpto_filter (s : Nat) (d : Int) (n : Nat) : allUpto s d.toNat n = (allUpto s 0 n).filter fun x => decide (d ≤ x) := by
  unfold allUpto
  rw [List.filter_map, List.filter_filter]
  congr 1
  apply List.filter_congr
  intro k _
  have : decide (d.toNat ≤ k) = decide (d ≤ (k : Int)) := by rw [decide_eq_decide]; omega
  simp [Function.comp]
theorem next_found (xs : List Int) (d : Int) (k : Nat) (hk : k < xs.length) (h0 : (xs.take k).filter (fun x => decide (d ≤ x)) = []) (h1 : d ≤ nth xs k) : (xs.filter fun x => decide (d ≤ x)).headD (-1) = nth xs k := by
  conv => lhs; rw [← List.take_append_drop k xs, List.filter_append, h0]
  rw [List.nil_append, List.drop_eq_getElem_cons hk, ← nth_lt hk, List.filter_cons, if_pos (by simpa using h1)]
  rfl
theorem next_more (xs : List Int) (d : Int) (k : Nat) (hk : k < xs.length) (h0 : (xs.take k).filter (fun x => decide (d ≤ x)) = []) (h1 : ¬ d ≤ nth xs k) : (xs.take (k + 1)).filter (fun x => decide (d ≤ x)) = [] := by
  rw [take_succ_nth xs k hk, List.filter_append, h0]
  simp; omega

set_option maxHeartbeats 800000 in
theorem refNext_is (s : Nat) (d : Int) (w : World) (hs : s < 18446744073709551616) : Calls Tryz.prog 93 #[.int .u64 s, .int .i64 d] w fun e w' => e = .returned (.int .i64 (nextI s d)) ∧ Below w.heap.size w w' := by
  have Hn : Hid (nextI s d = ((allUpto s 0 64).filter fun x => decide (d ≤ x)).headD (-1)) := Lib.hid (by unfold nextI; rw [allUpto_filter])
  go_enter Tryz.func93, Tryz.ntmps93
  go_wp2_with fail
  refine (refAll_is s w hs).mono ?_
  rintro e w1 ⟨v, rfl, hown1, hb1⟩
  obtain ⟨a, n, c, rfl, hn, hmax, hcell⟩ := hown1.ints.open
  have Hcell := Lib.hid hcell
  have Hl := Lib.hid hn
  clear hcell hn hown1
  go_wp2_with fail
  go_loop [6] (fun i => ∃ (k : Nat), i = .int .i64 k ∧ k ≤ n ∧ ((allUpto s 0 64).take k).filter (fun x => decide (d ≤ x)) = []) (fun i => n - (intOf i).toNat)
  case atStart => exact ⟨0, rfl, Nat.zero_le _, rfl⟩
  case round =>
    obtain ⟨k, rfl, hk, h0⟩ := hrel
    by_cases hlt : k < n
    · obtain ⟨b, o, rfl, hc⟩ := Hcell.out k hlt
      have hk0 : (0 : Int) ≤ (k : Int) := by omega
      have hk1 : (k : Int) < (n : Int) := by omega
      by_cases hd : d ≤ nth (allUpto s 0 64) k
      · have Hf := Lib.hid (next_found _ d k (by rw [Hl.out]; exact hlt) h0 hd)
        have hd' : decide (d ≤ nth (allUpto s 0 64) k) = true := by simpa using hd
        clear h0 hd
        go_wp2_with fail
        go_ret
        rw [Hn.out, Hf.out]
        exact ⟨rfl, hb1⟩
      · have Hf := Lib.hid (next_more _ d k (by rw [Hl.out]; exact hlt) h0 hd)
        have hd' : decide (d ≤ nth (allUpto s 0 64) k) = false := by simpa using hd
        clear h0 hd
        go_wp2_with fail
        go_round
        case rel => exact ⟨k + 1, by go_num, by omega, Hf.out⟩
        case measure => simp [intOf]; omega
    · have hkn : k = n := by omega
      subst hkn
      rw [List.take_of_length_le (by rw [Hl.out]; exact Nat.le_refl _)] at h0
      have Hf := Lib.hid h0
      clear h0
      go_wp2_with fail
      go_ret
      rw [Hn.out, Hf.out]
      exact ⟨rfl, hb1⟩

/-- The set of days. -/
def ofUpto (xs : List Int) (k : Nat) : Nat := (xs.take k).foldl withN 0
theorem ofUpto_succ (xs : List Int) (k : Nat) (h : k < xs.length) : ofUpto xs (k + 1) = withN (ofUpto xs k) (nth xs k) := by
  unfold ofUpto
  rw [take_succ_nth xs k h, List.foldl_append]
  rfl
theorem foldl_with_lt (xs : List Int) : ∀ s, s < 18446744073709551616 → xs.foldl withN s < 18446744073709551616 := by
  induction xs with
  | nil => intro s h; exact h
  | cons x xs ih => intro s h; exact ih _ (with_lt x h)
theorem ofUpto_lt (xs : List Int) (k : Nat) : ofUpto xs k < 18446744073709551616 := foldl_with_lt _ _ (by decide)
end

section
open Go.RowKit
set_option linter.unusedVariables false
set_option maxRecDepth 100000

theorem test_over {s k : Nat} (hs : s < 18446744073709551616) (hk : 64 ≤ k) : s.testBit k = false :=
  Nat.testBit_lt_two_pow (Nat.lt_of_lt_of_le (show s < 2 ^ 64 by simpa using hs) (Nat.pow_le_pow_right (by decide) hk))
theorem set_ext {s t : Nat} (hs : s < 18446744073709551616) (ht : t < 18446744073709551616) (h : ∀ k, k < 64 → s.testBit k = t.testBit k) : s = t := by
  apply Nat.eq_of_testBit_eq
  intro k
  by_cases hk : k < 64
  · exact h k hk
  · rw [test_over hs (by omega), test_over ht (by omega)]
theorem test_with' (s : Nat) (d : Int) (k : Nat) (hk : k < 64) : (withN s d).testBit k = (s.testBit k || decide (d = (k : Int))) := by
  cases ht : thereB d with
  | true =>
    obtain ⟨h0, h1⟩ := there_yes ht
    obtain ⟨n, rfl⟩ := Int.eq_ofNat_of_zero_le h0
    rw [test_with s n k (by omega)]
    congr 1
    rw [decide_eq_decide]
    omega
  | false =>
    have := there_no ht
    unfold withN
    rw [ht, if_neg (by simp), decide_eq_false (by omega), Bool.or_false]
theorem test_without' (s : Nat) (d : Int) (k : Nat) (hs : s < 18446744073709551616) (hk : k < 64) : (withoutN s d).testBit k = (s.testBit k && !decide (d = (k : Int))) := by
  cases ht : thereB d with
  | true =>
    obtain ⟨h0, h1⟩ := there_yes ht
    obtain ⟨n, rfl⟩ := Int.eq_ofNat_of_zero_le h0
    rw [test_without s n k hs (by omega)]
    congr 2
    rw [decide_eq_decide]
    omega
  | false =>
    have := there_no ht
    unfold withoutN
    rw [ht, if_neg (by simp), decide_eq_false (by omega)]
    simp
theorem has_test (s : Nat) (d : Int) (n : Nat) (hd : d = (n : Int)) (hn : n < 64) : hasB s d = s.testBit n := by
  subst hd
  unfold hasB thereB
  rw [decide_eq_true (by omega), decide_eq_true (by omega)]
  simp
end

end Go.Proofs.YtnhcgpkcmfelkaaGreat
