/-
  My own work: tranterref02.Bits, Number, Has, Put: their contracts.
-/
import Derived.Test.YthilfibgpobcjaaDaysPl
namespace Go.Proofs.Ythilfibgpobcjaa
open Go.RowKit
set_option linter.unusedVariables false

theorem own_zeros (w' : World) (B g N : Nat) (h : w'.ownsRow B 3 1 (.slice (some ⟨g, 0, none⟩) N N) N (madeCells #[Value.int .i64 0] N).toList) : Own w' B (.slice (some ⟨g, 0, none⟩) N N) (List.replicate N 0) := by
  unfold Own
  rw [List.length_replicate]
  rw [toList_madeCells_one] at h
  rw [List.map_replicate]
  exact h

/-- A slice of the call's own of a known length. -/
theorem made_ints (w : World) (N : Nat) (hN : N ≤ 65536) : ∃ w4, (Instr.makeSlice 26 (.int .i64 (N : Int)) (.int .i64 (N : Int))).run Try.prog w = .ok (.slice (some ⟨w.heap.size, 0, none⟩) N N) w4 ∧
    Own w4 w.heap.size (.slice (some ⟨w.heap.size, 0, none⟩) N N) (List.replicate N 0) ∧ Below w.heap.size w w4 := by
  obtain ⟨ii, hi, hz, hsi, hby⟩ := info_parts info_int
  obtain ⟨w4, hmk, hown0, hg4⟩ := run_make_full (P := Try.prog) w w.heap.size 26 3 ii (.int .i64 0) 1 Try.underlying26 hi hz hsi .i64 .i64 N (by rw [hby]; omega) (by simp only [maxLen]; omega) (Nat.le_refl _)
  refine ⟨w4, hmk, own_zeros _ _ _ _ ?_, (Below.refl w.heap.size w).grown hg4 (Nat.le_refl _) (by simp)⟩
  rw [Nat.mul_one] at hown0
  exact hown0

/-- What Bits answers. -/
def BitsOut (w : World) (s : Nat) (e : Ending) (w' : World) : Prop := ∃ g c, e = .returned (.slice (some ⟨g, 0, none⟩) 64 c) ∧ Own w' w.heap.size (.slice (some ⟨g, 0, none⟩) 64 c) (bitsOf s) ∧ Below w.heap.size w w'

set_option maxRecDepth 100000 in
set_option maxHeartbeats 800000 in
theorem bits_is (s : Nat) (w : World) (hs : s < 18446744073709551616) : Calls Try.prog 68 #[.int .u64 s] w (BitsOut w s) := by
  obtain ⟨w1, hmk, hown, hb1⟩ := made_ints w 64 (by decide)
  rw [show ((64 : Nat) : Int) = 64 from rfl] at hmk
  have Hmk := Lib.hid hmk
  have Hown := Lib.hid hown
  have Hs : Hid (s / 2 ^ 0 = s) := Lib.hid (by simp)
  clear hmk hown
  go_enter Try.func68, Try.ntmps68
  go_wp2_with fail
  rw [Hmk.out]
  go_wp2_with fail
  generalize eg : w.heap.size = g at *
  have Heg := Lib.hid eg
  clear eg
  go_loopw [0, 4] (fun x i wr => ∃ d S : Nat, d ≤ 64 ∧ i = .int .i64 d ∧ x = .int .u64 (S : Int) ∧ S = s / 2 ^ d ∧ Own wr g (.slice (some ⟨g, 0, none⟩) 64 64) (bitsUpto s d) ∧ Below g w wr) (fun _ i _ => 64 - (intOf i).toNat)
  case atStart => exact ⟨0, s, Nat.zero_le _, rfl, rfl, Hs.out.symm, by rw [bitsUpto_zero]; exact Hown.out, hb1⟩
  case round =>
    obtain ⟨d, S, hd, rfl, rfl, hSe, hown, hb⟩ := hrel
    by_cases hlt : d < 64
    · obtain ⟨g2, c2, he, _, _, _, hcells⟩ := hown.out (by rw [bitsUpto_len]; decide)
      simp only [Value.slice.injEq, Option.some.injEq, Addr.mk.injEq, and_true] at he
      obtain ⟨rfl, hn2, hc2⟩ := he
      clear hn2 hc2
      obtain ⟨hO, hF⟩ := hcells d (by rw [bitsUpto_len]; exact hlt)
      rw [Nat.zero_add] at hO hF
      have hset := hown.set d (bitI s d) (by rw [bitsUpto_len]; exact hlt)
      rw [bitsUpto_succ s d hlt, Nat.zero_add] at hset
      have hS : S < 18446744073709551616 := by rw [hSe]; exact Nat.lt_of_le_of_lt (Nat.div_le_self _ _) hs
      have Hh : Hid (S / 2 = s / 2 ^ (d + 1)) := Lib.hid (by rw [hSe]; exact half_step s d)
      have Hset : Hid (Own (wr.setCell ⟨g, d, none⟩ (.int .i64 (S % 2))) g (.slice (some ⟨g, 0, none⟩) 64 64) (bitsUpto s (d + 1))) := Lib.hid (by
        have : ((S : Int) % 2) = bitI s d := by unfold bitI; rw [hSe]; omega
        rw [this]; exact hset)
      have w1 : wrap64 ((S : Int) % 2) = (S : Int) % 2 := wrap_id (by omega) (by omega)
      clear hcells hown hset hSe hs
      go_wp2_with fail
      go_roundw
      case rel => exact ⟨d + 1, S / 2, by omega, by go_num, by go_num, Hh.out, Hset.out, hb.setCell (Nat.le_refl _) _⟩
      case measure => simp [intOf]; omega
    · have hd64 : d = 64 := by omega
      subst hd64
      rw [bitsUpto_all] at hown
      clear hSe
      go_wp2_with fail
      go_ret
      exact ⟨g, 64, rfl, by rw [Heg.out]; exact hown, by rw [Heg.out]; exact hb⟩

set_option maxHeartbeats 800000 in
theorem number_is (v : Value) (s : Nat) (w : World) (hs : s < 18446744073709551616) (hv : Ints w v (bitsOf s)) : Calls Try.prog 69 #[v] w fun e w' => e = .returned (.int .u64 s) ∧ w = w' := by
  obtain ⟨a, n, c, rfl, hn, hmax, hcell⟩ := hv.open
  rw [bitsOf_len] at hn
  subst hn
  have Hcell := Lib.hid hcell
  have Hs : Hid (s / 2 ^ 64 = 0) := Lib.hid (Nat.div_eq_of_lt (by simpa using hs))
  have Hs0 : Hid (s / 2 ^ 0 = s) := Lib.hid (by simp)
  clear hcell hv
  go_enter Try.func69, Try.ntmps69
  go_wp2_with fail
  go_loop [3, 4] (fun x i => ∃ d S : Nat, d ≤ 64 ∧ i = .int .i64 ((d : Int) - 1) ∧ x = .int .u64 (S : Int) ∧ S = s / 2 ^ d) (fun _ i => (intOf i + 1).toNat)
  case atStart => exact ⟨64, 0, Nat.le_refl _, rfl, rfl, Hs.out.symm⟩
  case round =>
    obtain ⟨d, S, hd, rfl, rfl, hSe⟩ := hrel
    by_cases h1 : 1 ≤ d
    · obtain ⟨i, rfl⟩ : ∃ i, d = i + 1 := ⟨d - 1, by omega⟩
      rw [show ((i + 1 : Nat) : Int) - 1 = (i : Int) by omega]
      obtain ⟨b, o, rfl, hc⟩ := Hcell.out i (by omega)
      rw [nth_bits s i (by omega)] at hc
      have hb := bitI_bd s i
      obtain ⟨B, hB⟩ : ∃ B, B = bitI s i := ⟨_, rfl⟩
      have hT : 2 * S + (s / 2 ^ i % 2) = s / 2 ^ i := by rw [hSe]; exact number_step s i
      have hB2 : (B : Int) = ((s / 2 ^ i % 2 : Nat) : Int) := by rw [hB]; rfl
      have hlt : s / 2 ^ i < 18446744073709551616 := Nat.lt_of_le_of_lt (Nat.div_le_self _ _) hs
      rw [← hB] at hc hb
      obtain ⟨T, hTe⟩ : ∃ T, T = s / 2 ^ i := ⟨_, rfl⟩
      rw [← hTe] at hT hB2 hlt
      have HT : Hid (T = s / 2 ^ i) := Lib.hid hTe
      have HS2 : Hid (2 * (S : Int) + B = (T : Int)) := Lib.hid (by omega)
      have hS : S < 9223372036854775808 := by omega
      obtain ⟨hb0, hb1⟩ := hb
      have hi0 : (0 : Int) ≤ (i : Int) := by omega
      have hi1 : (i : Int) < 64 := by omega
      clear hTe hT hB2 hSe hB hs hlt
      go_wp2_with fail
      go_round
      case rel => exact ⟨i, T, by omega, by go_num, by rw [HS2.out], HT.out⟩
      case measure => simp [intOf]
    · have hd0 : d = 0 := by omega
      subst hd0
      have hS : S = s := by rw [hSe]; simp
      subst hS
      clear hSe h1
      go_wp2_with fail
      go_ret
      exact ⟨rfl, rfl⟩

theorem refHas_is (s : Nat) (d : Int) (w : World) (hs : s < 18446744073709551616) : Calls Try.prog 62 #[.int .u64 s, .int .i64 d] w fun e w' => e = .returned (.bool (hasB s d)) ∧ Below w.heap.size w w' := by
  cases ht : thereB d with
  | false =>
    have Hh : Hid (hasB s d = false) := Lib.hid (by unfold hasB; rw [ht]; rfl)
    rcases there_no ht with h | h
    all_goals
      have h1 : ¬ 0 ≤ d ∨ 63 < d := by omega
      clear ht h1
    · have h2 : decide (d < 0) = true := by simpa using h
      clear h
      go_enter Try.func62, Try.ntmps62
      go_wp2_with fail
      go_ret
      rw [Hh.out]
      exact ⟨rfl, Below.refl _ _⟩
    · have h2 : decide (d < 0) = false := by simp; omega
      have h3 : decide (63 < d) = true := by simp; omega
      clear h
      go_enter Try.func62, Try.ntmps62
      go_wp2_with fail
      go_ret
      rw [Hh.out]
      exact ⟨rfl, Below.refl _ _⟩
  | true =>
    obtain ⟨hd0, hd1⟩ := there_yes ht
    obtain ⟨n, rfl⟩ := Int.eq_ofNat_of_zero_le hd0
    have Hb : Hid ((bitI s n == 1) = hasB s (n : Int)) := Lib.hid (by rw [bitI_one]; unfold hasB; rw [ht]; simp)
    have h2 : decide ((n : Int) < 0) = false := by simp
    have h3 : decide (63 < (n : Int)) = false := by simp; omega
    clear ht
    go_enter Try.func62, Try.ntmps62
    go_wp2_with fail
    refine (bits_is s w hs).mono ?_
    rintro e w1 ⟨g, c, rfl, hown, hb1⟩
    obtain ⟨a, n1, c1, he, _, _, hcell⟩ := hown.ints.open
    simp only [Value.slice.injEq] at he
    obtain ⟨rfl, rfl, rfl⟩ := he
    obtain ⟨b, o, he, hc⟩ := hcell n (by omega)
    simp only [Option.some.injEq, Addr.mk.injEq, and_true] at he
    obtain ⟨rfl, rfl⟩ := he
    rw [nth_bits s n (by omega), Nat.zero_add] at hc
    clear hcell hown
    go_wp2_with fail
    go_ret
    exact ⟨ret_bool Hb.out, hb1⟩

/-- A set with a day put, or taken out. -/
def putN (s : Nat) (d bit : Int) : Nat := if bit = 1 then withN s d else withoutN s d
theorem put_lt {s : Nat} (d bit : Int) (hs : s < 18446744073709551616) : putN s d bit < 18446744073709551616 := by
  unfold putN
  split
  · exact with_lt d hs
  · exact without_lt d hs

set_option maxHeartbeats 400000 in
theorem put_is (s : Nat) (d bit : Int) (w : World) (hs : s < 18446744073709551616) (hbit : bit = 0 ∨ bit = 1) : Calls Try.prog 63 #[.int .u64 s, .int .i64 d, .int .i64 bit] w fun e w' => e = .returned (.int .u64 (putN s d bit)) ∧ Below w.heap.size w w' := by
  cases ht : thereB d with
  | false =>
    have Hh : Hid (putN s d bit = s) := Lib.hid (by unfold putN withN withoutN; rw [ht]; simp)
    rcases there_no ht with h | h
    all_goals clear ht
    · have h2 : decide (d < 0) = true := by simpa using h
      clear h
      go_enter Try.func63, Try.ntmps63
      go_wp2_with fail
      go_ret
      rw [Hh.out]
      exact ⟨rfl, Below.refl _ _⟩
    · have h2 : decide (d < 0) = false := by simp; omega
      have h3 : decide (63 < d) = true := by simp; omega
      clear h
      go_enter Try.func63, Try.ntmps63
      go_wp2_with fail
      go_ret
      rw [Hh.out]
      exact ⟨rfl, Below.refl _ _⟩
  | true =>
    obtain ⟨hd0, hd1⟩ := there_yes ht
    obtain ⟨n, rfl⟩ := Int.eq_ofNat_of_zero_le hd0
    have Hset : Hid ((bitsOf s).set n bit = bitsOf (putN s (n : Int) bit)) := Lib.hid (by
      unfold putN
      rcases hbit with rfl | rfl
      · exact bits_put0 s n hs (by omega)
      · exact bits_put1 s n (by omega))
    have h2 : decide ((n : Int) < 0) = false := by simp
    have h3 : decide (63 < (n : Int)) = false := by simp; omega
    have Hp := Lib.hid (put_lt (n : Int) bit hs)
    clear ht hbit
    go_enter Try.func63, Try.ntmps63
    go_wp2_with fail
    refine (bits_is s w hs).mono ?_
    rintro e w1 ⟨g, c, rfl, hown, hb1⟩
    obtain ⟨g2, c2, he, hgB, _, _, hcells⟩ := hown.out (by rw [bitsOf_len]; decide)
    simp only [Value.slice.injEq, Option.some.injEq, Addr.mk.injEq, and_true] at he
    obtain ⟨rfl, hn2, rfl⟩ := he
    clear hn2
    obtain ⟨hO, hF⟩ := hcells n (by rw [bitsOf_len]; omega)
    rw [Nat.zero_add] at hO hF
    have hset := hown.set n bit (by rw [bitsOf_len]; omega)
    rw [Hset.out, Nat.zero_add] at hset
    have HI := Lib.hid hset.ints
    have Hb2 := Lib.hid (hb1.setCell (p := ⟨g, n, none⟩) hgB (.int .i64 bit))
    clear hcells hown hset hb1
    go_wp2_with fail
    refine (number_is _ _ _ Hp.out HI.out).mono ?_
    rintro e w2 ⟨rfl, rfl⟩
    go_wp2_with fail
    go_ret
    exact ⟨rfl, Hb2.out⟩
end Go.Proofs.Ythilfibgpobcjaa
