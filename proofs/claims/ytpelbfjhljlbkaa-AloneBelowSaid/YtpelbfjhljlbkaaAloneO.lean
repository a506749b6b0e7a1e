/-
  My own work: tranterlaw11.lives: its contract.
-/
import Derived.Test.YtpelbfjhljlbkaaAloneN
namespace Go.Proofs.Ytpelbfjhljlbkaa
open Go.RowKit
set_option linter.unusedVariables false
set_option maxRecDepth 100000
attribute [local go_sem ↓] Go.wp_at_zero Go.wp_at_succ

theorem live_stp : stp 3 6 2 0 9 [9, 1, 9] 3 3 = some (1, 1) := by decide +kernel
theorem live_fill : ∀ S, S < 8 → OkTo 3 6 2 9 S 3 → costS 3 6 2 0 [9, 1, 9] S 3 = 1 → visitsOf (fillQ 3 6 2 S 3) = [(1, 5)] := by decide +kernel
theorem live_cost : costV 2 3 2 6 0 [9, 1, 9] [(1, 5)] 3 = 1 := by decide +kernel
theorem live_price : ∀ d, 0 ≤ priceAt [9, 1, 9] d ∧ priceAt [9, 1, 9] d ≤ 1000 := priceAt_bd (by decide)
theorem live_tank : TankOk 3 2 6 1 0 := ⟨by decide, by decide, by decide, by decide, by decide, by decide, by decide, by decide, by decide⟩

theorem ints_new (w : World) (xs : List Int) (h : xs.length ≤ 9223372036854775807) : Ints (w.alloc (.cells (xs.map (Value.int .i64)).toArray 3)) (.slice (some ⟨w.heap.size, 0, none⟩) xs.length xs.length) xs :=
  ints_of (Lies.new w _ _) h

set_option maxHeartbeats 1600000 in
theorem lives11_is (w : World) : Calls Try.prog 14 #[] w fun e w' => e = .returned (.bool true) ∧ Below w.heap.size w w' := by
  obtain ⟨w1, ew, hb1, hsz1, hcu⟩ := box_cust w 2 0 (.slice none 0 0) 2 6 3 1 0
  obtain ⟨w2, ew2⟩ : ∃ w2, w1.alloc (.cells #[.int .i64 9, .int .i64 1, .int .i64 9] 3) = w2 := ⟨_, rfl⟩
  have hb2 : Below w1.heap.size w1 w2 := by rw [← ew2]; exact belAlloc _ _
  have hI2 : Ints w2 (.slice (some ⟨w1.heap.size, 0, none⟩) 3 3) [9, 1, 9] := by rw [← ew2]; exact ints_new w1 [9, 1, 9] (by decide)
  have HS := Lib.hid (solveF_is 0 (.slice none 0 0) (.slice (some ⟨w1.heap.size, 0, none⟩) 3 3) 2 6 3 0 9 3 [9, 1, 9] w2 live_tank (by decide) hI2 live_price)
  have HI2 := Lib.hid hI2
  have Hew := Lib.hid ew
  have Hew2 := Lib.hid ew2
  obtain ⟨c0, c1, c2, c3, c4, c5, c6, c7⟩ := hcu
  have Hb2 := Lib.hid (bel2 hb1 hb2)
  obtain ⟨d0, d1, d2, d3, d4, d5, d6, d7⟩ : IsCust w2 w.heap.size 2 0 (.slice none 0 0) 2 6 3 1 0 := IsCust.below ⟨c0, c1, c2, c3, c4, c5, c6, c7⟩ hb2
  have hsz2 : w.heap.size ≤ w2.heap.size := Hb2.out.size
  clear ew ew2 hI2 hb2 hsz1
  go_enter Try.func14, Try.ntmps14
  go_upto_region 2 with (fail)
  rw [Hew.out]
  go_wp2_with fail
  rw [Hew2.out]
  refine HS.out.mono ?_
  rintro e w3 h
  rcases h with ⟨hst, _⟩ | ⟨s, S, hst, hbit, hok, hcost, v, rfl, hown, hb3⟩
  · rw [live_stp] at hst; simp at hst
  · rw [live_stp] at hst
    simp only [Option.some.injEq] at hst
    subst hst
    have hS8 : S < 8 := Nat.lt_pow_two_of_testBit (n := 3) S hbit
    rw [live_fill S hS8 hok hcost] at hown
    have hv := hown.vis
    obtain ⟨a, n, c, rfl, hn, _, hc⟩ := hv.open
    have hn1 : n = 1 := hn.symm
    subst hn1
    obtain ⟨b, o, rfl, f0, f1⟩ := hc 0 (by decide)
    rw [Nat.zero_mul, Nat.add_zero] at f0 f1
    have f0 : w3.cell? ⟨b, o, none⟩ = some (.int .i64 1) := f0
    have f1 : w3.cell? ⟨b, o + 1, none⟩ = some (.int .i64 5) := f1
    obtain ⟨e0, e1, e2, e3, e4, e5, e6, e7⟩ : IsCust w3 w.heap.size 2 0 (.slice none 0 0) 2 6 3 1 0 := IsCust.below ⟨d0, d1, d2, d3, d4, d5, d6, d7⟩ hb3
    obtain ⟨w4, ew4⟩ : ∃ w4, w3.alloc (.cells #[.int .i64 9, .int .i64 1, .int .i64 9] 3) = w4 := ⟨_, rfl⟩
    have hb4 : Below w3.heap.size w3 w4 := by rw [← ew4]; exact belAlloc _ _
    have hI4 : Ints w4 (.slice (some ⟨w3.heap.size, 0, none⟩) 3 3) [9, 1, 9] := by rw [← ew4]; exact ints_new w3 [9, 1, 9] (by decide)
    have hC := cost_is 2 0 (.slice none 0 0) (.slice (some ⟨w3.heap.size, 0, none⟩) 3 3) (.slice (some ⟨b, o, none⟩) 1 c) 2 6 3 1 0 3 [9, 1, 9] [(1, 5)] w4 (.inr ⟨rfl, live_tank⟩) (by decide) hI4 live_price (hv.below hb4) (by decide) (by decide)
    rw [live_cost] at hC
    have HC := Lib.hid hC
    have Hew4 := Lib.hid ew4
    have Hb4 := Lib.hid ((Hb2.out.trans (hb3.mono hsz2)).trans (hb4.mono (Nat.le_trans hsz2 hb3.size)))
    have hsz4 : w.heap.size ≤ w4.heap.size := Hb4.out.size
    clear hC ew4 hb4 hI4 hv hc hb3 hown hn hcost hok hbit
    go_wp2_with fail
    rw [Hew4.out]
    refine HC.out.mono ?_
    rintro e w5 ⟨rfl, hb5⟩
    have Hb5 := Lib.hid (Hb4.out.trans (hb5.mono hsz4))
    clear hb5
    go_wp2_with fail
    go_ret
    exact ⟨rfl, Hb5.out⟩
end Go.Proofs.Ytpelbfjhljlbkaa
