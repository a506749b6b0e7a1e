/-
  My own work: tranterref10.Way, policy.Can, lives of layer 10: their contracts.
-/
import Derived.Test.YthilfibgpobcjaaPolicyC
namespace Go.Proofs.Ythilfibgpobcjaa
open Go.RowKit
set_option linter.unusedVariables false

def canB (st sz ru rt cap : Int) (n : Nat) : Bool := if ru = 1 then fillsB st sz 1 rt cap n else holdsE st rt sz ru (wayQ false sz ru rt cap st n) == 0

set_option maxHeartbeats 800000 in
theorem can_is (kd dm : Int) (pt : Value) (rt sz st ru hd : Int) (n : Nat) (cap : Int) (w : World) (hs0 : 0 ≤ sz) (hs1 : sz ≤ 1000000) (hst0 : 0 ≤ st) (hst1 : st ≤ 1000000) (hrt0 : 0 ≤ rt) (hrt1 : rt ≤ 1000000) (hn : n ≤ 64) :
    Calls Try.prog 42 #[.agg #[.int .i64 kd, .int .i64 dm, pt, .int .i64 rt, .int .i64 sz, .int .i64 st, .int .i64 ru, .int .i64 hd], .int .i64 n, .int .i64 cap] w fun e w' => e = .returned (.bool (canB st sz ru rt cap n)) ∧ Below w.heap.size w w' := by
  obtain ⟨w1, ew, hb1, hsz1, hcu⟩ := box_cust w kd dm pt rt sz st ru hd
  have Hew := Lib.hid ew
  obtain ⟨c0, c1, c2, c3, c4, c5, c6, c7⟩ := hcu
  have hl0 : w.heap.size < w1.heap.size := World.block_lt_of_cell? w1 _ c0
  have hn64 : (n : Int) ≤ 64 := by omega
  have hn64' : ¬ (64 : Int) < (n : Int) := by omega
  have hmin : min (n : Int) 64 = (n : Int) := by omega
  have Hb1 := Lib.hid hb1
  clear ew hsz1 hb1
  by_cases hr : ru = 1
  · subst hr
    have hc : Hid (canB st sz 1 rt cap n = fillsB st sz 1 rt cap n) := Lib.hid (by unfold canB; rw [if_pos rfl])
    go_enter Try.func42, Try.ntmps42
    go_wp2_with fail
    rw [Hew.out]
    go_wp2_with fail
    refine (fills_is kd dm pt rt sz st 1 hd n cap w1 hs0 hs1 hst0 hst1 hrt0 hrt1 hn).mono ?_
    rintro e w2 ⟨rfl, hb2⟩
    have b2 := Hb1.out.trans (hb2.mono Hb1.out.size)
    clear hb2 c0 c1 c2 c3 c4 c5 c6 c7
    go_wp2_with fail
    go_ret
    exact ⟨ret_bool hc.out.symm, b2⟩
  · have hc : Hid (canB st sz ru rt cap n = (holdsE st rt sz ru (wayQ false sz ru rt cap st n) == 0)) := Lib.hid (by unfold canB; rw [if_neg hr])
    have hr' : (ru == 1) = false := by simpa using hr
    clear hr
    go_enter Try.func42, Try.ntmps42
    go_wp2_with fail
    rw [Hew.out]
    go_wp2_with fail
    refine (daily_is kd dm pt rt sz st ru hd n cap w1 hs0 hs1 hst0 hst1 hrt0 hrt1 (by omega)).mono ?_
    rintro e w2 ⟨v, rfl, hown, hb2⟩
    rw [← hc.out]
    have b2 := Hb1.out.trans (hb2.mono Hb1.out.size)
    clear hb2 hown c0 c1 c2 c3 c4 c5 c6 c7
    go_wp2_with fail
    go_ret
    exact ⟨rfl, b2⟩

theorem live_late : wayQ true 6 1 2 9 3 3 = [0, 5, 0] := by decide +kernel
theorem live_holds : (holdsE 3 2 6 1 [0, 5, 0] == 0) = true := by decide +kernel
theorem live_can : canB 3 6 1 2 9 3 = true := by decide +kernel

set_option maxHeartbeats 800000 in
theorem lives10_is (w : World) : Calls Try.prog 36 #[] w fun e w' => e = .returned (.bool true) ∧ Below w.heap.size w w' := by
  obtain ⟨w1, ew, hb1, hsz1, hcu⟩ := box_cust w 2 0 (.slice none 0 0) 2 6 3 1 0
  have Hew := Lib.hid ew
  have Hcu := Lib.hid hcu
  obtain ⟨c0, c1, c2, c3, c4, c5, c6, c7⟩ := hcu
  have hl0 : w.heap.size < w1.heap.size := World.block_lt_of_cell? w1 _ c0
  have Hb1 := Lib.hid hb1
  clear ew hsz1 hb1
  go_enter Try.func36, Try.ntmps36
  go_wp2_with fail
  (try rw [Hew.out])
  (try go_wp2_with fail)
  refine (late_is 2 0 (.slice none 0 0) 2 6 3 1 0 3 9 w1 (by decide) (by decide) (by decide) (by decide) (by decide) (by decide) (by decide)).mono ?_
  rintro e w2 ⟨v, rfl, hown, hb2⟩
  rw [live_late] at hown ⊢
  rw [live_holds]
  obtain ⟨a, m, c, rfl, hm, _, hcell⟩ := hown.ints.open
  have hm3 : m = 3 := hm.symm
  subst hm3
  obtain ⟨b, o, rfl, e0⟩ := hcell 0 (by decide)
  obtain ⟨_, _, he, e1⟩ := hcell 1 (by decide)
  simp only [Option.some.injEq, Addr.mk.injEq, and_true] at he
  obtain ⟨rfl, rfl⟩ := he
  obtain ⟨_, _, he, e2⟩ := hcell 2 (by decide)
  simp only [Option.some.injEq, Addr.mk.injEq, and_true] at he
  obtain ⟨rfl, rfl⟩ := he
  rw [show nth [0, 5, 0] 0 = 0 from rfl, Nat.add_zero] at e0
  rw [show nth [0, 5, 0] 1 = 5 from rfl] at e1
  rw [show nth [0, 5, 0] 2 = 0 from rfl] at e2
  have Hb2 := Lib.hid (Hb1.out.trans (hb2.mono Hb1.out.size))
  have hcu2 := Hcu.out.below hb2
  clear c0 c1 c2 c3 c4 c5 c6 c7 hb2 hown hcell hm
  obtain ⟨c0, c1, c2, c3, c4, c5, c6, c7⟩ := hcu2
  go_wp2_with fail
  refine (can_is 2 0 (.slice none 0 0) 2 6 3 1 0 3 9 w2 (by decide) (by decide) (by decide) (by decide) (by decide) (by decide) (by decide)).mono ?_
  rintro e w3 ⟨rfl, hb3⟩
  rw [live_can]
  have b3 := Hb2.out.trans (hb3.mono Hb2.out.size)
  clear hb3
  go_wp2_with fail
  go_ret
  exact ⟨rfl, b3⟩

theorem round10_is (n m : Int) (w : World) (hn : (Lit.int .i64 n).wf = true) (hm0 : 1 ≤ m) (hm : m ≤ 1099511627776) :
    Calls Try.prog 33 #[.int .i64 n, .int .i64 m] w fun e w' => e = .returned (.int .i64 (rnd n 1 m)) ∧ w = w' := by
  by_cases h : n < 0
  · obtain ⟨hw1, hw2⟩ := wf_i64 hn
    have h' : decide (n < 0) = true := by simpa using h
    have hr : Hid (1 + (-(n + 1)) % m = rnd n 1 m) := Lib.hid (by unfold rnd; rw [if_pos h, show m - 1 + 1 = m by omega])
    have hb0 : 0 ≤ (-(n + 1)) % m := Int.emod_nonneg _ (by omega)
    have hb1 : (-(n + 1)) % m < m := Int.emod_lt_of_pos _ (by omega)
    obtain ⟨K, hK⟩ : ∃ K, K = -(n + 1) := ⟨_, rfl⟩
    rw [← hK] at hb0 hb1 hr
    have hK' : -(n + 1) = K := hK.symm
    have hK0 : 0 ≤ K := by omega
    clear h hK hn
    go_enter Try.func33, Try.ntmps33
    go_wp2_with fail
    go_ret
    exact ⟨ret_int hr.out, rfl⟩
  · have h' : decide (n < 0) = false := by simpa using h
    have hr : Hid (1 + n % m = rnd n 1 m) := Lib.hid (by unfold rnd; rw [if_neg h, show m - 1 + 1 = m by omega])
    have hb0 : 0 ≤ n % m := Int.emod_nonneg _ (by omega)
    have hb1 : n % m < m := Int.emod_lt_of_pos _ (by omega)
    have hn0 : 0 ≤ n := by omega
    clear h hn
    go_enter Try.func33, Try.ntmps33
    go_wp2_with fail
    go_ret
    exact ⟨ret_int hr.out, rfl⟩
end Go.Proofs.Ythilfibgpobcjaa
