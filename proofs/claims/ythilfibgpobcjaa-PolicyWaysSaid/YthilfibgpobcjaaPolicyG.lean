/-
  My own work: the walk of PolicyWays.
-/
import Derived.Test.YthilfibgpobcjaaPolicyE
import Derived.Test.YthilfibgpobcjaaPolicyF
namespace Go.Proofs.Ythilfibgpobcjaa
open Go.RowKit
set_option linter.unusedVariables false

set_option maxRecDepth 100000 in
set_option maxHeartbeats 1600000 in
theorem policyWays_walk (kd dm : Int) (pt : Value) (rt sz st ru hd n0 cap : Int) (w : World) (h3 : (Lit.int .i64 rt).wf = true) (h4 : (Lit.int .i64 sz).wf = true) (h5 : (Lit.int .i64 st).wf = true) (h6 : (Lit.int .i64 ru).wf = true) (h7 : (Lit.int .i64 hd).wf = true) (hn : (Lit.int .i64 n0).wf = true) :
    Calls Try.prog 10 #[.agg #[.int .i64 kd, .int .i64 dm, pt, .int .i64 rt, .int .i64 sz, .int .i64 st, .int .i64 ru, .int .i64 hd], .int .i64 n0, .int .i64 cap] w fun e w' => e = .returned (.bool true) ∧ Below w.heap.size w w' := by
  obtain ⟨w1, ew, hb1, hsz1, hcu⟩ := box_cust w kd dm pt rt sz st ru hd
  obtain ⟨c0, c1, c2, c3, c4, c5, c6, c7⟩ := hcu
  have hl0 : w.heap.size < w1.heap.size := World.block_lt_of_cell? w1 _ c0
  have Hew := Lib.hid ew
  clear ew hsz1
  go_enter Try.func10, Try.ntmps10
  go_wp2_with fail
  rw [Hew.out]
  go_wp2_with fail
  refine (tank_is kd dm pt rt sz st ru hd w1 h3 h4 h5 h6 h7).mono ?_
  rintro e w2 ⟨rfl, hb2⟩
  obtain ⟨t1, t2, t3, t4, t5, t6, t7⟩ := tank_small rt sz st ru
  generalize rnd st 0 (rnd sz 1 40) = S at *
  generalize rnd rt 0 12 = R at *
  generalize rnd sz 1 40 = Z at *
  generalize rnd ru 1 2 = U at *
  generalize rnd hd 0 9 = D at *
  obtain ⟨w3, ew3, hb3, hsz3, hcu3⟩ := box_cust w2 2 0 (.slice none 0 0) R Z S U D
  have b3 := Lib.hid ((hb1.trans (hb2.mono hb1.size)).trans (hb3.mono (Nat.le_trans hb1.size hb2.size)))
  have Hew3 := Lib.hid ew3
  have Hcu3 := Lib.hid hcu3
  clear c0 c1 c2 c3 c4 c5 c6 c7 hb1 hb2 hb3 ew3 hsz3 hl0
  obtain ⟨c0, c1, c2, c3, c4, c5, c6, c7⟩ := hcu3
  have hl3 : w2.heap.size < w3.heap.size := World.block_lt_of_cell? w3 _ c0
  go_wp2_with fail
  rw [Hew3.out]
  generalize w2.heap.size = g at *
  go_wp2_with fail
  refine (round10_is n0 64 w3 hn (by decide) (by decide)).mono ?_
  rintro e w' ⟨rfl, rfl⟩
  have hr := rnd_bd n0 1 64 (by decide)
  obtain ⟨n, hnn⟩ := Int.eq_ofNat_of_zero_le (show 0 ≤ rnd n0 1 64 by omega)
  rw [hnn]
  have hn64 : n ≤ 64 := by omega
  clear hr hnn
  go_wp2_with fail
  refine (late_is 2 0 (.slice none 0 0) R Z S U D n cap w3 (by omega) (by omega) (by omega) (by omega) (by omega) (by omega) (by omega)).mono ?_
  rintro e w4 ⟨v4, rfl, hown4, hb4⟩
  have hI4 := hown4.ints
  have b4 := Lib.hid (b3.out.trans (hb4.mono b3.out.size))
  have hcu4 := Hcu3.out.below hb4
  have Hcu4 := Lib.hid hcu4
  clear c0 c1 c2 c3 c4 c5 c6 c7 hb4 hown4
  obtain ⟨c0, c1, c2, c3, c4, c5, c6, c7⟩ := hcu4
  obtain ⟨A, hA⟩ : ∃ A, A = (holdsE S R Z U (wayQ true Z U R cap S n) == 0) := ⟨_, rfl⟩
  rw [← hA]
  have HA := Lib.hid hA
  have HI4 := Lib.hid hI4
  clear hA hI4
  go_wp2_with fail
  refine (refLate_is 2 0 (.slice none 0 0) R Z S U D n cap w4 (by omega) (by omega) (by omega) (by omega) (by omega) (by omega) (by omega)).mono ?_
  rintro e w5 ⟨v5, rfl, hown5, hb5⟩
  rw [← HA.out]
  have HI5 := Lib.hid hown5.ints
  have HI4 := Lib.hid (HI4.out.below hb5)
  have b5 := Lib.hid (b4.out.trans (hb5.mono b4.out.size))
  have hcu5 := Hcu4.out.below hb5
  have Hcu5 := Lib.hid hcu5
  clear c0 c1 c2 c3 c4 c5 c6 c7 hb5 hown5
  obtain ⟨c0, c1, c2, c3, c4, c5, c6, c7⟩ := hcu5
  go_wp2_with fail
  refine (daily_is 2 0 (.slice none 0 0) R Z S U D n cap w5 (by omega) (by omega) (by omega) (by omega) (by omega) (by omega) (by omega)).mono ?_
  rintro e w6 ⟨v6, rfl, hown6, hb6⟩
  have HI6 := Lib.hid hown6.ints
  have HI5 := Lib.hid (HI5.out.below hb6)
  have HI4 := Lib.hid (HI4.out.below hb6)
  have b6 := Lib.hid (b5.out.trans (hb6.mono b5.out.size))
  have hcu6 := Hcu5.out.below hb6
  have Hcu6 := Lib.hid hcu6
  clear c0 c1 c2 c3 c4 c5 c6 c7 hb6 hown6
  obtain ⟨c0, c1, c2, c3, c4, c5, c6, c7⟩ := hcu6
  obtain ⟨B, hB⟩ : ∃ B, B = (holdsE S R Z U (wayQ false Z U R cap S n) == 0) := ⟨_, rfl⟩
  rw [← hB]
  have HB := Lib.hid hB
  clear hB
  go_wp2_with fail
  refine (refDaily_is 2 0 (.slice none 0 0) R Z S U D n cap w6 (by omega) (by omega) (by omega) (by omega) (by omega) (by omega) (by omega)).mono ?_
  rintro e w7 ⟨v7, rfl, hown7, hb7⟩
  rw [← HB.out]
  have HI7 := Lib.hid hown7.ints
  have HI6 := Lib.hid (HI6.out.below hb7)
  have HI5 := Lib.hid (HI5.out.below hb7)
  have HI4 := Lib.hid (HI4.out.below hb7)
  have b7 := Lib.hid (b6.out.trans (hb7.mono b6.out.size))
  clear c0 c1 c2 c3 c4 c5 c6 c7 hb7 hown7
  have q1 : (A == A) = true := by simp
  have q2 : (B == B) = true := by simp
  go_wp2_with fail
  refine (same_is _ _ _ _ w7 HI4.out HI5.out).mono ?_
  rintro e w8 ⟨rfl, hb8⟩
  rw [decide_eq_true rfl]
  have HI7 := Lib.hid (HI7.out.below hb8)
  have HI6 := Lib.hid (HI6.out.below hb8)
  have b8 := Lib.hid (b7.out.trans (hb8.mono b7.out.size))
  clear hb8
  go_wp2_with fail
  refine (same_is _ _ _ _ w8 HI6.out HI7.out).mono ?_
  rintro e w9 ⟨rfl, hb9⟩
  rw [decide_eq_true rfl]
  have b9 := Lib.hid (b8.out.trans (hb9.mono b8.out.size))
  clear hb9
  go_wp2_with fail
  refine (lives10_is _).mono ?_
  rintro e w10 ⟨rfl, hb10⟩
  go_wp2_with fail
  go_ret
  exact ⟨rfl, b9.out.trans (hb10.mono b9.out.size)⟩
end Go.Proofs.Ythilfibgpobcjaa
