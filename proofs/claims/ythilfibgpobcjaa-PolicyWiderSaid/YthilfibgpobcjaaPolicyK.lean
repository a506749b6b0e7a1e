/-
  My own work: the walk of PolicyWider where something could be brought.
-/
import Derived.Test.YthilfibgpobcjaaPolicyI
namespace Go.Proofs.Ythilfibgpobcjaa
open Go.RowKit
set_option linter.unusedVariables false

set_option maxRecDepth 100000 in
set_option maxHeartbeats 0 in
theorem policyWider_T (kd dm : Int) (pt : Value) (rt sz st ru hd n0 a b : Int) (w : World) (h3 : (Lit.int .i64 rt).wf = true) (h4 : (Lit.int .i64 sz).wf = true) (h5 : (Lit.int .i64 st).wf = true) (h6 : (Lit.int .i64 ru).wf = true) (h7 : (Lit.int .i64 hd).wf = true) (hn : (Lit.int .i64 n0).wf = true) (q1 : decide (a < 0) = false) (q2 : decide (b < a) = false) (q3 : decide (2147483648 < b) = false) (hC : canB (rnd st 0 (rnd sz 1 40)) (rnd sz 1 40) (rnd ru 1 2) (rnd rt 0 12) a (rnd n0 1 64).toNat = true) :
    Calls Try.prog 12 #[.agg #[.int .i64 kd, .int .i64 dm, pt, .int .i64 rt, .int .i64 sz, .int .i64 st, .int .i64 ru, .int .i64 hd], .int .i64 n0, .int .i64 a, .int .i64 b] w fun e w' => e = .returned (.bool true) ∧ Below w.heap.size w w' := by
  have HC := Lib.hid hC
  clear hC
  obtain ⟨w1, ew, hb1, hsz1, hcu⟩ := box_cust w kd dm pt rt sz st ru hd
  obtain ⟨c0, c1, c2, c3, c4, c5, c6, c7⟩ := hcu
  have hl0 : w.heap.size < w1.heap.size := World.block_lt_of_cell? w1 _ c0
  have Hew := Lib.hid ew
  clear ew hsz1
  go_enter Try.func12, Try.ntmps12
  go_wp2_with fail
  rw [Hew.out]
  go_wp2_with fail
  refine (tank_is kd dm pt rt sz st ru hd w1 h3 h4 h5 h6 h7).mono ?_
  rintro e w2 ⟨rfl, hb2⟩
  obtain ⟨t1, t2, t3, t4, t5, t6, t7⟩ := tank_small rt sz st ru
  generalize rnd st 0 (rnd sz 1 40) = S at *
  generalize rnd rt 0 12 = R at *
  generalize rnd sz 1 40 = Z at *
  generalize rnd ru 1 2 = U at *
  generalize rnd hd 0 9 = D at *
  obtain ⟨w3, ew3, hb3, hsz3, hcu3⟩ := box_cust w2 2 0 (.slice none 0 0) R Z S U D
  have b3 := Lib.hid ((hb1.trans (hb2.mono hb1.size)).trans (hb3.mono (Nat.le_trans hb1.size hb2.size)))
  have Hew3 := Lib.hid ew3
  have Ht7 := Lib.hid t7
  clear c0 c1 c2 c3 c4 c5 c6 c7 hb1 hb2 hb3 ew3 hsz3 hl0 t7
  obtain ⟨c0, c1, c2, c3, c4, c5, c6, c7⟩ := hcu3
  have hl3 : w2.heap.size < w3.heap.size := World.block_lt_of_cell? w3 _ c0
  go_wp2_with fail
  rw [Hew3.out]
  generalize w2.heap.size = g at *
  go_wp2_with fail
  refine (round10_is n0 64 w3 hn (by decide) (by decide)).mono ?_
  rintro e w' ⟨rfl, rfl⟩
  have hr := rnd_bd n0 1 64 (by decide)
  obtain ⟨n, hnn⟩ := Int.eq_ofNat_of_zero_le (show 0 ≤ rnd n0 1 64 by omega)
  rw [hnn]
  have hC2 := HC.out
  rw [hnn, Int.toNat_natCast] at hC2
  have HC2 := Lib.hid hC2
  clear hC2 HC
  have hn64 : n ≤ 64 := by omega
  clear hr hnn
  have ha0 : 0 ≤ a := by have := of_decide_eq_false q1; omega
  have hab : a ≤ b := by have := of_decide_eq_false q2; omega
  have hwid := can_wider S Z U R a b n hn64 t1 (by omega) t5 t6 Ht7.out ha0 hab
  have hfo := forced_wider R S Z n a b hab
  have HcA : Hid (∀ w, Calls Try.prog 42 #[.agg #[.int .i64 2, .int .i64 0, .slice none 0 0, .int .i64 R, .int .i64 Z, .int .i64 S, .int .i64 U, .int .i64 D], .int .i64 n, .int .i64 a] w fun e w' => e = .returned (.bool (canB S Z U R a n)) ∧ Below w.heap.size w w') := Lib.hid (fun w => can_is 2 0 _ R Z S U D n a w (by omega) (by omega) (by omega) (by omega) (by omega) (by omega) hn64)
  have HcB : Hid (∀ w, Calls Try.prog 42 #[.agg #[.int .i64 2, .int .i64 0, .slice none 0 0, .int .i64 R, .int .i64 Z, .int .i64 S, .int .i64 U, .int .i64 D], .int .i64 n, .int .i64 b] w fun e w' => e = .returned (.bool (canB S Z U R b n)) ∧ Below w.heap.size w w') := Lib.hid (fun w => can_is 2 0 _ R Z S U D n b w (by omega) (by omega) (by omega) (by omega) (by omega) (by omega) hn64)
  have HfA : Hid (∀ w, Calls Try.prog 43 #[.agg #[.int .i64 2, .int .i64 0, .slice none 0 0, .int .i64 R, .int .i64 Z, .int .i64 S, .int .i64 U, .int .i64 D], .int .i64 n, .int .i64 a] w fun e w' => e = .returned (.int .i64 (forcedI R S Z n a)) ∧ Below w.heap.size w w') := Lib.hid (fun w => forced_is 0 _ R Z S U D n a w (by omega) (by omega) (by omega) (by omega) (by omega) (by omega) hn64)
  have HfB : Hid (∀ w, Calls Try.prog 43 #[.agg #[.int .i64 2, .int .i64 0, .slice none 0 0, .int .i64 R, .int .i64 Z, .int .i64 S, .int .i64 U, .int .i64 D], .int .i64 n, .int .i64 b] w fun e w' => e = .returned (.int .i64 (forcedI R S Z n b)) ∧ Below w.heap.size w w') := Lib.hid (fun w => forced_is 0 _ R Z S U D n b w (by omega) (by omega) (by omega) (by omega) (by omega) (by omega) hn64)
  rw [HC2.out] at HcA hwid
  generalize canB S Z U R b n = CB at *
  generalize forcedI R S Z n a = FA at *
  generalize forcedI R S Z n b = FB at *
  have hfo' : decide (FB ≤ FA) = true := by simpa using hfo
  have Hcu := Lib.hid (show IsCust w3 g 2 0 (.slice none 0 0) R Z S U D from ⟨c0, c1, c2, c3, c4, c5, c6, c7⟩)
  clear hfo
  have hCB : CB = true := hwid rfl
  subst hCB
  clear hwid
  go_wp2_with fail
  (first | (go_region_with (first
      | (go_at_call_of 42 (Value.int .i64 a); refine (HcA.out _).mono ?_; rintro e w4 ⟨rfl, hb4⟩; have b4 := below_two (drew_below w3) hb4; obtain ⟨c40, c41, c42, c43, c44, c45, c46, c47⟩ := Hcu.out.below b4)
      | (go_at_call_of 42 (Value.int .i64 b); refine (HcB.out _).mono ?_; rintro e w5 ⟨rfl, hb5⟩; have b5 := below_two b4 hb5; obtain ⟨c50, c51, c52, c53, c54, c55, c56, c57⟩ := Hcu.out.below b5)
      | (go_at_call_of 43 (Value.int .i64 b); refine (HfB.out _).mono ?_; rintro e w6 ⟨rfl, hb6⟩; have b6 := below_two b5 hb6; obtain ⟨c60, c61, c62, c63, c64, c65, c66, c67⟩ := Hcu.out.below b6)
      | (go_at_call_of 43 (Value.int .i64 a); refine (HfA.out _).mono ?_; rintro e w7 ⟨rfl, hb7⟩; have b7 := below_two b6 hb7)
      | (go_at_call 36; refine (lives10_is _).mono ?_; rintro e w8 ⟨rfl, hb8⟩; have b8 := below_two b7 hb8))) | fail)
  all_goals
    go_wp2_with fail
    go_ret
    exact ⟨rfl, b3.out.trans (b8.mono b3.out.size)⟩
end Go.Proofs.Ythilfibgpobcjaa
