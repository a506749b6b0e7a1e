/-
  My own work: the walk of PolicyWider.
-/
import Derived.Test.YthilfibgpobcjaaPolicyJ
import Derived.Test.YthilfibgpobcjaaPolicyK
namespace Go.Proofs.Ythilfibgpobcjaa
open Go.RowKit
set_option linter.unusedVariables false

set_option maxRecDepth 100000 in
set_option maxHeartbeats 3200000 in
theorem policyWider_walk (kd dm : Int) (pt : Value) (rt sz st ru hd n0 a b : Int) (w : World) (h3 : (Lit.int .i64 rt).wf = true) (h4 : (Lit.int .i64 sz).wf = true) (h5 : (Lit.int .i64 st).wf = true) (h6 : (Lit.int .i64 ru).wf = true) (h7 : (Lit.int .i64 hd).wf = true) (hn : (Lit.int .i64 n0).wf = true) :
    Calls Try.prog 12 #[.agg #[.int .i64 kd, .int .i64 dm, pt, .int .i64 rt, .int .i64 sz, .int .i64 st, .int .i64 ru, .int .i64 hd], .int .i64 n0, .int .i64 a, .int .i64 b] w fun e w' => e = .returned (.bool true) ∧ Below w.heap.size w w' := by
  by_cases hx : decide (a < 0) = false ∧ decide (b < a) = false ∧ decide (2147483648 < b) = false
  · obtain ⟨q1, q2, q3⟩ := hx
    cases hC : canB (rnd st 0 (rnd sz 1 40)) (rnd sz 1 40) (rnd ru 1 2) (rnd rt 0 12) a (rnd n0 1 64).toNat with
    | false => exact policyWider_F kd dm pt rt sz st ru hd n0 a b w h3 h4 h5 h6 h7 hn q1 q2 q3 hC
    | true => exact policyWider_T kd dm pt rt sz st ru hd n0 a b w h3 h4 h5 h6 h7 hn q1 q2 q3 hC
  have Hx := Lib.hid hx
  clear hx
  obtain ⟨w1, ew, hb1, hsz1, hcu⟩ := box_cust w kd dm pt rt sz st ru hd
  obtain ⟨c0, c1, c2, c3, c4, c5, c6, c7⟩ := hcu
  have hl0 : w.heap.size < w1.heap.size := World.block_lt_of_cell? w1 _ c0
  have Hew := Lib.hid ew
  clear ew hsz1
  go_enter Try.func12, Try.ntmps12
  go_wp2_with fail
  rw [Hew.out]
  go_wp2_with fail
  refine (tank_is kd dm pt rt sz st ru hd w1 h3 h4 h5 h6 h7).mono ?_
  rintro e w2 ⟨rfl, hb2⟩
  obtain ⟨t1, t2, t3, t4, t5, t6, t7⟩ := tank_small rt sz st ru
  generalize rnd st 0 (rnd sz 1 40) = S at *
  generalize rnd rt 0 12 = R at *
  generalize rnd sz 1 40 = Z at *
  generalize rnd ru 1 2 = U at *
  generalize rnd hd 0 9 = D at *
  obtain ⟨w3, ew3, hb3, hsz3, hcu3⟩ := box_cust w2 2 0 (.slice none 0 0) R Z S U D
  have b3 := Lib.hid ((hb1.trans (hb2.mono hb1.size)).trans (hb3.mono (Nat.le_trans hb1.size hb2.size)))
  have Hew3 := Lib.hid ew3
  have Ht7 := Lib.hid t7
  clear c0 c1 c2 c3 c4 c5 c6 c7 hb1 hb2 hb3 ew3 hsz3 hl0 t7
  obtain ⟨c0, c1, c2, c3, c4, c5, c6, c7⟩ := hcu3
  have hl3 : w2.heap.size < w3.heap.size := World.block_lt_of_cell? w3 _ c0
  go_wp2_with fail
  rw [Hew3.out]
  generalize w2.heap.size = g at *
  go_wp2_with fail
  refine (round10_is n0 64 w3 hn (by decide) (by decide)).mono ?_
  rintro e w' ⟨rfl, rfl⟩
  have hr := rnd_bd n0 1 64 (by decide)
  obtain ⟨n, hnn⟩ := Int.eq_ofNat_of_zero_le (show 0 ≤ rnd n0 1 64 by omega)
  rw [hnn]
  have hn64 : n ≤ 64 := by omega
  clear hr hnn
  have hcase : (decide (a < 0) = true) ∨ (decide (a < 0) = false ∧ decide (b < a) = true) ∨ (decide (a < 0) = false ∧ decide (b < a) = false ∧ decide (2147483648 < b) = true) ∨ (decide (a < 0) = false ∧ decide (b < a) = false ∧ decide (2147483648 < b) = false) := by
    by_cases q1 : a < 0
    · exact .inl (by simpa using q1)
    · by_cases q2 : b < a
      · exact .inr (.inl ⟨by simpa using q1, by simpa using q2⟩)
      · by_cases q3 : 2147483648 < b
        · exact .inr (.inr (.inl ⟨by simpa using q1, by simpa using q2, by simpa using q3⟩))
        · exact .inr (.inr (.inr ⟨by simpa using q1, by simpa using q2, by simpa using q3⟩))
  rcases hcase with q1 | ⟨q1, q2⟩ | ⟨q1, q2, q3⟩ | ⟨q1, q2, q3⟩
  · go_wp2_with fail
    refine (lives10_is _).mono ?_
    rintro e w10 ⟨rfl, hb10⟩
    go_wp2_with fail
    go_ret
    exact ⟨rfl, b3.out.trans (hb10.mono b3.out.size)⟩
  · go_wp2_with fail
    refine (lives10_is _).mono ?_
    rintro e w10 ⟨rfl, hb10⟩
    go_wp2_with fail
    go_ret
    exact ⟨rfl, b3.out.trans (hb10.mono b3.out.size)⟩
  · go_wp2_with fail
    refine (lives10_is _).mono ?_
    rintro e w10 ⟨rfl, hb10⟩
    go_wp2_with fail
    go_ret
    exact ⟨rfl, b3.out.trans (hb10.mono b3.out.size)⟩
  · exact absurd ⟨q1, q2, q3⟩ Hx.out
end Go.Proofs.Ythilfibgpobcjaa
