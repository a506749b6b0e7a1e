/-
  My own work: the walk of PolicyLess.
-/
import Derived.Test.YthilfibgpobcjaaPolicyE
import Derived.Deep.QuietTactic
import Derived.BigQuiet
namespace Go.Proofs.Ythilfibgpobcjaa
open Go.RowKit
set_option linter.unusedVariables false

/-- Where the late way may be: both ways' nights, and one is never above the other. -/
theorem both_nights (R Z S cap : Int) (n : Nat) (r0 : 0 ≤ R) (z1 : Z ≤ 2147483648) (s0 : 0 ≤ S) (s1 : S ≤ Z) (h : (holdsE S R Z 2 (wayQ true Z 2 R cap S n) == 0) = true) :
    (holdsE S R Z 2 (wayQ false Z 2 R cap S n) == 0) = true ∧ nightsE S R Z (wayQ true Z 2 R cap S n) = (0, nightL S R (wayQ true Z 2 R cap S n) n) ∧ nightsE S R Z (wayQ false Z 2 R cap S n) = (0, nightL S R (wayQ false Z 2 R cap S n) n) ∧
      ∀ d, d < n → nth (nightL S R (wayQ true Z 2 R cap S n) n) d ≤ nth (nightL S R (wayQ false Z 2 R cap S n) n) d := by
  rw [beq_iff_eq, holdsE_zero] at h
  have hok := nightsE_zero h
  rw [wayQ_len] at hok
  have hq1 := way_okQ (late := true) (ru := 2) (rt := R) (cap := cap) (st := S) (show 0 ≤ Z by omega) z1 n
  have hq2 := way_okQ (late := false) (ru := 2) (rt := R) (cap := cap) (st := S) (show 0 ≤ Z by omega) z1 n
  have hl := late_daily Z R cap S n s0 s1 r0 hok
  have e1 := nightsE_ok (st := S) (rt := R) (sz := Z) hq1 (by rw [wayQ_len]; exact hok)
  have e2 := nightsE_ok (st := S) (rt := R) (sz := Z) hq2 (by rw [wayQ_len]; intro j hj; exact (hl j (by omega)).2.2.2 hj)
  rw [wayQ_len] at e1 e2
  refine ⟨?_, e1, e2, fun d hd => ?_⟩
  · rw [beq_iff_eq, holdsE_zero, e2]
  · rw [nth_nightL _ _ _ _ _ hd, nth_nightL _ _ _ _ _ hd, ← wayT_morn (d + 1) n (by omega), ← wayT_morn (d + 1) n (by omega)]
    exact (hl (d + 1) (by omega)).2.1

set_option maxRecDepth 100000 in
set_option maxHeartbeats 3200000 in
theorem policyLess_walk (kd dm : Int) (pt : Value) (rt sz st ru hd n0 cap : Int) (w : World) (h3 : (Lit.int .i64 rt).wf = true) (h4 : (Lit.int .i64 sz).wf = true) (h5 : (Lit.int .i64 st).wf = true) (h6 : (Lit.int .i64 ru).wf = true) (h7 : (Lit.int .i64 hd).wf = true) (hn : (Lit.int .i64 n0).wf = true) :
    Calls Try.prog 11 #[.agg #[.int .i64 kd, .int .i64 dm, pt, .int .i64 rt, .int .i64 sz, .int .i64 st, .int .i64 ru, .int .i64 hd], .int .i64 n0, .int .i64 cap] w fun e w' => e = .returned (.bool true) ∧ Below w.heap.size w w' := by
  obtain ⟨w1, ew, hb1, hsz1, hcu⟩ := box_cust w kd dm pt rt sz st ru hd
  obtain ⟨c0, c1, c2, c3, c4, c5, c6, c7⟩ := hcu
  have hl0 : w.heap.size < w1.heap.size := World.block_lt_of_cell? w1 _ c0
  have Hew := Lib.hid ew
  clear ew hsz1
  go_enter Try.func11, Try.ntmps11
  go_wp2_with fail
  rw [Hew.out]
  go_wp2_with fail
  refine (tank_is kd dm pt rt sz st ru hd w1 h3 h4 h5 h6 h7).mono ?_
  rintro e w2 ⟨rfl, hb2⟩
  obtain ⟨t1, t2, t3, t4, t5, t6, _⟩ := tank_small rt sz st ru
  generalize rnd st 0 (rnd sz 1 40) = S at *
  generalize rnd rt 0 12 = R at *
  generalize rnd sz 1 40 = Z at *
  generalize rnd ru 1 2 = U at *
  generalize rnd hd 0 9 = D at *
  obtain ⟨w3, ew3, hb3, hsz3, hcu3⟩ := box_cust w2 2 0 (.slice none 0 0) R Z S 2 D
  have b3 := Lib.hid ((hb1.trans (hb2.mono hb1.size)).trans (hb3.mono (Nat.le_trans hb1.size hb2.size)))
  have Hew3 := Lib.hid ew3
  have Hcu3 := Lib.hid hcu3
  clear c0 c1 c2 c3 c4 c5 c6 c7 hb1 hb2 hb3 ew3 hsz3 hl0
  obtain ⟨c0, c1, c2, c3, c4, c5, c6, c7⟩ := hcu3
  have hl3 : w2.heap.size < w3.heap.size := World.block_lt_of_cell? w3 _ c0
  go_wp2_with fail
  rw [Hew3.out]
  generalize w2.heap.size = g at *
  (try go_wp2_with fail)
  refine (round10_is n0 64 w3 hn (by decide) (by decide)).mono ?_
  rintro e w' ⟨rfl, rfl⟩
  have hr := rnd_bd n0 1 64 (by decide)
  obtain ⟨n, hnn⟩ := Int.eq_ofNat_of_zero_le (show 0 ≤ rnd n0 1 64 by omega)
  rw [hnn]
  have hn64 : n ≤ 64 := by omega
  clear hr hnn
  go_wp2_with fail
  refine (late_is 2 0 (.slice none 0 0) R Z S 2 D n cap w3 (by omega) (by omega) (by omega) (by omega) (by omega) (by omega) (by omega)).mono ?_
  rintro e w4 ⟨v4, rfl, hown4, hb4⟩
  have HI4 := Lib.hid hown4.ints
  have b4 := Lib.hid (b3.out.trans (hb4.mono b3.out.size))
  have hcu4 := Hcu3.out.below hb4
  have Hcu4 := Lib.hid hcu4
  clear c0 c1 c2 c3 c4 c5 c6 c7 hb4 hown4
  obtain ⟨c0, c1, c2, c3, c4, c5, c6, c7⟩ := hcu4
  obtain ⟨A, hA⟩ : ∃ A, A = (holdsE S R Z 2 (wayQ true Z 2 R cap S n) == 0) := ⟨_, rfl⟩
  rw [← hA]
  have HA := Lib.hid hA
  clear hA
  go_wp2_with fail
  refine (daily_is 2 0 (.slice none 0 0) R Z S 2 D n cap w4 (by omega) (by omega) (by omega) (by omega) (by omega) (by omega) (by omega)).mono ?_
  rintro e w6 ⟨v6, rfl, hown6, hb6⟩
  have HI6 := Lib.hid hown6.ints
  have HI4 := Lib.hid (HI4.out.below hb6)
  have b6 := Lib.hid (b4.out.trans (hb6.mono b4.out.size))
  have hcu6 := Hcu4.out.below hb6
  have Hcu6 := Lib.hid hcu6
  clear c0 c1 c2 c3 c4 c5 c6 c7 hb6 hown6
  obtain ⟨c0, c1, c2, c3, c4, c5, c6, c7⟩ := hcu6
  cases A with
  | false =>
    generalize (holdsE S R Z 2 (wayQ false Z 2 R cap S n) == 0) = B at *
    go_wp2_with fail
    refine (lives10_is _).mono ?_
    rintro e w10 ⟨rfl, hb10⟩
    go_wp2_with fail
    go_ret
    exact ⟨rfl, b6.out.trans (hb10.mono b6.out.size)⟩
  | true =>
    obtain ⟨hB, e1, e2, hle⟩ := both_nights R Z S cap n t1 (by omega) t5 t6 HA.out.symm
    rw [hB]
    have hs1 := Lib.hid (show Small S R Z (wayQ true Z 2 R cap S n) from ⟨t5, by omega, t1, by omega, by rw [wayQ_len]; omega⟩)
    have hs2 := Lib.hid (show Small S R Z (wayQ false Z 2 R cap S n) from ⟨t5, by omega, t1, by omega, by rw [wayQ_len]; omega⟩)
    have Hle := Lib.hid hle
    have He1 := Lib.hid e1
    have He2 := Lib.hid e2
    have hL1 : (nightL S R (wayQ true Z 2 R cap S n) n).length = n := nightL_len _ _ _ _
    have hL2 : (nightL S R (wayQ false Z 2 R cap S n) n).length = n := nightL_len _ _ _ _
    have HL1 := Lib.hid hL1
    have HL2 := Lib.hid hL2
    clear hB e1 e2 hle hL1 hL2
    go_wp2_with fail
    refine (refNights_is 2 0 (.slice none 0 0) R Z S 2 D v4 _ w6 HI4.out hs1.out).mono ?_
    rintro e w7 ⟨v7, rfl, hown7, hb7⟩
    rw [He1.out] at hown7 ⊢
    obtain ⟨a7, n7, k7, rfl, hn7, _, hcell7⟩ := hown7.ints.open
    have hn7' : n7 = n := by rw [← hn7]; exact HL1.out
    subst hn7'
    have HI7 := Lib.hid hown7.ints
    have HI6 := Lib.hid (HI6.out.below hb7)
    have b7 := Lib.hid (b6.out.trans (hb7.mono b6.out.size))
    have hcu7 := Hcu6.out.below hb7
    clear c0 c1 c2 c3 c4 c5 c6 c7 hb7 hown7 hcell7 hn7
    obtain ⟨c0, c1, c2, c3, c4, c5, c6, c7⟩ := hcu7
    go_wp2_with fail
    refine (refNights_is 2 0 (.slice none 0 0) R Z S 2 D v6 _ w7 HI6.out hs2.out).mono ?_
    rintro e w8 ⟨v8, rfl, hown8, hb8⟩
    rw [He2.out] at hown8 ⊢
    obtain ⟨a8, n8, k8, rfl, hn8, _, hcell8⟩ := hown8.ints.open
    have hn8' : n8 = n7 := by rw [← hn8]; exact HL2.out
    subst hn8'
    have Hcell8 := Lib.hid hcell8
    have hI7 := HI7.out.below hb8
    obtain ⟨_, _, _, he, _, _, hcell7⟩ := hI7.open
    simp only [Value.slice.injEq] at he
    obtain ⟨rfl, rfl, rfl⟩ := he
    have Hcell7 := Lib.hid hcell7
    have b8 := Lib.hid (b7.out.trans (hb8.mono b7.out.size))
    have q1 : ((n8 : Int) != (n8 : Int)) = false := by simp
    clear c0 c1 c2 c3 c4 c5 c6 c7 hb8 hown8 hcell8 hn8 hI7 hcell7
    go_wp2_with fail
    go_loopw [16] (fun i wr => ∃ d : Nat, d ≤ n8 ∧ i = .int .i64 d ∧ Below w8.heap.size w8 wr) (fun i _ => n8 - (intOf i).toNat)
    case atStart => exact ⟨0, Nat.zero_le _, rfl, Below.refl _ _⟩
    case round =>
      obtain ⟨d, hd, rfl, hb⟩ := hrel
      by_cases hlt : d < n8
      · obtain ⟨b, o, rfl, hc7⟩ := Hcell7.out d hlt
        obtain ⟨b', o', rfl, hc8⟩ := Hcell8.out d hlt
        have hc7' := cell_below hb hc7
        have hc8' := cell_below hb hc8
        have hd0 : (0 : Int) ≤ (d : Int) := by omega
        have hd1 : (d : Int) < (n8 : Int) := by omega
        have hl := Hle.out d hlt
        generalize nth (nightL S R (wayQ true Z 2 R cap S n8) n8) d = X at *
        generalize nth (nightL S R (wayQ false Z 2 R cap S n8) n8) d = Y at *
        have hl' : decide (Y < X) = false := by simp; omega
        clear hc7 hc8 hl
        go_wp2_with fail
        go_quiet (fail)
        go_wp2_with fail
        go_roundw
        case rel => exact ⟨d + 1, by omega, by go_num, below_drewN hb _⟩
        case measure => simp [intOf]; omega
      · go_wp2_with fail
        refine (lives10_is _).mono ?_
        rintro e w10 ⟨rfl, hb10⟩
        go_wp2_with fail
        go_ret
        have b := b8.out.trans (hb.mono b8.out.size)
        exact ⟨rfl, b.trans (hb10.mono b.size)⟩
end Go.Proofs.Ythilfibgpobcjaa
