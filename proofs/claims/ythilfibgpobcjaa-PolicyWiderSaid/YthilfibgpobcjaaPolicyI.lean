/-
  My own work: policy.Wants, Forced (of a tank): their contracts; the walk of PolicyWider.
-/
import Derived.Test.YthilfibgpobcjaaPolicyE
import Derived.Test.YthilfibgpobcjaaNumCeil
import Derived.Test.YthilfibgpobcjaaTank
import Derived.Deep.RegionWith
namespace Go.Proofs.Ythilfibgpobcjaa
open Go.RowKit
set_option linter.unusedVariables false

theorem ceilE_pos (a b : Int) (ha : 0 < a) (hb : 0 < b) : ceilE a b = (ceilI a b, true) := by
  have hn : noQuo a b = false := by
    unfold noQuo
    rw [beq_eq_false_iff_ne.2 (show b ≠ 0 by omega), beq_eq_false_iff_ne.2 (show a ≠ -9223372036854775808 by omega)]
    rfl
  unfold ceilE ceilI
  rw [hn, if_neg (by simp), decide_eq_false (show ¬ a < 0 by omega), decide_eq_false (show ¬ b < 0 by omega)]
  rw [Int.tdiv_eq_ediv_of_nonneg (by omega), Int.tmod_eq_emod_of_nonneg (by omega)]
  have h1 := Int.mul_ediv_add_emod a b
  have h2 := Int.emod_nonneg a (show b ≠ 0 by omega)
  have h3 := Int.emod_lt_of_pos a hb
  have h4 : a + b - 1 = (a % b + b - 1) + b * (a / b) := by omega
  rw [h4, Int.add_mul_ediv_left _ _ (show b ≠ 0 by omega)]
  by_cases h0 : a % b = 0
  · have h6 : (b - 1) / b = 0 := Int.ediv_eq_zero_of_lt (by omega) (by omega)
    rw [h0, show (0 : Int) + b - 1 = b - 1 by omega, h6]
    simp
  · have h5 : (a % b + b - 1) / b = 1 := by
      rw [show a % b + b - 1 = (a % b - 1) + b * 1 by omega, Int.add_mul_ediv_left _ _ (show b ≠ 0 by omega), Int.ediv_eq_zero_of_lt (by omega) (by omega)]
      rfl
    rw [h5]
    simp [h0]
    omega

set_option maxHeartbeats 800000 in
theorem wants_is (kd dm : Int) (pt : Value) (rt sz st ru hd : Int) (n : Nat) (w : World) (hst0 : 0 ≤ st) (hst1 : st ≤ 1000000) (hrt0 : 0 ≤ rt) (hrt1 : rt ≤ 1000000) (hn : n ≤ 64) :
    Calls Try.prog 60 #[.agg #[.int .i64 kd, .int .i64 dm, pt, .int .i64 rt, .int .i64 sz, .int .i64 st, .int .i64 ru, .int .i64 hd], .int .i64 n] w fun e w' =>
      e = .returned (.int .i64 (wantsI rt st n)) ∧ Below w.heap.size w w' := by
  obtain ⟨w1, ew, hb1, hsz1, hcu⟩ := box_cust w kd dm pt rt sz st ru hd
  obtain ⟨c0, c1, c2, c3, c4, c5, c6, c7⟩ := hcu
  have Hew := Lib.hid ew
  have l0 : w.heap.size < w1.heap.size := by omega
  obtain ⟨M, hM⟩ : ∃ M, M = rt * (n : Int) := ⟨_, rfl⟩
  have hM0 : 0 ≤ M := by rw [hM]; exact Int.mul_nonneg hrt0 (by omega)
  have hM1 : M ≤ 64000000 := by rw [hM]; exact Int.le_trans (Int.mul_le_mul hrt1 (show (n : Int) ≤ 64 by omega) (by omega) (by omega)) (by decide)
  have hM' : rt * (n : Int) = M := hM.symm
  have hw : wantsI rt st n = max (M - st) 0 := by unfold wantsI; rw [hM]
  clear ew hsz1 hM
  by_cases h : M - st < 0
  · have Hw : Hid (wantsI rt st n = 0) := Lib.hid (by rw [hw]; omega)
    have h' : decide (M - st < 0) = true := by simpa using h
    clear hw
    go_enter Try.func60, Try.ntmps60
    go_wp2_with fail
    rw [Hew.out]
    go_wp2_with fail
    go_ret
    exact ⟨ret_int Hw.out.symm, hb1⟩
  · have Hw : Hid (wantsI rt st n = M - st) := Lib.hid (by rw [hw]; omega)
    have h' : decide (M - st < 0) = false := by simpa using h
    clear hw
    go_enter Try.func60, Try.ntmps60
    go_wp2_with fail
    rw [Hew.out]
    go_wp2_with fail
    go_ret
    exact ⟨ret_int Hw.out.symm, hb1⟩

set_option maxRecDepth 100000 in
set_option maxHeartbeats 3200000 in
theorem forced_is (dm : Int) (pt : Value) (rt sz st ru hd : Int) (n : Nat) (cap : Int) (w : World) (hs0 : 1 ≤ sz) (hs1 : sz ≤ 1000000) (hst0 : 0 ≤ st) (hst1 : st ≤ 1000000) (hrt0 : 0 ≤ rt) (hrt1 : rt ≤ 1000000) (hn : n ≤ 64) :
    Calls Try.prog 43 #[.agg #[.int .i64 2, .int .i64 dm, pt, .int .i64 rt, .int .i64 sz, .int .i64 st, .int .i64 ru, .int .i64 hd], .int .i64 n, .int .i64 cap] w fun e w' =>
      e = .returned (.int .i64 (forcedI rt st sz n cap)) ∧ Below w.heap.size w w' := by
  obtain ⟨w1, ew, hb1, hsz1, hcu⟩ := box_cust w 2 dm pt rt sz st ru hd
  have Hew := Lib.hid ew
  have Hcu := Lib.hid hcu
  obtain ⟨c0, c1, c2, c3, c4, c5, c6, c7⟩ := hcu
  have l0 : w.heap.size < w1.heap.size := World.block_lt_of_cell? w1 _ c0
  have Hwa := Lib.hid (wants_is 2 dm pt rt sz st ru hd n w1 hst0 hst1 hrt0 hrt1 hn)
  have hwb : 0 ≤ wantsI rt st n ∧ wantsI rt st n ≤ 64000000 := by
    have : rt * (n : Int) ≤ 64000000 := Int.le_trans (Int.mul_le_mul hrt1 (show (n : Int) ≤ 64 by omega) (by omega) (by omega)) (by decide)
    unfold wantsI
    omega
  have hf : forcedI rt st sz n cap = if wantsI rt st n = 0 then 0 else if min cap sz < 1 then (n : Int) else min (ceilI (wantsI rt st n) (min cap sz)) n := rfl
  generalize wantsI rt st n = WA at *
  obtain ⟨hw0, hw1⟩ := hwb
  have Hf := Lib.hid hf
  have Hb1 := Lib.hid hb1
  clear ew hsz1 hf hb1
  go_enter Try.func43, Try.ntmps43
  go_wp2_with fail
  rw [Hew.out]
  go_wp2_with fail
  refine Hwa.out.mono ?_
  rintro e w2 ⟨rfl, hb2⟩
  have b2 := Lib.hid (Hb1.out.trans (hb2.mono Hb1.out.size))
  have hcu2 := Hcu.out.below hb2
  clear hb2 c0 c1 c2 c3 c4 c5 c6 c7
  obtain ⟨c0, c1, c2, c3, c4, c5, c6, c7⟩ := hcu2
  by_cases h0 : WA = 0
  · have hr := Hf.out
    rw [if_pos h0] at hr
    have Hr := Lib.hid hr
    have h0' : (WA == 0) = true := by simpa using h0
    clear h0 hr
    go_wp2_with fail
    go_ret
    exact ⟨ret_int Hr.out.symm, b2.out⟩
  · have h0' : (WA == 0) = false := by simpa using h0
    have hr := Hf.out
    rw [if_neg h0] at hr
    have hm : ∃ m, min cap sz = m ∧ ((cap ≤ sz ∧ m = cap) ∨ (sz < cap ∧ m = sz)) := ⟨_, rfl, by omega⟩
    obtain ⟨m, hm, hm2⟩ := hm
    rw [hm] at hr
    by_cases h1 : m < 1
    · rw [if_pos h1] at hr
      have Hr := Lib.hid hr
      have h1' : decide (m < 1) = true := by simpa using h1
      rcases hm2 with ⟨g1, rfl⟩ | ⟨g1, rfl⟩
      · have g3 : ¬ sz < m := by omega
        clear h0 hr hm
        go_wp2_with fail
        go_ret
        exact ⟨ret_int Hr.out.symm, b2.out⟩
      · omega
    · rw [if_neg h1] at hr
      have h1' : decide (m < 1) = false := by simpa using h1
      have hc := ceil_is WA m w2 (fitsI_iff.2 (by omega))
      rw [ceilE_pos WA m (by omega) (by omega)] at hc
      have Hc := Lib.hid hc
      have hV : ∃ V, V = ceilI WA m := ⟨_, rfl⟩
      obtain ⟨V, hV⟩ := hV
      rw [← hV] at hr Hc
      have hfin : ∃ F, min V (n : Int) = F ∧ ((V ≤ (n : Int) ∧ F = V) ∨ ((n : Int) < V ∧ F = (n : Int))) := ⟨_, rfl, by omega⟩
      obtain ⟨F, hF, hF2⟩ := hfin
      rw [hF] at hr
      have Hr := Lib.hid hr
      have HF2 := Lib.hid hF2
      have HF := Lib.hid hF
      clear hr hc hV hF hF2 h0
      rcases hm2 with ⟨g1, rfl⟩ | ⟨g1, rfl⟩
      · have g3 : ¬ sz < m := by omega
        have g4 : min m sz = m := by omega
        clear hm
        go_wp2_with fail
        refine Hc.out.mono ?_
        rintro e w' ⟨rfl, rfl⟩
        rcases HF2.out with ⟨f1, rfl⟩ | ⟨f1, rfl⟩
        · go_wp2_with fail
          go_ret
          exact ⟨ret_int (by rw [Hr.out]), b2.out⟩
        · go_wp2_with fail
          go_ret
          exact ⟨ret_int (by rw [Hr.out]), b2.out⟩
      · have g4 : min cap m = m := by omega
        clear hm
        go_wp2_with fail
        refine Hc.out.mono ?_
        rintro e w' ⟨rfl, rfl⟩
        rcases HF2.out with ⟨f1, rfl⟩ | ⟨f1, rfl⟩
        · go_wp2_with fail
          go_ret
          exact ⟨ret_int (by rw [Hr.out]), b2.out⟩
        · go_wp2_with fail
          go_ret
          exact ⟨ret_int (by rw [Hr.out]), b2.out⟩

/-- What could be brought can be with a greater capacity. -/
theorem can_wider (S Z U R a b : Int) (n : Nat) (hn : n ≤ 64) (r0 : 0 ≤ R) (z1 : Z ≤ 2147483648) (s0 : 0 ≤ S) (s1 : S ≤ Z) (hu : U = 1 ∨ U = 2) (ha : 0 ≤ a) (hab : a ≤ b) (h : canB S Z U R a n = true) : canB S Z U R b n = true := by
  unfold canB at *
  rcases hu with rfl | rfl
  · rw [if_pos rfl] at *
    exact fillsB_mono S Z R a b n hn ha hab h
  · rw [if_neg (by decide)] at *
    rw [beq_iff_eq, holdsE_zero] at *
    have hok := nightsE_zero h
    rw [wayQ_len] at hok
    have hl := daily_wider Z R a b S n ha hab s0 s1 r0 hok
    have hq2 := way_okQ (late := false) (ru := 2) (rt := R) (cap := b) (st := S) (show 0 ≤ Z by omega) z1 n
    rw [nightsE_ok (st := S) (rt := R) (sz := Z) hq2 (by rw [wayQ_len]; intro j hj; exact (hl j (by omega)).2.2.2 hj)]
end Go.Proofs.Ythilfibgpobcjaa
