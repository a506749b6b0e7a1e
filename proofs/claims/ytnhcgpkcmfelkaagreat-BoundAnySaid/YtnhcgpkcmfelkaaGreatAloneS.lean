/-
  My own work: tranterref10.Filled: its contract.
-/
import Derived.Test.YtnhcgpkcmfelkaaGreatMAl
import Derived.Test.YtnhcgpkcmfelkaaGreatAloneF
import Derived.Test.YtnhcgpkcmfelkaaGreatMStock
namespace Go.Proofs.YtnhcgpkcmfelkaaGreat
open Go.RowKit
set_option linter.unusedVariables false
set_option maxRecDepth 100000
attribute [local go_sem ↓] Go.wp_at_zero Go.wp_at_succ

def FilledOut (st sz rt cap : Int) (S n : Nat) (w : World) (e : Ending) (w' : World) : Prop :=
  ∃ v, e = .returned (.tuple #[v, .bool (decide (OkTo st sz rt cap S n))]) ∧ (OkTo st sz rt cap S n → Own w' w.heap.size v (fillQ st sz rt S n)) ∧ Below w.heap.size w w'
theorem fillQ_succ (st sz rt : Int) (S k : Nat) : fillQ st sz rt S (k + 1) = fillQ st sz rt S k ++ [qS st sz rt S k] := by unfold fillQ; rw [List.range_succ, List.map_append]; rfl

set_option maxHeartbeats 3200000 in
theorem refFilled_is (kd dm : Int) (pt : Value) (rt sz st ru hd cap : Int) (n S : Nat) (w : World) (T : TankOk st rt sz ru hd) (hn : n ≤ 20) (hS : S < 18446744073709551616) :
    Calls Tryz.prog 89 #[.agg #[.int .i64 kd, .int .i64 dm, pt, .int .i64 rt, .int .i64 sz, .int .i64 st, .int .i64 ru, .int .i64 hd], .int .i64 n, .int .i64 cap, .int .u64 S] w (FilledOut st sz rt cap S n w) := by
  obtain ⟨w1, ew, hb1, hsz1, hcu⟩ := box_cust w kd dm pt rt sz st ru hd
  have Hew := Lib.hid ew
  have HT := Lib.hid T
  have hsz : w.heap.size ≤ w1.heap.size := hb1.size
  obtain ⟨c0, c1, c2, c3, c4, c5, c6, c7⟩ := hcu
  clear ew hsz1 T
  go_enter Tryz.func89, Tryz.ntmps89
  go_upto_region 1 with (fail)
  rw [Hew.out]
  go_wp2_with fail
  go_loopw [10, 11, 12, 13] (fun u t i q wr => ∃ (k : Nat) (x y : Value) (TT : Int), k ≤ n ∧ x = u ∧ y = q ∧ t = .int .i64 TT ∧ TT = tS st sz rt S k ∧ i = .int .i64 k ∧ Own wr w1.heap.size x (fillQ st sz rt S k) ∧ (∀ j, j < k → S.testBit j = true → fitF st sz rt cap S j) ∧ Below w1.heap.size w1 wr) (fun _ _ i _ _ => n - (intOf i).toNat)
  case atStart => exact ⟨0, _, _, st, Nat.zero_le _, rfl, rfl, rfl, rfl, rfl, Own.nil _ _, fun j hj => by omega, Below.refl _ _⟩
  case round =>
    obtain ⟨k, x, y, TT, hk, rfl, rfl, rfl, hTT, rfl, hown, hall, hb⟩ := hrel
    have HTT := Lib.hid hTT
    have Hown := Lib.hid hown
    have Hall := Lib.hid hall
    have Hb := Lib.hid hb
    have hszr : w1.heap.size ≤ wr.heap.size := hb.size
    obtain ⟨d0, d1, d2, d3, d4, d5, d6, d7⟩ : IsCust wr w.heap.size kd dm pt rt sz st ru hd := IsCust.below ⟨c0, c1, c2, c3, c4, c5, c6, c7⟩ hb
    have htb := there_bd HT.out S k (by omega)
    rw [← hTT] at htb
    clear hTT hown hall
    by_cases hlt : k < n
    · have hH := refHas_is S (k : Int) wr hS
      rw [has_test S (k : Int) k rfl (by omega)] at hH
      have hst := fillQ_succ st sz rt S k
      have Hlen : Hid ((fillQ st sz rt S k).length + 1 ≤ 17592186044416) := Lib.hid (by rw [fillQ_len]; omega)
      generalize fillQ st sz rt S k = XS at *
      have hi1 : (k : Int) < (n : Int) := by omega
      have z1 := HT.out.sz1; have z0 := HT.out.sz0; have r0 := HT.out.rt0; have r1 := HT.out.rt1
      cases hbit : S.testBit k with
      | true =>
        rw [hbit] at hH
        have hq : qS st sz rt S k = sz - TT := by rw [HTT.out, qS, if_pos hbit]
        have hT2 : tS st sz rt S (k + 1) = sz - rt := tS_yes hbit
        have hfit : fitF st sz rt cap S k ↔ (1 ≤ sz - TT ∧ sz - TT ≤ cap) := by unfold fitF; rw [HTT.out]
        have hw2 : wrap64 (TT + (sz - TT)) = sz := by rw [wrap_id (by omega) (by omega)]; omega
        have hw4 : TT + (sz - TT) = sz := by omega
        have hw3 : wrap64 (sz - rt) = sz - rt := wrap_id (by omega) (by omega)
        rw [hq] at hst
        have Hst := Lib.hid hst
        have HH := Lib.hid hH
        have HT2 := Lib.hid hT2
        have Hfit := Lib.hid hfit
        have Hbit := Lib.hid hbit
        clear hst hH hT2 hfit hbit hq hb
        have hcase : (decide (sz - TT < 1) = true ∧ ¬ (1 ≤ sz - TT ∧ sz - TT ≤ cap)) ∨ (decide (sz - TT < 1) = false ∧ decide (cap < sz - TT) = true ∧ ¬ (1 ≤ sz - TT ∧ sz - TT ≤ cap)) ∨ (decide (sz - TT < 1) = false ∧ decide (cap < sz - TT) = false ∧ (1 ≤ sz - TT ∧ sz - TT ≤ cap)) := by
          by_cases h1 : sz - TT < 1
          · exact .inl ⟨decide_eq_true h1, by omega⟩
          · by_cases h2 : cap < sz - TT
            · exact .inr (.inl ⟨decide_eq_false h1, decide_eq_true h2, by omega⟩)
            · exact .inr (.inr ⟨decide_eq_false h1, decide_eq_false h2, by omega⟩)
        rcases hcase with ⟨q1, q3⟩ | ⟨q1, q2, q3⟩ | ⟨q1, q2, q3⟩
        · have hno : ¬ OkTo st sz rt cap S n := fun h => q3 (Hfit.out.1 ((h k hlt).1 Hbit.out))
          have Hno := Lib.hid hno
          clear q3 hno
          go_wp2_with fail
          refine HH.out.mono ?_
          rintro e w3 ⟨rfl, hb3⟩
          obtain ⟨d0, d1, d2, d3, d4, d5, d6, d7⟩ : IsCust w3 w.heap.size kd dm pt rt sz st ru hd := IsCust.below ⟨d0, d1, d2, d3, d4, d5, d6, d7⟩ hb3
          have Hb3 := Lib.hid (bel2 Hb.out hb3)
          clear hb3
          go_wp2_with fail
          go_ret2
          exact ⟨_, by rw [decide_eq_false Hno.out]; rfl, fun h => absurd h Hno.out, hb1.trans (Hb3.out.mono hsz)⟩
        · have hno : ¬ OkTo st sz rt cap S n := fun h => q3 (Hfit.out.1 ((h k hlt).1 Hbit.out))
          have Hno := Lib.hid hno
          clear q3 hno
          go_wp2_with fail
          refine HH.out.mono ?_
          rintro e w3 ⟨rfl, hb3⟩
          obtain ⟨d0, d1, d2, d3, d4, d5, d6, d7⟩ : IsCust w3 w.heap.size kd dm pt rt sz st ru hd := IsCust.below ⟨d0, d1, d2, d3, d4, d5, d6, d7⟩ hb3
          have Hb3 := Lib.hid (bel2 Hb.out hb3)
          clear hb3
          go_wp2_with fail
          go_ret2
          exact ⟨_, by rw [decide_eq_false Hno.out]; rfl, fun h => absurd h Hno.out, hb1.trans (Hb3.out.mono hsz)⟩
        · have hall2 : ∀ j, j < k + 1 → S.testBit j = true → fitF st sz rt cap S j := fun j hj hbj => by
            rcases Nat.lt_succ_iff_lt_or_eq.1 hj with h | rfl
            · exact Hall.out j h hbj
            · exact Hfit.out.2 q3
          have Hall2 := Lib.hid hall2
          clear q3 hall2
          go_wp2_with fail
          refine HH.out.mono ?_
          rintro e w3 ⟨rfl, hb3⟩
          obtain ⟨d0, d1, d2, d3, d4, d5, d6, d7⟩ : IsCust w3 w.heap.size kd dm pt rt sz st ru hd := IsCust.below ⟨d0, d1, d2, d3, d4, d5, d6, d7⟩ hb3
          have Hb3 := Lib.hid (bel2 Hb.out hb3)
          have Hown3 := Lib.hid (Hown.out.below hb3)
          have hsz3 : w1.heap.size ≤ w3.heap.size := Hb3.out.size
          have hlt3 : w.heap.size < w3.heap.size := World.block_lt_of_cell? w3 _ d0
          have hltg : w.heap.size < w1.heap.size := World.block_lt_of_cell? w1 _ c0
          clear hb3
          go_wp2_with (at_builtin; refine wpList_push rfl _ _ rfl w3 w1.heap.size x XS (sz - TT) rfl rfl Hown3.out Hlen.out hsz3 ?_)
          intro v' w5 hown5 g5 hb5
          rw [← Hst.out] at hown5
          have Hown5 := Lib.hid hown5
          have Hb5 := Lib.hid (Hb3.out.trans hb5)
          have q3 := cell_lt hb5 hltg d3
          clear g5 hb5 hown5
          go_wp2_with fail
          go_roundw
          case rel => exact ⟨k + 1, _, _, _, by omega, rfl, rfl, rfl, HT2.out.symm, by go_num, Hown5.out, Hall2.out, Hb5.out⟩
          case measure => simp [intOf]; omega
      | false =>
        rw [hbit] at hH
        have hq : qS st sz rt S k = 0 := by rw [qS, if_neg (by simp [hbit])]
        have hT2 : tS st sz rt S (k + 1) = TT - rt := by rw [tS_no hbit, HTT.out]
        have hw0 : wrap64 TT = TT := wrap_id (by omega) (by omega)
        have hw3 : wrap64 (TT - rt) = TT - rt := wrap_id (by omega) (by omega)
        rw [hq] at hst
        have Hst := Lib.hid hst
        have HH := Lib.hid hH
        have HT2 := Lib.hid hT2
        have Hall2 : Hid (∀ j, j < k + 1 → S.testBit j = true → fitF st sz rt cap S j) := Lib.hid (fun j hj hbj => by
          rcases Nat.lt_succ_iff_lt_or_eq.1 hj with h | rfl
          · exact Hall.out j h hbj
          · rw [hbit] at hbj; simp at hbj)
        clear hst hH hT2 hbit hq hb
        go_wp2_with fail
        refine HH.out.mono ?_
        rintro e w3 ⟨rfl, hb3⟩
        obtain ⟨d0, d1, d2, d3, d4, d5, d6, d7⟩ : IsCust w3 w.heap.size kd dm pt rt sz st ru hd := IsCust.below ⟨d0, d1, d2, d3, d4, d5, d6, d7⟩ hb3
        have Hb3 := Lib.hid (bel2 Hb.out hb3)
        have Hown3 := Lib.hid (Hown.out.below hb3)
        have hsz3 : w1.heap.size ≤ w3.heap.size := Hb3.out.size
        have hltg : w.heap.size < w1.heap.size := World.block_lt_of_cell? w1 _ c0
        clear hb3
        go_wp2_with (at_builtin; refine wpList_push rfl _ _ rfl w3 w1.heap.size x XS 0 rfl rfl Hown3.out Hlen.out hsz3 ?_)
        intro v' w5 hown5 g5 hb5
        rw [← Hst.out] at hown5
        have Hown5 := Lib.hid hown5
        have Hb5 := Lib.hid (Hb3.out.trans hb5)
        have q3 := cell_lt hb5 hltg d3
        clear g5 hb5 hown5
        go_wp2_with fail
        go_roundw
        case rel => exact ⟨k + 1, _, _, _, by omega, rfl, rfl, rfl, HT2.out.symm, by go_num, Hown5.out, Hall2.out, Hb5.out⟩
        case measure => simp [intOf]; omega
    · have hkn : k = n := by omega
      subst hkn
      have hH := holds_fill HT.out (show k ≤ 64 by omega) Hall.out
      have hok : (holdsE st rt sz ru (fillQ st sz rt S k) == 0) = decide (OkTo st sz rt cap S k) := by
        by_cases h : OkTo st sz rt cap S k
        · rw [decide_eq_true h, beq_iff_eq]
          exact hH.2 (fun j hj => (h j hj).2)
        · rw [decide_eq_false h, beq_eq_false_iff_ne]
          intro h'
          exact h (fun j hj => ⟨Hall.out j hj, hH.1 h' j hj⟩)
      have hSm : Small st rt sz (fillQ st sz rt S k) := ⟨HT.out.st0, by have := HT.out.st1; have := HT.out.sz1; omega, HT.out.rt0, by have := HT.out.rt1; omega, by rw [fillQ_len]; omega⟩
      have HHo := Lib.hid (refHolds_is kd dm pt rt sz st ru hd x (fillQ st sz rt S k) wr Hown.out.ints hSm)
      generalize holdsE st rt sz ru (fillQ st sz rt S k) = HE at *
      have Hok := Lib.hid hok
      clear hH hok hSm hb
      go_wp2_with fail
      refine HHo.out.mono ?_
      rintro e w3 ⟨rfl, hb3⟩
      have Hown3 := Lib.hid (Hown.out.below hb3)
      have Hb3 := Lib.hid (bel2 Hb.out hb3)
      clear hb3
      go_wp2_with fail
      go_ret2
      rw [Hok.out]
      exact ⟨_, rfl, fun _ => Hown3.out.mono hsz, hb1.trans (Hb3.out.mono hsz)⟩
end Go.Proofs.YtnhcgpkcmfelkaaGreat
