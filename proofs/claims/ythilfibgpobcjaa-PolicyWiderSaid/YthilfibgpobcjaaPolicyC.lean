/-
  My own work: policy.fills: its contract.
-/
import Derived.Test.YthilfibgpobcjaaPolicyB
import Derived.Test.YthilfibgpobcjaaPolicyPl2
import Derived.Deep.LoopGhost
import Derived.WalkMore
namespace Go.Proofs.Ythilfibgpobcjaa
open Go.RowKit
set_option linter.unusedVariables false

theorem fillNow_succ (st sz ru rt cap : Int) (S d j : Nat) : fillNow st sz ru rt cap S d (j + 1) = (fillNow st sz ru rt cap S d j || fillLast st sz ru rt cap S d ((j : Int) - 1)) := any_succ _ j
theorem endNow_succ (st sz rt : Int) (S n j : Nat) : endNow st sz rt S n (j + 1) = (endNow st sz rt S n j || okLast st sz rt S n ((j : Int) - 1)) := any_succ _ j
theorem fillNow_le (st sz ru rt cap : Int) (S d j k : Nat) (hjk : j ≤ k) (h : fillNow st sz ru rt cap S d j = true) : fillNow st sz ru rt cap S d k = true := by
  unfold fillNow at *
  rw [List.any_eq_true] at *
  obtain ⟨i, hi, hf⟩ := h
  refine ⟨i, ?_, hf⟩
  simp at hi ⊢
  omega
theorem endNow_le (st sz rt : Int) (S n j k : Nat) (hjk : j ≤ k) (h : endNow st sz rt S n j = true) : endNow st sz rt S n k = true := by
  unfold endNow at *
  rw [List.any_eq_true] at *
  obtain ⟨i, hi, hf⟩ := h
  refine ⟨i, ?_, hf⟩
  simp at hi ⊢
  omega
theorem fillSet_yes {st sz ru rt cap : Int} {d j : Nat} (hj : j ≤ d) (h : fillLast st sz ru rt cap (fillSet st sz ru rt cap d) d ((j : Int) - 1) = true) : fillSet st sz ru rt cap (d + 1) = withN (fillSet st sz ru rt cap d) d := by
  rw [fillSet, if_pos]
  apply fillNow_le st sz ru rt cap _ d (j + 1) (d + 1) (by omega)
  rw [fillNow_succ, h, Bool.or_true]
theorem fillSet_no {st sz ru rt cap : Int} {d : Nat} (h : fillNow st sz ru rt cap (fillSet st sz ru rt cap d) d (d + 1) = false) : fillSet st sz ru rt cap (d + 1) = fillSet st sz ru rt cap d := by
  rw [fillSet, if_neg (by rw [h]; simp)]

/-- What a place of a fill says: is it to be passed over, and what is there. -/
theorem okLast_none (st sz rt : Int) (S d : Nat) : okLast st sz rt S d (((0 : Nat) : Int) - 1) = decide (0 ≤ st - rt * d) ∧ thereI st sz rt d (((0 : Nat) : Int) - 1) = st - rt * d := by
  unfold okLast thereI
  simp
theorem okLast_some (st sz rt : Int) (S d i : Nat) : okLast st sz rt S d (((i + 1 : Nat) : Int) - 1) = (decide (0 ≤ sz - rt * ((d : Int) - i)) && S.testBit i) ∧ thereI st sz rt d (((i + 1 : Nat) : Int) - 1) = sz - rt * ((d : Int) - i) := by
  have e : ((i + 1 : Nat) : Int) - 1 = (i : Int) := by omega
  unfold okLast thereI
  rw [e, if_pos (by omega), Int.toNat_natCast]
  have : ¬ (i : Int) < 0 := by omega
  simp [this]

def FillsOut (w : World) (b : Bool) (e : Ending) (w' : World) : Prop := e = .returned (.bool b) ∧ Below w.heap.size w w'

set_option maxRecDepth 100000 in
set_option maxHeartbeats 6400000 in
theorem fills_is (kd dm : Int) (pt : Value) (rt sz st ru hd : Int) (n : Nat) (cap : Int) (w : World) (hs0 : 0 ≤ sz) (hs1 : sz ≤ 1000000) (hst0 : 0 ≤ st) (hst1 : st ≤ 1000000) (hrt0 : 0 ≤ rt) (hrt1 : rt ≤ 1000000) (hn : n ≤ 64) :
    Calls Try.prog 58 #[.agg #[.int .i64 kd, .int .i64 dm, pt, .int .i64 rt, .int .i64 sz, .int .i64 st, .int .i64 ru, .int .i64 hd], .int .i64 n, .int .i64 cap] w (FillsOut w (fillsB st sz ru rt cap n)) := by
  obtain ⟨w1, ew, hb1, hsz1, hcu⟩ := box_cust w kd dm pt rt sz st ru hd
  have Hew := Lib.hid ew
  have Hcu := Lib.hid hcu
  have Hb1 := Lib.hid hb1
  have hle : w.heap.size ≤ w1.heap.size := hb1.size
  clear ew hcu hb1 hsz1
  go_enter Try.func58, Try.ntmps58
  go_wp2_with fail
  rw [Hew.out]
  generalize eg : w.heap.size = g at *
  have Heg := Lib.hid eg
  clear eg
  go_wp2_with fail
  go_step3
  go_wp2_with fail
  go_step3
  go_wp2_with fail
  go_loopg [7, 8] (n + 1) (fun gh x i wr => ∃ (d S : Nat), d + gh = n + 1 ∧ i = .int .i64 d ∧ x = .int .u64 (S : Int) ∧ (d ≤ n → S = fillSet st sz ru rt cap d) ∧ (d = n + 1 → fillsB st sz ru rt cap n = false) ∧ Below w1.heap.size w1 wr)
  case atStart => exact ⟨0, 0, by omega, rfl, rfl, fun _ => rfl, fun h => by omega, Below.refl _ _⟩
  case round =>
    obtain ⟨d, S, hdg, rfl, rfl, hS, hend, hb⟩ := hrel
    cases gk with
    | zero =>
      have hdn : ¬ (d : Int) ≤ (n : Int) := by omega
      have He := Lib.hid (hend (by omega))
      clear hS hend
      go_wp2_with fail
      (try rw [Exit.noGoto_ret])
      go_ret
      exact ⟨ret_bool He.out.symm, by rw [Heg.out]; exact (Hb1.out.trans (hb.mono hle))⟩
    | succ gh =>
      have hlt : d ≤ n := by omega
      have hSe := hS hlt
      have hlS := Lib.hid (show S < 18446744073709551616 by rw [hSe]; exact fillSet_lt _ _ _ _ _ _)
      have HS := Lib.hid hSe
      clear hS hend hSe
      have hd0 : (0 : Int) ≤ (d : Int) := by omega
      have hdn : (d : Int) ≤ (n : Int) := by omega
      have hd64 : (d : Int) ≤ 64 := by omega
      obtain ⟨M, hM⟩ : ∃ M, M = rt * (d : Int) := ⟨_, rfl⟩
      have hM0 : 0 ≤ M := by rw [hM]; exact Int.mul_nonneg hrt0 hd0
      have hM1 : M ≤ 64000000 := by rw [hM]; exact Int.le_trans (Int.mul_le_mul hrt1 hd64 hd0 (by omega)) (by decide)
      have hM' : rt * (d : Int) = M := hM.symm
      have HM := Lib.hid hM
      clear hM
      go_wp2_with fail
      obtain ⟨wo, hwo⟩ : ∃ wo : World, wo = wr := ⟨_, rfl⟩
      subst hwo
      go_loopg [7, 9] (d + 1) (fun g2 x l wr => ∃ j : Nat, j + g2 = d + 1 ∧ x = .int .u64 (S : Int) ∧ l = .int .i64 ((j : Int) - 1) ∧ (d < n → fillNow st sz ru rt cap S d j = false) ∧ (d = n → endNow st sz rt S n j = false) ∧ Below w1.heap.size w1 wr)
      case atStart => exact ⟨0, by omega, rfl, rfl, fun _ => rfl, fun _ => rfl, hb⟩
      case round =>
        obtain ⟨j, hj, rfl, rfl, hF, hE, hb2⟩ := hrel
        have hcu2 := Hcu.out.below hb2
        obtain ⟨c0, c1, c2, c3, c4, c5, c6, c7⟩ := hcu2
        have HF := Lib.hid hF
        have HE := Lib.hid hE
        clear hF hE hb
        cases gk with
        | zero =>
          have hjd : j = d + 1 := by omega
          subst hjd
          have hstop : ¬ (((d + 1 : Nat) : Int) - 1 < (d : Int)) := by omega
          have Hb2 := Lib.hid hb2
          clear hb2
          have Hend2 : Hid (d + 1 = n + 1 → fillsB st sz ru rt cap n = false) := Lib.hid (fun h => by
            have e : n = d := by omega
            subst e
            unfold fillsB
            rw [← HS.out]
            exact HE.out rfl)
          have Hset2 : Hid (d + 1 ≤ n → S = fillSet st sz ru rt cap (d + 1)) := Lib.hid (fun h => by rw [fillSet_no (by rw [← HS.out]; exact HF.out (by omega)), ← HS.out])
          go_wp2_with fail
          go_roundg gh
          case measure => omega
          case rel => exact ⟨d + 1, S, by omega, by go_num, rfl, Hset2.out, Hend2.out, Hb2.out⟩
        | succ g2 =>
          have hjd : j ≤ d := by omega
          cases j with
          | zero =>
            obtain ⟨hk, hth⟩ := okLast_none st sz rt S d
            rw [← HM.out] at hk hth
            rw [show (((0 : Nat) : Int) - 1) = -1 from rfl]
            obtain ⟨T, hT⟩ : ∃ T, T = st - M := ⟨_, rfl⟩
            rw [← hT] at hk hth
            have hT' : st - M = T := hT.symm
            have hTb : T ≤ 1000000 := by omega
            have hTb2 : -64000000 ≤ T := by omega
            have HTH := Lib.hid hth
            have hlast : (-1 : Int) < (d : Int) := by omega
            clear hth hT
            by_cases hT0 : T < 0
            · rw [decide_eq_false (by omega)] at hk
              have HK := Lib.hid hk
              have hT0' : decide (T < 0) = true := by simpa using hT0
              clear hk hT0
              have Hno : Hid ((d < n → fillNow st sz ru rt cap S d (0 + 1) = false) ∧ (d = n → endNow st sz rt S n (0 + 1) = false)) := Lib.hid ⟨fun h => by rw [fillNow_succ, HF.out h]; unfold fillLast; rw [HK.out]; rfl, fun h => by rw [endNow_succ, HE.out h, ← h, HK.out]; rfl⟩
              have Hb2 := Lib.hid hb2
              clear hb2
              go_wp2_with fail
              go_roundg g2
              case measure => omega
              case rel => exact ⟨0 + 1, by omega, rfl, by go_num, Hno.out.1, Hno.out.2, Hb2.out⟩
            · rw [decide_eq_true (by omega)] at hk
              have HK := Lib.hid hk
              have hT0' : decide (T < 0) = false := by simpa using hT0
              have hT1 : 0 ≤ T := by omega
              have hT0 : 0 ≤ T := hT1
              clear hk
              by_cases hdn2 : d = n
              · have hret : fillsB st sz ru rt cap n = true := by
                  subst hdn2
                  unfold fillsB
                  rw [← HS.out]
                  apply endNow_le st sz rt S d (0 + 1) (d + 1) (by omega)
                  rw [endNow_succ, HK.out, Bool.or_true]
                have Hret := Lib.hid hret
                have hq : ((d : Int) == (n : Int)) = true := by rw [beq_iff_eq]; omega
                have Hb2 := Lib.hid hb2
                clear hret hb2 c0 c1 c2 c6 c7 hdn2
                go_wp2_with fail
                (try rw [Exit.noGoto_ret])
                go_ret
                exact ⟨ret_bool Hret.out.symm, by rw [Heg.out]; exact (Hb1.out.trans (Hb2.out.mono hle))⟩
              · have hq : ((d : Int) == (n : Int)) = false := by rw [beq_eq_false_iff_ne]; omega
                have hdn3 : d < n := by omega
                obtain ⟨X, hX⟩ : ∃ X, X = mostI sz ru T cap := ⟨_, rfl⟩
                have Hcall := Lib.hid (most_is kd dm pt rt sz st ru hd T cap wr hs0 (by omega) hT0 (by omega))
                rw [← hX] at Hcall
                have HX := Lib.hid hX
                have Hb2 := Lib.hid hb2
                clear hX hb2 hdn2
                go_wp2_with fail
                refine Hcall.out.mono ?_
                rintro e w5 ⟨rfl, hb5⟩
                have b5 := Lib.hid (Hb2.out.trans (hb5.mono Hb2.out.size))
                clear hb5 c0 c1 c2 c3 c4 c5 c6 c7
                by_cases hpos : 0 < X
                · have hl : fillLast st sz ru rt cap (fillSet st sz ru rt cap d) d (((0 : Nat) : Int) - 1) = true := by
                    rw [← HS.out]; unfold fillLast; rw [HK.out, HTH.out, ← HX.out]; simpa using hpos
                  have Hset : Hid (fillSet st sz ru rt cap (d + 1) = withN S d) := Lib.hid (by rw [fillSet_yes (by omega) hl, ← HS.out])
                  have hpos' : decide (0 < X) = true := by simpa using hpos
                  clear hl hpos
                  go_wp2_with fail
                  refine (with_is S (d : Int) _ hlS.out).mono ?_
                  rintro e w6 ⟨rfl, rfl⟩
                  go_wp2_with fail
                  go_roundg gh
                  case measure => omega
                  case rel => exact ⟨d + 1, _, by omega, by go_num, rfl, fun _ => Hset.out.symm, fun h => by omega, b5.out⟩
                · have hl : fillLast st sz ru rt cap S d (((0 : Nat) : Int) - 1) = false := by unfold fillLast; rw [HK.out, HTH.out, ← HX.out]; simpa using hpos
                  have Hno : Hid (fillNow st sz ru rt cap S d (0 + 1) = false) := Lib.hid (by rw [fillNow_succ, HF.out hdn3, hl]; rfl)
                  have hpos' : decide (0 < X) = false := by simpa using hpos
                  clear hl hpos
                  go_wp2_with fail
                  go_roundg g2
                  case measure => omega
                  case rel => exact ⟨0 + 1, by omega, rfl, by go_num, fun _ => Hno.out, fun h => by omega, b5.out⟩
          | succ i =>
            obtain ⟨hk, hth⟩ := okLast_some st sz rt S d i
            rw [show (((i + 1 : Nat) : Int) - 1) = (i : Int) by omega]
            have hi0 : (0 : Int) ≤ (i : Int) := by omega
            have hi1 : (i : Int) < (d : Int) := by omega
            obtain ⟨N, hN⟩ : ∃ N, N = rt * ((d : Int) - i) := ⟨_, rfl⟩
            have hN0 : 0 ≤ N := by rw [hN]; exact Int.mul_nonneg hrt0 (by omega)
            have hN1 : N ≤ 64000000 := by rw [hN]; exact Int.le_trans (Int.mul_le_mul hrt1 (show (d : Int) - i ≤ 64 by omega) (by omega) (by omega)) (by decide)
            have hN' : rt * ((d : Int) - i) = N := hN.symm
            rw [← hN] at hk hth
            obtain ⟨T, hT⟩ : ∃ T, T = sz - N := ⟨_, rfl⟩
            rw [← hT] at hk hth
            have hT' : sz - N = T := hT.symm
            have hTb : T ≤ 1000000 := by omega
            have hTb2 : -64000000 ≤ T := by omega
            have HTH := Lib.hid hth
            have hsub0 : -64000000 ≤ st - M := by omega
            clear hth hT hN
            by_cases hT0 : T < 0
            · rw [decide_eq_false (by omega), Bool.false_and] at hk
              have HK := Lib.hid hk
              have hT0' : decide (T < 0) = true := by simpa using hT0
              clear hk hT0
              have Hno : Hid ((d < n → fillNow st sz ru rt cap S d ((i + 1) + 1) = false) ∧ (d = n → endNow st sz rt S n ((i + 1) + 1) = false)) := Lib.hid ⟨fun h => by rw [fillNow_succ, HF.out h]; unfold fillLast; rw [HK.out]; rfl, fun h => by rw [endNow_succ, HE.out h, ← h, HK.out]; rfl⟩
              have Hb2 := Lib.hid hb2
              clear hb2
              go_wp2_with fail
              go_roundg g2
              case measure => omega
              case rel => exact ⟨(i + 1) + 1, by omega, rfl, by go_num, Hno.out.1, Hno.out.2, Hb2.out⟩
            · rw [decide_eq_true (by omega), Bool.true_and] at hk
              have hT0' : decide (T < 0) = false := by simpa using hT0
              have hT1 : 0 ≤ T := by omega
              have hhas := has_is S (i : Int) wr hlS.out
              rw [has_test S _ i rfl (by omega)] at hhas
              clear hT0
              have hT0 : 0 ≤ T := hT1
              cases htb : S.testBit i with
              | false =>
                rw [htb] at hk hhas
                have HK := Lib.hid hk
                have Hhas := Lib.hid hhas
                clear hk hhas htb
                have Hno : Hid ((d < n → fillNow st sz ru rt cap S d ((i + 1) + 1) = false) ∧ (d = n → endNow st sz rt S n ((i + 1) + 1) = false)) := Lib.hid ⟨fun h => by rw [fillNow_succ, HF.out h]; unfold fillLast; rw [HK.out]; rfl, fun h => by rw [endNow_succ, HE.out h, ← h, HK.out]; rfl⟩
                have Hb2 := Lib.hid hb2
                clear hb2
                go_wp2_with fail
                refine Hhas.out.mono ?_
                rintro e w4 ⟨rfl, rfl⟩
                go_wp2_with fail
                go_roundg g2
                case measure => omega
                case rel => exact ⟨(i + 1) + 1, by omega, rfl, by go_num, Hno.out.1, Hno.out.2, Hb2.out⟩
              | true =>
                rw [htb] at hk hhas
                have HK := Lib.hid hk
                have Hhas := Lib.hid hhas
                clear hk hhas htb
                by_cases hdn2 : d = n
                · have hret : fillsB st sz ru rt cap n = true := by
                    subst hdn2
                    unfold fillsB
                    rw [← HS.out]
                    apply endNow_le st sz rt S d ((i + 1) + 1) (d + 1) (by omega)
                    rw [endNow_succ, HK.out, Bool.or_true]
                  have Hret := Lib.hid hret
                  have hq : ((d : Int) == (n : Int)) = true := by rw [beq_iff_eq]; omega
                  have Hb2 := Lib.hid hb2
                  clear hret hb2 c0 c1 c2 c6 c7 hdn2
                  go_wp2_with fail
                  refine Hhas.out.mono ?_
                  rintro e w4 ⟨rfl, rfl⟩
                  go_wp2_with fail
                  (try rw [Exit.noGoto_ret])
                  go_ret
                  exact ⟨ret_bool Hret.out.symm, by rw [Heg.out]; exact (Hb1.out.trans (Hb2.out.mono hle))⟩
                · have hq : ((d : Int) == (n : Int)) = false := by rw [beq_eq_false_iff_ne]; omega
                  have hdn3 : d < n := by omega
                  obtain ⟨X, hX⟩ : ∃ X, X = mostI sz ru T cap := ⟨_, rfl⟩
                  have Hcall := Lib.hid (most_is kd dm pt rt sz st ru hd T cap wr hs0 (by omega) hT0 (by omega))
                  rw [← hX] at Hcall
                  have HX := Lib.hid hX
                  have Hb2 := Lib.hid hb2
                  clear hX hb2 hdn2
                  go_wp2_with fail
                  refine Hhas.out.mono ?_
                  rintro e w4 ⟨rfl, rfl⟩
                  go_wp2_with fail
                  refine Hcall.out.mono ?_
                  rintro e w5 ⟨rfl, hb5⟩
                  have b5 := Lib.hid (Hb2.out.trans (hb5.mono Hb2.out.size))
                  clear hb5 c0 c1 c2 c3 c4 c5 c6 c7
                  by_cases hpos : 0 < X
                  · have hl : fillLast st sz ru rt cap (fillSet st sz ru rt cap d) d (((i + 1 : Nat) : Int) - 1) = true := by
                      rw [← HS.out]; unfold fillLast; rw [HK.out, HTH.out, ← HX.out]; simpa using hpos
                    have Hset : Hid (fillSet st sz ru rt cap (d + 1) = withN S d) := Lib.hid (by rw [fillSet_yes (by omega) hl, ← HS.out])
                    have hpos' : decide (0 < X) = true := by simpa using hpos
                    clear hl hpos
                    go_wp2_with fail
                    refine (with_is S (d : Int) _ hlS.out).mono ?_
                    rintro e w6 ⟨rfl, rfl⟩
                    go_wp2_with fail
                    go_roundg gh
                    case measure => omega
                    case rel => exact ⟨d + 1, _, by omega, by go_num, rfl, fun _ => Hset.out.symm, fun h => by omega, b5.out⟩
                  · have hl : fillLast st sz ru rt cap S d (((i + 1 : Nat) : Int) - 1) = false := by unfold fillLast; rw [HK.out, HTH.out, ← HX.out]; simpa using hpos
                    have Hno : Hid (fillNow st sz ru rt cap S d ((i + 1) + 1) = false) := Lib.hid (by rw [fillNow_succ, HF.out hdn3, hl]; rfl)
                    have hpos' : decide (0 < X) = false := by simpa using hpos
                    clear hl hpos
                    go_wp2_with fail
                    go_roundg g2
                    case measure => omega
                    case rel => exact ⟨(i + 1) + 1, by omega, rfl, by go_num, fun _ => Hno.out, fun h => by omega, b5.out⟩
end Go.Proofs.Ythilfibgpobcjaa
