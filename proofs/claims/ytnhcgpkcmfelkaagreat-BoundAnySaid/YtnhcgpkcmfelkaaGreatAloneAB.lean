/-
  My own work: layer 11: Forced, Solve, Easy, Bound of any customer that may be: their contracts.
-/
import Derived.Test.YtnhcgpkcmfelkaaGreatAloneAA
import Derived.Test.YtnhcgpkcmfelkaaGreatAloneT
import Derived.Test.YtnhcgpkcmfelkaaGreatAloneU
import Derived.Test.YtnhcgpkcmfelkaaGreatMPol
import Derived.Test.YtnhcgpkcmfelkaaGreatExt
import Derived.Deep.RegionHeld3
namespace Go.Proofs.YtnhcgpkcmfelkaaGreat
open Go.RowKit
set_option linter.unusedVariables false
set_option maxRecDepth 100000
attribute [local go_sem ↓] Go.wp_at_zero Go.wp_at_succ

theorem ok_ps {n : Nat} {kd dm : Int} {ps : List Nat} {rt sz st ru hd : Int} (hn : n ≤ 20) (h : CuOk n kd dm ps rt sz st ru hd) (hkd : kd = 1) : (∀ p ∈ ps, p < 18446744073709551616) ∧ ps.length ≤ 1000 ∧ 0 < ps.length := by
  rcases h with ⟨_, _, _, h1, h2, h3, _⟩ | ⟨h, _⟩
  · exact ⟨fun p hp => pow_le_64 (by omega) (h3 p hp), h1, h2⟩
  · omega
theorem ok_kd {n : Nat} {kd dm : Int} {ps : List Nat} {rt sz st ru hd : Int} (h : CuOk n kd dm ps rt sz st ru hd) : kd = 1 ∨ (kd = 2 ∧ TankOk st rt sz ru hd) := by
  rcases h with h | h
  · exact .inl h.1
  · exact .inr h

theorem polForced_is (kd dm : Int) (pt : Value) (rt sz st ru hd cap : Int) (n : Nat) (ps : List Nat) (w : World) (hC : CuOk n kd dm ps rt sz st ru hd) (hn : n ≤ 20) (hp : Words w pt ps) :
    Calls Tryz.prog 54 #[.agg #[.int .i64 kd, .int .i64 dm, pt, .int .i64 rt, .int .i64 sz, .int .i64 st, .int .i64 ru, .int .i64 hd], .int .i64 n, .int .i64 cap] w (CostOut w (forcedV kd ps rt st sz n cap)) := by
  have hps := ok_ps hn hC
  unfold forcedV
  rcases ok_kd hC with rfl | ⟨rfl, T⟩
  · have hps := hps rfl
    rw [if_pos rfl]
    exact forced1_is dm pt rt sz st ru hd cap n ps w hp hps.1 hps.2.1
  · rw [if_neg (by decide)]
    have z0 := T.sz0; have z1 := T.sz1; have z2 := T.st0; have z3 := T.st1; have z4 := T.rt0; have z5 := T.rt1
    exact forced_is dm pt rt sz st ru hd n cap w z0 (by omega) z2 (by omega) z4 (by omega) (by omega)
theorem refForcedC_is (kd dm : Int) (pt : Value) (rt sz st ru hd cap : Int) (n : Nat) (ps : List Nat) (w : World) (hC : CuOk n kd dm ps rt sz st ru hd) (hn : n ≤ 20) (hp : Words w pt ps) :
    Calls Tryz.prog 31 #[.agg #[.int .i64 kd, .int .i64 dm, pt, .int .i64 rt, .int .i64 sz, .int .i64 st, .int .i64 ru, .int .i64 hd], .int .i64 n, .int .i64 cap] w (CostOut w (forcedV kd ps rt st sz n cap)) := by
  have hps := ok_ps hn hC
  unfold forcedV
  rcases ok_kd hC with rfl | ⟨rfl, T⟩
  · have hps := hps rfl
    rw [if_pos rfl]
    exact refForced1_is dm pt rt sz st ru hd cap n ps w hp hps.1 hps.2.1 hps.2.2
  · rw [if_neg (by decide)]
    exact refForced2_is dm pt rt sz st ru hd cap n w T (by omega)
theorem solveC_is (kd dm : Int) (pt pv : Value) (rt sz st ru hd cap : Int) (n : Nat) (ps : List Nat) (P : List Int) (w : World) (hC : CuOk n kd dm ps rt sz st ru hd) (hn : n ≤ 20) (hp : Words w pt ps) (hP : Ints w pv P) (hPo : PriceOk P) :
    Calls Tryz.prog 83 #[.agg #[.int .i64 kd, .int .i64 dm, pt, .int .i64 rt, .int .i64 sz, .int .i64 st, .int .i64 ru, .int .i64 hd], .int .i64 n, .int .i64 cap, pv] w (fun e w' => ∃ V b, FoundBy kd dm ps rt sz st ru hd cap P n V b ∧ SolveOut w V b e w') := by
  have hps := ok_ps hn hC
  rcases ok_kd hC with rfl | ⟨rfl, T⟩
  · have hps := hps rfl
    exact (solve1_is dm pt pv rt sz st ru hd cap n ps P w hp hps.1 hps.2.1 hP hPo.fits).mono fun e w' h => ⟨_, _, .inl ⟨rfl, rfl, rfl⟩, h⟩
  · rcases T.ru with rfl | rfl
    · refine (solveF_is dm pt pv rt sz st hd cap n P w T hn hP hPo.at_).mono fun e w' h => ?_
      rcases h with ⟨h1, h2⟩ | ⟨s, S, h1, h2, h3, h4, h5⟩
      · exact ⟨_, _, .inr (.inl ⟨rfl, rfl, T, .inl ⟨h1, rfl, rfl⟩⟩), h2⟩
      · exact ⟨_, _, .inr (.inl ⟨rfl, rfl, T, .inr ⟨s, S, h1, h2, h3, h4, rfl, rfl⟩⟩), h5⟩
    · exact (solveW_is dm pt pv rt sz st hd cap n P w T hn hP hPo.at_).mono fun e w' h => ⟨_, _, .inr (.inr ⟨rfl, rfl, T, rfl, rfl⟩), h⟩
theorem allC_is (kd dm : Int) (pt : Value) (rt sz st ru hd cap : Int) (n : Nat) (ps : List Nat) (w : World) (hC : CuOk n kd dm ps rt sz st ru hd) (hn : n ≤ 20) (hp : Words w pt ps) :
    Calls Tryz.prog 61 #[.agg #[.int .i64 kd, .int .i64 dm, pt, .int .i64 rt, .int .i64 sz, .int .i64 st, .int .i64 ru, .int .i64 hd], .int .i64 n, .int .i64 cap] w (AllOut w (allV kd dm ps rt sz st cap n)) := by
  have hps := ok_ps hn hC
  unfold allV
  rcases ok_kd hC with rfl | ⟨rfl, T⟩
  · have hps := hps rfl
    rw [if_pos rfl]
    exact all1_is dm pt rt sz st ru hd cap n ps w hp hps.1 hps.2.1
  · rw [if_neg (by decide)]
    exact all2_is dm pt rt sz st ru hd cap n w T hn

theorem minTo_at (P : List Int) (k : Nat) : minTo P (k + 1) = min (minTo P k) (priceAt P k) := rfl

set_option maxHeartbeats 3200000 in
theorem bound_is (kd dm : Int) (pt pv : Value) (rt sz st ru hd cap : Int) (n : Nat) (ps : List Nat) (P : List Int) (w : World) (hC : CuOk n kd dm ps rt sz st ru hd) (hn : n ≤ 20) (hp : Words w pt ps) (hP : Ints w pv P) (hPo : PriceOk P) :
    Calls Tryz.prog 59 #[.agg #[.int .i64 kd, .int .i64 dm, pt, .int .i64 rt, .int .i64 sz, .int .i64 st, .int .i64 ru, .int .i64 hd], .int .i64 n, .int .i64 cap, pv] w (CostOut w (boundI kd dm ps rt sz st ru hd cap P n)) := by
  obtain ⟨pa, pn, pc, rfl⟩ := words_form hp
  obtain ⟨w1, ew, hb1, hsz1, hcu⟩ := box_cust w kd dm (.slice pa pn pc) rt sz st ru hd
  have hk := ok_kd hC
  have hfb := forcedV_bd cap hn hC
  have hfe := floor_eq cap P hC
  have Hcu := Lib.hid hcu
  have Hew := Lib.hid ew
  have HC := Lib.hid hC
  have HPo := Lib.hid hPo
  have HS := Lib.hid (solveC_is kd dm (.slice pa pn pc) pv rt sz st ru hd cap n ps P w1 hC hn (hp.below hb1) (hP.below hb1) hPo)
  have HK := Lib.hid (fun (W : World) (vv : Value) (V : List (Int × Int)) (h : Below w1.heap.size w1 W) (hV : Vis W vv V) (hg : V.length ≤ 64 ∧ ∀ x ∈ V, fitsI x.2 = true) => cost_is kd dm (.slice pa pn pc) pv vv rt sz st ru hd n P V W hk hn ((hP.below hb1).below h) hPo.at_ hV hg.1 hg.2)
  have HF := Lib.hid (fun (W : World) (h : Below w1.heap.size w1 W) => polForced_is kd dm (.slice pa pn pc) rt sz st ru hd cap n ps W hC hn ((hp.below hb1).below h))
  have HP := Lib.hid (fun (W : World) (d : Int) (h : Below w1.heap.size w1 W) => priceOf_is pv P d W ((hP.below hb1).below h))
  have hsz : w.heap.size ≤ w1.heap.size := hb1.size
  obtain ⟨c0, c1, c2, c3, c4, c5, c6, c7⟩ := hcu
  obtain ⟨F, hF⟩ : ∃ F : Bool, F = decide (kd = 1 ∨ ru = 1) := ⟨_, rfl⟩
  have HFl := Lib.hid hF
  have Hfe := Lib.hid hfe
  clear ew hsz1 hC hp hP hPo hF hfe
  go_enter Tryz.func59, Tryz.ntmps59
  go_upto_region 1 with (fail)
  rw [Hew.out]
  go_cut [21] (fun s21 wx => s21 = .bool F ∧ w1 = wx)
  case first =>
    have hcase : ((kd == 1) = true ∧ Hid (F = true)) ∨ ((kd == 1) = false ∧ (ru == 1) = true ∧ Hid (F = true)) ∨ ((kd == 1) = false ∧ (ru == 1) = false ∧ Hid (F = false)) := by
      have h := HFl.out
      by_cases q1 : kd = 1
      · exact .inl ⟨by simpa using q1, by rw [h, decide_eq_true (Or.inl q1)]; rfl⟩
      · by_cases q2 : ru = 1
        · exact .inr (.inl ⟨by simpa using q1, by simpa using q2, by rw [h, decide_eq_true (Or.inr q2)]; rfl⟩)
        · exact .inr (.inr ⟨by simpa using q1, by simpa using q2, by rw [h, decide_eq_false (by omega)]; rfl⟩)
    clear hk
    rcases hcase with ⟨q1, hm⟩ | ⟨q1, q2, hm⟩ | ⟨q1, q2, hm⟩
    · go_wp2_with fail
      go_meet
      exact ⟨by rw [hm.out], rfl⟩
    · go_wp2_with fail
      go_meet
      exact ⟨by rw [hm.out], rfl⟩
    · go_wp2_with fail
      go_meet
      exact ⟨by rw [hm.out], rfl⟩
  case rest =>
  obtain ⟨rfl, rfl⟩ := hcut
  obtain ⟨w1, rfl⟩ : ∃ wq : World, wq = w1 := ⟨_, rfl⟩
  go_upto_if 21 with fail
  go_cut [] (fun wx => Below w1.heap.size w1 wx ∧ Hid (floorI kd ps rt sz st hd cap P n = boundI kd dm ps rt sz st ru hd cap P n))
  case first =>
    cases F with
    | true =>
      have hF := of_decide_eq_true HFl.out.symm
      have hru : ru ≠ 2 := by
        rcases HC.out with ⟨_, _, _, _, _, _, h0⟩ | ⟨h1, _⟩
        · omega
        · rcases hF with h | h
          · omega
          · omega
      clear hk hF
      go_wp2_with fail
      refine HS.out.mono ?_
      rintro e w2 ⟨V, x, hf, v, rfl, hv, hb2⟩
      have hfb := found_bound hn hf hru
      cases x with
      | true =>
        have hg := suits_good hn HC.out (found_suits hn HC.out hf rfl)
        have HK2 := Lib.hid (HK.out w2 v V hb2 hv.vis hg)
        rw [hfb.1 rfl] at HK2
        have Hb2 := Lib.hid (hb1.trans (hb2.mono hsz))
        obtain ⟨c0, c1, c2, c3, c4, c5, c6, c7⟩ := Hcu.out.below hb2
        clear hf hfb hv hb2 hg
        go_wp2_with fail
        refine HK2.out.mono ?_
        rintro e w3 ⟨rfl, hb3⟩
        have hb := Hb2.out.trans (hb3.mono Hb2.out.size)
        go_wp2_with fail
        go_ret
        exact ⟨rfl, hb⟩
      | false =>
        have h := hfb.2 rfl
        clear hf hfb hv
        go_wp2_with fail
        go_meet
        exact ⟨hb2, h⟩
    | false =>
      have h : Hid (floorI kd ps rt sz st hd cap P n = boundI kd dm ps rt sz st ru hd cap P n) := by
        have hF := of_decide_eq_false HFl.out.symm
        rcases HC.out with ⟨h1, _⟩ | ⟨h1, T⟩
        · omega
        · rcases T.ru with h2 | h2
          · omega
          · rw [h2]; exact bound_two h1
      clear hk
      go_wp2_with fail
      go_meet
      exact ⟨Below.refl _ _, h⟩
  case rest =>
  obtain ⟨hbc, Hfl⟩ := hcut
  obtain ⟨w2, rfl⟩ : ∃ w2 : World, w2 = wc := ⟨_, rfl⟩
  have hres : boundI kd dm ps rt sz st ru hd cap P n = forcedV kd ps rt st sz n cap * minTo P n + keepsV kd st rt hd n := by rw [← Hfl.out, Hfe.out]
  have Hres := Lib.hid hres
  clear hres
  have hmb := fun k => minTo_bd HPo.out k
  have hpb := HPo.out.at_
  have Hmb := Lib.hid hmb
  have Hpb := Lib.hid hpb
  have Hb2 := Lib.hid (hb1.trans (hbc.mono hsz))
  have hsz2 : w.heap.size ≤ w2.heap.size := Hb2.out.size
  have HP2 := Lib.hid (fun (d : Int) => HP.out w2 d hbc)
  have HF2 := Lib.hid (HF.out w2 hbc)
  have hE := Hcu.out.below hbc
  have Hkb : Hid (kd = 1 ∧ keepsV kd st rt hd n = 0 ∨ kd = 2 ∧ TankOk st rt sz ru hd ∧ keepsV kd st rt hd n = keepsI st rt hd n) := by
    unfold keepsV
    rcases hk with h | ⟨h, T⟩
    · exact .inl ⟨h, by rw [if_pos h]⟩
    · exact .inr ⟨h, T, by rw [if_neg (by omega)]⟩
  obtain ⟨c0, c1, c2, c3, c4, c5, c6, c7⟩ := hE
  have hm0 : priceAt P 0 = minTo P 0 := rfl
  have Hm0 := Lib.hid hm0
  generalize forcedV kd ps rt st sz n cap = FV at *
  clear hk hmb hpb hbc hm0 Hcu HC HS HK HF HP HFl Hfe Hfl
  go_wp2_with fail
  refine (HP2.out 0).mono ?_
  rintro e w' ⟨rfl, rfl⟩
  rw [Hm0.out]
  go_wp2_with fail
  go_loopw [11, 39] (fun s i wr => ∃ (k : Nat) (Q : Int), k ≤ n ∧ i = .int .i64 k ∧ s = .int .i64 Q ∧ Q = minTo P k ∧ w2 = wr) (fun _ i _ => n - (intOf i).toNat)
  case atStart => exact ⟨0, minTo P 0, Nat.zero_le _, rfl, rfl, rfl, rfl⟩
  case round =>
    obtain ⟨k, Q, hk, rfl, rfl, hQ, rfl⟩ := hrel
    by_cases hlt : k < n
    · have hi1 : (k : Int) < (n : Int) := by omega
      have hst := minTo_at P k
      rw [← hQ] at hst
      have HP3 := Lib.hid (HP2.out k)
      have hb1 := Hpb.out k
      generalize priceAt P (k : Int) = X at *
      have hQb := Hmb.out k
      rw [← hQ] at hQb
      by_cases h : X < Q
      · have hXQ : min Q X = X := by omega
        have h' : decide (X < Q) = true := decide_eq_true h
        have h'' : decide (Q < X) = false := decide_eq_false (by omega)
        rw [hXQ] at hst
        have Hst := Lib.hid hst
        clear hst hQ
        go_wp2_with fail
        refine HP3.out.mono ?_
        rintro e w' ⟨rfl, rfl⟩
        go_wp2_with fail
        go_roundw
        case rel => exact ⟨k + 1, X, by omega, by go_num, by first | rfl | (simp; omega), Hst.out.symm, by first | rfl | trivial⟩
        case measure => simp [intOf]; omega
      · have hXQ : min Q X = Q := by omega
        have h' : decide (X < Q) = false := decide_eq_false h
        rw [hXQ] at hst
        have Hst := Lib.hid hst
        clear hst hQ
        go_wp2_with fail
        refine HP3.out.mono ?_
        rintro e w' ⟨rfl, rfl⟩
        go_wp2_with fail
        go_roundw
        case rel => exact ⟨k + 1, Q, by omega, by go_num, by first | rfl | (simp; omega), Hst.out.symm, by first | rfl | trivial⟩
        case measure => simp [intOf]; omega
    · have hkn : k = n := by omega
      subst hkn
      have hQb := Hmb.out k
      rw [← hQ] at hQb Hres
      have hm1 : 0 ≤ FV * Q ∧ FV * Q ≤ 64000 := ⟨Int.mul_nonneg hfb.1 hQb.1, by
        have := Int.mul_le_mul hfb.2 hQb.2 hQb.1 (by omega)
        omega⟩
      have hw : wrap64 (FV * Q) = FV * Q := wrap_id (by omega) (by omega)
      obtain ⟨PR, hPR⟩ : ∃ PR, PR = FV * Q := ⟨_, rfl⟩
      have Hw : Hid (wrap64 (FV * Q) = PR) := Lib.hid (by rw [hw, hPR])
      rw [← hPR] at hm1 Hres
      clear hQ hw hPR hQb
      rcases Hkb.out with ⟨h1, h2⟩ | ⟨h1, T, h2⟩
      · rw [h2, Int.add_zero] at Hres
        subst h1
        clear h2
        go_wp2_with fail
        refine HF2.out.mono ?_
        rintro e w3 ⟨rfl, hb3⟩
        obtain ⟨c0, c1, c2, c3, c4, c5, c6, c7⟩ := (IsCust.mk c0 c1 c2 c3 c4 c5 c6 c7).below hb3
        have hb := Hb2.out.trans (hb3.mono hsz2)
        go_wp2_with fail
        go_ret
        rw [Hres.out]
        exact ⟨by first | rfl | (rw [Hw.out]; rfl), hb⟩
      · rw [h2] at Hres
        subst h1
        have hkb := keepsI_bd T (show k ≤ 64 by omega)
        have HKe := Lib.hid (fun (W : World) => keeps_is 2 dm (.slice pa pn pc) rt sz st ru hd k W T (by omega))
        generalize keepsI st rt hd k = KV at *
        have hw3 : wrap64 (PR + KV) = PR + KV := wrap_id (by omega) (by omega)
        have Hw3 := Lib.hid hw3
        clear h2 T hw3
        go_wp2_with fail
        refine HF2.out.mono ?_
        rintro e w3 ⟨rfl, hb3⟩
        obtain ⟨c0, c1, c2, c3, c4, c5, c6, c7⟩ := (IsCust.mk c0 c1 c2 c3 c4 c5 c6 c7).below hb3
        have hb := Hb2.out.trans (hb3.mono hsz2)
        have hbs := hb.size
        clear hb3
        go_wp2_with fail
        refine (HKe.out _).mono ?_
        rintro e w4 ⟨rfl, hb4⟩
        have hb5 := hb.trans (hb4.mono hbs)
        go_wp2_with fail
        go_ret
        rw [Hres.out]
        exact ⟨by first | rfl | (rw [Hw.out, Hw3.out]; rfl), hb5⟩
end Go.Proofs.YtnhcgpkcmfelkaaGreat
