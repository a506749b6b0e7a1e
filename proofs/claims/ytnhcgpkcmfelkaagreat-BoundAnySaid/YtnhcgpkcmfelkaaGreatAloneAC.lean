/-
  My own work: tranterref11.Bound, tranterref10.Can: their contracts.
-/
import Derived.Test.YtnhcgpkcmfelkaaGreatAloneAB
import Derived.Test.YtnhcgpkcmfelkaaGreatPolicyF
namespace Go.Proofs.YtnhcgpkcmfelkaaGreat
open Go.RowKit
set_option linter.unusedVariables false
set_option maxRecDepth 100000
attribute [local go_sem ↓] Go.wp_at_zero Go.wp_at_succ

theorem found_ex {n : Nat} {kd dm : Int} {ps : List Nat} {rt sz st ru hd : Int} (cap : Int) (P : List Int) (hn : n ≤ 20) (hC : CuOk n kd dm ps rt sz st ru hd) : ∃ V b, FoundBy kd dm ps rt sz st ru hd cap P n V b := by
  rcases ok_kd hC with rfl | ⟨rfl, T⟩
  · exact ⟨_, _, .inl ⟨rfl, rfl, rfl⟩⟩
  · rcases T.ru with rfl | rfl
    · cases hs : stp st sz rt hd cap P n n with
      | none => exact ⟨_, _, .inr (.inl ⟨rfl, rfl, T, .inl ⟨hs, rfl, rfl⟩⟩)⟩
      | some s =>
        obtain ⟨S, h1, h2, _, h3, _⟩ := stp_at T.st0 (by have := T.sz0; omega) T.rt0 (show n ≤ 64 by omega) n (Nat.le_refl n) s hs
        rw [if_neg (Nat.lt_irrefl n)] at h3
        exact ⟨_, _, .inr (.inl ⟨rfl, rfl, T, .inr ⟨s, S, hs, h1, h2, by omega, rfl, rfl⟩⟩)⟩
    · exact ⟨_, _, .inr (.inr ⟨rfl, rfl, T, rfl, rfl⟩)⟩
theorem least_bound {n : Nat} {kd dm : Int} {ps : List Nat} {rt sz st ru hd cap : Int} {P : List Int} (hn : n ≤ 20) (hP : PriceOk P) (hC : CuOk n kd dm ps rt sz st ru hd) (hru : ru ≠ 2) :
    (0 < (allV kd dm ps rt sz st cap n).length → leastU (fun U => costV kd st rt sz hd P U n) (allV kd dm ps rt sz st cap n) (allV kd dm ps rt sz st cap n).length = boundI kd dm ps rt sz st ru hd cap P n) ∧
    (¬ 0 < (allV kd dm ps rt sz st cap n).length → floorI kd ps rt sz st hd cap P n = boundI kd dm ps rt sz st ru hd cap P n) := by
  obtain ⟨V, b, h⟩ := found_ex cap P hn hC
  obtain ⟨h1, h2⟩ := found_least hn hP hC h hru
  obtain ⟨h3, h4⟩ := found_bound hn h hru
  refine ⟨fun hp => ?_, fun hp => ?_⟩
  · have hb : b = true := by rw [h1]; exact decide_eq_true hp
    rw [h2 hb, h3 hb]
  · have hb : b = false := by rw [h1]; exact decide_eq_false hp
    exact h4 hb

set_option maxHeartbeats 3200000 in
theorem refBound_is (kd dm : Int) (pt pv : Value) (rt sz st ru hd cap : Int) (n : Nat) (ps : List Nat) (P : List Int) (w : World) (hC : CuOk n kd dm ps rt sz st ru hd) (hn : n ≤ 20) (hn1 : 1 ≤ n) (hp : Words w pt ps) (hP : Ints w pv P) (hPo : PriceOk P) :
    Calls Tryz.prog 36 #[.agg #[.int .i64 kd, .int .i64 dm, pt, .int .i64 rt, .int .i64 sz, .int .i64 st, .int .i64 ru, .int .i64 hd], .int .i64 n, .int .i64 cap, pv] w (CostOut w (boundI kd dm ps rt sz st ru hd cap P n)) := by
  obtain ⟨pa, pn, pc, rfl⟩ := words_form hp
  obtain ⟨w1, ew, hb1, hsz1, hcu⟩ := box_cust w kd dm (.slice pa pn pc) rt sz st ru hd
  have hk := ok_kd hC
  have hfb := forcedV_bd cap hn hC
  have hfe := floor_eq cap P hC
  have hall := allV_suits (cap := cap) hn hC
  have Hcu := Lib.hid hcu
  have Hew := Lib.hid ew
  have HC := Lib.hid hC
  have HPo := Lib.hid hPo
  have HA := Lib.hid (fun (W : World) (h : Below w1.heap.size w1 W) => allC_is kd dm (.slice pa pn pc) rt sz st ru hd cap n ps W hC hn ((hp.below hb1).below h))
  have HLe := Lib.hid (fun (W : World) (lv : Value) (h : Below w1.heap.size w1 W) (hG : GridV W lv (allV kd dm ps rt sz st cap n)) => least_is kd dm (.slice pa pn pc) pv lv rt sz st ru hd n P (allV kd dm ps rt sz st cap n) W hk hn ((hP.below hb1).below h) hPo.at_ hG (fun V hV => suits_good hn hC (hall V hV)))
  have HF := Lib.hid (fun (W : World) (h : Below w1.heap.size w1 W) => refForcedC_is kd dm (.slice pa pn pc) rt sz st ru hd cap n ps W hC hn ((hp.below hb1).below h))
  have HP := Lib.hid (fun (W : World) (d : Int) (h : Below w1.heap.size w1 W) => refPrice_is pv P d W ((hP.below hb1).below h))
  have hsz : w.heap.size ≤ w1.heap.size := hb1.size
  obtain ⟨c0, c1, c2, c3, c4, c5, c6, c7⟩ := hcu
  have Hfe := Lib.hid hfe
  clear ew hsz1 hC hp hP hPo hfe hall
  go_enter Tryz.func36, Tryz.ntmps36
  go_upto_region 1 with (fail)
  rw [Hew.out]
  go_upto_if 16 with fail
  go_cut [] (fun wx => Below w1.heap.size w1 wx ∧ Hid (floorI kd ps rt sz st hd cap P n = boundI kd dm ps rt sz st ru hd cap P n))
  case first =>
    by_cases hru : ru = 2
    · have h : Hid (floorI kd ps rt sz st hd cap P n = boundI kd dm ps rt sz st ru hd cap P n) := by
        rcases HC.out with ⟨_, _, _, _, _, _, h0⟩ | ⟨h1, T⟩
        · omega
        · rw [hru]; exact bound_two h1
      have hr' : (ru != 2) = false := by simpa using hru
      clear hk hru
      go_wp2_with fail
      go_meet
      exact ⟨Below.refl _ _, h⟩
    · have hr' : (ru != 2) = true := by simpa using hru
      have hlb := least_bound (cap := cap) hn HPo.out HC.out hru
      have Hlb := Lib.hid hlb
      clear hk hru hlb
      generalize allV kd dm ps rt sz st cap n = AV at *
      generalize leastU (fun U => costV kd st rt sz hd P U n) AV AV.length = LE at *
      have b0 := Below.refl w1.heap.size w1
      go_upto_region 2 with fail
      go_cut [9, 10] (fun s9 s10 wx => s9 = .int .i64 LE ∧ s10 = .bool (decide (0 < AV.length)) ∧ Below w1.heap.size w1 wx)
      case first =>
        first
          | (go_region_held3 (fun w' => (w'.cell? ⟨w.heap.size, 0, none⟩ = some (.int .i64 kd) ∧ w'.cell? ⟨w.heap.size, 1, none⟩ = some (.int .i64 dm) ∧ w'.cell? ⟨w.heap.size, 2, none⟩ = some (.slice pa pn pc) ∧ w'.cell? ⟨w.heap.size, 3, none⟩ = some (.int .i64 rt) ∧ w'.cell? ⟨w.heap.size, 4, none⟩ = some (.int .i64 sz) ∧ w'.cell? ⟨w.heap.size, 5, none⟩ = some (.int .i64 st) ∧ w'.cell? ⟨w.heap.size, 6, none⟩ = some (.int .i64 ru) ∧ w'.cell? ⟨w.heap.size, 7, none⟩ = some (.int .i64 hd)))
              (first | go_keep | exact cust8_below b4 ⟨c0, c1, c2, c3, c4, c5, c6, c7⟩ | exact cust8_below b5 ⟨c0, c1, c2, c3, c4, c5, c6, c7⟩)
              (first
                | (go_at_call 61; refine (HA.out _ ?_).mono ?_; (first | exact b0 | exact belDrew _); rintro e w4 ⟨lv, rfl, hown, hb4⟩; have hq := hown.grid; (first | have b4 := bel2 b0 hb4 | have b4 := bel2 (belDrew w1) hb4))
                | (go_at_call 60; refine (HLe.out _ _ ?_ ?_).mono ?_; (first | exact b4 | exact bel2 b4 (belDrew _)); (first | exact hq | exact hq.below (belDrew _)); rintro e w5 ⟨rfl, hb5⟩; (first | have b5 := bel2 b4 hb5 | have b5 := bel2 (bel2 b4 (belDrew _)) hb5)))
              )
          | fail
        all_goals
          go_wp2_with fail
          go_meet
          first
            | exact ⟨rfl, rfl, b5⟩
            | exact ⟨rfl, rfl, b5.drew⟩
      case rest =>
        obtain ⟨rfl, rfl, hbc⟩ := hcut
        obtain ⟨w2, rfl⟩ : ∃ w2 : World, w2 = wc := ⟨_, rfl⟩
        by_cases hpos : 0 < AV.length
        · have h := Hlb.out.1 hpos
          have hd' : decide (0 < AV.length) = true := decide_eq_true hpos
          have hb := hb1.trans (hbc.mono hsz)
          rw [hd']
          have H := Lib.hid h
          clear hpos hd' h
          go_wp2_with fail
          go_ret
          rw [← H.out]
          exact ⟨rfl, hb⟩
        · have h := Hlb.out.2 hpos
          have hd' : decide (0 < AV.length) = false := decide_eq_false hpos
          rw [hd']
          clear hpos hd'
          go_wp2_with fail
          go_meet
          exact ⟨hbc, h⟩
  case rest =>
  obtain ⟨hbc, Hfl⟩ := hcut
  obtain ⟨w2, rfl⟩ : ∃ w2 : World, w2 = wc := ⟨_, rfl⟩
  have hres : boundI kd dm ps rt sz st ru hd cap P n = forcedV kd ps rt st sz n cap * minTo P n + keepsV kd st rt hd n := by rw [← Hfl.out, Hfe.out]
  have Hres := Lib.hid hres
  clear hres
  have hmb := fun k => minTo_bd HPo.out k
  have Hmb := Lib.hid hmb
  have Hb2 := Lib.hid (hb1.trans (hbc.mono hsz))
  have hsz2 : w.heap.size ≤ w2.heap.size := Hb2.out.size
  have HP2 := Lib.hid (fun (d : Int) => HP.out w2 d hbc)
  have HF2 := Lib.hid (HF.out w2 hbc)
  have hE := Hcu.out.below hbc
  have Hkb : Hid (kd = 1 ∧ keepsV kd st rt hd n = 0 ∨ kd = 2 ∧ TankOk st rt sz ru hd ∧ keepsV kd st rt hd n = keepsI st rt hd n) := by
    unfold keepsV
    rcases hk with h | ⟨h, T⟩
    · exact .inl ⟨h, by rw [if_pos h]⟩
    · exact .inr ⟨h, T, by rw [if_neg (by omega)]⟩
  obtain ⟨c0, c1, c2, c3, c4, c5, c6, c7⟩ := hE
  have hm1 : priceAt P 0 = minTo P 1 := by
    have e : minTo P 1 = min (priceAt P 0) (priceAt P 0) := rfl
    omega
  have Hm1 := Lib.hid hm1
  generalize forcedV kd ps rt st sz n cap = FV at *
  clear hk hmb hbc hm1 Hcu HC HA HLe HF HP Hfe Hfl HPo
  go_wp2_with fail
  refine (HP2.out 0).mono ?_
  rintro e w' ⟨rfl, rfl⟩
  rw [Hm1.out]
  go_wp2_with fail
  go_loopw [11, 12] (fun s i wr => ∃ (k : Nat) (Q : Int), 1 ≤ k ∧ k ≤ n ∧ i = .int .i64 k ∧ s = .int .i64 Q ∧ Q = minTo P k ∧ w2 = wr) (fun _ i _ => n - (intOf i).toNat)
  case atStart => exact ⟨1, minTo P 1, Nat.le_refl _, hn1, rfl, rfl, rfl, rfl⟩
  case round =>
    obtain ⟨k, Q, hk1, hk, rfl, rfl, hQ, rfl⟩ := hrel
    by_cases hlt : k < n
    · have hi1 : (k : Int) < (n : Int) := by omega
      have hst := minTo_at P k
      rw [← hQ] at hst
      have HP3 := Lib.hid (HP2.out k)
      generalize priceAt P (k : Int) = X at *
      by_cases h : X < Q
      · have hXQ : min Q X = X := by omega
        have h' : decide (X < Q) = true := decide_eq_true h
        rw [hXQ] at hst
        have Hst := Lib.hid hst
        clear hst hQ
        go_wp2_with fail
        refine HP3.out.mono ?_
        rintro e w' ⟨rfl, rfl⟩
        go_wp2_with fail
        refine HP3.out.mono ?_
        rintro e w' ⟨rfl, rfl⟩
        go_wp2_with fail
        go_roundw
        case rel => exact ⟨k + 1, X, by omega, by omega, by go_num, rfl, Hst.out.symm, by first | rfl | trivial⟩
        case measure => simp [intOf]; omega
      · have hXQ : min Q X = Q := by omega
        have h' : decide (X < Q) = false := decide_eq_false h
        rw [hXQ] at hst
        have Hst := Lib.hid hst
        clear hst hQ
        go_wp2_with fail
        refine HP3.out.mono ?_
        rintro e w' ⟨rfl, rfl⟩
        go_wp2_with fail
        go_roundw
        case rel => exact ⟨k + 1, Q, by omega, by omega, by go_num, rfl, Hst.out.symm, by first | rfl | trivial⟩
        case measure => simp [intOf]; omega
    · have hkn : k = n := by omega
      subst hkn
      have hQb := Hmb.out k
      rw [← hQ, Int.mul_comm FV Q] at Hres
      rw [← hQ] at hQb
      have hm1 : 0 ≤ Q * FV ∧ Q * FV ≤ 64000 := ⟨Int.mul_nonneg hQb.1 hfb.1, by
        have := Int.mul_le_mul hQb.2 hfb.2 hfb.1 (by omega)
        omega⟩
      have hw : wrap64 (Q * FV) = Q * FV := wrap_id (by omega) (by omega)
      obtain ⟨PR, hPR⟩ : ∃ PR, PR = Q * FV := ⟨_, rfl⟩
      have Hw : Hid (wrap64 (Q * FV) = PR) := Lib.hid (by rw [hw, hPR])
      rw [← hPR] at hm1 Hres
      clear hQ hw hPR hQb
      rcases Hkb.out with ⟨h1, h2⟩ | ⟨h1, T, h2⟩
      · rw [h2, Int.add_zero] at Hres
        subst h1
        clear h2
        go_wp2_with fail
        refine HF2.out.mono ?_
        rintro e w3 ⟨rfl, hb3⟩
        obtain ⟨c0, c1, c2, c3, c4, c5, c6, c7⟩ := (IsCust.mk c0 c1 c2 c3 c4 c5 c6 c7).below hb3
        have hb := Hb2.out.trans (hb3.mono hsz2)
        go_wp2_with fail
        go_ret
        rw [Hres.out]
        exact ⟨by first | rfl | (rw [Hw.out]; rfl), hb⟩
      · rw [h2] at Hres
        subst h1
        have hkb := keepsI_bd T (show k ≤ 64 by omega)
        have HKe := Lib.hid (fun (W : World) => refKeeps_is 2 dm (.slice pa pn pc) rt sz st ru hd k W T (by omega))
        generalize keepsI st rt hd k = KV at *
        have hw3 : wrap64 (PR + KV) = PR + KV := wrap_id (by omega) (by omega)
        have Hw3 := Lib.hid hw3
        clear h2 T hw3
        go_wp2_with fail
        refine HF2.out.mono ?_
        rintro e w3 ⟨rfl, hb3⟩
        obtain ⟨c0, c1, c2, c3, c4, c5, c6, c7⟩ := (IsCust.mk c0 c1 c2 c3 c4 c5 c6 c7).below hb3
        have hb := Hb2.out.trans (hb3.mono hsz2)
        have hbs := hb.size
        clear hb3
        go_wp2_with fail
        refine (HKe.out _).mono ?_
        rintro e w4 ⟨rfl, hb4⟩
        have hb5 := hb.trans (hb4.mono hbs)
        go_wp2_with fail
        go_ret
        rw [Hres.out]
        exact ⟨by first | rfl | (rw [Hw.out, Hw3.out]; rfl), hb5⟩

/-- Whether a row of fills may be, by all sets. -/
theorem canB_fill {st sz rt hd cap : Int} {n : Nat} (T : TankOk st rt sz 1 hd) (hn : n ≤ 20) : canB st sz 1 rt cap n = true ↔ ∃ S, S < 2 ^ n ∧ OkTo st sz rt cap S n := by
  unfold canB
  rw [if_pos rfl, fillsB_stp hd [] (by omega)]
  constructor
  · intro h
    obtain ⟨s, hs⟩ := Option.isSome_iff_exists.1 h
    obtain ⟨S, h1, h2, _⟩ := stp_at T.st0 (by have := T.sz0; omega) T.rt0 (show n ≤ 64 by omega) n (Nat.le_refl n) s hs
    exact ⟨S, Nat.lt_pow_two_of_testBit S h1, h2⟩
  · rintro ⟨S, _, h⟩
    obtain ⟨z, hz, _⟩ := stp_le (hd := hd) (cap := cap) (P := []) T.st0 n (Nat.le_refl n) S h (fun h => absurd h (Nat.lt_irrefl n))
    rw [hz]; rfl

end Go.Proofs.YtnhcgpkcmfelkaaGreat
