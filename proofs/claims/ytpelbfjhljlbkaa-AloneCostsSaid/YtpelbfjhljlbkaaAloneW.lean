/-
  My own work: tranterref11.Any: its contract.
-/
import Derived.Test.YtpelbfjhljlbkaaAloneV
import Derived.Test.YtpelbfjhljlbkaaPolicyF
import Derived.Test.YtpelbfjhljlbkaaPolicyH
namespace Go.Proofs.Ytpelbfjhljlbkaa
open Go.RowKit
set_option linter.unusedVariables false
set_option maxRecDepth 100000
attribute [local go_sem ↓] Go.wp_at_zero Go.wp_at_succ

set_option maxHeartbeats 3200000 in
theorem refAny_is (dm : Int) (pt pv : Value) (rt sz st hd cap : Int) (n : Nat) (P : List Int) (w : World) (T : TankOk st rt sz 2 hd) (hn : n ≤ 20) (hP : Ints w pv P) (hPb : ∀ d, 0 ≤ priceAt P d ∧ priceAt P d ≤ 1000) :
    Calls Try.prog 22 #[.agg #[.int .i64 2, .int .i64 dm, pt, .int .i64 rt, .int .i64 sz, .int .i64 st, .int .i64 2, .int .i64 hd], .int .i64 n, .int .i64 cap, pv] w (SolveOut w (anyV st sz rt hd cap P n) (anyB st sz rt hd cap P n)) := by
  obtain ⟨w1, ew, hb1, hsz1, hcu⟩ := box_cust w 2 dm pt rt sz st 2 hd
  have z0 := T.sz0; have z1 := T.sz1; have z2 := T.st0; have z3 := T.st1; have z4 := T.rt0; have z5 := T.rt1
  have HD := Lib.hid (fun (W : World) => refDaily_is 2 dm pt rt sz st 2 hd n cap W (by omega) (by omega) (by omega) (by omega) (by omega) (by omega) (by omega))
  have HL := Lib.hid (fun (W : World) => refLate_is 2 dm pt rt sz st 2 hd n cap W (by omega) (by omega) (by omega) (by omega) (by omega) (by omega) (by omega))
  have HP := Lib.hid (hP.below hb1)
  have HC := Lib.hid (fun (W : World) (vv : Value) (V : List (Int × Int)) (h : Below w1.heap.size w1 W) (hV : Vis W vv V) (hVl : V.length ≤ 64) (hVf : ∀ p ∈ V, fitsI p.2 = true) => refCost_is 2 dm pt pv vv rt sz st 2 hd n P V W (.inr ⟨rfl, T⟩) hn (HP.out.below h) hPb hV hVl hVf)
  have hvl1 := wayV_len true sz rt cap st n
  have hvl2 := wayV_len false sz rt cap st n
  have hvf1 := wayV_fits (late := true) (rt := rt) (cap := cap) (st := st) (n := n) (show 0 ≤ sz by omega) (by omega)
  have hvf2 := wayV_fits (late := false) (rt := rt) (cap := cap) (st := st) (n := n) (show 0 ≤ sz by omega) (by omega)
  have hAV : anyV st sz rt hd cap P n = if lateB st sz rt hd cap P n = true then wayV true sz rt cap st n else if wayB false sz rt cap st n = true then wayV false sz rt cap st n else [] := rfl
  have hAB : anyB st sz rt hd cap P n = (lateB st sz rt hd cap P n || wayB false sz rt cap st n) := rfl
  have hLB : lateB st sz rt hd cap P n = (wayB true sz rt cap st n && (!wayB false sz rt cap st n || decide (costV 2 st rt sz hd P (wayV true sz rt cap st n) n ≤ costV 2 st rt sz hd P (wayV false sz rt cap st n) n))) := rfl
  rw [hLB] at hAV hAB
  generalize anyV st sz rt hd cap P n = AV at *
  generalize anyB st sz rt hd cap P n = AB at *
  have hq1 : (wayQ false sz 2 rt cap st n).length ≤ 1048576 := by rw [wayQ_len]; omega
  have hq2 : (wayQ true sz 2 rt cap st n).length ≤ 1048576 := by rw [wayQ_len]; omega
  have hD1 : (holdsE st rt sz 2 (wayQ false sz 2 rt cap st n) == 0) = wayB false sz rt cap st n := rfl
  have hL1 : (holdsE st rt sz 2 (wayQ true sz 2 rt cap st n) == 0) = wayB true sz rt cap st n := rfl
  have hkey : wayB true sz rt cap st n = true → wayB false sz rt cap st n = true := fun h => (both_nights rt sz st cap n T.rt0 (by have := T.sz1; omega) T.st0 T.st1 h).1
  unfold WayOut at HD HL
  rw [hD1] at HD
  rw [hL1] at HL
  have hV1 : visitsOf (wayQ false sz 2 rt cap st n) = wayV false sz rt cap st n := rfl
  have hV2 : visitsOf (wayQ true sz 2 rt cap st n) = wayV true sz rt cap st n := rfl
  generalize wayB false sz rt cap st n = ok1 at *
  generalize wayB true sz rt cap st n = ok2 at *
  have HK1 := Lib.hid (fun (W : World) (vv : Value) (h : Below w1.heap.size w1 W) (hV : Vis W vv (wayV true sz rt cap st n)) => HC.out W vv _ h hV (by omega) hvf1)
  have HK2 := Lib.hid (fun (W : World) (vv : Value) (h : Below w1.heap.size w1 W) (hV : Vis W vv (wayV false sz rt cap st n)) => HC.out W vv _ h hV (by omega) hvf2)
  generalize costV 2 st rt sz hd P (wayV true sz rt cap st n) n = kl at *
  generalize costV 2 st rt sz hd P (wayV false sz rt cap st n) n = kd at *
  generalize wayV true sz rt cap st n = LV at *
  generalize wayV false sz rt cap st n = DV at *
  generalize wayQ false sz 2 rt cap st n = DQ at *
  generalize wayQ true sz 2 rt cap st n = LQ at *
  have Hew := Lib.hid ew
  have HAV := Lib.hid hAV
  have HAB := Lib.hid hAB
  have Hq1 := Lib.hid hq1
  have Hq2 := Lib.hid hq2
  have HV1 := Lib.hid hV1
  have HV2 := Lib.hid hV2
  have hsz : w.heap.size ≤ w1.heap.size := hb1.size
  obtain ⟨c0, c1, c2, c3, c4, c5, c6, c7⟩ := hcu
  clear ew hsz1 hP hPb T z0 z1 z2 z3 z4 z5 HC hvl1 hvl2 hvf1 hvf2 hAV hAB hLB hq1 hq2 hD1 hL1 hV1 hV2
  go_enter Try.func22, Try.ntmps22
  go_upto_region 1 with (fail)
  rw [Hew.out]
  generalize eg : w.heap.size = g at *
  have Heg := Lib.hid eg
  clear eg
  go_wp2_with fail
  refine (HD.out _).mono ?_
  rintro e w2 ⟨qv, rfl, hown, hb2⟩
  have HI2 := Lib.hid hown.ints
  obtain ⟨d0, d1, d2, d3, d4, d5, d6, d7⟩ : IsCust w2 g 2 dm pt rt sz st 2 hd := IsCust.below ⟨c0, c1, c2, c3, c4, c5, c6, c7⟩ hb2
  have Hb2 := Lib.hid hb2
  clear hown hb2 c0 c1 c2 c3 c4 c5 c6 c7
  have Hkey := Lib.hid hkey
  clear hkey
  cases ok1 with
  | false =>
    have h2 : ok2 = false := by
      cases ok2 with
      | false => rfl
      | true => exact absurd (Hkey.out rfl) (by decide)
    rw [h2, Bool.false_and] at HAV HAB
    have HAV2 : Hid (AV = []) := Lib.hid (by rw [HAV.out, if_neg (by decide), if_neg (by decide)])
    have HAB2 : Hid (AB = false) := Lib.hid HAB.out
    clear h2
    go_wp2_with fail
    go_ret2
    rw [HAV2.out, HAB2.out]
    exact ⟨_, rfl, OwnV.nil _ _, by rw [Heg.out]; exact hb1.trans (Hb2.out.mono hsz)⟩
  | true =>
    go_wp2_with fail
    refine (refVisits_is qv DQ w2 HI2.out Hq1.out).mono ?_
    rintro e w3 ⟨dv, rfl, hown3, hb3⟩
    rw [HV1.out] at hown3
    obtain ⟨c0, c1, c2, c3, c4, c5, c6, c7⟩ : IsCust w3 g 2 dm pt rt sz st 2 hd := IsCust.below ⟨d0, d1, d2, d3, d4, d5, d6, d7⟩ hb3
    have Hown3 := Lib.hid hown3
    have Hb3 := Lib.hid (bel2 Hb2.out hb3)
    have hsz3 : w1.heap.size ≤ w3.heap.size := Hb3.out.size
    have hsz23 : w1.heap.size ≤ w2.heap.size := Hb2.out.size
    clear hown3 hb3 d0 d1 d2 d3 d4 d5 d6 d7
    go_wp2_with fail
    refine (HL.out _).mono ?_
    rintro e w4 ⟨rv, rfl, hown4, hb4⟩
    have HI4 := Lib.hid hown4.ints
    obtain ⟨d0, d1, d2, d3, d4, d5, d6, d7⟩ : IsCust w4 g 2 dm pt rt sz st 2 hd := IsCust.below ⟨c0, c1, c2, c3, c4, c5, c6, c7⟩ hb4
    have Hown4 := Lib.hid (Hown3.out.below hb4)
    have Hb4 := Lib.hid (bel2 Hb3.out hb4)
    have hsz4 : w1.heap.size ≤ w4.heap.size := Hb4.out.size
    clear hown4 hb4 c0 c1 c2 c3 c4 c5 c6 c7
    go_wp2_with fail
    refine (refVisits_is rv LQ w4 HI4.out Hq2.out).mono ?_
    rintro e w5 ⟨lv, rfl, hown5, hb5⟩
    rw [HV2.out] at hown5
    have Hown5 := Lib.hid hown5
    have HownD := Lib.hid (Hown4.out.below hb5)
    obtain ⟨c0, c1, c2, c3, c4, c5, c6, c7⟩ : IsCust w5 g 2 dm pt rt sz st 2 hd := IsCust.below ⟨d0, d1, d2, d3, d4, d5, d6, d7⟩ hb5
    have Hb5 := Lib.hid (bel2 Hb4.out hb5)
    have hsz5 : w1.heap.size ≤ w5.heap.size := Hb5.out.size
    clear hown5 hb5 d0 d1 d2 d3 d4 d5 d6 d7
    have HAB2 : Hid (AB = true) := Lib.hid (by rw [HAB.out, Bool.or_true])
    cases ok2 with
    | false =>
      have HAV2 : Hid (AV = DV) := Lib.hid (by have h := HAV.out; simp at h; exact h)
      go_upto_region 7 with fail
      go_quiet (fail)
      go_wp2_with fail
      go_ret2
      rw [HAV2.out, HAB2.out]
      exact ⟨_, rfl, by rw [Heg.out]; exact (HownD.out.below (below_drewN (Below.refl _ _) _)).mono (by omega), by rw [Heg.out]; exact hb1.trans ((below_drewN Hb5.out _).mono hsz)⟩
    | true =>
      rw [Bool.true_and, Bool.not_true, Bool.false_or] at HAV
      have HKl := Lib.hid (fun (W : World) (h : Below w5.heap.size w5 W) => HK1.out W lv (bel2 Hb5.out h) (Hown5.out.vis.below h))
      have HKd := Lib.hid (fun (W : World) (h : Below w5.heap.size w5 W) => HK2.out W dv (bel2 Hb5.out h) (HownD.out.vis.below h))
      have b0 := Below.refl w5.heap.size w5
      obtain ⟨ck, hck⟩ : ∃ ck, ck = decide (kl ≤ kd) := ⟨_, rfl⟩
      have Hck := Lib.hid hck
      rw [← hck] at HAV
      clear hck
      go_upto_region 7 with fail
      go_cut [49] (fun s49 wx => s49 = .bool ck ∧ Below w5.heap.size w5 wx)
      case first =>
        go_region_held3 (fun w' => (w'.cell? ⟨g, 0, none⟩ = some (.int .i64 2) ∧ w'.cell? ⟨g, 1, none⟩ = some (.int .i64 dm) ∧ w'.cell? ⟨g, 2, none⟩ = some pt ∧ w'.cell? ⟨g, 3, none⟩ = some (.int .i64 rt) ∧ w'.cell? ⟨g, 4, none⟩ = some (.int .i64 sz) ∧ w'.cell? ⟨g, 5, none⟩ = some (.int .i64 st) ∧ w'.cell? ⟨g, 6, none⟩ = some (.int .i64 2) ∧ w'.cell? ⟨g, 7, none⟩ = some (.int .i64 hd)))
          (first | go_keep | exact cust8_below b1 ⟨c0, c1, c2, c3, c4, c5, c6, c7⟩ | exact cust8_below b2 ⟨c0, c1, c2, c3, c4, c5, c6, c7⟩)
          (first
            | (go_at_call_of 23 lv; refine (HKl.out _ ?_).mono ?_; (first | exact b2 | exact bel2 b2 (belDrew _) | exact b0 | exact belDrew _); rintro e w6 ⟨rfl, hb6⟩; (first | have b1 := bel2 b2 hb6 | have b1 := bel2 (bel2 b2 (belDrew _)) hb6 | have b1 := bel2 b0 hb6 | have b1 := bel2 (belDrew w5) hb6))
            | (go_at_call_of 23 dv; refine (HKd.out _ ?_).mono ?_; (first | exact b1 | exact bel2 b1 (belDrew _) | exact b0 | exact belDrew _); rintro e w7 ⟨rfl, hb7⟩; (first | have b2 := bel2 b1 hb7 | have b2 := bel2 (bel2 b1 (belDrew _)) hb7 | have b2 := bel2 b0 hb7 | have b2 := bel2 (belDrew w5) hb7)))
        all_goals
          go_wp2_with fail
          go_meet
          exact ⟨by rw [Hck.out], by first | exact b2 | exact b2.drew | exact b1 | exact b1.drew⟩
      case rest =>
        obtain ⟨rfl, hbc⟩ := hcut
        obtain ⟨w8, rfl⟩ : ∃ w8 : World, w8 = wc := ⟨_, rfl⟩
        have Hb8 := Lib.hid (bel2 Hb5.out hbc)
        have HownL := Lib.hid (Hown5.out.below hbc)
        have HownD2 := Lib.hid (HownD.out.below hbc)
        clear hbc c0 c1 c2 c3 c4 c5 c6 c7
        cases ck with
        | true =>
          have HAV2 : Hid (AV = LV) := Lib.hid (by rw [HAV.out, if_pos rfl])
          go_wp2_with fail
          go_ret2
          rw [HAV2.out, HAB2.out]
          exact ⟨_, rfl, by rw [Heg.out]; exact HownL.out.mono (by omega), by rw [Heg.out]; exact hb1.trans (Hb8.out.mono hsz)⟩
        | false =>
          have HAV2 : Hid (AV = DV) := Lib.hid (by rw [HAV.out, if_neg (by decide)]; simp)
          go_wp2_with fail
          go_ret2
          rw [HAV2.out, HAB2.out]
          exact ⟨_, rfl, by rw [Heg.out]; exact HownD2.out.mono (by omega), by rw [Heg.out]; exact hb1.trans (Hb8.out.mono hsz)⟩
end Go.Proofs.Ytpelbfjhljlbkaa
