/-
  My own work: alone.pattern, alone.ways, alone.Solve: their contracts.
-/
import Derived.Test.YtnhcgpkcmfelkaaGreatAloneL
import Derived.Test.YtnhcgpkcmfelkaaGreatAloneF
import Derived.Test.YtnhcgpkcmfelkaaGreatMPol
namespace Go.Proofs.YtnhcgpkcmfelkaaGreat
open Go.RowKit
set_option linter.unusedVariables false
set_option maxRecDepth 100000
attribute [local go_sem ↓] Go.wp_at_zero Go.wp_at_succ

def patB (P : List Int) (l : List Nat) : Int := (bestUpto P l l.length).1
def patV (dm cap : Int) (ps : List Nat) (P : List Int) : List (Int × Int) := if patB P (carriedL dm cap ps) < 0 then [] else onV dm (nthN (carriedL dm cap ps) (patB P (carriedL dm cap ps)).toNat)
def patOk (dm cap : Int) (ps : List Nat) (P : List Int) : Bool := !decide (patB P (carriedL dm cap ps) < 0)
theorem carried_sub (dm cap : Int) (ps : List Nat) : ∀ p ∈ carriedL dm cap ps, p ∈ ps := fun p hp => (List.mem_filter.1 hp).1
theorem carried_len (dm cap : Int) (ps : List Nat) : (carriedL dm cap ps).length ≤ ps.length := List.length_filter_le _ _
theorem patB_lt (P : List Int) (l : List Nat) (h : 0 ≤ patB P l) : (patB P l).toNat < l.length := by
  unfold patB at *
  rcases best_bd P l l.length with h1 | h1
  · omega
  · rw [h1] at h; simp [bestUpto] at h

set_option maxHeartbeats 1600000 in
theorem pattern_is (kd dm : Int) (pt pv : Value) (rt sz st ru hd cap : Int) (ps : List Nat) (P : List Int) (w : World) (hp : Words w pt ps) (hps : ∀ p ∈ ps, p < 18446744073709551616) (hpl : ps.length ≤ 1000) (hP : Ints w pv P) (hPf : ∀ x ∈ P, fitsI x = true) :
    Calls Tryz.prog 102 #[.agg #[.int .i64 kd, .int .i64 dm, pt, .int .i64 rt, .int .i64 sz, .int .i64 st, .int .i64 ru, .int .i64 hd], .int .i64 cap, pv] w (SolveOut w (patV dm cap ps P) (patOk dm cap ps P)) := by
  obtain ⟨w1, ew, hb1, hsz1, hcu⟩ := box_cust w kd dm pt rt sz st ru hd
  have Hew := Lib.hid ew
  have Hca := Lib.hid (carried_is kd dm pt rt sz st ru hd cap ps w1 (hp.below hb1) hpl)
  have HP := Lib.hid (hP.below hb1)
  have HPf := Lib.hid hPf
  have hsz : w.heap.size ≤ w1.heap.size := hb1.size
  obtain ⟨c0, c1, c2, c3, c4, c5, c6, c7⟩ := hcu
  have hlw : ∀ p ∈ carriedL dm cap ps, p < 18446744073709551616 := fun p hp => hps p (carried_sub _ _ _ p hp)
  have hll : (carriedL dm cap ps).length ≤ 1000 := Nat.le_trans (carried_len _ _ _) hpl
  have hbl := patB_lt P (carriedL dm cap ps)
  have hv : patV dm cap ps P = if patB P (carriedL dm cap ps) < 0 then [] else onV dm (nthN (carriedL dm cap ps) (patB P (carriedL dm cap ps)).toNat) := rfl
  have ho : patOk dm cap ps P = !decide (patB P (carriedL dm cap ps) < 0) := rfl
  generalize carriedL dm cap ps = l at *
  have Hlw := Lib.hid hlw
  have Hll := Lib.hid hll
  have Hbl := Lib.hid hbl
  have Hv := Lib.hid hv
  have Ho := Lib.hid ho
  clear ew hsz1 hP hPf hp hps hlw hll hbl hv ho
  go_enter Tryz.func102, Tryz.ntmps102
  go_upto_region 1 with (fail)
  rw [Hew.out]
  go_wp2_with fail
  refine Hca.out.mono ?_
  rintro e w2 ⟨lv, rfl, hown, hb2⟩
  have HW := Lib.hid hown.words
  have HP2 := Lib.hid (HP.out.below hb2)
  obtain ⟨c0, c1, c2, c3, c4, c5, c6, c7⟩ : IsCust w2 w.heap.size kd dm pt rt sz st ru hd := IsCust.below ⟨c0, c1, c2, c3, c4, c5, c6, c7⟩ hb2
  have HB2 := Lib.hid (hb1.trans (hb2.mono hsz))
  clear hown hb2
  go_wp2_with fail
  refine (best_is lv pv l P w2 HW.out Hlw.out HP2.out HPf.out Hll.out).mono ?_
  rintro e w3 ⟨rfl, hb3⟩
  obtain ⟨b, hb⟩ : ∃ b, b = patB P l := ⟨_, rfl⟩
  have hbb : (bestUpto P l l.length).1 = b := hb.symm
  rw [hbb]
  rw [← hb] at Hbl Hv Ho
  generalize (bestUpto P l l.length).2 = b2
  obtain ⟨a, n, c, rfl, hn, _, _, hc⟩ := (HW.out.below hb3).open
  obtain ⟨c0, c1, c2, c3, c4, c5, c6, c7⟩ : IsCust w3 w.heap.size kd dm pt rt sz st ru hd := IsCust.below ⟨c0, c1, c2, c3, c4, c5, c6, c7⟩ hb3
  have HB3 := Lib.hid (HB2.out.trans (hb3.mono HB2.out.size))
  have hsz3 : w.heap.size ≤ w3.heap.size := HB3.out.size
  have Hc := Lib.hid hc
  have Hn := Lib.hid hn
  clear hb hbb hc hn hb3
  by_cases h0 : b < 0
  · have h0' : decide (b < 0) = true := by simpa using h0
    have Hv2 : Hid (patV dm cap ps P = []) := Lib.hid (by rw [Hv.out, if_pos h0])
    have Ho2 : Hid (patOk dm cap ps P = false) := Lib.hid (by rw [Ho.out, h0']; rfl)
    clear h0
    go_wp2_with fail
    go_ret2
    rw [Hv2.out, Ho2.out]
    exact ⟨_, rfl, OwnV.nil _ _, HB3.out⟩
  · have h0' : decide (b < 0) = false := by simpa using h0
    obtain ⟨k, rfl⟩ := Int.eq_ofNat_of_zero_le (show 0 ≤ b by omega)
    have hkn := Hbl.out (by omega)
    rw [Int.toNat_natCast, Hn.out] at hkn
    obtain ⟨b, o, rfl, _, f0⟩ := Hc.out k hkn
    have Hv2 : Hid (patV dm cap ps P = onV dm (nthN l k)) := Lib.hid (by rw [Hv.out, if_neg h0, Int.toNat_natCast])
    have Ho2 : Hid (patOk dm cap ps P = true) := Lib.hid (by rw [Ho.out, h0']; rfl)
    have hOn := fun (W : World) => on_is kd dm pt rt sz st ru hd (nthN l k) W (Hlw.out _ (nthN_mem (by rw [Hn.out]; exact hkn)))
    generalize nthN l k = p at *
    have HOn := Lib.hid hOn
    have hi0 : (0 : Int) ≤ (k : Int) := by omega
    have hi1 : (k : Int) < (n : Int) := by omega
    have b0 := Below.refl w3.heap.size w3
    clear h0 hOn
    go_upto_region 5 with fail
    go_region_held3 (fun w' => (w'.cell? ⟨w.heap.size, 0, none⟩ = some (.int .i64 kd) ∧ w'.cell? ⟨w.heap.size, 1, none⟩ = some (.int .i64 dm) ∧ w'.cell? ⟨w.heap.size, 2, none⟩ = some pt ∧ w'.cell? ⟨w.heap.size, 3, none⟩ = some (.int .i64 rt) ∧ w'.cell? ⟨w.heap.size, 4, none⟩ = some (.int .i64 sz) ∧ w'.cell? ⟨w.heap.size, 5, none⟩ = some (.int .i64 st) ∧ w'.cell? ⟨w.heap.size, 6, none⟩ = some (.int .i64 ru) ∧ w'.cell? ⟨w.heap.size, 7, none⟩ = some (.int .i64 hd) ∧ w'.cell? ⟨b, o + k, none⟩ = some (.int .u64 (p : Int))))
      (first | go_keep | exact ⟨cell_below b5 c0, cell_below b5 c1, cell_below b5 c2, cell_below b5 c3, cell_below b5 c4, cell_below b5 c5, cell_below b5 c6, cell_below b5 c7, cell_below b5 f0⟩)
      (first
        | (go_at_call 115; refine (HOn.out _).mono ?_; rintro e w5 ⟨xv, rfl, hown5, hb5⟩; (first | have b5 := bel2 b0 hb5 | have b5 := bel2 (belDrew w3) hb5); have Hown5 := Lib.hid (hown5.mono hsz3)))
    all_goals
      have B5 := Lib.hid (HB3.out.trans (b5.mono hsz3))
      clear hown5 hb5 b5
      go_wp2_with fail
      go_ret2
      rw [Hv2.out, Ho2.out]
      exact ⟨_, rfl, by first | exact Hown5.out | exact Hown5.out.below (belDrew _), by first | exact B5.out | exact B5.out.drew⟩

/-- The late way's or the daily way's visits. -/
def wayV (late : Bool) (sz rt cap st : Int) (n : Nat) : List (Int × Int) := visitsOf (wayQ late sz 2 rt cap st n)
def wayB (late : Bool) (sz rt cap st : Int) (n : Nat) : Bool := holdsE st rt sz 2 (wayQ late sz 2 rt cap st n) == 0
def lateB (st sz rt hd cap : Int) (P : List Int) (n : Nat) : Bool :=
  wayB true sz rt cap st n && (!wayB false sz rt cap st n || decide (costV 2 st rt sz hd P (wayV true sz rt cap st n) n ≤ costV 2 st rt sz hd P (wayV false sz rt cap st n) n))
def anyV (st sz rt hd cap : Int) (P : List Int) (n : Nat) : List (Int × Int) :=
  if lateB st sz rt hd cap P n = true then wayV true sz rt cap st n else if wayB false sz rt cap st n = true then wayV false sz rt cap st n else []
def anyB (st sz rt hd cap : Int) (P : List Int) (n : Nat) : Bool := lateB st sz rt hd cap P n || wayB false sz rt cap st n
theorem wayV_len (late : Bool) (sz rt cap st : Int) (n : Nat) : (wayV late sz rt cap st n).length ≤ n := by
  have := visitsTo_len (wayQ late sz 2 rt cap st n) (wayQ late sz 2 rt cap st n).length
  rw [wayQ_len] at this
  unfold wayV visitsOf
  rw [wayQ_len]
  exact this
theorem wayV_fits {late : Bool} {sz rt cap st : Int} {n : Nat} (h : 0 ≤ sz) (h2 : sz ≤ 2147483648) : ∀ p ∈ wayV late sz rt cap st n, fitsI p.2 = true := by
  unfold wayV visitsOf
  exact visitsTo_fits _ (way_okQ h h2 n) _ (Nat.le_refl _)

set_option maxHeartbeats 3200000 in
theorem ways_is (dm : Int) (pt pv : Value) (rt sz st hd cap : Int) (n : Nat) (P : List Int) (w : World) (T : TankOk st rt sz 2 hd) (hn : n ≤ 20) (hP : Ints w pv P) (hPb : ∀ d, 0 ≤ priceAt P d ∧ priceAt P d ≤ 1000) :
    Calls Tryz.prog 104 #[.agg #[.int .i64 2, .int .i64 dm, pt, .int .i64 rt, .int .i64 sz, .int .i64 st, .int .i64 2, .int .i64 hd], .int .i64 n, .int .i64 cap, pv] w (SolveOut w (anyV st sz rt hd cap P n) (anyB st sz rt hd cap P n)) := by
  obtain ⟨w1, ew, hb1, hsz1, hcu⟩ := box_cust w 2 dm pt rt sz st 2 hd
  have z0 := T.sz0; have z1 := T.sz1; have z2 := T.st0; have z3 := T.st1; have z4 := T.rt0; have z5 := T.rt1
  have HD := Lib.hid (fun (W : World) => daily_is 2 dm pt rt sz st 2 hd n cap W (by omega) (by omega) (by omega) (by omega) (by omega) (by omega) (by omega))
  have HL := Lib.hid (fun (W : World) => late_is 2 dm pt rt sz st 2 hd n cap W (by omega) (by omega) (by omega) (by omega) (by omega) (by omega) (by omega))
  have HP := Lib.hid (hP.below hb1)
  have HC := Lib.hid (fun (W : World) (vv : Value) (V : List (Int × Int)) (h : Below w1.heap.size w1 W) (hV : Vis W vv V) (hVl : V.length ≤ 64) (hVf : ∀ p ∈ V, fitsI p.2 = true) => cost_is 2 dm pt pv vv rt sz st 2 hd n P V W (.inr ⟨rfl, T⟩) hn (HP.out.below h) hPb hV hVl hVf)
  have hvl1 := wayV_len true sz rt cap st n
  have hvl2 := wayV_len false sz rt cap st n
  have hvf1 := wayV_fits (late := true) (rt := rt) (cap := cap) (st := st) (n := n) (show 0 ≤ sz by omega) (by omega)
  have hvf2 := wayV_fits (late := false) (rt := rt) (cap := cap) (st := st) (n := n) (show 0 ≤ sz by omega) (by omega)
  have hAV : anyV st sz rt hd cap P n = if lateB st sz rt hd cap P n = true then wayV true sz rt cap st n else if wayB false sz rt cap st n = true then wayV false sz rt cap st n else [] := rfl
  have hAB : anyB st sz rt hd cap P n = (lateB st sz rt hd cap P n || wayB false sz rt cap st n) := rfl
  have hLB : lateB st sz rt hd cap P n = (wayB true sz rt cap st n && (!wayB false sz rt cap st n || decide (costV 2 st rt sz hd P (wayV true sz rt cap st n) n ≤ costV 2 st rt sz hd P (wayV false sz rt cap st n) n))) := rfl
  rw [hLB] at hAV hAB
  generalize anyV st sz rt hd cap P n = AV at *
  generalize anyB st sz rt hd cap P n = AB at *
  have hq1 : (wayQ false sz 2 rt cap st n).length ≤ 1048576 := by rw [wayQ_len]; omega
  have hq2 : (wayQ true sz 2 rt cap st n).length ≤ 1048576 := by rw [wayQ_len]; omega
  have hD1 : (holdsE st rt sz 2 (wayQ false sz 2 rt cap st n) == 0) = wayB false sz rt cap st n := rfl
  have hL1 : (holdsE st rt sz 2 (wayQ true sz 2 rt cap st n) == 0) = wayB true sz rt cap st n := rfl
  unfold WayOut at HD HL
  rw [hD1] at HD
  rw [hL1] at HL
  have hV1 : visitsOf (wayQ false sz 2 rt cap st n) = wayV false sz rt cap st n := rfl
  have hV2 : visitsOf (wayQ true sz 2 rt cap st n) = wayV true sz rt cap st n := rfl
  generalize wayB false sz rt cap st n = ok1 at *
  generalize wayB true sz rt cap st n = ok2 at *
  have HK1 := Lib.hid (fun (W : World) (vv : Value) (h : Below w1.heap.size w1 W) (hV : Vis W vv (wayV true sz rt cap st n)) => HC.out W vv _ h hV (by omega) hvf1)
  have HK2 := Lib.hid (fun (W : World) (vv : Value) (h : Below w1.heap.size w1 W) (hV : Vis W vv (wayV false sz rt cap st n)) => HC.out W vv _ h hV (by omega) hvf2)
  generalize costV 2 st rt sz hd P (wayV true sz rt cap st n) n = kl at *
  generalize costV 2 st rt sz hd P (wayV false sz rt cap st n) n = kd at *
  generalize wayV true sz rt cap st n = LV at *
  generalize wayV false sz rt cap st n = DV at *
  generalize wayQ false sz 2 rt cap st n = DQ at *
  generalize wayQ true sz 2 rt cap st n = LQ at *
  have Hew := Lib.hid ew
  have HAV := Lib.hid hAV
  have HAB := Lib.hid hAB
  have Hq1 := Lib.hid hq1
  have Hq2 := Lib.hid hq2
  have HV1 := Lib.hid hV1
  have HV2 := Lib.hid hV2
  have hsz : w.heap.size ≤ w1.heap.size := hb1.size
  obtain ⟨c0, c1, c2, c3, c4, c5, c6, c7⟩ := hcu
  clear ew hsz1 hP hPb T z0 z1 z2 z3 z4 z5 HC hvl1 hvl2 hvf1 hvf2 hAV hAB hLB hq1 hq2 hD1 hL1 hV1 hV2
  go_enter Tryz.func104, Tryz.ntmps104
  go_upto_region 1 with (fail)
  rw [Hew.out]
  generalize eg : w.heap.size = g at *
  have Heg := Lib.hid eg
  clear eg
  go_wp2_with fail
  refine (HD.out _).mono ?_
  rintro e w2 ⟨qv, rfl, hown, hb2⟩
  have HI2 := Lib.hid hown.ints
  obtain ⟨d0, d1, d2, d3, d4, d5, d6, d7⟩ : IsCust w2 g 2 dm pt rt sz st 2 hd := IsCust.below ⟨c0, c1, c2, c3, c4, c5, c6, c7⟩ hb2
  have Hb2 := Lib.hid hb2
  clear hown hb2 c0 c1 c2 c3 c4 c5 c6 c7
  go_wp2_with fail
  refine (visits_is qv DQ w2 HI2.out Hq1.out).mono ?_
  rintro e w3 ⟨dv, rfl, hown3, hb3⟩
  rw [HV1.out] at hown3
  obtain ⟨c0, c1, c2, c3, c4, c5, c6, c7⟩ : IsCust w3 g 2 dm pt rt sz st 2 hd := IsCust.below ⟨d0, d1, d2, d3, d4, d5, d6, d7⟩ hb3
  have Hown3 := Lib.hid hown3
  have Hb3 := Lib.hid (bel2 Hb2.out hb3)
  have hsz3 : w1.heap.size ≤ w3.heap.size := Hb3.out.size
  have hsz23 : w1.heap.size ≤ w2.heap.size := Hb2.out.size
  clear hown3 hb3 d0 d1 d2 d3 d4 d5 d6 d7
  go_wp2_with fail
  refine (HL.out _).mono ?_
  rintro e w4 ⟨rv, rfl, hown4, hb4⟩
  have HI4 := Lib.hid hown4.ints
  obtain ⟨d0, d1, d2, d3, d4, d5, d6, d7⟩ : IsCust w4 g 2 dm pt rt sz st 2 hd := IsCust.below ⟨c0, c1, c2, c3, c4, c5, c6, c7⟩ hb4
  have Hown4 := Lib.hid (Hown3.out.below hb4)
  have Hb4 := Lib.hid (bel2 Hb3.out hb4)
  have hsz4 : w1.heap.size ≤ w4.heap.size := Hb4.out.size
  clear hown4 hb4 c0 c1 c2 c3 c4 c5 c6 c7
  cases ok2 with
  | false =>
    rw [Bool.false_and] at HAV HAB
    cases ok1 with
    | false =>
      have HAV2 : Hid (AV = []) := Lib.hid (by rw [HAV.out, if_neg (by decide), if_neg (by decide)])
      have HAB2 : Hid (AB = false) := Lib.hid HAB.out
      go_wp2_with fail
      go_ret2
      rw [HAV2.out, HAB2.out]
      exact ⟨_, rfl, OwnV.nil _ _, by rw [Heg.out]; exact hb1.trans (Hb4.out.mono hsz)⟩
    | true =>
      have HAV2 : Hid (AV = DV) := Lib.hid (by rw [HAV.out, if_neg (by decide), if_pos rfl])
      have HAB2 : Hid (AB = true) := Lib.hid HAB.out
      go_wp2_with fail
      go_ret2
      rw [HAV2.out, HAB2.out]
      exact ⟨_, rfl, by rw [Heg.out]; exact Hown4.out.mono (by omega), by rw [Heg.out]; exact hb1.trans (Hb4.out.mono hsz)⟩
  | true =>
    rw [Bool.true_and] at HAV HAB
    go_wp2_with fail
    refine (visits_is rv LQ w4 HI4.out Hq2.out).mono ?_
    rintro e w5 ⟨lv, rfl, hown5, hb5⟩
    rw [HV2.out] at hown5
    have Hown5 := Lib.hid hown5
    have HownD := Lib.hid (Hown4.out.below hb5)
    obtain ⟨c0, c1, c2, c3, c4, c5, c6, c7⟩ : IsCust w5 g 2 dm pt rt sz st 2 hd := IsCust.below ⟨d0, d1, d2, d3, d4, d5, d6, d7⟩ hb5
    have Hb5 := Lib.hid (bel2 Hb4.out hb5)
    have hsz5 : w1.heap.size ≤ w5.heap.size := Hb5.out.size
    clear hown5 hb5 d0 d1 d2 d3 d4 d5 d6 d7
    cases ok1 with
    | false =>
      rw [Bool.not_false, Bool.true_or] at HAV HAB
      have HAV2 : Hid (AV = LV) := Lib.hid (by rw [HAV.out, if_pos rfl])
      have HAB2 : Hid (AB = true) := Lib.hid HAB.out
      go_upto_region 6 with fail
      go_quiet (fail)
      go_wp2_with fail
      go_ret2
      rw [HAV2.out, HAB2.out]
      exact ⟨_, rfl, by rw [Heg.out]; exact Hown5.out.mono (by omega), by rw [Heg.out]; exact hb1.trans ((below_drewN Hb5.out _).mono hsz)⟩
    | true =>
      rw [Bool.not_true, Bool.false_or] at HAV HAB
      have HKl := Lib.hid (fun (W : World) (h : Below w5.heap.size w5 W) => HK1.out W lv (bel2 Hb5.out h) (Hown5.out.vis.below h))
      have HKd := Lib.hid (fun (W : World) (h : Below w5.heap.size w5 W) => HK2.out W dv (bel2 Hb5.out h) (HownD.out.vis.below h))
      have b0 := Below.refl w5.heap.size w5
      obtain ⟨ck, hck⟩ : ∃ ck, ck = decide (kl ≤ kd) := ⟨_, rfl⟩
      have Hck := Lib.hid hck
      rw [← hck] at HAV HAB
      clear hck
      go_upto_region 6 with fail
      go_cut [49] (fun s49 wx => s49 = .bool ck ∧ Below w5.heap.size w5 wx)
      case first =>
        go_region_held3 (fun w' => (w'.cell? ⟨g, 0, none⟩ = some (.int .i64 2) ∧ w'.cell? ⟨g, 1, none⟩ = some (.int .i64 dm) ∧ w'.cell? ⟨g, 2, none⟩ = some pt ∧ w'.cell? ⟨g, 3, none⟩ = some (.int .i64 rt) ∧ w'.cell? ⟨g, 4, none⟩ = some (.int .i64 sz) ∧ w'.cell? ⟨g, 5, none⟩ = some (.int .i64 st) ∧ w'.cell? ⟨g, 6, none⟩ = some (.int .i64 2) ∧ w'.cell? ⟨g, 7, none⟩ = some (.int .i64 hd)))
          (first | go_keep | exact cust8_below b1 ⟨c0, c1, c2, c3, c4, c5, c6, c7⟩ | exact cust8_below b2 ⟨c0, c1, c2, c3, c4, c5, c6, c7⟩)
          (first
            | (go_at_call_of 84 lv; refine (HKl.out _ ?_).mono ?_; (first | exact b2 | exact bel2 b2 (belDrew _) | exact b0 | exact belDrew _); rintro e w6 ⟨rfl, hb6⟩; (first | have b1 := bel2 b2 hb6 | have b1 := bel2 (bel2 b2 (belDrew _)) hb6 | have b1 := bel2 b0 hb6 | have b1 := bel2 (belDrew w5) hb6))
            | (go_at_call_of 84 dv; refine (HKd.out _ ?_).mono ?_; (first | exact b1 | exact bel2 b1 (belDrew _) | exact b0 | exact belDrew _); rintro e w7 ⟨rfl, hb7⟩; (first | have b2 := bel2 b1 hb7 | have b2 := bel2 (bel2 b1 (belDrew _)) hb7 | have b2 := bel2 b0 hb7 | have b2 := bel2 (belDrew w5) hb7)))
        all_goals
          go_wp2_with fail
          go_meet
          exact ⟨by rw [Hck.out], by first | exact b2 | exact b2.drew | exact b1 | exact b1.drew⟩
      case rest =>
        obtain ⟨rfl, hbc⟩ := hcut
        obtain ⟨w8, rfl⟩ : ∃ w8 : World, w8 = wc := ⟨_, rfl⟩
        have Hb8 := Lib.hid (bel2 Hb5.out hbc)
        have HownL := Lib.hid (Hown5.out.below hbc)
        have HownD2 := Lib.hid (HownD.out.below hbc)
        clear hbc c0 c1 c2 c3 c4 c5 c6 c7
        cases ck with
        | true =>
          have HAV2 : Hid (AV = LV) := Lib.hid (by rw [HAV.out, if_pos rfl])
          have HAB2 : Hid (AB = true) := Lib.hid HAB.out
          go_wp2_with fail
          go_ret2
          rw [HAV2.out, HAB2.out]
          exact ⟨_, rfl, by rw [Heg.out]; exact HownL.out.mono (by omega), by rw [Heg.out]; exact hb1.trans (Hb8.out.mono hsz)⟩
        | false =>
          have HAV2 : Hid (AV = DV) := Lib.hid (by rw [HAV.out, if_neg (by decide)]; simp)
          have HAB2 : Hid (AB = true) := Lib.hid HAB.out
          go_wp2_with fail
          go_ret2
          rw [HAV2.out, HAB2.out]
          exact ⟨_, rfl, by rw [Heg.out]; exact HownD2.out.mono (by omega), by rw [Heg.out]; exact hb1.trans (Hb8.out.mono hsz)⟩
end Go.Proofs.YtnhcgpkcmfelkaaGreat
