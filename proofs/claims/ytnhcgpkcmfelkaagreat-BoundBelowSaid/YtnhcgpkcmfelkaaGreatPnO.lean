/-
  My own work: the walk of BoundBelow.
-/
import Derived.Test.YtnhcgpkcmfelkaaGreatMPna
import Derived.Test.YtnhcgpkcmfelkaaGreatMPnb
import Derived.Test.YtnhcgpkcmfelkaaGreatMBd
import Derived.Test.YtnhcgpkcmfelkaaGreatMDual
import Derived.Test.YtnhcgpkcmfelkaaGreatBdG
import Derived.Deep.DrawnRows
namespace Go.Proofs.YtnhcgpkcmfelkaaGreat
open Go.RowKit
set_option linter.unusedVariables false
set_option maxRecDepth 100000
attribute [local go_sem ↓] Go.wp_at_zero Go.wp_at_succ

set_option maxRecDepth 100000 in
set_option maxHeartbeats 6400000 in
theorem boundBelow_walk (i0 i1 i2 i3 : Int) (cv0 dv0 pk jv lv : Value) (L0 : List Cu) (D0 : List (List Int)) (xs : List Int) (bs : List Bool) (l : List Int) (w : World) (a0 : (Lit.int .i64 i0).wf = true) (a1 : (Lit.int .i64 i1).wf = true) (a2 : (Lit.int .i64 i2).wf = true) (a3 : (Lit.int .i64 i3).wf = true) (hC0 : Custs w cv0 L0) (hL0 : ∀ C ∈ L0, WfC C) (hG0 : Grid w dv0 D0) (hD0 : ∀ r ∈ D0, ∀ x ∈ r, (Lit.int .i64 x).wf = true) (hx0 : Ints w pk xs) (hxw : ∀ x ∈ xs, (Lit.int .i64 x).wf = true) (hj0 : Bools w jv bs) (hbl : bs.length ≤ 9223372036854775807) (hl0 : Ints w lv l) :
    Calls Tryz.prog 4 #[.agg #[.int .i64 i0, .int .i64 i1, .int .i64 i2, .int .i64 i3, cv0, dv0], pk, jv, lv] w fun e w' => e = .returned (.bool true) ∧ Below w.heap.size w w' := by
  obtain ⟨w1, ew, hb1, hsz1, hx⟩ := box_inst w (.int .i64 i0) (.int .i64 i1) (.int .i64 i2) (.int .i64 i3) cv0 dv0
  obtain ⟨c0, c1, c2, c3, c4, c5⟩ := hx
  have Hgood := Lib.hid (goodInst_is i0 i1 i2 i3 cv0 dv0 L0 D0 w1 a0 a1 a2 a3 (hC0.below hb1) hL0 (hG0.below hb1) hD0)
  have Hew := Lib.hid ew
  have Hb1 := Lib.hid hb1
  have Hlv1 := Lib.hid (hl0.below hb1)
  have Hpk1 := Lib.hid (hx0.below hb1)
  have Hjv1 := Lib.hid (hj0.below hb1)
  have Hxw := Lib.hid hxw
  have Hbl := Lib.hid hbl
  have hsz : w.heap.size ≤ w1.heap.size := hb1.size
  obtain ⟨la, lln, llc, rfl, _⟩ := hl0.open
  obtain ⟨xa, xn, xc, rfl, _⟩ := hx0.open
  have hj00 := hj0
  obtain ⟨ja, jn, jc, rfl, _, _⟩ := hj00
  clear ew hb1 hsz1 hC0 hG0 hL0 hD0 hl0 hx0 hj0 hxw hbl
  go_enter Tryz.func4, Tryz.ntmps4
  go_upto_region 1 with (fail)
  rw [Hew.out]
  go_wp2_with fail
  refine Hgood.out.mono ?_
  rintro e w2 ⟨days, ve, cp, ln, cv, dv, L, D, rfl, hdays, hLn, hgood, hC, hG, hb2⟩
  obtain ⟨ca, cm, cc, rfl, hcm, _, _⟩ := hC.open
  obtain ⟨da, dm, dc, rfl, _, _, _⟩ := hG.open
  obtain ⟨w3, ew3, hb3, hsz3, hy⟩ := box_inst w2 (.int .i64 days) (.int .i64 6) (.int .i64 cp) (.int .i64 1000) (.slice ca cm cc) (.slice da dm dc)
  have hD : ArcBd D := arcBd_of hgood.dist hgood.rows
  have HOk := Lib.hid (good_okI hgood)
  have hcp : 0 ≤ cp ∧ cp ≤ 40 := ⟨hgood.cp0, hgood.cp40⟩
  have HIP := Lib.hid (InstP.mk (i1 := 6) (i3 := 1000) (cap := cp) (good_okI hgood) hgood.good hgood.n6 (by omega) (by omega) (by omega) hgood.rows hgood.dist hD)
  have Hn6 := Lib.hid hgood.n6
  obtain ⟨n, hn⟩ : ∃ n, L.length + 1 = n := ⟨_, rfl⟩
  have hn7 : n ≤ 7 := by have := hgood.n6; omega
  have hnp : 0 < n := by omega
  have HC := Lib.hid (hC.below hb3)
  have HG := Lib.hid (hG.below hb3)
  have Hn := Lib.hid hn
  have HD := Lib.hid hD
  have Hew3 := Lib.hid ew3
  have hb13 := bel2 hb2 hb3
  have HB := Lib.hid (Hb1.out.trans (hb13.mono hsz))
  have Hlv := Lib.hid (Hlv1.out.below hb13)
  have Hpk := Lib.hid (Hpk1.out.below hb13)
  have Hjv := Lib.hid (Hjv1.out.below hb13)
  have hsz23 : w.heap.size ≤ w3.heap.size := HB.out.size
  have hgylt : w2.heap.size < w3.heap.size := by omega
  have Hy := Lib.hid hy
  clear c0 c1 c2 c3 c4 c5 hdays hLn hgood hC hG hb2 hb3 hb13 ew3 hn hcm hsz3 hD
  obtain ⟨c0, c1, c2, c3, c4, c5⟩ := hy
  go_upto_region 4 with (fail)
  rw [Hew3.out]
  generalize w2.heap.size = gy at *
  have HM := Lib.hid (made_is days 6 cp 1000 (.slice ca cm cc) (.slice da dm dc) (.slice xa xn xc) (.slice ja jn jc) L D xs bs w3 HC.out HG.out HD.out HOk.out Hn6.out Hpk.out Hxw.out Hjv.out Hbl.out)
  go_wp2_with fail
  refine HM.out.mono ?_
  rintro e w4 ⟨qa, qn, qc, is, rfl, hP, hb4⟩
  obtain ⟨w5, ew5, hb5, hsz5, q0⟩ := box_plan w4 (.slice qa qn qc)
  have HP : Hid (is = true → ∃ P, DaysP w5 (.slice qa qn qc) P ∧ SmallP P) := Lib.hid (fun h => by obtain ⟨P, h1, h2⟩ := hP h; exact ⟨P, h1.below hb5, h2⟩)
  have hb35 := bel2 hb4 hb5
  have Hb35 := Lib.hid hb35
  have Hew5 := Lib.hid ew5
  have Hy5 := Lib.hid (Hy.out.below hb35)
  have HB5 := Lib.hid (HB.out.trans (hb35.mono hsz23))
  have hsz5' : w.heap.size ≤ w5.heap.size := HB5.out.size
  have hgy5 : gy < w5.heap.size := by have := hb35.size; omega
  have hq5 : w4.heap.size < w5.heap.size := by omega
  clear c0 c1 c2 c3 c4 c5 hP hb4 hb5 hb35 ew5 hsz5 HM
  obtain ⟨c0, c1, c2, c3, c4, c5⟩ := Hy5.out
  go_upto_region 5 with fail
  rw [Hew5.out]
  generalize w4.heap.size = gq at *
  cases is with
  | false =>
    go_wp2_with fail
    refine (lives18_is _).mono ?_
    rintro e w6 ⟨rfl, hb6⟩
    have hB6 := HB5.out.trans (hb6.mono hsz5')
    clear hb6
    go_wp2_with fail
    go_ret
    exact ⟨rfl, hB6⟩
  | true =>
    obtain ⟨P, hdp5, hS⟩ := HP.out rfl
    have HPl := Lib.hid (planP_is days 6 cp 1000 (.slice ca cm cc) (.slice da dm dc) (.slice qa qn qc) L D P w5 (HC.out.below Hb35.out) (HG.out.below Hb35.out) HIP.out hdp5 hS)
    have Hdp := Lib.hid hdp5
    have HS := Lib.hid hS
    clear hdp5 hS
    go_wp2_with fail
    refine HPl.out.mono ?_
    rintro e w6 ⟨v, rfl, hv, hb6⟩
    have Hv := Lib.hid hv
    have HB6 := Lib.hid (HB5.out.trans (hb6.mono hsz5'))
    have Hb36 := Lib.hid (bel2 Hb35.out hb6)
    have Hy6 := Lib.hid (Hy5.out.below hb6)
    have Hq6 := Lib.hid (cell_below hb6 q0)
    have Hdp6 := Lib.hid (Hdp.out.below hb6)
    have hsz6 : w.heap.size ≤ w6.heap.size := HB6.out.size
    have hgy6 : gy < w6.heap.size := by have := hb6.size; omega
    clear c0 c1 c2 c3 c4 c5 q0 hb6 hv HPl
    obtain ⟨c0, c1, c2, c3, c4, c5⟩ := Hy6.out
    have q0 := Hq6.out
    by_cases hz : v = 0
    · subst hz
      have HPd := Lib.hid (Hv.out rfl)
      have hne : ((0 : Int) != 0) = false := by decide
      have HN := Lib.hid (fun (W : World) (h : Below w6.heap.size w6 W) => numbers_is days 6 cp 1000 (.slice ca cm cc) (.slice da dm dc) (.slice la lln llc) L l n W (HC.out.below (bel2 Hb36.out h)) (Hlv.out.below (bel2 Hb36.out h)) Hn.out (by omega))
      have HF := Lib.hid (fun (W : World) (nv : Value) (h : Below w6.heap.size w6 W) (hI : Ints W nv (numsL n l)) => refFit_is days 6 cp 1000 (.slice ca cm cc) (.slice da dm dc) nv L D (numsL n l) n W (HC.out.below (bel2 Hb36.out h)) (HG.out.below (bel2 Hb36.out h)) hI Hn.out (by omega) (nums_len n l) HD.out)
      go_upto_region 7 with fail
      go_cut [12] (fun s wx => ∃ (t : Nat) (ov iv : Value), s = .pointer (some ⟨t, 0, none⟩) ∧ FitSt w6.heap.size w6 t ov iv (outL D n (inL D n (numsL n l))) (inL D n (numsL n l)) wx)
      case first =>
        have b0 := Below.refl w6.heap.size w6
        clear q0
        go_region_held3 (fun w' => w'.cell? ⟨gy, 0, none⟩ = some (.int .i64 days) ∧ w'.cell? ⟨gy, 1, none⟩ = some (.int .i64 6) ∧ w'.cell? ⟨gy, 2, none⟩ = some (.int .i64 cp) ∧ w'.cell? ⟨gy, 3, none⟩ = some (.int .i64 1000) ∧ w'.cell? ⟨gy, 4, none⟩ = some (.slice ca cm cc) ∧ w'.cell? ⟨gy, 5, none⟩ = some (.slice da dm dc))
          (first | go_keep | exact six_below b5 ⟨c0, c1, c2, c3, c4, c5⟩ | exact six_below b6 ⟨c0, c1, c2, c3, c4, c5⟩ | exact six_below (b5.alloc b5.size _) ⟨c0, c1, c2, c3, c4, c5⟩ | exact six_below (b6.alloc b6.size _) ⟨c0, c1, c2, c3, c4, c5⟩ | exact six_below (b6.drew) ⟨c0, c1, c2, c3, c4, c5⟩ | exact six_below (b5.drew) ⟨c0, c1, c2, c3, c4, c5⟩ | exact six_below (fitSt_store hQ6 b6 (by first | exact Nat.le_refl _ | exact b5.size) e9 n9.1 n9.2).below ⟨c0, c1, c2, c3, c4, c5⟩)
          (first
            | (go_at_call 9; refine (HN.out _ ?_).mono ?_; (first | exact b0 | exact belDrew w6 | exact bel2 (belDrew w6) (belAlloc _ _) | exact bel2 (belAlloc w6 _) (belDrew _)); rintro e wN ⟨nv, rfl, hN5, hb5⟩; have hI5 := hN5.ints; (first | have b5 := bel2 b0 hb5 | have b5 := bel2 (belDrew w6) hb5 | have b5 := bel2 (bel2 (belDrew w6) (belAlloc _ _)) hb5 | have b5 := bel2 (bel2 (belAlloc w6 _) (belDrew _)) hb5); (first | (have e9 := (Blk2.new w6 _ _ _).drew.below hb5; have x4 := e9.lt) | skip))
            | (go_at_call 8; refine (HF.out _ _ ?_ ?_).mono ?_; (first | exact b5 | exact bel2 b5 (belAlloc _ _) | exact bel2 b5 (belDrew _)); (first | exact hI5 | exact hI5.below (belAlloc _ _) | exact hI5.below (belDrew _)); rintro e wF ⟨ov, iv, rfl, hP6, hb6⟩; obtain ⟨go, co, gi, ci, rfl, rfl⟩ := hP6.form (outL_len _ _ _) (inL_len _ _ _) hnp; (first | have b6 := bel2 b5 hb6 | have b6 := bel2 (bel2 b5 (belAlloc _ _)) hb6 | have b6 := bel2 (bel2 b5 (belDrew _)) hb6); have hQ6 := hP6.mono (show w6.heap.size ≤ _ by first | exact b5.size | exact (bel2 b5 (belAlloc _ _)).size | exact (bel2 b5 (belDrew _)).size);
                (first | (have n9 := ownP_low (t := w6.heap.size) hP6 x4; have e9 := e9.below hb6; obtain ⟨y0, y1, y2, y3⟩ := e9.cells; have y4 := e9.lt) | (have n9 := ownP_low (t := wN.heap.size) hP6 (by simp); have e9 := (Blk2.new wN _ _ _).below hb6; obtain ⟨y0, y1, y2, y3⟩ := e9.cells; have y4 := e9.lt) | skip)))
        all_goals
          go_wp2_with fail
          go_meet
          first
            | exact ⟨_, _, _, rfl, fitSt_alloc b6.size hQ6 b6 _⟩
            | exact ⟨_, _, _, rfl, (fitSt_alloc b6.size hQ6 b6 _).drew⟩
            | exact ⟨_, _, _, rfl, fitSt_store hQ6 b6 (by first | exact Nat.le_refl _ | exact b5.size) e9 n9.1 n9.2⟩
            | exact ⟨_, _, _, rfl, (fitSt_store hQ6 b6 (by first | exact Nat.le_refl _ | exact b5.size) e9 n9.1 n9.2).drew⟩
      case rest =>
      obtain ⟨t, ov, iv, rfl, hs⟩ := hcut
      obtain ⟨w7, rfl⟩ : ∃ w7 : World, w7 = wc := ⟨_, rfl⟩
      obtain ⟨go, co, gi, ci, rfl, rfl⟩ := hs.own.form (outL_len _ _ _) (inL_len _ _ _) hnp
      obtain ⟨t0, t1, _, _⟩ := hs.blk.cells
      have hb67 := hs.below
      have Hb37 := Lib.hid (bel2 Hb36.out hb67)
      have HB7 := Lib.hid (HB6.out.trans (hb67.mono hsz6))
      have hsz7 : w.heap.size ≤ w7.heap.size := HB7.out.size
      have HO := Lib.hid hs.own.1.ints
      have HI := Lib.hid hs.own.2.1.ints
      have hnO : (outL D n (inL D n (numsL n l))).length = L.length + 1 := by rw [outL_len, Hn.out]
      have hnI : (inL D n (numsL n l)).length = L.length + 1 := by rw [inL_len, Hn.out]
      have hbd : ∀ j, 0 ≤ nth (outL D n (inL D n (numsL n l))) j ∧ nth (outL D n (inL D n (numsL n l))) j ≤ 500 ∧ 0 ≤ nth (inL D n (numsL n l)) j ∧ nth (inL D n (numsL n l)) j ≤ 500 := fun j => by
        have h1 := nth_out_bd HD.out n (numsL n l) j
        have h2 := nth_in_bd HD.out n (numsL n l) j
        omega
      have hmay : mayP D (L.length + 1) (outL D n (inL D n (numsL n l))) (inL D n (numsL n l)) := by rw [Hn.out]; exact may_fit HD.out n _
      have hn20 : days ≤ 20 := by have := HOk.out.n7; omega
      have hv1 := HPd.out.value HOk.out hn20 hmay hbd
      have hv2 := HPd.out.base HOk.out hn20 HD.out
      generalize outL D n (inL D n (numsL n l)) = O at *
      generalize inL D n (numsL n l) = I at *
      have hv3 : bestT days cp L D O I ≤ costP D days L P := by unfold bestT; omega
      have HK := Lib.hid (fun (W : World) (h : Below w7.heap.size w7 W) => costP_is days 6 cp 1000 (.slice ca cm cc) (.slice da dm dc) (.slice qa qn qc) L D P W (HC.out.below (bel2 Hb37.out h)) (HG.out.below (bel2 Hb37.out h)) HD.out HOk.out (Hdp6.out.below (bel2 hb67 h)) HS.out HPd.out)
      have HA1 := Lib.hid (fun (W : World) (h : Below w7.heap.size w7 W) => bdBase_is days 6 cp 1000 (.slice ca cm cc) (.slice da dm dc) L D W (HC.out.below (bel2 Hb37.out h)) (HG.out.below (bel2 Hb37.out h)) HD.out HOk.out)
      have HV1 := Lib.hid (fun (W : World) (h : Below w7.heap.size w7 W) => bdValue_is days 6 cp 1000 (.slice ca cm cc) (.slice da dm dc) (.slice (some ⟨go, 0, none⟩) n co) (.slice (some ⟨gi, 0, none⟩) n ci) L O I W (HC.out.below (bel2 Hb37.out h)) (HO.out.below h) (HI.out.below h) HOk.out (by omega) hnO hnI hbd)
      have HE1 := Lib.hid (fun (W : World) (h : Below w7.heap.size w7 W) => bdBest_is days 6 cp 1000 (.slice ca cm cc) (.slice da dm dc) (.slice (some ⟨go, 0, none⟩) n co) (.slice (some ⟨gi, 0, none⟩) n ci) L D O I W (HC.out.below (bel2 Hb37.out h)) (HG.out.below (bel2 Hb37.out h)) HD.out (HO.out.below h) (HI.out.below h) HOk.out (by omega) hnO hnI hbd)
      generalize costP D days L P = CP at *
      generalize baseT days cp L D = BT at *
      generalize valueT days cp L O I = VT at *
      generalize bestT days cp L D O I = ET at *
      have e1 : decide (ET ≤ CP) = true := decide_eq_true hv3
      have e2 : decide (BT ≤ CP) = true := decide_eq_true hv2
      have e3 : decide (VT ≤ CP) = true := decide_eq_true hv1
      have Hy7 := Lib.hid (Hy6.out.below hb67)
      have Hq7 := Lib.hid (cell_below hb67 Hq6.out)
      have Ht0 := Lib.hid t0
      have Ht1 := Lib.hid t1
      clear c0 c1 c2 c3 c4 c5 q0 t0 t1 hs hb67 hbd hmay hv1 hv2 hv3 HN HF
      obtain ⟨c0, c1, c2, c3, c4, c5⟩ := Hy7.out
      have q0 := Hq7.out
      go_wp2_with fail
      refine (HK.out _ (Below.refl _ _)).mono ?_
      rintro e w8 ⟨rfl, hb8⟩
      have Hb8 := Lib.hid hb8
      have Hy8 := Lib.hid (Hy7.out.below hb8)
      clear c0 c1 c2 c3 c4 c5 q0 hb8
      obtain ⟨c0, c1, c2, c3, c4, c5⟩ := Hy8.out
      have t0 := cell_below Hb8.out Ht0.out
      have t1 := cell_below Hb8.out Ht1.out
      go_wp2_with fail
      refine (HE1.out _ Hb8.out).mono ?_
      rintro e w9 ⟨rfl, hb9⟩
      have Hb9 := Lib.hid (bel2 Hb8.out hb9)
      clear c0 c1 c2 c3 c4 c5 t0 t1 hb9
      obtain ⟨c0, c1, c2, c3, c4, c5⟩ := Hy7.out.below Hb9.out
      go_wp2_with fail
      refine (HA1.out _ Hb9.out).mono ?_
      rintro e w10 ⟨rfl, hb10⟩
      have Hb10 := Lib.hid (bel2 Hb9.out hb10)
      clear c0 c1 c2 c3 c4 c5 hb10
      obtain ⟨c0, c1, c2, c3, c4, c5⟩ := Hy7.out.below Hb10.out
      have t0 := cell_below Hb10.out Ht0.out
      have t1 := cell_below Hb10.out Ht1.out
      go_wp2_with fail
      refine (HV1.out _ Hb10.out).mono ?_
      rintro e w11 ⟨rfl, hb11⟩
      have Hb11 := Lib.hid (bel2 Hb10.out hb11)
      clear c0 c1 c2 c3 c4 c5 t0 t1 hb11
      go_wp2_with fail
      refine (lives18_is _).mono ?_
      rintro e w12 ⟨rfl, hb12⟩
      have hB12 := HB7.out.trans ((bel2 Hb11.out hb12).mono hsz7)
      clear hb12
      go_wp2_with fail
      go_ret
      exact ⟨rfl, hB12⟩
    · have hne : (v != 0) = true := by simpa using hz
      go_wp2_with fail
      refine (lives18_is _).mono ?_
      rintro e w7 ⟨rfl, hb7⟩
      have hB7 := HB6.out.trans (hb7.mono hsz6)
      clear hb7
      go_wp2_with fail
      go_ret
      exact ⟨rfl, hB7⟩
end Go.Proofs.YtnhcgpkcmfelkaaGreat
