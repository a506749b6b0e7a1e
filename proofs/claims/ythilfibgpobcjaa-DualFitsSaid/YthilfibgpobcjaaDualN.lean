/-
  My own work: the walk of DualFits.
-/
import Derived.Test.YthilfibgpobcjaaDualI
import Derived.Test.YthilfibgpobcjaaDualL
namespace Go.Proofs.Ythilfibgpobcjaa
open Go.RowKit
set_option linter.unusedVariables false
attribute [local go_sem ↓] Go.wp_at_zero Go.wp_at_succ

theorem ten_below {W w1 : World} (hb : Below W.heap.size W w1) {g t s : Nat} {u0 u1 u2 u3 u4 u5 u6 u7 u8 u9 : Value} (h : W.cell? ⟨g, 0, none⟩ = some u0 ∧ W.cell? ⟨g, 1, none⟩ = some u1 ∧ W.cell? ⟨g, 2, none⟩ = some u2 ∧ W.cell? ⟨g, 3, none⟩ = some u3 ∧ W.cell? ⟨g, 4, none⟩ = some u4 ∧ W.cell? ⟨g, 5, none⟩ = some u5 ∧ W.cell? ⟨t, 0, none⟩ = some u6 ∧ W.cell? ⟨t, 1, none⟩ = some u7 ∧ W.cell? ⟨s, 0, none⟩ = some u8 ∧ W.cell? ⟨s, 1, none⟩ = some u9) :
    w1.cell? ⟨g, 0, none⟩ = some u0 ∧ w1.cell? ⟨g, 1, none⟩ = some u1 ∧ w1.cell? ⟨g, 2, none⟩ = some u2 ∧ w1.cell? ⟨g, 3, none⟩ = some u3 ∧ w1.cell? ⟨g, 4, none⟩ = some u4 ∧ w1.cell? ⟨g, 5, none⟩ = some u5 ∧ w1.cell? ⟨t, 0, none⟩ = some u6 ∧ w1.cell? ⟨t, 1, none⟩ = some u7 ∧ w1.cell? ⟨s, 0, none⟩ = some u8 ∧ w1.cell? ⟨s, 1, none⟩ = some u9 :=
  ⟨cell_below hb h.1, cell_below hb h.2.1, cell_below hb h.2.2.1, cell_below hb h.2.2.2.1, cell_below hb h.2.2.2.2.1, cell_below hb h.2.2.2.2.2.1, cell_below hb h.2.2.2.2.2.2.1, cell_below hb h.2.2.2.2.2.2.2.1, cell_below hb h.2.2.2.2.2.2.2.2.1, cell_below hb h.2.2.2.2.2.2.2.2.2⟩

set_option maxRecDepth 100000 in
set_option maxHeartbeats 12800000 in
theorem dualFits_walk (i0 i1 i2 i3 : Int) (cv0 dv0 : Value) (L0 : List Cu) (D0 : List (List Int)) (lv : Value) (l : List Int) (place by_ : Int) (w : World) (a0 : (Lit.int .i64 i0).wf = true) (a1 : (Lit.int .i64 i1).wf = true) (a2 : (Lit.int .i64 i2).wf = true) (a3 : (Lit.int .i64 i3).wf = true) (hC0 : Custs w cv0 L0) (hL0 : ∀ C ∈ L0, WfC C) (hG0 : Grid w dv0 D0) (hD0 : ∀ r ∈ D0, ∀ x ∈ r, (Lit.int .i64 x).wf = true) (hlv : Ints w lv l) (hby : (Lit.int .i64 by_).wf = true) :
    Calls Try.prog 6 #[.agg #[.int .i64 i0, .int .i64 i1, .int .i64 i2, .int .i64 i3, cv0, dv0], lv, .int .i64 place, .int .i64 by_] w fun e w' => e = .returned (.bool true) ∧ Below w.heap.size w w' := by
  obtain ⟨w1, ew, hb1, hsz1, hx⟩ := box_inst w (.int .i64 i0) (.int .i64 i1) (.int .i64 i2) (.int .i64 i3) cv0 dv0
  obtain ⟨c0, c1, c2, c3, c4, c5⟩ := hx
  have Hgood := Lib.hid (goodInst_is i0 i1 i2 i3 cv0 dv0 L0 D0 w1 a0 a1 a2 a3 (hC0.below hb1) hL0 (hG0.below hb1) hD0)
  have Hew := Lib.hid ew
  have Hb1 := Lib.hid hb1
  have Hlv1 := Lib.hid (hlv.below hb1)
  have hsz : w.heap.size ≤ w1.heap.size := hb1.size
  clear ew hb1 hsz1 hC0 hG0 hL0 hD0 hlv
  go_enter Try.func6, Try.ntmps6
  go_upto_region 1 with (fail)
  rw [Hew.out]
  go_wp2_with fail
  refine Hgood.out.mono ?_
  rintro e w2 ⟨days, ve, cp, ln, cv, dv, L, D, rfl, hdays, hLn, hgood, hC, hG, hb2⟩
  obtain ⟨ca, cm, cc, rfl, hcm, _, _⟩ := hC.open
  obtain ⟨da, dm, dc, rfl, _, _, _⟩ := hG.open
  obtain ⟨w3, ew3, hb3, hsz3, hy⟩ := box_inst w2 (.int .i64 days) (.int .i64 ve) (.int .i64 cp) (.int .i64 ln) (.slice ca cm cc) (.slice da dm dc)
  have hD : ArcBd D := arcBd_of hgood.dist hgood.rows
  obtain ⟨n, hn⟩ : ∃ n, L.length + 1 = n := ⟨_, rfl⟩
  have hn7 : n ≤ 7 := by have := hgood.n6; omega
  have hnp : 0 < n := by omega
  have hncm : Hid ((n : Int) = (cm : Int) + 1) := Lib.hid (by omega)
  have hcm6 : cm ≤ 6 := by omega
  have HC := Lib.hid (hC.below hb3)
  have HG := Lib.hid (hG.below hb3)
  have Hn := Lib.hid hn
  have Hew3 := Lib.hid ew3
  have hb13 := bel2 hb2 hb3
  have HB := Lib.hid (Hb1.out.trans (hb13.mono hsz))
  have Hlv := Lib.hid (Hlv1.out.below hb13)
  have hsz23 : w.heap.size ≤ w3.heap.size := HB.out.size
  have lgy : w2.heap.size < w3.heap.size := by omega
  clear c0 c1 c2 c3 c4 c5 hdays hLn hgood hC hG hb2 hb3 hb13 hsz3 ew3 hn hcm
  obtain ⟨c0, c1, c2, c3, c4, c5⟩ := hy
  go_upto_region 2 with (fail)
  rw [Hew3.out]
  generalize w2.heap.size = gy at *
  have HN := Lib.hid (fun (W : World) (h : Below w3.heap.size w3 W) => numbers_is days ve cp ln (.slice ca cm cc) (.slice da dm dc) lv L l n W (HC.out.below h) (Hlv.out.below h) Hn.out (by omega))
  have HF := Lib.hid (fun (W : World) (nv : Value) (h : Below w3.heap.size w3 W) (hI : Ints W nv (numsL n l)) => fit_is days ve cp ln (.slice ca cm cc) (.slice da dm dc) nv L D (numsL n l) n W (HC.out.below h) (HG.out.below h) hI Hn.out (by omega) (nums_len n l) hD)
  have HFr := Lib.hid (fun (W : World) (nv : Value) (h : Below w3.heap.size w3 W) (hI : Ints W nv (numsL n l)) => refFit_is days ve cp ln (.slice ca cm cc) (.slice da dm dc) nv L D (numsL n l) n W (HC.out.below h) (HG.out.below h) hI Hn.out (by omega) (nums_len n l) hD)
  have HFi := Lib.hid (fun (W : World) (h : Below w3.heap.size w3 W) => first_is days ve cp ln (.slice ca cm cc) (.slice da dm dc) L D n W (HC.out.below h) (HG.out.below h) Hn.out (by omega) hD)
  have HFj := Lib.hid (fun (W : World) (h : Below w3.heap.size w3 W) => refFirst_is days ve cp ln (.slice ca cm cc) (.slice da dm dc) L D n W (HC.out.below h) (HG.out.below h) Hn.out (by omega) hD)
  have HLo := Lib.hid (fun (W : World) (ov iv : Value) (s : Int) (h : Below w3.heap.size w3 W) (hI : Ints W iv (inL D n (numsL n l))) (h0 : 0 ≤ s) (h1 : s ≤ 2147483648) => lower_is days ve cp ln (.slice ca cm cc) (.slice da dm dc) ov iv L D (inL D n (numsL n l)) n place s W (HC.out.below h) (HG.out.below h) hI Hn.out (by omega) hD (inL_len _ _ _) (fun k => by have := nth_in_bd hD n (numsL n l) k; omega) h0 h1)
  have HLp := Lib.hid (fun (W : World) (ov iv : Value) (s : Int) (h : Below w3.heap.size w3 W) (hI : Ints W iv (inL D n (numsL n l))) (h0 : 0 ≤ s) (h1 : s ≤ 2147483648) => refLower_is days ve cp ln (.slice ca cm cc) (.slice da dm dc) ov iv L D (inL D n (numsL n l)) n place s W (HC.out.below h) (HG.out.below h) hI Hn.out (by omega) hD (inL_len _ _ _) (fun k => by have := nth_in_bd hD n (numsL n l) k; omega) h0 h1)
  go_wp2_with fail
  refine (HN.out _ (Below.refl _ _)).mono ?_
  rintro e w4 ⟨nv, rfl, hN4, hb4⟩
  obtain ⟨d0, d1, d2, d3, d4, d5⟩ := six_below hb4 ⟨c0, c1, c2, c3, c4, c5⟩
  clear c0 c1 c2 c3 c4 c5
  go_wp2_with fail
  refine (HF.out _ _ hb4 hN4.ints).mono ?_
  rintro e w5 ⟨ov, iv, rfl, hP5, hb5⟩
  obtain ⟨go, co, gi, ci, rfl, rfl⟩ := hP5.form (outL_len _ _ _) (inL_len _ _ _) hnp
  obtain ⟨w6, ew6, hb6, hs6, p0, p1⟩ := box_price w5 (.slice (some ⟨go, 0, none⟩) n co) (.slice (some ⟨gi, 0, none⟩) n ci)
  have Hew6 := Lib.hid ew6
  have b46 := bel2 hb5 hb6
  have b6 := bel2 hb4 b46
  obtain ⟨c0, c1, c2, c3, c4, c5⟩ := six_below b46 ⟨d0, d1, d2, d3, d4, d5⟩
  have HI6 := Lib.hid (hN4.ints.below b46)
  have HP6 := Lib.hid (hP5.below hb6)
  have l6 : w5.heap.size < w6.heap.size := by omega
  clear ew6 hb4 hb5 hb6 hs6 hN4 hP5 d0 d1 d2 d3 d4 d5 b46
  go_upto_region 4 with (fail)
  rw [Hew6.out]
  generalize w5.heap.size = t at *
  go_wp2_with fail
  refine (HFr.out _ _ b6 HI6.out).mono ?_
  rintro e w7 ⟨ov2, iv2, rfl, hP7, hb7⟩
  obtain ⟨go2, co2, gi2, ci2, rfl, rfl⟩ := hP7.form (outL_len _ _ _) (inL_len _ _ _) hnp
  obtain ⟨w8, ew8, hb8, hs8, q0, q1⟩ := box_price w7 (.slice (some ⟨go2, 0, none⟩) n co2) (.slice (some ⟨gi2, 0, none⟩) n ci2)
  have Hew8 := Lib.hid ew8
  have b68 := bel2 hb7 hb8
  have b8 := bel2 b6 b68
  obtain ⟨d0, d1, d2, d3, d4, d5⟩ := six_below b68 ⟨c0, c1, c2, c3, c4, c5⟩
  have s0 := cell_below b68 p0
  have s1 := cell_below b68 p1
  have HP8 := Lib.hid (HP6.out.below b68)
  have HQ8 := Lib.hid (hP7.below hb8)
  have l8 : w7.heap.size < w8.heap.size := by omega
  have Hb8 := Lib.hid b8
  clear ew8 hb7 hb8 hs8 hP7 c0 c1 c2 c3 c4 c5 p0 p1 b68 b6 b8
  go_upto_region 5 with (fail)
  rw [Hew8.out]
  generalize w7.heap.size = t2 at *
  go_wp2_with fail
  refine (size_is by_ _ hby).mono ?_
  rintro e w' ⟨sz, rfl, hz0, hz1, rfl⟩
  have HS1 := Lib.hid (fun (W : World) (h : Below w8.heap.size w8 W) => sameP_true (.slice (some ⟨go, 0, none⟩) n co) (.slice (some ⟨gi, 0, none⟩) n ci) (.slice (some ⟨go2, 0, none⟩) n co2) (.slice (some ⟨gi2, 0, none⟩) n ci2) _ _ W (HP8.out.1.ints.below h) (HP8.out.2.1.ints.below h) (HQ8.out.1.ints.below h) (HQ8.out.2.1.ints.below h))
  have HFi8 := Lib.hid (fun (W : World) (h : Below w8.heap.size w8 W) => HFi.out W (bel2 Hb8.out h))
  have HFj8 := Lib.hid (fun (W : World) (h : Below w8.heap.size w8 W) => HFj.out W (bel2 Hb8.out h))
  have HLo8 := Lib.hid (fun (W : World) (h : Below w8.heap.size w8 W) => HLo.out W (.slice (some ⟨go2, 0, none⟩) n co2) (.slice (some ⟨gi2, 0, none⟩) n ci2) sz (bel2 Hb8.out h) (HQ8.out.2.1.ints.below h) hz0 hz1)
  have HLp8 := Lib.hid (fun (W : World) (h : Below w8.heap.size w8 W) => HLp.out W (.slice (some ⟨go2, 0, none⟩) n co2) (.slice (some ⟨gi2, 0, none⟩) n ci2) sz (bel2 Hb8.out h) (HQ8.out.2.1.ints.below h) hz0 hz1)
  have HBs := Lib.hid (HB.out.trans (Hb8.out.mono hsz23))
  have hsz8 : w.heap.size ≤ w8.heap.size := HBs.out.size
  generalize outL D n (inL D n (firstL n)) = OF at *
  generalize inL D n (firstL n) = IF at *
  generalize outL D n (inL D n (lowerL (inL D n (numsL n l)) place sz)) = OL at *
  generalize inL D n (lowerL (inL D n (numsL n l)) place sz) = IL at *
  have b0 := Below.refl w8.heap.size w8
  clear HN HF HFr HFi HFj HLo HLp
  go_wp2_with fail
  go_region_held3 (fun w' => w'.cell? ⟨gy, 0, none⟩ = some (.int .i64 days) ∧ w'.cell? ⟨gy, 1, none⟩ = some (.int .i64 ve) ∧ w'.cell? ⟨gy, 2, none⟩ = some (.int .i64 cp) ∧ w'.cell? ⟨gy, 3, none⟩ = some (.int .i64 ln) ∧ w'.cell? ⟨gy, 4, none⟩ = some (.slice ca cm cc) ∧ w'.cell? ⟨gy, 5, none⟩ = some (.slice da dm dc) ∧
      w'.cell? ⟨t, 0, none⟩ = some (.slice (some ⟨go, 0, none⟩) n co) ∧ w'.cell? ⟨t, 1, none⟩ = some (.slice (some ⟨gi, 0, none⟩) n ci) ∧ w'.cell? ⟨t2, 0, none⟩ = some (.slice (some ⟨go2, 0, none⟩) n co2) ∧ w'.cell? ⟨t2, 1, none⟩ = some (.slice (some ⟨gi2, 0, none⟩) n ci2))
    (first | exact ten_below b16 ⟨d0, d1, d2, d3, d4, d5, s0, s1, q0, q1⟩ | exact ten_below b15 ⟨d0, d1, d2, d3, d4, d5, s0, s1, q0, q1⟩ | exact ten_below b14 ⟨d0, d1, d2, d3, d4, d5, s0, s1, q0, q1⟩ | exact ten_below b13 ⟨d0, d1, d2, d3, d4, d5, s0, s1, q0, q1⟩ | exact ten_below b12 ⟨d0, d1, d2, d3, d4, d5, s0, s1, q0, q1⟩ | exact ten_below b11 ⟨d0, d1, d2, d3, d4, d5, s0, s1, q0, q1⟩ | exact ten_below b10 ⟨d0, d1, d2, d3, d4, d5, s0, s1, q0, q1⟩ | exact ten_below b9 ⟨d0, d1, d2, d3, d4, d5, s0, s1, q0, q1⟩ | exact ten_below (belDrew w8) ⟨d0, d1, d2, d3, d4, d5, s0, s1, q0, q1⟩ | go_keep)
    (first
      | (go_at_call 27; (with_reducible refine (HS1.out _ ?_).mono ?_); (first | exact b0 | exact belDrew _); rintro e w9 ⟨rfl, hb9⟩; (first | have b9 := bel2 b0 hb9 | have b9 := bel2 (belDrew w8) hb9))
      | (go_at_call 28; refine (HFi8.out _ ?_).mono ?_; exact b9; rintro e w10 ⟨ovF, ivF, rfl, hPF, hb10⟩; have b10 := bel2 b9 hb10)
      | (go_at_call 29; refine (HFj8.out _ ?_).mono ?_; exact b10; rintro e w11 ⟨ovG, ivG, rfl, hPG, hb11⟩; have b11 := bel2 b10 hb11; have hPF2 := hPF.below hb11; have k1 := hPF2.1.ints; have k2 := hPF2.2.1.ints; have k3 := hPG.1.ints; have k4 := hPG.2.1.ints)
      | (go_at_call 27; (with_reducible refine (sameP_true _ _ _ _ _ _ _ k1 k2 k3 k4).mono ?_); rintro e w12 ⟨rfl, hb12⟩; have b12 := bel2 b11 hb12)
      | (go_at_call 30; refine (HLo8.out _ ?_).mono ?_; exact b12; rintro e w13 ⟨ovM, ivM, rfl, hPM, hb13⟩; have b13 := bel2 b12 hb13)
      | (go_at_call 31; refine (HLp8.out _ ?_).mono ?_; exact b13; rintro e w14 ⟨ovN, ivN, rfl, hPN, hb14⟩; have b14 := bel2 b13 hb14; have hPM2 := hPM.below hb14; have m1 := hPM2.1.ints; have m2 := hPM2.2.1.ints; have m3 := hPN.1.ints; have m4 := hPN.2.1.ints)
      | (go_at_call 27; (with_reducible refine (sameP_true _ _ _ _ _ _ _ m1 m2 m3 m4).mono ?_); rintro e w15 ⟨rfl, hb15⟩; have b15 := bel2 b14 hb15)
      | (go_at_call 19; refine (lives17_is _).mono ?_; rintro e w16 ⟨rfl, hb16⟩; have b16 := bel2 b15 hb16))
  all_goals
    go_wp2_with fail
    go_ret
    exact ⟨rfl, by first | exact HBs.out.trans (b16.mono hsz8) | exact HBs.out.trans (b16.drew.mono hsz8)⟩
end Go.Proofs.Ythilfibgpobcjaa
