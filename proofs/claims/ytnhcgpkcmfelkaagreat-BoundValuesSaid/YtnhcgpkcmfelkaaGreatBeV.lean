/-
  My own work: the walk of BoundValues.
-/
import Derived.Test.YtnhcgpkcmfelkaaGreatBeC
import Derived.Test.YtnhcgpkcmfelkaaGreatMBd
import Derived.Test.YtnhcgpkcmfelkaaGreatMDual
import Derived.Test.YtnhcgpkcmfelkaaGreatBdG
import Derived.Deep.DrawnRows
namespace Go.Proofs.YtnhcgpkcmfelkaaGreat
open Go.RowKit
set_option linter.unusedVariables false
set_option maxRecDepth 100000
attribute [local go_sem ↓] Go.wp_at_zero Go.wp_at_succ

set_option maxRecDepth 100000 in
set_option maxHeartbeats 6400000 in
theorem boundValues_walk (i0 i1 i2 i3 : Int) (cv0 dv0 lv : Value) (L0 : List Cu) (D0 : List (List Int)) (l : List Int) (w : World) (a0 : (Lit.int .i64 i0).wf = true) (a1 : (Lit.int .i64 i1).wf = true) (a2 : (Lit.int .i64 i2).wf = true) (a3 : (Lit.int .i64 i3).wf = true) (hC0 : Custs w cv0 L0) (hL0 : ∀ C ∈ L0, WfC C) (hG0 : Grid w dv0 D0) (hD0 : ∀ r ∈ D0, ∀ x ∈ r, (Lit.int .i64 x).wf = true) (hl0 : Ints w lv l) :
    Calls Tryz.prog 3 #[.agg #[.int .i64 i0, .int .i64 i1, .int .i64 i2, .int .i64 i3, cv0, dv0], lv] w fun e w' => e = .returned (.bool true) ∧ Below w.heap.size w w' := by
  obtain ⟨w1, ew, hb1, hsz1, hx⟩ := box_inst w (.int .i64 i0) (.int .i64 i1) (.int .i64 i2) (.int .i64 i3) cv0 dv0
  obtain ⟨c0, c1, c2, c3, c4, c5⟩ := hx
  have Hgood := Lib.hid (goodInst_is i0 i1 i2 i3 cv0 dv0 L0 D0 w1 a0 a1 a2 a3 (hC0.below hb1) hL0 (hG0.below hb1) hD0)
  have Hew := Lib.hid ew
  have Hb1 := Lib.hid hb1
  have Hlv1 := Lib.hid (hl0.below hb1)
  have hsz : w.heap.size ≤ w1.heap.size := hb1.size
  obtain ⟨la, lln, llc, rfl, _⟩ := hl0.open
  clear ew hb1 hsz1 hC0 hG0 hL0 hD0 hl0
  go_enter Tryz.func3, Tryz.ntmps3
  go_upto_region 1 with (fail)
  rw [Hew.out]
  go_wp2_with fail
  refine Hgood.out.mono ?_
  rintro e w2 ⟨days, ve, cp, ln, cv, dv, L, D, rfl, hdays, hLn, hgood, hC, hG, hb2⟩
  obtain ⟨ca, cm, cc, rfl, hcm, _, _⟩ := hC.open
  obtain ⟨da, dm, dc, rfl, _, _, _⟩ := hG.open
  obtain ⟨w3, ew3, hb3, hsz3, hy⟩ := box_inst w2 (.int .i64 days) (.int .i64 ve) (.int .i64 cp) (.int .i64 ln) (.slice ca cm cc) (.slice da dm dc)
  have hD : ArcBd D := arcBd_of hgood.dist hgood.rows
  have HOk := Lib.hid (good_okI hgood)
  have hcp : 0 ≤ cp ∧ cp ≤ 40 := ⟨hgood.cp0, hgood.cp40⟩
  obtain ⟨n, hn⟩ : ∃ n, L.length + 1 = n := ⟨_, rfl⟩
  have hn7 : n ≤ 7 := by have := hgood.n6; omega
  have hnp : 0 < n := by omega
  have Hncm : Hid (n = cm + 1) := Lib.hid (by omega)
  have hcmL : Hid (L.length = cm) := Lib.hid hcm
  have HC := Lib.hid (hC.below hb3)
  have HG := Lib.hid (hG.below hb3)
  have Hn := Lib.hid hn
  have HD := Lib.hid hD
  have Hew3 := Lib.hid ew3
  have hb13 := bel2 hb2 hb3
  have HB := Lib.hid (Hb1.out.trans (hb13.mono hsz))
  have Hlv := Lib.hid (Hlv1.out.below hb13)
  have hsz23 : w.heap.size ≤ w3.heap.size := HB.out.size
  have hgylt : w2.heap.size < w3.heap.size := by omega
  have Hy := Lib.hid hy
  clear c0 c1 c2 c3 c4 c5 hdays hLn hgood hC hG hb2 hb3 hb13 ew3 hn hcm hsz3
  obtain ⟨c0, c1, c2, c3, c4, c5⟩ := hy
  go_upto_region 2 with (fail)
  rw [Hew3.out]
  generalize w2.heap.size = gy at *
  have HN := Lib.hid (fun (W : World) (h : Below w3.heap.size w3 W) => numbers_is days ve cp ln (.slice ca cm cc) (.slice da dm dc) (.slice la lln llc) L l n W (HC.out.below h) (Hlv.out.below h) Hn.out (by omega))
  have HF := Lib.hid (fun (W : World) (nv : Value) (h : Below w3.heap.size w3 W) (hI : Ints W nv (numsL n l)) => refFit_is days ve cp ln (.slice ca cm cc) (.slice da dm dc) nv L D (numsL n l) n W (HC.out.below h) (HG.out.below h) hI Hn.out (by omega) (nums_len n l) HD.out)
  go_cut [6] (fun s wx => ∃ (t : Nat) (ov iv : Value), s = .pointer (some ⟨t, 0, none⟩) ∧ FitSt w3.heap.size w3 t ov iv (outL D n (inL D n (numsL n l))) (inL D n (numsL n l)) wx)
  case first =>
    have b0 := Below.refl w3.heap.size w3
    go_region_held3 (fun w' => w'.cell? ⟨gy, 0, none⟩ = some (.int .i64 days) ∧ w'.cell? ⟨gy, 1, none⟩ = some (.int .i64 ve) ∧ w'.cell? ⟨gy, 2, none⟩ = some (.int .i64 cp) ∧ w'.cell? ⟨gy, 3, none⟩ = some (.int .i64 ln) ∧ w'.cell? ⟨gy, 4, none⟩ = some (.slice ca cm cc) ∧ w'.cell? ⟨gy, 5, none⟩ = some (.slice da dm dc))
      (first | go_keep | exact six_below b5 ⟨c0, c1, c2, c3, c4, c5⟩ | exact six_below b6 ⟨c0, c1, c2, c3, c4, c5⟩ | exact six_below (b5.alloc b5.size _) ⟨c0, c1, c2, c3, c4, c5⟩ | exact six_below (b6.alloc b6.size _) ⟨c0, c1, c2, c3, c4, c5⟩ | exact six_below (b6.drew) ⟨c0, c1, c2, c3, c4, c5⟩ | exact six_below (b5.drew) ⟨c0, c1, c2, c3, c4, c5⟩ | exact six_below (fitSt_store hQ6 b6 (by first | exact Nat.le_refl _ | exact b5.size) e9 n9.1 n9.2).below ⟨c0, c1, c2, c3, c4, c5⟩)
      (first
        | (go_at_call 9; refine (HN.out _ ?_).mono ?_; (first | exact b0 | exact belDrew w3 | exact bel2 (belDrew w3) (belAlloc _ _) | exact bel2 (belAlloc w3 _) (belDrew _)); rintro e wN ⟨nv, rfl, hN5, hb5⟩; have hI5 := hN5.ints; (first | have b5 := bel2 b0 hb5 | have b5 := bel2 (belDrew w3) hb5 | have b5 := bel2 (bel2 (belDrew w3) (belAlloc _ _)) hb5 | have b5 := bel2 (bel2 (belAlloc w3 _) (belDrew _)) hb5); (first | (have e9 := (Blk2.new w3 _ _ _).drew.below hb5; have x4 := e9.lt) | skip))
        | (go_at_call 8; refine (HF.out _ _ ?_ ?_).mono ?_; (first | exact b5 | exact bel2 b5 (belAlloc _ _) | exact bel2 b5 (belDrew _)); (first | exact hI5 | exact hI5.below (belAlloc _ _) | exact hI5.below (belDrew _)); rintro e wF ⟨ov, iv, rfl, hP6, hb6⟩; obtain ⟨go, co, gi, ci, rfl, rfl⟩ := hP6.form (outL_len _ _ _) (inL_len _ _ _) hnp; (first | have b6 := bel2 b5 hb6 | have b6 := bel2 (bel2 b5 (belAlloc _ _)) hb6 | have b6 := bel2 (bel2 b5 (belDrew _)) hb6); have hQ6 := hP6.mono (show w3.heap.size ≤ _ by first | exact b5.size | exact (bel2 b5 (belAlloc _ _)).size | exact (bel2 b5 (belDrew _)).size);
            (first | (have n9 := ownP_low (t := w3.heap.size) hP6 x4; have e9 := e9.below hb6; obtain ⟨y0, y1, y2, y3⟩ := e9.cells; have y4 := e9.lt) | (have n9 := ownP_low (t := wN.heap.size) hP6 (by simp); have e9 := (Blk2.new wN _ _ _).below hb6; obtain ⟨y0, y1, y2, y3⟩ := e9.cells; have y4 := e9.lt) | skip)))
    all_goals
      go_wp2_with fail
      go_meet
      first
        | exact ⟨_, _, _, rfl, fitSt_alloc b6.size hQ6 b6 _⟩
        | exact ⟨_, _, _, rfl, (fitSt_alloc b6.size hQ6 b6 _).drew⟩
        | exact ⟨_, _, _, rfl, fitSt_store hQ6 b6 (by first | exact Nat.le_refl _ | exact b5.size) e9 n9.1 n9.2⟩
        | exact ⟨_, _, _, rfl, (fitSt_store hQ6 b6 (by first | exact Nat.le_refl _ | exact b5.size) e9 n9.1 n9.2).drew⟩
  case rest =>
  obtain ⟨t, ov, iv, rfl, hs⟩ := hcut
  obtain ⟨w6, rfl⟩ : ∃ w6 : World, w6 = wc := ⟨_, rfl⟩
  obtain ⟨go, co, gi, ci, rfl, rfl⟩ := hs.own.form (outL_len _ _ _) (inL_len _ _ _) hnp
  obtain ⟨t0, t1, _, _⟩ := hs.blk.cells
  have hb36 := hs.below
  have Hb36 := Lib.hid hb36
  have HB6 := Lib.hid (HB.out.trans (hb36.mono hsz23))
  have hsz6 : w.heap.size ≤ w6.heap.size := HB6.out.size
  have HO := Lib.hid hs.own.1.ints
  have HI := Lib.hid hs.own.2.1.ints
  have hnO : (outL D n (inL D n (numsL n l))).length = L.length + 1 := by rw [outL_len, Hn.out]
  have hnI : (inL D n (numsL n l)).length = L.length + 1 := by rw [inL_len, Hn.out]
  have hbd : ∀ j, 0 ≤ nth (outL D n (inL D n (numsL n l))) j ∧ nth (outL D n (inL D n (numsL n l))) j ≤ 500 ∧ 0 ≤ nth (inL D n (numsL n l)) j ∧ nth (inL D n (numsL n l)) j ≤ 500 := fun j => by
    have h1 := nth_out_bd HD.out n (numsL n l) j
    have h2 := nth_in_bd HD.out n (numsL n l) j
    omega
  generalize outL D n (inL D n (numsL n l)) = O at *
  generalize inL D n (numsL n l) = I at *
  have HP := Lib.hid (fun (W : World) (k : Nat) (h : Below w6.heap.size w6 W) (hk : k < L.length) => bdPrice_is days ve cp ln (.slice ca cm cc) (.slice da dm dc) (.slice (some ⟨go, 0, none⟩) n co) (.slice (some ⟨gi, 0, none⟩) n ci) L O I k W (HC.out.below (bel2 hb36 h)) (HO.out.below h) (HI.out.below h) hk hnO hnI (fun j => by have := hbd j; omega) (by have := HOk.out.len; omega))
  have HL1 := Lib.hid (fun (W : World) (h : Below w6.heap.size w6 W) => bdLeast_is days ve cp ln (.slice ca cm cc) (.slice da dm dc) L W (HC.out.below (bel2 hb36 h)) HOk.out (by omega))
  have HL2 := Lib.hid (fun (W : World) (h : Below w6.heap.size w6 W) => refLeast18_is days ve cp ln (.slice ca cm cc) (.slice da dm dc) L W (HC.out.below (bel2 hb36 h)) HOk.out (by omega))
  have HA1 := Lib.hid (fun (W : World) (h : Below w6.heap.size w6 W) => bdBase_is days ve cp ln (.slice ca cm cc) (.slice da dm dc) L D W (HC.out.below (bel2 hb36 h)) (HG.out.below (bel2 hb36 h)) HD.out HOk.out)
  have HA2 := Lib.hid (fun (W : World) (h : Below w6.heap.size w6 W) => refBase18_is days ve cp ln (.slice ca cm cc) (.slice da dm dc) L D W (HC.out.below (bel2 hb36 h)) (HG.out.below (bel2 hb36 h)) HD.out HOk.out)
  have HV1 := Lib.hid (fun (W : World) (h : Below w6.heap.size w6 W) => bdValue_is days ve cp ln (.slice ca cm cc) (.slice da dm dc) (.slice (some ⟨go, 0, none⟩) n co) (.slice (some ⟨gi, 0, none⟩) n ci) L O I W (HC.out.below (bel2 hb36 h)) (HO.out.below h) (HI.out.below h) HOk.out (by omega) hnO hnI hbd)
  have HV2 := Lib.hid (fun (W : World) (h : Below w6.heap.size w6 W) => refValue18_is days ve cp ln (.slice ca cm cc) (.slice da dm dc) (.slice (some ⟨go, 0, none⟩) n co) (.slice (some ⟨gi, 0, none⟩) n ci) L O I W (HC.out.below (bel2 hb36 h)) (HO.out.below h) (HI.out.below h) HOk.out (by omega) hnO hnI hbd)
  have HE1 := Lib.hid (fun (W : World) (h : Below w6.heap.size w6 W) => bdBest_is days ve cp ln (.slice ca cm cc) (.slice da dm dc) (.slice (some ⟨go, 0, none⟩) n co) (.slice (some ⟨gi, 0, none⟩) n ci) L D O I W (HC.out.below (bel2 hb36 h)) (HG.out.below (bel2 hb36 h)) HD.out (HO.out.below h) (HI.out.below h) HOk.out (by omega) hnO hnI hbd)
  have HE2 := Lib.hid (fun (W : World) (h : Below w6.heap.size w6 W) => refBest18_is days ve cp ln (.slice ca cm cc) (.slice da dm dc) (.slice (some ⟨go, 0, none⟩) n co) (.slice (some ⟨gi, 0, none⟩) n ci) L D O I W (HC.out.below (bel2 hb36 h)) (HG.out.below (bel2 hb36 h)) HD.out (HO.out.below h) (HI.out.below h) HOk.out (by omega) hnO hnI hbd)
  generalize leastT days cp L = LT at *
  generalize baseT days cp L D = BT at *
  generalize valueT days cp L O I = VT at *
  generalize bestT days cp L D O I = ET at *
  have Hx6 := Lib.hid (Hy.out.below hb36)
  have Ht0 := Lib.hid t0
  have Ht1 := Lib.hid t1
  have Hbd := Lib.hid hbd
  obtain ⟨c0, c1, c2, c3, c4, c5⟩ := Hx6.out
  obtain ⟨hao, _⟩ := own_cells HO.out
  obtain ⟨hai, _⟩ := own_cells HI.out
  clear hs HN HF hb36 hbd
  go_wp2_with fail
  go_loopw [7] (fun i wr => ∃ (k : Nat), k ≤ cm ∧ i = .int .i64 k ∧ Below w6.heap.size w6 wr) (fun i _ => cm - (intOf i).toNat)
  case atStart => exact ⟨0, Nat.zero_le _, rfl, Below.refl _ _⟩
  case round =>
    obtain ⟨k, hk, rfl, hb⟩ := hrel
    obtain ⟨wo, rfl⟩ : ∃ wo : World, wo = wr := ⟨_, rfl⟩
    have Hb := Lib.hid hb
    have hx := Hx6.out.below hb
    have x0 := Ext.cell hx.c0
    have x1 := Ext.cell hx.c1
    have x2 := Ext.cell hx.c2
    have x3 := Ext.cell hx.c3
    have x4 := Ext.cell hx.c4
    have x5 := Ext.cell hx.c5
    have s0 := Ext.cell (cell_below hb Ht0.out)
    have s1 := Ext.cell (cell_below hb Ht1.out)
    clear c0 c1 c2 c3 c4 c5 t0 t1
    by_cases hlt : k < cm
    · have hi1 : (k : Int) < (cm : Int) := by omega
      have hkL : k < L.length := by rw [hcmL.out]; exact hlt
      have HPk := Lib.hid (fun (W : World) (h : Below wo.heap.size wo W) => HP.out W k (bel2 hb h) hkL)
      have hbk := Hbd.out (k + 1)
      have hpe : priceI2 O I k = nth O (k + 1) + nth I (k + 1) := rfl
      have f0 := Ext.cell (cell_below hb (hao (k + 1) (by have := Hncm.out; omega)))
      have f1 := Ext.cell (cell_below hb (hai (k + 1) (by have := Hncm.out; omega)))
      generalize priceI2 O I k = PK at *
      generalize nth O (k + 1) = PO at *
      generalize nth I (k + 1) = PI at *
      have hcm6 : cm ≤ 100 := by have := Hncm.out; omega
      have hk1a : (0 : Int) ≤ (k : Int) + 1 := by omega
      have hk1b : (k : Int) + 1 < (n : Int) := by have := Hncm.out; omega
      have hwk := (wrap_k (N := cm) (on := cm + 1) (inn := cm + 1) hlt hcm6 rfl rfl).1
      have hwp := (wrap_p hpe hbk).2.1
      have d4 := hx.c4
      clear hb hx hbk hpe hkL hcm6
      go_upto_region 6 with fail
      refine wp_region_ext (by kernel_rfl) (by kernel_rfl) ?_
      repeat (go_big_quiet_step (first
        | (go_at_call 10; with_reducible exact ext_cost _ (HPk.out _ (Ext.below _)))))
      refine wpQuiet_nil ?_
      intro _ hw'
      obtain ⟨z, rfl⟩ := hw'
      have Hz := Lib.hid (Hb.out.trans (z.below.mono Hb.out.size))
      generalize z.w = w7 at *
      clear hwk hwp hk1a hk1b
      go_wp2_with fail
      go_roundw
      case rel => exact ⟨k + 1, Nat.succ_le_of_lt hlt, by go_num, Hz.out⟩
      case measure => simp only [intOf]; exact meas_lt hlt
    · have hkN : k = cm := by omega
      subst hkN
      have HL1w := Lib.hid (fun (W : World) (h : Below wo.heap.size wo W) => HL1.out W (bel2 hb h))
      have HL2w := Lib.hid (fun (W : World) (h : Below wo.heap.size wo W) => HL2.out W (bel2 hb h))
      have HA1w := Lib.hid (fun (W : World) (h : Below wo.heap.size wo W) => HA1.out W (bel2 hb h))
      have HA2w := Lib.hid (fun (W : World) (h : Below wo.heap.size wo W) => HA2.out W (bel2 hb h))
      have HV1w := Lib.hid (fun (W : World) (h : Below wo.heap.size wo W) => HV1.out W (bel2 hb h))
      have HV2w := Lib.hid (fun (W : World) (h : Below wo.heap.size wo W) => HV2.out W (bel2 hb h))
      have HE1w := Lib.hid (fun (W : World) (h : Below wo.heap.size wo W) => HE1.out W (bel2 hb h))
      have HE2w := Lib.hid (fun (W : World) (h : Below wo.heap.size wo W) => HE2.out W (bel2 hb h))
      have hBo := HB6.out.trans (hb.mono hsz6)
      have hszo : w.heap.size ≤ wo.heap.size := hBo.size
      have d4 := hx.c4
      have e1 : (LT == LT) = true := by simp
      have e2 : (VT == VT) = true := by simp
      have e3 : (BT == BT) = true := by simp
      have e4 : (ET == ET) = true := by simp
      clear hx hb hao hai
      go_upto_region 8 with fail
      refine wp_region_ext (by kernel_rfl) (by kernel_rfl) ?_
      repeat (go_big_quiet_step (first
        | (go_at_call 11; with_reducible exact ext_cost _ (HL1w.out _ (Ext.below _)))
        | (go_at_call 12; with_reducible exact ext_cost _ (HL2w.out _ (Ext.below _)))
        | (go_at_call 13; with_reducible exact ext_cost _ (HV1w.out _ (Ext.below _)))
        | (go_at_call 14; with_reducible exact ext_cost _ (HV2w.out _ (Ext.below _)))
        | (go_at_call 15; with_reducible exact ext_cost _ (HA1w.out _ (Ext.below _)))
        | (go_at_call 16; with_reducible exact ext_cost _ (HA2w.out _ (Ext.below _)))
        | (go_at_call 17; with_reducible exact ext_cost _ (HE1w.out _ (Ext.below _)))
        | (go_at_call 18; with_reducible exact ext_cost _ (HE2w.out _ (Ext.below _)))
        | (go_at_call 19; exact ext_call _ (lives18_is _))))
      refine wpQuiet_nil ?_
      intro _ hw'
      obtain ⟨z, rfl⟩ := hw'
      go_wp2_with fail
      go_ret
      exact ⟨rfl, hBo.trans (z.below.mono hszo)⟩
end Go.Proofs.YtnhcgpkcmfelkaaGreat
