/-
  My own work: the walk of DualHolds.
-/
import Derived.Test.YthilfibgpobcjaaDualC
import Derived.Test.YthilfibgpobcjaaDualG
import Derived.Test.YthilfibgpobcjaaDualJ
namespace Go.Proofs.Ythilfibgpobcjaa
open Go.RowKit
set_option linter.unusedVariables false
attribute [local go_sem ↓] Go.wp_at_zero Go.wp_at_succ

theorem mayFit_is (i0 i1 i2 i3 : Int) (cv dv ov iv : Value) (L : List Cu) (D : List (List Int)) (l : List Int) (n : Nat) (w : World) (hC : Custs w cv L) (hG : Grid w dv D) (hO : Ints w ov (outL D n (inL D n l))) (hI : Ints w iv (inL D n l)) (hn : L.length + 1 = n) (hn2 : n ≤ 4096) (hD : ArcBd D) :
    Calls Try.prog 20 #[.agg #[.int .i64 i0, .int .i64 i1, .int .i64 i2, .int .i64 i3, cv, dv], .agg #[ov, iv]] w fun e w' => e = .returned (.int .i64 0) ∧ Below w.heap.size w w' := by
  have := may_is i0 i1 i2 i3 cv dv ov iv L D _ _ n w hC hG hO hI hn hn2 hD
  rwa [mayE_yes (by unfold mayB; rw [decide_eq_true_iff]; exact may_fit hD n l)] at this

set_option maxRecDepth 100000 in
set_option maxHeartbeats 6400000 in
theorem dualHolds_walk (i0 i1 i2 i3 : Int) (cv0 dv0 : Value) (L0 : List Cu) (D0 : List (List Int)) (lv pv : Value) (l pl : List Int) (by_ : Int) (w : World) (a0 : (Lit.int .i64 i0).wf = true) (a1 : (Lit.int .i64 i1).wf = true) (a2 : (Lit.int .i64 i2).wf = true) (a3 : (Lit.int .i64 i3).wf = true) (hC0 : Custs w cv0 L0) (hL0 : ∀ C ∈ L0, WfC C) (hG0 : Grid w dv0 D0) (hD0 : ∀ r ∈ D0, ∀ x ∈ r, (Lit.int .i64 x).wf = true) (hlv : Ints w lv l) (hpv : Ints w pv pl) (hby : (Lit.int .i64 by_).wf = true) :
    Calls Try.prog 7 #[.agg #[.int .i64 i0, .int .i64 i1, .int .i64 i2, .int .i64 i3, cv0, dv0], lv, pv, .int .i64 by_] w fun e w' => e = .returned (.bool true) ∧ Below w.heap.size w w' := by
  obtain ⟨pa, pn, pc, rfl, _, hpn, _⟩ := hpv.open
  obtain ⟨w1, ew, hb1, hsz1, hx⟩ := box_inst w (.int .i64 i0) (.int .i64 i1) (.int .i64 i2) (.int .i64 i3) cv0 dv0
  obtain ⟨c0, c1, c2, c3, c4, c5⟩ := hx
  have Hgood := Lib.hid (goodInst_is i0 i1 i2 i3 cv0 dv0 L0 D0 w1 a0 a1 a2 a3 (hC0.below hb1) hL0 (hG0.below hb1) hD0)
  have Hew := Lib.hid ew
  have Hb1 := Lib.hid hb1
  have Hlv1 := Lib.hid (hlv.below hb1)
  have Hpv1 := Lib.hid (hpv.below hb1)
  have hsz : w.heap.size ≤ w1.heap.size := hb1.size
  clear ew hb1 hsz1 hC0 hG0 hL0 hD0 hlv hpv
  go_enter Try.func7, Try.ntmps7
  go_upto_region 1 with (fail)
  rw [Hew.out]
  go_wp2_with fail
  refine Hgood.out.mono ?_
  rintro e w2 ⟨days, ve, cp, ln, cv, dv, L, D, rfl, hdays, hLn, hgood, hC, hG, hb2⟩
  obtain ⟨ca, cm, cc, rfl, hcm, _, _⟩ := hC.open
  obtain ⟨da, dm, dc, rfl, _, _, _⟩ := hG.open
  obtain ⟨w3, ew3, hb3, hsz3, hy⟩ := box_inst w2 (.int .i64 days) (.int .i64 ve) (.int .i64 cp) (.int .i64 ln) (.slice ca cm cc) (.slice da dm dc)
  have hD : ArcBd D := arcBd_of hgood.dist hgood.rows
  obtain ⟨n, hn⟩ : ∃ n, L.length + 1 = n := ⟨_, rfl⟩
  have hn7 : n ≤ 7 := by have := hgood.n6; omega
  have hnp : 0 < n := by omega
  have hncm : Hid ((n : Int) = (cm : Int) + 1) := Lib.hid (by omega)
  have hcm6 : cm ≤ 6 := by omega
  have HC := Lib.hid (hC.below hb3)
  have HG := Lib.hid (hG.below hb3)
  have Hn := Lib.hid hn
  have Hew3 := Lib.hid ew3
  have hb13 := bel2 hb2 hb3
  have HB := Lib.hid (Hb1.out.trans (hb13.mono hsz))
  have Hlv := Lib.hid (Hlv1.out.below hb13)
  have Hpv := Lib.hid (Hpv1.out.below hb13)
  have hsz23 : w.heap.size ≤ w3.heap.size := HB.out.size
  have lgy : w2.heap.size < w3.heap.size := by omega
  clear c0 c1 c2 c3 c4 c5 hdays hLn hgood hC hG hb2 hb3 hb13 hsz3 ew3 hn hcm
  obtain ⟨c0, c1, c2, c3, c4, c5⟩ := hy
  go_upto_region 2 with (fail)
  rw [Hew3.out]
  generalize w2.heap.size = gy at *
  have HN := Lib.hid (fun (W : World) (h : Below w3.heap.size w3 W) => numbers_is days ve cp ln (.slice ca cm cc) (.slice da dm dc) lv L l n W (HC.out.below h) (Hlv.out.below h) Hn.out (by omega))
  have HF := Lib.hid (fun (W : World) (nv : Value) (h : Below w3.heap.size w3 W) (hI : Ints W nv (numsL n l)) => fit_is days ve cp ln (.slice ca cm cc) (.slice da dm dc) nv L D (numsL n l) n W (HC.out.below h) (HG.out.below h) hI Hn.out (by omega) (nums_len n l) hD)
  go_cut [10] (fun s wx => ∃ (t : Nat) (ov iv : Value), s = .pointer (some ⟨t, 0, none⟩) ∧ FitSt w3.heap.size w3 t ov iv (outL D n (inL D n (numsL n l))) (inL D n (numsL n l)) wx)
  case first =>
    have b0 := Below.refl w3.heap.size w3
    go_region_held3 (fun w' => w'.cell? ⟨gy, 0, none⟩ = some (.int .i64 days) ∧ w'.cell? ⟨gy, 1, none⟩ = some (.int .i64 ve) ∧ w'.cell? ⟨gy, 2, none⟩ = some (.int .i64 cp) ∧ w'.cell? ⟨gy, 3, none⟩ = some (.int .i64 ln) ∧ w'.cell? ⟨gy, 4, none⟩ = some (.slice ca cm cc) ∧ w'.cell? ⟨gy, 5, none⟩ = some (.slice da dm dc))
      (first | go_keep | exact six_below b5 ⟨c0, c1, c2, c3, c4, c5⟩ | exact six_below b6 ⟨c0, c1, c2, c3, c4, c5⟩ | exact six_below (b5.alloc b5.size _) ⟨c0, c1, c2, c3, c4, c5⟩ | exact six_below (b6.alloc b6.size _) ⟨c0, c1, c2, c3, c4, c5⟩ | exact six_below (b6.drew) ⟨c0, c1, c2, c3, c4, c5⟩ | exact six_below (b5.drew) ⟨c0, c1, c2, c3, c4, c5⟩ | exact six_below (fitSt_store hQ6 b6 (by first | exact Nat.le_refl _ | exact b5.size) e9 n9.1 n9.2).below ⟨c0, c1, c2, c3, c4, c5⟩)
      (first
        | (go_at_call 15; refine (HN.out _ ?_).mono ?_; (first | exact b0 | exact belDrew w3 | exact bel2 (belDrew w3) (belAlloc _ _) | exact bel2 (belAlloc w3 _) (belDrew _)); rintro e w5 ⟨nv, rfl, hN5, hb5⟩; have hI5 := hN5.ints; (first | have b5 := bel2 b0 hb5 | have b5 := bel2 (belDrew w3) hb5 | have b5 := bel2 (bel2 (belDrew w3) (belAlloc _ _)) hb5 | have b5 := bel2 (bel2 (belAlloc w3 _) (belDrew _)) hb5); (first | (have e9 := (Blk2.new w3 _ _ _).drew.below hb5; have x4 := e9.lt) | skip))
        | (go_at_call 14; refine (HF.out _ _ ?_ ?_).mono ?_; (first | exact b5 | exact bel2 b5 (belAlloc _ _) | exact bel2 b5 (belDrew _)); (first | exact hI5 | exact hI5.below (belAlloc _ _) | exact hI5.below (belDrew _)); rintro e w6 ⟨ov, iv, rfl, hP6, hb6⟩; obtain ⟨go, co, gi, ci, rfl, rfl⟩ := hP6.form (outL_len _ _ _) (inL_len _ _ _) hnp; (first | have b6 := bel2 b5 hb6 | have b6 := bel2 (bel2 b5 (belAlloc _ _)) hb6 | have b6 := bel2 (bel2 b5 (belDrew _)) hb6); have hQ6 := hP6.mono (show w3.heap.size ≤ _ by first | exact b5.size | exact (bel2 b5 (belAlloc _ _)).size | exact (bel2 b5 (belDrew _)).size);
            (first | (have n9 := ownP_low (t := w3.heap.size) hP6 x4; have e9 := e9.below hb6; obtain ⟨y0, y1, y2, y3⟩ := e9.cells; have y4 := e9.lt) | (have n9 := ownP_low (t := w5.heap.size) hP6 (by simp); have e9 := (Blk2.new w5 _ _ _).below hb6; obtain ⟨y0, y1, y2, y3⟩ := e9.cells; have y4 := e9.lt) | skip)))
    all_goals
      go_wp2_with fail
      go_meet
      first
        | exact ⟨_, _, _, rfl, fitSt_alloc b6.size hQ6 b6 _⟩
        | exact ⟨_, _, _, rfl, (fitSt_alloc b6.size hQ6 b6 _).drew⟩
        | exact ⟨_, _, _, rfl, fitSt_store hQ6 b6 (by first | exact Nat.le_refl _ | exact b5.size) e9 n9.1 n9.2⟩
        | exact ⟨_, _, _, rfl, (fitSt_store hQ6 b6 (by first | exact Nat.le_refl _ | exact b5.size) e9 n9.1 n9.2).drew⟩
  case rest =>
    obtain ⟨t, ov, iv, rfl, hs⟩ := hcut
    obtain ⟨w6, rfl⟩ : ∃ w6 : World, w6 = wc := ⟨_, rfl⟩
    obtain ⟨x0, x1, x2, x3, x4, x5⟩ := six_below hs.below ⟨c0, c1, c2, c3, c4, c5⟩
    obtain ⟨t0, t1, _, _⟩ := hs.blk.cells
    have hle6 := hs.below.size
    have hge := hs.ge
    obtain ⟨qa, qn, qc, hqe, hqn, _, hqcell⟩ := Hpv.out.open
    simp only [Value.slice.injEq] at hqe
    obtain ⟨rfl, rfl, rfl⟩ := hqe
    have Hqc := Lib.hid hqcell
    have Hm0 := Lib.hid (mayFit_is days ve cp ln (.slice ca cm cc) (.slice da dm dc) ov iv L D (numsL n l) n w6 (HC.out.below hs.below) (HG.out.below hs.below) hs.own.1.ints hs.own.2.1.ints Hn.out (by omega) hD)
    have Hmay := Lib.hid (fun (W : World) (ov iv : Value) (l' : List Int) (h : Below w3.heap.size w3 W) (hO : Ints W ov (outL D n (inL D n l'))) (hI : Ints W iv (inL D n l')) => mayFit_is days ve cp ln (.slice ca cm cc) (.slice da dm dc) ov iv L D l' n W (HC.out.below h) (HG.out.below h) hO hI Hn.out (by omega) hD)
    have Hlow := Lib.hid (fun (W : World) (ov iv : Value) (l' : List Int) (p s : Int) (h : Below w3.heap.size w3 W) (hI : Ints W iv (inL D n l')) (h0 : 0 ≤ s) (h1 : s ≤ 2147483648) => lower_is days ve cp ln (.slice ca cm cc) (.slice da dm dc) ov iv L D (inL D n l') n p s W (HC.out.below h) (HG.out.below h) hI Hn.out (by omega) hD (inL_len _ _ _) (fun k => by have := nth_in_bd hD n l' k; omega) h0 h1)
    have Hs6 := Lib.hid (And.intro hs.blk (And.intro hs.own.1.ints (And.intro hs.own.2.1.ints hs.below)))
    clear hs HN HF hqcell hqn
    go_upto_region 3 with (fail)
    go_wp2_with fail
    refine Hm0.out.mono ?_
    rintro e w7 ⟨rfl, hb7⟩
    have hblk7 := Hs6.out.1.below hb7
    have Hst7 := Lib.hid (And.intro hblk7 (And.intro (Hs6.out.2.1.below hb7) (And.intro (Hs6.out.2.2.1.below hb7) (Hs6.out.2.2.2.trans (hb7.mono hle6)))))
    clear hb7 hblk7 x0 x1 x2 x3 x4 x5 t0 t1
    go_wp2_with fail
    go_loopw [11] (fun i wr => ∃ (k : Nat) (ov iv : Value) (l' : List Int), i = .int .i64 k ∧ k ≤ 8 ∧ Blk2 wr t ov iv ∧ Ints wr ov (outL D n (inL D n l')) ∧ Ints wr iv (inL D n l') ∧ Below w3.heap.size w3 wr) (fun i _ => 8 - (intOf i).toNat)
    case atStart => exact ⟨0, _, _, _, rfl, by omega, Hst7.out.1, Hst7.out.2.1, Hst7.out.2.2.1, Hst7.out.2.2.2⟩
    case round =>
      obtain ⟨k, ov, iv, l', rfl, hk8, hblk, hO, hI, hb⟩ := hrel
      obtain ⟨wo, rfl⟩ : ∃ wo : World, wo = wr := ⟨_, rfl⟩
      by_cases hgo : k < pn ∧ k < 8
      · obtain ⟨g1, g2⟩ := hgo
        obtain ⟨d0, d1, d2, d3, d4, d5⟩ := six_below hb ⟨c0, c1, c2, c3, c4, c5⟩
        obtain ⟨t0, t1, t2, t3⟩ := hblk.cells
        have lt := hblk.lt
        obtain ⟨pb, po, rfl, f0⟩ := Hqc.out k g1
        have f0r := cell_below hb f0
        generalize nth pl k = X at *
        have hi0 : (0 : Int) ≤ (k : Int) := by omega
        have hi1 : (k : Int) < (pn : Int) := by omega
        have hi8 : (k : Int) < 8 := by omega
        have HbO := Lib.hid hb
        have Hl := Lib.hid (fun (W : World) (s : Int) (h : Below wo.heap.size wo W) (h0 : 0 ≤ s) (h1 : s ≤ 2147483648) => Hlow.out W ov iv l' X s (bel2 HbO.out h) (hI.below h) h0 h1)
        have Hblk := Lib.hid hblk
        have b0 := Below.refl wo.heap.size wo
        have hszo : w3.heap.size ≤ wo.heap.size := hb.size
        clear hblk hO hI hb f0
        go_upto_region 8 with fail
        go_cut [11] (fun s11 wx => s11 = .int .i64 k ∧ ∃ (ov iv : Value) (l' : List Int), Blk2 wx t ov iv ∧ Ints wx ov (outL D n (inL D n l')) ∧ Ints wx iv (inL D n l') ∧ Below w3.heap.size w3 wx)
        case first =>
          go_region_law (first
            | (refine step_wanted (by rfl) ?_; go_simp; go_at_call 26; refine (size_is by_ _ hby).mono ?_; rintro e w' ⟨sz, rfl, hz0, hz1, rfl⟩)
            | (refine step_wanted (by rfl) ?_; go_simp; go_at_call 30; refine (Hl.out _ sz ?_ hz0 hz1).mono ?_; (first | exact b0 | exact belDrew _); rintro e w9 ⟨ov9, iv9, rfl, hP9, hb9⟩; obtain ⟨go9, co9, gi9, ci9, rfl, rfl⟩ := hP9.form (outL_len _ _ _) (inL_len _ _ _) hnp; (first | have b9 := bel2 b0 hb9 | have b9 := bel2 (belDrew wo) hb9); have blk9 := Hblk.out.below b9; obtain ⟨y0, y1, y2, y3⟩ := blk9.cells; have hne9 := ownP_low (t := t) hP9 (by first | exact lt | (simp; exact lt)); have HP9 := Lib.hid hP9; clear hP9))
          all_goals
            go_wp2_with fail
            go_meet
            have o1 := own_ne HP9.out.1 (grown2 w9 t (.slice (some ⟨go9, 0, none⟩) n co9) (.slice (some ⟨gi9, 0, none⟩) n ci9)) hne9.1
            have o2 := own_ne HP9.out.2.1 (grown2 w9 t (.slice (some ⟨go9, 0, none⟩) n co9) (.slice (some ⟨gi9, 0, none⟩) n ci9)) hne9.2
            have o3 := blk9.set (.slice (some ⟨go9, 0, none⟩) n co9) (.slice (some ⟨gi9, 0, none⟩) n ci9)
            have o4 := (bel2 HbO.out b9).trans (below2 w9 t (.slice (some ⟨go9, 0, none⟩) n co9) (.slice (some ⟨gi9, 0, none⟩) n ci9) hge)
            first
              | exact ⟨rfl, _, _, lowerL (inL D n l') X sz, o3, o1.ints, o2.ints, o4⟩
              | exact ⟨rfl, _, _, lowerL (inL D n l') X sz, o3.drew, o1.ints.below (belDrew _), o2.ints.below (belDrew _), o4.drew⟩
        case rest =>
          obtain ⟨rfl, ov2, iv2, l2, hblk2, hO2, hI2, hb2⟩ := hcut
          obtain ⟨w8, rfl⟩ : ∃ w8 : World, w8 = wc := ⟨_, rfl⟩
          clear d0 d1 d2 d3 d4 d5 t0 t1 t2 t3 f0r lt
          obtain ⟨d0, d1, d2, d3, d4, d5⟩ := six_below hb2 ⟨c0, c1, c2, c3, c4, c5⟩
          obtain ⟨t0, t1, t2, t3⟩ := hblk2.cells
          have Hc2 := Lib.hid (Hmay.out w8 ov2 iv2 l2 hb2 hO2 hI2)
          have HS2 := Lib.hid (And.intro hblk2 (And.intro hO2 (And.intro hI2 hb2)))
          clear hblk2 hO2 hI2 hb2
          go_wp2_with fail
          refine Hc2.out.mono ?_
          rintro e w9 ⟨rfl, hb9⟩
          have HS9 := Lib.hid (And.intro (HS2.out.1.below hb9) (And.intro (HS2.out.2.1.below hb9) (And.intro (HS2.out.2.2.1.below hb9) (bel2 HS2.out.2.2.2 hb9))))
          clear hb9 d0 d1 d2 d3 d4 d5 t0 t1 t2 t3
          go_wp2_with fail
          go_roundw
          case rel => exact ⟨k + 1, _, _, _, by go_num, by omega, HS9.out.1, HS9.out.2.1, HS9.out.2.2.1, HS9.out.2.2.2⟩
          case measure => simp [intOf]; omega
      · have hgo2 : (decide (k < pn) = false) ∨ (decide (k < pn) = true ∧ decide ((k : Int) < 8) = false) := by
          by_cases q : k < pn
          · exact .inr ⟨by simpa using q, by simp; omega⟩
          · exact .inl (by simpa using q)
        have Hb := Lib.hid hb
        clear hgo hblk hO hI hb
        rcases hgo2 with q1 | ⟨q1, q2⟩
        all_goals
          go_wp2_with fail
          refine (lives17_is _).mono ?_
          rintro e w9 ⟨rfl, hb9⟩
          go_wp2_with fail
          go_ret
          exact ⟨rfl, HB.out.trans ((bel2 Hb.out hb9).mono hsz23)⟩
end Go.Proofs.Ythilfibgpobcjaa
