/-
  My own work: the walk of DualSame.
-/
import Derived.Test.YthilfibgpobcjaaDualC
import Derived.Test.YthilfibgpobcjaaDualG
import Derived.Test.YthilfibgpobcjaaDualJ
namespace Go.Proofs.Ythilfibgpobcjaa
open Go.RowKit
set_option linter.unusedVariables false
attribute [local go_sem ↓] Go.wp_at_zero Go.wp_at_succ

theorem lower_none (q : List Int) (place : Int) : lowerL q place 0 = q := by
  unfold lowerL
  split
  · rename_i h
    apply ext_nth (by simp)
    intro k hk
    rw [nth_set (by omega)]
    split
    · rename_i e; rw [← e]; omega
    · rfl
  · rfl
theorem sameP_true (ov iv ov' iv' : Value) (o i : List Int) (w : World) (h1 : Ints w ov o) (h2 : Ints w iv i) (h3 : Ints w ov' o) (h4 : Ints w iv' i) :
    Calls Try.prog 27 #[.agg #[ov, iv], .agg #[ov', iv']] w fun e w' => e = .returned (.bool true) ∧ Below w.heap.size w w' := by
  have := sameP_is ov iv ov' iv' o i o i w h1 h2 h3 h4
  rwa [decide_eq_true ⟨rfl, rfl⟩] at this

set_option maxRecDepth 100000 in
set_option maxHeartbeats 6400000 in
theorem dualSame_walk (i0 i1 i2 i3 : Int) (cv0 dv0 : Value) (L0 : List Cu) (D0 : List (List Int)) (lv : Value) (l : List Int) (place : Int) (w : World) (a0 : (Lit.int .i64 i0).wf = true) (a1 : (Lit.int .i64 i1).wf = true) (a2 : (Lit.int .i64 i2).wf = true) (a3 : (Lit.int .i64 i3).wf = true) (hC0 : Custs w cv0 L0) (hL0 : ∀ C ∈ L0, WfC C) (hG0 : Grid w dv0 D0) (hD0 : ∀ r ∈ D0, ∀ x ∈ r, (Lit.int .i64 x).wf = true) (hlv : Ints w lv l) :
    Calls Try.prog 8 #[.agg #[.int .i64 i0, .int .i64 i1, .int .i64 i2, .int .i64 i3, cv0, dv0], lv, .int .i64 place] w fun e w' => e = .returned (.bool true) ∧ Below w.heap.size w w' := by
  obtain ⟨w1, ew, hb1, hsz1, hx⟩ := box_inst w (.int .i64 i0) (.int .i64 i1) (.int .i64 i2) (.int .i64 i3) cv0 dv0
  obtain ⟨c0, c1, c2, c3, c4, c5⟩ := hx
  have Hgood := Lib.hid (goodInst_is i0 i1 i2 i3 cv0 dv0 L0 D0 w1 a0 a1 a2 a3 (hC0.below hb1) hL0 (hG0.below hb1) hD0)
  have Hew := Lib.hid ew
  have Hb1 := Lib.hid hb1
  have Hlv1 := Lib.hid (hlv.below hb1)
  have hsz : w.heap.size ≤ w1.heap.size := hb1.size
  clear ew hb1 hsz1 hC0 hG0 hL0 hD0 hlv
  go_enter Try.func8, Try.ntmps8
  go_upto_region 1 with (fail)
  rw [Hew.out]
  go_wp2_with fail
  refine Hgood.out.mono ?_
  rintro e w2 ⟨days, ve, cp, ln, cv, dv, L, D, rfl, hdays, hLn, hgood, hC, hG, hb2⟩
  obtain ⟨ca, cm, cc, rfl, hcm, _, _⟩ := hC.open
  obtain ⟨da, dm, dc, rfl, _, _, _⟩ := hG.open
  obtain ⟨w3, ew3, hb3, hsz3, hy⟩ := box_inst w2 (.int .i64 days) (.int .i64 ve) (.int .i64 cp) (.int .i64 ln) (.slice ca cm cc) (.slice da dm dc)
  have hD : ArcBd D := arcBd_of hgood.dist hgood.rows
  obtain ⟨n, hn⟩ : ∃ n, L.length + 1 = n := ⟨_, rfl⟩
  have hn7 : n ≤ 7 := by have := hgood.n6; omega
  have hnp : 0 < n := by omega
  have hncm : Hid ((n : Int) = (cm : Int) + 1) := Lib.hid (by omega)
  have hcm6 : cm ≤ 6 := by omega
  have HC := Lib.hid (hC.below hb3)
  have HG := Lib.hid (hG.below hb3)
  have Hn := Lib.hid hn
  have Hew3 := Lib.hid ew3
  have hb13 := bel2 hb2 hb3
  have HB := Lib.hid (Hb1.out.trans (hb13.mono hsz))
  have Hlv := Lib.hid (Hlv1.out.below hb13)
  have hsz23 : w.heap.size ≤ w3.heap.size := HB.out.size
  have lgy : w2.heap.size < w3.heap.size := by omega
  clear c0 c1 c2 c3 c4 c5 hdays hLn hgood hC hG hb2 hb3 hb13 hsz3 ew3 hn hcm
  obtain ⟨c0, c1, c2, c3, c4, c5⟩ := hy
  go_upto_region 2 with (fail)
  rw [Hew3.out]
  generalize w2.heap.size = gy at *
  have HN := Lib.hid (fun (W : World) (h : Below w3.heap.size w3 W) => numbers_is days ve cp ln (.slice ca cm cc) (.slice da dm dc) lv L l n W (HC.out.below h) (Hlv.out.below h) Hn.out (by omega))
  have HF := Lib.hid (fun (W : World) (nv : Value) (h : Below w3.heap.size w3 W) (hI : Ints W nv (numsL n l)) => fit_is days ve cp ln (.slice ca cm cc) (.slice da dm dc) nv L D (numsL n l) n W (HC.out.below h) (HG.out.below h) hI Hn.out (by omega) (nums_len n l) hD)
  go_cut [8] (fun s wx => ∃ (t : Nat) (ov iv : Value), s = .pointer (some ⟨t, 0, none⟩) ∧ FitSt w3.heap.size w3 t ov iv (outL D n (inL D n (numsL n l))) (inL D n (numsL n l)) wx)
  case first =>
    have b0 := Below.refl w3.heap.size w3
    go_region_held3 (fun w' => w'.cell? ⟨gy, 0, none⟩ = some (.int .i64 days) ∧ w'.cell? ⟨gy, 1, none⟩ = some (.int .i64 ve) ∧ w'.cell? ⟨gy, 2, none⟩ = some (.int .i64 cp) ∧ w'.cell? ⟨gy, 3, none⟩ = some (.int .i64 ln) ∧ w'.cell? ⟨gy, 4, none⟩ = some (.slice ca cm cc) ∧ w'.cell? ⟨gy, 5, none⟩ = some (.slice da dm dc))
      (first | go_keep | exact six_below b5 ⟨c0, c1, c2, c3, c4, c5⟩ | exact six_below b6 ⟨c0, c1, c2, c3, c4, c5⟩ | exact six_below (b5.alloc b5.size _) ⟨c0, c1, c2, c3, c4, c5⟩ | exact six_below (b6.alloc b6.size _) ⟨c0, c1, c2, c3, c4, c5⟩ | exact six_below (b6.drew) ⟨c0, c1, c2, c3, c4, c5⟩ | exact six_below (b5.drew) ⟨c0, c1, c2, c3, c4, c5⟩ | exact six_below (fitSt_store hQ6 b6 (by first | exact Nat.le_refl _ | exact b5.size) e9 n9.1 n9.2).below ⟨c0, c1, c2, c3, c4, c5⟩)
      (first
        | (go_at_call 15; refine (HN.out _ ?_).mono ?_; (first | exact b0 | exact belDrew w3 | exact bel2 (belDrew w3) (belAlloc _ _) | exact bel2 (belAlloc w3 _) (belDrew _)); rintro e w5 ⟨nv, rfl, hN5, hb5⟩; have hI5 := hN5.ints; (first | have b5 := bel2 b0 hb5 | have b5 := bel2 (belDrew w3) hb5 | have b5 := bel2 (bel2 (belDrew w3) (belAlloc _ _)) hb5 | have b5 := bel2 (bel2 (belAlloc w3 _) (belDrew _)) hb5); (first | (have e9 := (Blk2.new w3 _ _ _).drew.below hb5; have x4 := e9.lt) | skip))
        | (go_at_call 14; refine (HF.out _ _ ?_ ?_).mono ?_; (first | exact b5 | exact bel2 b5 (belAlloc _ _) | exact bel2 b5 (belDrew _)); (first | exact hI5 | exact hI5.below (belAlloc _ _) | exact hI5.below (belDrew _)); rintro e w6 ⟨ov, iv, rfl, hP6, hb6⟩; obtain ⟨go, co, gi, ci, rfl, rfl⟩ := hP6.form (outL_len _ _ _) (inL_len _ _ _) hnp; (first | have b6 := bel2 b5 hb6 | have b6 := bel2 (bel2 b5 (belAlloc _ _)) hb6 | have b6 := bel2 (bel2 b5 (belDrew _)) hb6); have hQ6 := hP6.mono (show w3.heap.size ≤ _ by first | exact b5.size | exact (bel2 b5 (belAlloc _ _)).size | exact (bel2 b5 (belDrew _)).size);
            (first | (have n9 := ownP_low (t := w3.heap.size) hP6 x4; have e9 := e9.below hb6; obtain ⟨y0, y1, y2, y3⟩ := e9.cells; have y4 := e9.lt) | (have n9 := ownP_low (t := w5.heap.size) hP6 (by simp); have e9 := (Blk2.new w5 _ _ _).below hb6; obtain ⟨y0, y1, y2, y3⟩ := e9.cells; have y4 := e9.lt) | skip)))
    all_goals
      go_wp2_with fail
      go_meet
      first
        | exact ⟨_, _, _, rfl, fitSt_alloc b6.size hQ6 b6 _⟩
        | exact ⟨_, _, _, rfl, (fitSt_alloc b6.size hQ6 b6 _).drew⟩
        | exact ⟨_, _, _, rfl, fitSt_store hQ6 b6 (by first | exact Nat.le_refl _ | exact b5.size) e9 n9.1 n9.2⟩
        | exact ⟨_, _, _, rfl, (fitSt_store hQ6 b6 (by first | exact Nat.le_refl _ | exact b5.size) e9 n9.1 n9.2).drew⟩
  case rest =>
    obtain ⟨t, ov, iv, rfl, hs⟩ := hcut
    obtain ⟨w6, rfl⟩ : ∃ w6 : World, w6 = wc := ⟨_, rfl⟩
    obtain ⟨c0, c1, c2, c3, c4, c5⟩ := six_below hs.below ⟨c0, c1, c2, c3, c4, c5⟩
    obtain ⟨t0, t1, _, _⟩ := hs.blk.cells
    have hle6 := hs.below.size
    obtain ⟨go, co, gi, ci, rfl, rfl⟩ := hs.own.form (outL_len _ _ _) (inL_len _ _ _) hnp
    have hq := fit_same hD n (numsL n l)
    obtain ⟨Q, hQ⟩ : ∃ Q, inL D n (numsL n l) = Q := ⟨_, rfl⟩
    have hQl : Q.length = n := by rw [← hQ]; exact inL_len _ _ _
    have hQb : ∀ k, 0 ≤ nth Q k ∧ nth Q k ≤ 60 := fun k => by rw [← hQ]; exact nth_in_bd hD n _ k
    rw [hQ] at hs hq
    have HO := Lib.hid hs.own.1.ints
    have HI := Lib.hid hs.own.2.1.ints
    have Hfit := Lib.hid (fun (W : World) (h : Below w6.heap.size w6 W) => fit_is days ve cp ln (.slice ca cm cc) (.slice da dm dc) (.slice (some ⟨gi, 0, none⟩) n ci) L D Q n W ((HC.out.below hs.below).below h) ((HG.out.below hs.below).below h) (hs.own.2.1.ints.below h) Hn.out (by omega) hQl hD)
    have Hlow := Lib.hid (fun (W : World) (h : Below w6.heap.size w6 W) => lower_is days ve cp ln (.slice ca cm cc) (.slice da dm dc) (.slice (some ⟨go, 0, none⟩) n co) (.slice (some ⟨gi, 0, none⟩) n ci) L D Q n place 0 W ((HC.out.below hs.below).below h) ((HG.out.below hs.below).below h) (hs.own.2.1.ints.below h) Hn.out (by omega) hD hQl (fun k => by have := hQb k; omega) (by omega) (by omega))
    rw [hq] at Hfit
    rw [lower_none, hq] at Hlow
    have HB6 := Lib.hid (HB.out.trans (hs.below.mono hsz23))
    have hsz6 : w.heap.size ≤ w6.heap.size := by omega
    have HQl := Lib.hid hQl
    have HOl := Lib.hid (outL_len D n Q)
    generalize outL D n Q = O at *
    have bnn : ((n : Int) != (cm : Int) + 1) = false := by rw [hncm.out]; simp
    have b0 := Below.refl w6.heap.size w6
    clear hs HN HF hq hQ hQl hQb
    go_upto_region 3 with (fail)
    go_wp2_with fail
    refine (Hfit.out _ b0).mono ?_
    rintro e w7 ⟨ov7, iv7, rfl, hP7, hb7⟩
    obtain ⟨go7, co7, gi7, ci7, rfl, rfl⟩ := hP7.form HOl.out HQl.out hnp
    obtain ⟨w8, ew8, hb8, hs8, p0, p1⟩ := box_price w7 (.slice (some ⟨go7, 0, none⟩) n co7) (.slice (some ⟨gi7, 0, none⟩) n ci7)
    have Hew8 := Lib.hid ew8
    have b8 := bel2 hb7 hb8
    obtain ⟨d0, d1, d2, d3, d4, d5, s0, s1⟩ := eight_below b8 ⟨c0, c1, c2, c3, c4, c5, t0, t1⟩
    have H7o := Lib.hid (hP7.1.ints.below hb8)
    have H7i := Lib.hid (hP7.2.1.ints.below hb8)
    have hl78 : w7.heap.size < w8.heap.size := by omega
    clear ew8 hb7 hb8 hs8 hP7 c0 c1 c2 c3 c4 c5 t0 t1
    go_upto_region 6 with (fail)
    rw [Hew8.out]
    generalize w7.heap.size = t7 at *
    go_wp2_with fail
    refine (Hlow.out _ b8).mono ?_
    rintro e w9 ⟨ov9, iv9, rfl, hP9, hb9⟩
    obtain ⟨go9, co9, gi9, ci9, rfl, rfl⟩ := hP9.form HOl.out HQl.out hnp
    obtain ⟨w10, ew10, hb10, hs10, r0, r1⟩ := box_price w9 (.slice (some ⟨go9, 0, none⟩) n co9) (.slice (some ⟨gi9, 0, none⟩) n ci9)
    have Hew10 := Lib.hid ew10
    have b810 := bel2 hb9 hb10
    have b10 := bel2 b8 b810
    have u0 := cell_below b810 s0
    have u1 := cell_below b810 s1
    have v0 := cell_below b810 p0
    have v1 := cell_below b810 p1
    have H9o := Lib.hid (hP9.1.ints.below hb10)
    have H9i := Lib.hid (hP9.2.1.ints.below hb10)
    have H7o' := Lib.hid (H7o.out.below b810)
    have H7i' := Lib.hid (H7i.out.below b810)
    have HO' := Lib.hid (HO.out.below b10)
    have HI' := Lib.hid (HI.out.below b10)
    have hl910 : w9.heap.size < w10.heap.size := by omega
    clear ew10 hb9 hb10 hs10 hP9 d0 d1 d2 d3 d4 d5 s0 s1 p0 p1 b8
    go_upto_region 7 with (fail)
    rw [Hew10.out]
    generalize w9.heap.size = t9 at *
    go_wp2_with fail
    refine (sameP_true _ _ _ _ O Q w10 HO'.out HI'.out H7o'.out H7i'.out).mono ?_
    rintro e w11 ⟨rfl, hb11⟩
    have x0 := cell_below hb11 u0
    have x1 := cell_below hb11 u1
    have x2 := cell_below hb11 r0
    have x3 := cell_below hb11 r1
    go_wp2_with fail
    refine (sameP_true _ _ _ _ O Q w11 (HO'.out.below hb11) (HI'.out.below hb11) (H9o.out.below hb11) (H9i.out.below hb11)).mono ?_
    rintro e w12 ⟨rfl, hb12⟩
    have b12 := Lib.hid (bel2 b10 (bel2 hb11 hb12))
    clear hb11 hb12 b10 b810 x0 x1 x2 x3 u0 u1 v0 v1 r0 r1
    go_wp2_with fail
    refine (lives17_is _).mono ?_
    rintro e w13 ⟨rfl, hb13⟩
    go_wp2_with fail
    go_ret
    exact ⟨rfl, HB6.out.trans ((bel2 b12.out hb13).mono hsz6)⟩
end Go.Proofs.Ythilfibgpobcjaa
