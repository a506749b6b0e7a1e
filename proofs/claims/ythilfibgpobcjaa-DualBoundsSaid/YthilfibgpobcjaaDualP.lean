/-
  My own work: the walk of DualBounds.
-/
import Derived.Test.YthilfibgpobcjaaDualG
import Derived.Test.YthilfibgpobcjaaDualJ
import Derived.Test.YthilfibgpobcjaaTourC
import Derived.BigQuiet
namespace Go.Proofs.Ythilfibgpobcjaa
open Go.RowKit
set_option linter.unusedVariables false
attribute [local go_sem ↓] Go.wp_at_zero Go.wp_at_succ

theorem ownT_cells {E : TypeId} {w : World} {B : Nat} {v : Value} {T : List (List (Int × Int))} {rvs : List Value} (h : OwnT E w B v T rvs) :
    ∃ ta tn tc, v = .slice ta tn tc ∧ T.length = tn ∧ ∀ k, k < tn → ∃ b, ta = some ⟨b, 0, none⟩ ∧ w.cell? ⟨b, k, none⟩ = some (rvs.getD k undef) ∧ Pairs w (rvs.getD k undef) (nthT T k) := by
  rcases owns_form h.outer with ⟨rfl, h0⟩ | ⟨b, cap, rfl, h1, h2, _, _⟩
  · exact ⟨none, 0, 0, rfl, h0, fun k hk => absurd hk (by omega)⟩
  · refine ⟨some ⟨b, 0, none⟩, T.length, cap, rfl, rfl, fun k hk => ⟨b, rfl, ?_, (h.row k hk).pairs⟩⟩
    have hl : k < rvs.length := by rw [h.len]; exact hk
    obtain ⟨g', hg', hc⟩ := owns_cell h.outer k _ (List.getElem?_eq_getElem hl)
    simp only [Value.ownBlock, Option.some.injEq] at hg'
    subst hg'
    rw [hc]
    simp [List.getD, List.getElem?_eq_getElem hl]

set_option maxRecDepth 100000 in
set_option maxHeartbeats 6400000 in
theorem dualBounds_walk (i0 i1 i2 i3 : Int) (cv0 dv0 : Value) (L0 : List Cu) (D0 : List (List Int)) (lv : Value) (l : List Int) (sv bv : Value) (sl : List (Int × Int)) (bs : List Bool) (w : World) (a0 : (Lit.int .i64 i0).wf = true) (a1 : (Lit.int .i64 i1).wf = true) (a2 : (Lit.int .i64 i2).wf = true) (a3 : (Lit.int .i64 i3).wf = true) (hC0 : Custs w cv0 L0) (hL0 : ∀ C ∈ L0, WfC C) (hG0 : Grid w dv0 D0) (hD0 : ∀ r ∈ D0, ∀ x ∈ r, (Lit.int .i64 x).wf = true) (hlv : Ints w lv l) (hsv : Pairs w sv sl) (hbv : Bools w bv bs) (hslm : sl.length ≤ 9223372036854775807) :
    Calls Try.prog 3 #[.agg #[.int .i64 i0, .int .i64 i1, .int .i64 i2, .int .i64 i3, cv0, dv0], lv, sv, bv] w fun e w' => e = .returned (.bool true) ∧ Below w.heap.size w w' := by
  obtain ⟨w1, ew, hb1, hsz1, hx⟩ := box_inst w (.int .i64 i0) (.int .i64 i1) (.int .i64 i2) (.int .i64 i3) cv0 dv0
  obtain ⟨c0, c1, c2, c3, c4, c5⟩ := hx
  have Hgood := Lib.hid (goodInst_is i0 i1 i2 i3 cv0 dv0 L0 D0 w1 a0 a1 a2 a3 (hC0.below hb1) hL0 (hG0.below hb1) hD0)
  have Hew := Lib.hid ew
  have Hb1 := Lib.hid hb1
  have Hlv1 := Lib.hid (hlv.below hb1)
  have Hsv1 := Lib.hid (hsv.below hb1)
  have Hbv1 := Lib.hid (hbv.below hb1)
  have Hslm := Lib.hid hslm
  have hsz : w.heap.size ≤ w1.heap.size := hb1.size
  clear ew hb1 hsz1 hC0 hG0 hL0 hD0 hlv hsv hbv hslm
  go_enter Try.func3, Try.ntmps3
  go_upto_region 1 with (fail)
  rw [Hew.out]
  go_wp2_with fail
  refine Hgood.out.mono ?_
  rintro e w2 ⟨days, ve, cp, ln, cv, dv, L, D, rfl, hdays, hLn, hgood, hC, hG, hb2⟩
  obtain ⟨ca, cm, cc, rfl, hcm, _, _⟩ := hC.open
  obtain ⟨da, dm, dc, rfl, _, _, _⟩ := hG.open
  obtain ⟨w3, ew3, hb3, hsz3, hy⟩ := box_inst w2 (.int .i64 days) (.int .i64 ve) (.int .i64 cp) (.int .i64 ln) (.slice ca cm cc) (.slice da dm dc)
  have hD : ArcBd D := arcBd_of hgood.dist hgood.rows
  obtain ⟨n, hn⟩ : ∃ n, L.length + 1 = n := ⟨_, rfl⟩
  have hn7 : n ≤ 7 := by have := hgood.n6; omega
  have hnp : 0 < n := by omega
  have hncm : Hid ((n : Int) = (cm : Int) + 1) := Lib.hid (by omega)
  have hcm6 : cm ≤ 6 := by omega
  have HC := Lib.hid (hC.below hb3)
  have HG := Lib.hid (hG.below hb3)
  have Hn := Lib.hid hn
  have Hcm := Lib.hid hcm
  have Hew3 := Lib.hid ew3
  have hb13 := bel2 hb2 hb3
  have HB := Lib.hid (Hb1.out.trans (hb13.mono hsz))
  have Hlv := Lib.hid (Hlv1.out.below hb13)
  have Hsv := Lib.hid (Hsv1.out.below hb13)
  have Hbv := Lib.hid (Hbv1.out.below hb13)
  have hsz23 : w.heap.size ≤ w3.heap.size := HB.out.size
  have lgy : w2.heap.size < w3.heap.size := by omega
  clear c0 c1 c2 c3 c4 c5 hdays hLn hgood hC hG hb2 hb3 hb13 hsz3 ew3 hn hcm
  obtain ⟨c0, c1, c2, c3, c4, c5⟩ := hy
  go_upto_region 2 with (fail)
  rw [Hew3.out]
  generalize w2.heap.size = gy at *
  have HN := Lib.hid (fun (W : World) (h : Below w3.heap.size w3 W) => numbers_is days ve cp ln (.slice ca cm cc) (.slice da dm dc) lv L l n W (HC.out.below h) (Hlv.out.below h) Hn.out (by omega))
  have HF := Lib.hid (fun (W : World) (nv : Value) (h : Below w3.heap.size w3 W) (hI : Ints W nv (numsL n l)) => fit_is days ve cp ln (.slice ca cm cc) (.slice da dm dc) nv L D (numsL n l) n W (HC.out.below h) (HG.out.below h) hI Hn.out (by omega) (nums_len n l) hD)
  go_cut [10] (fun s wx => ∃ (t : Nat) (ov iv : Value), s = .pointer (some ⟨t, 0, none⟩) ∧ FitSt w3.heap.size w3 t ov iv (outL D n (inL D n (numsL n l))) (inL D n (numsL n l)) wx)
  case first =>
    have b0 := Below.refl w3.heap.size w3
    go_region_held3 (fun w' => w'.cell? ⟨gy, 0, none⟩ = some (.int .i64 days) ∧ w'.cell? ⟨gy, 1, none⟩ = some (.int .i64 ve) ∧ w'.cell? ⟨gy, 2, none⟩ = some (.int .i64 cp) ∧ w'.cell? ⟨gy, 3, none⟩ = some (.int .i64 ln) ∧ w'.cell? ⟨gy, 4, none⟩ = some (.slice ca cm cc) ∧ w'.cell? ⟨gy, 5, none⟩ = some (.slice da dm dc))
      (first | go_keep | exact six_below b5 ⟨c0, c1, c2, c3, c4, c5⟩ | exact six_below b6 ⟨c0, c1, c2, c3, c4, c5⟩ | exact six_below (b5.alloc b5.size _) ⟨c0, c1, c2, c3, c4, c5⟩ | exact six_below (b6.alloc b6.size _) ⟨c0, c1, c2, c3, c4, c5⟩ | exact six_below (b6.drew) ⟨c0, c1, c2, c3, c4, c5⟩ | exact six_below (b5.drew) ⟨c0, c1, c2, c3, c4, c5⟩ | exact six_below (fitSt_store hQ6 b6 (by first | exact Nat.le_refl _ | exact b5.size) e9 n9.1 n9.2).below ⟨c0, c1, c2, c3, c4, c5⟩)
      (first
        | (go_at_call 15; refine (HN.out _ ?_).mono ?_; (first | exact b0 | exact belDrew w3 | exact bel2 (belDrew w3) (belAlloc _ _) | exact bel2 (belAlloc w3 _) (belDrew _)); rintro e wN ⟨nv, rfl, hN5, hb5⟩; have hI5 := hN5.ints; (first | have b5 := bel2 b0 hb5 | have b5 := bel2 (belDrew w3) hb5 | have b5 := bel2 (bel2 (belDrew w3) (belAlloc _ _)) hb5 | have b5 := bel2 (bel2 (belAlloc w3 _) (belDrew _)) hb5); (first | (have e9 := (Blk2.new w3 _ _ _).drew.below hb5; have x4 := e9.lt) | skip))
        | (go_at_call 14; refine (HF.out _ _ ?_ ?_).mono ?_; (first | exact b5 | exact bel2 b5 (belAlloc _ _) | exact bel2 b5 (belDrew _)); (first | exact hI5 | exact hI5.below (belAlloc _ _) | exact hI5.below (belDrew _)); rintro e wF ⟨ov, iv, rfl, hP6, hb6⟩; obtain ⟨go, co, gi, ci, rfl, rfl⟩ := hP6.form (outL_len _ _ _) (inL_len _ _ _) hnp; (first | have b6 := bel2 b5 hb6 | have b6 := bel2 (bel2 b5 (belAlloc _ _)) hb6 | have b6 := bel2 (bel2 b5 (belDrew _)) hb6); have hQ6 := hP6.mono (show w3.heap.size ≤ _ by first | exact b5.size | exact (bel2 b5 (belAlloc _ _)).size | exact (bel2 b5 (belDrew _)).size);
            (first | (have n9 := ownP_low (t := w3.heap.size) hP6 x4; have e9 := e9.below hb6; obtain ⟨y0, y1, y2, y3⟩ := e9.cells; have y4 := e9.lt) | (have n9 := ownP_low (t := wN.heap.size) hP6 (by simp); have e9 := (Blk2.new wN _ _ _).below hb6; obtain ⟨y0, y1, y2, y3⟩ := e9.cells; have y4 := e9.lt) | skip)))
    all_goals
      go_wp2_with fail
      go_meet
      first
        | exact ⟨_, _, _, rfl, fitSt_alloc b6.size hQ6 b6 _⟩
        | exact ⟨_, _, _, rfl, (fitSt_alloc b6.size hQ6 b6 _).drew⟩
        | exact ⟨_, _, _, rfl, fitSt_store hQ6 b6 (by first | exact Nat.le_refl _ | exact b5.size) e9 n9.1 n9.2⟩
        | exact ⟨_, _, _, rfl, (fitSt_store hQ6 b6 (by first | exact Nat.le_refl _ | exact b5.size) e9 n9.1 n9.2).drew⟩
  case rest =>
    obtain ⟨t, ov, iv, rfl, hs⟩ := hcut
    obtain ⟨w6, rfl⟩ : ∃ w6 : World, w6 = wc := ⟨_, rfl⟩
    obtain ⟨c0, c1, c2, c3, c4, c5⟩ := six_below hs.below ⟨c0, c1, c2, c3, c4, c5⟩
    obtain ⟨go, co, gi, ci, rfl, rfl⟩ := hs.own.form (outL_len _ _ _) (inL_len _ _ _) hnp
    obtain ⟨t0, t1, _, _⟩ := hs.blk.cells
    have hle6 := hs.below.size
    have HB6 := Lib.hid (HB.out.trans (hs.below.mono hsz23))
    have hsz6 : w.heap.size ≤ w6.heap.size := by omega
    have HO := Lib.hid hs.own.1
    have HI := Lib.hid hs.own.2.1
    have hnO := outL_len D n (inL D n (numsL n l))
    have hnI := inL_len D n (numsL n l)
    have HObd := Lib.hid (nth_out_bd hD n (numsL n l))
    have HIbd := Lib.hid (nth_in_bd hD n (numsL n l))
    have Hmay := Lib.hid (may_fit hD n (numsL n l))
    have HDb := Lib.hid hD
    have HG6 := Lib.hid (HG.out.below hs.below)
    have HT := Lib.hid (tours_is days ve cp ln (.slice ca cm cc) (.slice da dm dc) sv bv L sl bs cm w6 (HC.out.below hs.below) (Hsv.out.below hs.below) (Hbv.out.below hs.below) Hcm.out (by omega) Hslm.out)
    generalize outL D n (inL D n (numsL n l)) = O at *
    generalize inL D n (numsL n l) = I at *
    have HnO := Lib.hid hnO
    have HnI := Lib.hid hnI
    clear hs HN HF hD hnO hnI
    go_wp2_with fail
    refine HT.out.mono ?_
    rintro e w7 ⟨tv, G, T, rvs, rfl, hGS, hcut, hT, hb7⟩
    obtain ⟨w8, ew8⟩ : ∃ w8, w7.alloc (.cells #[tv] 36) = w8 := ⟨_, rfl⟩
    have hb8 : Below w7.heap.size w7 w8 := by rw [← ew8]; exact belAlloc _ _
    have e0 : w8.cell? ⟨w7.heap.size, 0, none⟩ = some tv := by rw [← ew8]; simp [go_sem]
    have hb78 := bel2 hb7 hb8
    obtain ⟨ta, tn, tc, rfl, htn, hrow⟩ := ownT_cells hT
    have Hrow : Hid (∀ k, k < tn → ∃ b, ta = some ⟨b, 0, none⟩ ∧ w8.cell? ⟨b, k, none⟩ = some (rvs.getD k undef) ∧ Pairs w8 (rvs.getD k undef) (nthT T k)) := Lib.hid (fun k hk => by
      obtain ⟨b, h1, h2, h3⟩ := hrow k hk
      exact ⟨b, h1, cell_below hb8 h2, h3.below hb8⟩)
    have Hok : Hid (∀ k, k < tn → TourOk (cm + 1) ((nthT T k).map (·.1)) ∧ (nthT T k).length ≤ 6) := Lib.hid (fun k hk => cut_ok hGS hcut (by omega))
    obtain ⟨c0, c1, c2, c3, c4, c5⟩ := six_below hb78 ⟨c0, c1, c2, c3, c4, c5⟩
    have t0 := cell_below hb78 t0
    have t1 := cell_below hb78 t1
    have Hew8 := Lib.hid ew8
    have HB8 := Lib.hid (HB6.out.trans (hb78.mono hsz6))
    have hsz8 : w.heap.size ≤ w8.heap.size := HB8.out.size
    have HO8 := Lib.hid (HO.out.below hb78)
    have HI8 := Lib.hid (HI.out.below hb78)
    have HG8 := Lib.hid (HG6.out.below hb78)
    have hbig : (tn : Int) ≤ 1000 := by have h1 := cut_len hcut; have h2 := hGS.six; omega
    clear hGS hcut hT hb7 hb8 hb78 hrow ew8 htn HT
    go_upto_region 4 with (fail)
    rw [Hew8.out]
    generalize w7.heap.size = gd at *
    have hne : ((n : Int) != (cm : Int) + 1) = false := by have := hncm.out; simp; omega
    have he : (n : Int) = (cm : Int) + 1 := hncm.out
    have He := Lib.hid he
    obtain ⟨go', co', hgo, _, _, _, hO⟩ := HO8.out.out (by rw [HnO.out]; exact hnp)
    simp only [Value.slice.injEq, Option.some.injEq, Addr.mk.injEq, and_true] at hgo
    obtain ⟨rfl, hz1, hz2⟩ := hgo
    clear hz1 hz2
    obtain ⟨gi', ci', hgi, _, _, _, hI⟩ := HI8.out.out (by rw [HnI.out]; exact hnp)
    simp only [Value.slice.injEq, Option.some.injEq, Addr.mk.injEq, and_true] at hgi
    obtain ⟨rfl, hz1, hz2⟩ := hgi
    clear hz1 hz2
    have HOc : Hid (∀ k, k < n → w8.cell? ⟨go, k, none⟩ = some (.int .i64 (nth O k))) := Lib.hid (fun k hk => by have := (hO k (by rw [HnO.out]; exact hk)).1; rwa [Nat.zero_add] at this)
    have HIc : Hid (∀ k, k < n → w8.cell? ⟨gi, k, none⟩ = some (.int .i64 (nth I k))) := Lib.hid (fun k hk => by have := (hI k (by rw [HnI.out]; exact hk)).1; rwa [Nat.zero_add] at this)
    clear hO hI he
    go_wp2_with fail
    go_loopw [12, 13, 14, 15] (fun i s c j wr => ∃ (k : Nat) (x y z : Value), i = .int .i64 k ∧ x = s ∧ y = c ∧ z = j ∧ k ≤ tn ∧ Below w8.heap.size w8 wr) (fun i _ _ _ _ => tn - (intOf i).toNat)
    case atStart => exact ⟨0, _, _, _, rfl, rfl, rfl, rfl, Nat.zero_le _, Below.refl _ _⟩
    case round =>
      obtain ⟨k, x, y, z, rfl, rfl, rfl, rfl, hk, hb⟩ := hrel
      obtain ⟨wo, rfl⟩ : ∃ wo : World, wo = wr := ⟨_, rfl⟩
      have Hb := Lib.hid hb
      have e0r := cell_below hb e0
      by_cases hlt : k < tn
      · obtain ⟨tb, rfl, hrc, hrp⟩ := Hrow.out k hlt
        obtain ⟨hok, hok6⟩ := Hok.out k hlt
        have hlen := hok.pos
        generalize rvs.getD k undef = rv at *
        generalize nthT T k = r at *
        obtain ⟨ra, rn, rc, rfl, hrn, _, _⟩ := hrp.open
        obtain ⟨c, hc⟩ : ∃ c, r.map (·.1) = c := ⟨_, rfl⟩
        have hcl : c.length = rn := by rw [← hc]; simpa using hrn
        rw [hc] at hok hlen
        have Hok1 := Lib.hid hok
        have HCu := Lib.hid (fun (W : World) (h : Below w8.heap.size w8 W) => custsOf_is (.slice ra rn rc) r W (hrp.below h) (by omega))
        rw [hc] at HCu
        have hrc6 : rn ≤ 6 := by omega
        have Hcl := Lib.hid hcl
        obtain ⟨d0, d1, d2, d3, d4, d5⟩ := six_below hb ⟨c0, c1, c2, c3, c4, c5⟩
        have s0 := cell_below hb t0
        have s1 := cell_below hb t1
        have rcr := cell_below hb hrc
        have o0 := cell_below hb (HOc.out 0 hnp)
        have j0 := cell_below hb (HIc.out 0 hnp)
        have q1 := HObd.out 0
        have q2 := HIbd.out 0
        obtain ⟨S0, hS0⟩ : ∃ S0, S0 = sumTo O I c 0 := ⟨_, rfl⟩
        have hS0' : nth O 0 + nth I 0 = S0 := by rw [hS0]; rfl
        have hw0 : IntKind.i64.wrap (nth O 0 + nth I 0) = S0 := by rw [IntWalk.i64_in _ (by omega)]; exact hS0'
        have HS0 := Lib.hid hS0
        generalize nth O 0 = O0 at *
        generalize nth I 0 = I0 at *
        have hn0 : (0 : Int) < (n : Int) := by omega
        have hi0 : (0 : Int) ≤ (k : Int) := by omega
        have hi1 : (k : Int) < (tn : Int) := by omega
        clear hok hcl hc hrn hS0 hS0' hrp hrc hb hok6
        go_upto_region 9 with fail
        go_quiet (fail)
        go_wp2_with fail
        refine (HCu.out _ (below_drewN Hb.out nq)).mono ?_
        rintro e w9 ⟨cv9, rfl, hcv, hb9⟩
        have b9 := bel2 (below_drewN Hb.out nq) hb9
        obtain ⟨qa, qn, qc, rfl, hqn, _, hqc⟩ := hcv.ints.open
        have hqn' : qn = rn := by have := Hcl.out; omega
        subst hqn'
        have Hqc := Lib.hid hqc
        have Hcv := Lib.hid hcv.ints
        have Hb9 := Lib.hid b9
        have d0 := cell_below b9 c0
        have d1 := cell_below b9 c1
        have d2 := cell_below b9 c2
        have d3 := cell_below b9 c3
        have d4 := cell_below b9 c4
        have d5 := cell_below b9 c5
        have s0 := cell_below b9 t0
        have s1 := cell_below b9 t1
        have e0r := cell_below b9 e0
        clear hw0 o0 j0 rcr hqc hcv hb9 hqn b9
        go_wp2_with fail
        go_loopw [13, 15] (fun s j wq => ∃ (m : Nat) (S : Int), j = .int .i64 m ∧ s = .int .i64 S ∧ S = sumTo O I c m ∧ m ≤ qn ∧ Below w9.heap.size w9 wq) (fun _ j _ => qn - (intOf j).toNat)
        case atStart => exact ⟨0, S0, rfl, rfl, HS0.out, Nat.zero_le _, Below.refl _ _⟩
        case round =>
          obtain ⟨m, S, rfl, rfl, hS, hm, hbq⟩ := hrel
          have Hbq := Lib.hid hbq
          have hSb := sum_bd' HObd.out HIbd.out (c := c) m
          rw [← hS] at hSb
          obtain ⟨hSb1, hSb2⟩ := hSb
          obtain ⟨wp, rfl⟩ : ∃ wp : World, wp = wr := ⟨_, rfl⟩
          by_cases hml : m < qn
          · obtain ⟨qb, qo, rfl, f0⟩ := Hqc.out m hml
            have f0 := cell_below hbq f0
            have hr := Hok1.out.range m (by have := Hcl.out; omega)
            have hst : sumTo O I c (m + 1) = S + nth O (nth c m + 1).toNat + nth I (nth c m + 1).toNat := by rw [hS]; rfl
            have Hst := Lib.hid hst
            obtain ⟨C, hC⟩ : ∃ C : Nat, nth c m = (C : Int) := ⟨(nth c m).toNat, by omega⟩
            rw [hC] at hr f0 Hst
            rw [show ((C : Int) + 1).toNat = C + 1 by omega] at Hst
            have hCn : C + 1 < n := by have := He.out; omega
            have b8 := bel2 Hb9.out hbq
            have o1 := cell_below b8 (HOc.out (C + 1) hCn)
            have j1 := cell_below b8 (HIc.out (C + 1) hCn)
            have q1 := HObd.out (C + 1)
            have q2 := HIbd.out (C + 1)
            generalize nth O (C + 1) = O1 at *
            generalize nth I (C + 1) = I1 at *
            have hw1 : IntKind.i64.wrap ((C : Int) + 1) = (C : Int) + 1 := IntWalk.i64_in _ (by omega)
            have hw2 : IntKind.i64.wrap (S + O1) = S + O1 := IntWalk.i64_in _ (by omega)
            have hw3 : IntKind.i64.wrap (S + O1 + I1) = S + O1 + I1 := IntWalk.i64_in _ (by omega)
            have s0 := cell_below hbq s0
            have s1 := cell_below hbq s1
            have hi2 : (0 : Int) ≤ (m : Int) := by omega
            have hi3 : (m : Int) < (qn : Int) := by omega
            have hi4 : (0 : Int) ≤ (C : Int) + 1 := by omega
            have hi5 : (C : Int) + 1 < (n : Int) := by omega
            have hi6 : ((C : Int) + 1).toNat = C + 1 := by omega
            clear hS hr hC hst hbq b8
            go_upto_region 14 with fail
            go_quiet (fail)
            go_wp2_with fail
            go_roundw
            case rel => exact ⟨m + 1, S + O1 + I1, by go_num, rfl, Hst.out.symm, by omega, below_drewN Hbq.out _⟩
            case measure => simp [intOf]; omega
          · have hmn : m = qn := by omega
            subst hmn
            have hle : ¬ wayI D c < S := by
              have hcl := Hcl.out
              have he := He.out
              have h1 := tour_le (n := n) Hmay.out hnp (c := c) (by have := Hok1.out; rw [show cm + 1 = n by omega] at this; exact this)
              rw [hcl, ← hS] at h1
              omega
            have hle' : decide (wayI D c < S) = false := by simpa using hle
            have HW := Lib.hid (refWay_is days ve cp ln (.slice ca cm cc) (.slice da dm dc) (.slice qa m qc) D c wp (HG8.out.below (bel2 Hb9.out hbq)) HDb.out (Hcv.out.below hbq) (by have := Hcl.out; omega) (by have := Hcl.out; omega) (fun j => by
              by_cases hj : j < c.length
              · have := Hok1.out.range j hj
                have he := He.out
                omega
              · rw [nth_ge (by omega)]; omega))
            have d0 := cell_below hbq d0
            have d1 := cell_below hbq d1
            have d2 := cell_below hbq d2
            have d3 := cell_below hbq d3
            have d4 := cell_below hbq d4
            have d5 := cell_below hbq d5
            generalize wayI D c = W at *
            clear hle hS hml hm
            go_wp2_with fail
            refine HW.out.mono ?_
            rintro e w10 ⟨rfl, hb10⟩
            have b10 := bel2 (bel2 Hb9.out hbq) hb10
            have B10 := Lib.hid b10
            clear hb10 b10 hbq
            go_wp2_with fail
            go_roundw
            case rel => exact ⟨k + 1, _, _, _, by go_num, rfl, rfl, rfl, by omega, B10.out⟩
            case measure => simp [intOf]; omega
      · have hkn : k = tn := by omega
        clear hlt hk
        go_wp2_with fail
        refine (lives17_is _).mono ?_
        rintro e w9 ⟨rfl, hb9⟩
        have hb10 := bel2 hb hb9
        clear hb9
        go_wp2_with fail
        go_ret
        exact ⟨rfl, HB8.out.trans (hb10.mono hsz8)⟩
end Go.Proofs.Ythilfibgpobcjaa
