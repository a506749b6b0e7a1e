/-
  My own work: the walk of DualTight.
-/
import Derived.Test.YthilfibgpobcjaaDualB
import Derived.Test.YthilfibgpobcjaaDualG
import Derived.Test.YthilfibgpobcjaaDualJ
namespace Go.Proofs.Ythilfibgpobcjaa
open Go.RowKit
set_option linter.unusedVariables false
attribute [local go_sem ↓] Go.wp_at_zero Go.wp_at_succ

theorem slack_bd {D : List (List Int)} (hD : ArcBd D) (n : Nat) (l : List Int) (a b : Int) : 0 ≤ slackI D n (outL D n (inL D n l)) (inL D n l) a b ∧ slackI D n (outL D n (inL D n l)) (inL D n l) a b ≤ 60 := by
  unfold slackI
  split
  · rename_i h
    obtain ⟨h1, h2, h3, h4, h5⟩ := h
    have g1 := (may_fit hD n l).2.2.2 a.toNat (by omega) b.toNat (by omega) (by omega)
    have g2 := hD a b
    have g3 := nth_out_bd hD n l a.toNat
    have g4 := nth_in_bd hD n l b.toNat
    rw [show ((a.toNat : Nat) : Int) = a by omega, show ((b.toNat : Nat) : Int) = b by omega] at g1
    omega
  · omega
theorem slack_at {D : List (List Int)} (hD : ArcBd D) {n : Nat} (l : List Int) {a : Nat} (ha : a < n) (hn : 1 < n) : ∃ b, b < n ∧ b ≠ a ∧ slackI D n (outL D n (inL D n l)) (inL D n l) a b = 0 := by
  have hk : ∃ k, k < n ∧ k ≠ a := by
    by_cases h : a = 0
    · exact ⟨1, by omega, by omega⟩
    · exact ⟨0, by omega, by omega⟩
  obtain ⟨k, hk, hne⟩ := hk
  obtain ⟨b, hb, hba, e⟩ := least_at (f := fun b => arcI D a b - nth (inL D n l) b) hk hne
  refine ⟨b, hb, hba, ?_⟩
  unfold slackI
  rw [if_pos (by omega), Int.toNat_natCast, Int.toNat_natCast, nth_outL _ _ _ _ ha]
  unfold outI
  (try simp only at e)
  omega

set_option maxRecDepth 100000 in
set_option maxHeartbeats 6400000 in
theorem dualTight_walk (i0 i1 i2 i3 : Int) (cv0 dv0 : Value) (L0 : List Cu) (D0 : List (List Int)) (lv : Value) (l : List Int) (w : World) (a0 : (Lit.int .i64 i0).wf = true) (a1 : (Lit.int .i64 i1).wf = true) (a2 : (Lit.int .i64 i2).wf = true) (a3 : (Lit.int .i64 i3).wf = true) (hC0 : Custs w cv0 L0) (hL0 : ∀ C ∈ L0, WfC C) (hG0 : Grid w dv0 D0) (hD0 : ∀ r ∈ D0, ∀ x ∈ r, (Lit.int .i64 x).wf = true) (hlv : Ints w lv l) :
    Calls Try.prog 5 #[.agg #[.int .i64 i0, .int .i64 i1, .int .i64 i2, .int .i64 i3, cv0, dv0], lv] w fun e w' => e = .returned (.bool true) ∧ Below w.heap.size w w' := by
  obtain ⟨w1, ew, hb1, hsz1, hx⟩ := box_inst w (.int .i64 i0) (.int .i64 i1) (.int .i64 i2) (.int .i64 i3) cv0 dv0
  obtain ⟨c0, c1, c2, c3, c4, c5⟩ := hx
  have Hgood := Lib.hid (goodInst_is i0 i1 i2 i3 cv0 dv0 L0 D0 w1 a0 a1 a2 a3 (hC0.below hb1) hL0 (hG0.below hb1) hD0)
  have Hew := Lib.hid ew
  have Hb1 := Lib.hid hb1
  have Hlv1 := Lib.hid (hlv.below hb1)
  have hsz : w.heap.size ≤ w1.heap.size := hb1.size
  clear ew hb1 hsz1 hC0 hG0 hL0 hD0 hlv
  go_enter Try.func5, Try.ntmps5
  go_upto_region 1 with (fail)
  rw [Hew.out]
  go_wp2_with fail
  refine Hgood.out.mono ?_
  rintro e w2 ⟨days, ve, cp, ln, cv, dv, L, D, rfl, hdays, hLn, hgood, hC, hG, hb2⟩
  obtain ⟨ca, cm, cc, rfl, hcm, _, _⟩ := hC.open
  obtain ⟨da, dm, dc, rfl, _, _, _⟩ := hG.open
  obtain ⟨w3, ew3, hb3, hsz3, hy⟩ := box_inst w2 (.int .i64 days) (.int .i64 ve) (.int .i64 cp) (.int .i64 ln) (.slice ca cm cc) (.slice da dm dc)
  have hD : ArcBd D := arcBd_of hgood.dist hgood.rows
  obtain ⟨n, hn⟩ : ∃ n, L.length + 1 = n := ⟨_, rfl⟩
  have hn7 : n ≤ 7 := by have := hgood.n6; omega
  have hnp : 0 < n := by omega
  have hncm : Hid ((n : Int) = (cm : Int) + 1) := Lib.hid (by omega)
  have hcm6 : cm ≤ 6 := by omega
  have HC := Lib.hid (hC.below hb3)
  have HG := Lib.hid (hG.below hb3)
  have Hn := Lib.hid hn
  have Hew3 := Lib.hid ew3
  have hb13 := bel2 hb2 hb3
  have HB := Lib.hid (Hb1.out.trans (hb13.mono hsz))
  have Hlv := Lib.hid (Hlv1.out.below hb13)
  have hsz23 : w.heap.size ≤ w3.heap.size := HB.out.size
  have lgy : w2.heap.size < w3.heap.size := by omega
  clear c0 c1 c2 c3 c4 c5 hdays hLn hgood hC hG hb2 hb3 hb13 hsz3 ew3 hn hcm
  obtain ⟨c0, c1, c2, c3, c4, c5⟩ := hy
  go_upto_region 2 with (fail)
  rw [Hew3.out]
  generalize w2.heap.size = gy at *
  have HN := Lib.hid (fun (W : World) (h : Below w3.heap.size w3 W) => numbers_is days ve cp ln (.slice ca cm cc) (.slice da dm dc) lv L l n W (HC.out.below h) (Hlv.out.below h) Hn.out (by omega))
  have HF := Lib.hid (fun (W : World) (nv : Value) (h : Below w3.heap.size w3 W) (hI : Ints W nv (numsL n l)) => fit_is days ve cp ln (.slice ca cm cc) (.slice da dm dc) nv L D (numsL n l) n W (HC.out.below h) (HG.out.below h) hI Hn.out (by omega) (nums_len n l) hD)
  go_cut [6] (fun s wx => ∃ (t : Nat) (ov iv : Value), s = .pointer (some ⟨t, 0, none⟩) ∧ FitSt w3.heap.size w3 t ov iv (outL D n (inL D n (numsL n l))) (inL D n (numsL n l)) wx)
  case first =>
    have b0 := Below.refl w3.heap.size w3
    go_region_held3 (fun w' => w'.cell? ⟨gy, 0, none⟩ = some (.int .i64 days) ∧ w'.cell? ⟨gy, 1, none⟩ = some (.int .i64 ve) ∧ w'.cell? ⟨gy, 2, none⟩ = some (.int .i64 cp) ∧ w'.cell? ⟨gy, 3, none⟩ = some (.int .i64 ln) ∧ w'.cell? ⟨gy, 4, none⟩ = some (.slice ca cm cc) ∧ w'.cell? ⟨gy, 5, none⟩ = some (.slice da dm dc))
      (first | go_keep | exact six_below b5 ⟨c0, c1, c2, c3, c4, c5⟩ | exact six_below b6 ⟨c0, c1, c2, c3, c4, c5⟩ | exact six_below (b5.alloc b5.size _) ⟨c0, c1, c2, c3, c4, c5⟩ | exact six_below (b6.alloc b6.size _) ⟨c0, c1, c2, c3, c4, c5⟩ | exact six_below (b6.drew) ⟨c0, c1, c2, c3, c4, c5⟩ | exact six_below (b5.drew) ⟨c0, c1, c2, c3, c4, c5⟩ | exact six_below (fitSt_store hQ6 b6 (by first | exact Nat.le_refl _ | exact b5.size) e9 n9.1 n9.2).below ⟨c0, c1, c2, c3, c4, c5⟩)
      (first
        | (go_at_call 15; refine (HN.out _ ?_).mono ?_; (first | exact b0 | exact belDrew w3 | exact bel2 (belDrew w3) (belAlloc _ _) | exact bel2 (belAlloc w3 _) (belDrew _)); rintro e w5 ⟨nv, rfl, hN5, hb5⟩; have hI5 := hN5.ints; (first | have b5 := bel2 b0 hb5 | have b5 := bel2 (belDrew w3) hb5 | have b5 := bel2 (bel2 (belDrew w3) (belAlloc _ _)) hb5 | have b5 := bel2 (bel2 (belAlloc w3 _) (belDrew _)) hb5); (first | (have e9 := (Blk2.new w3 _ _ _).drew.below hb5; have x4 := e9.lt) | skip))
        | (go_at_call 14; refine (HF.out _ _ ?_ ?_).mono ?_; (first | exact b5 | exact bel2 b5 (belAlloc _ _) | exact bel2 b5 (belDrew _)); (first | exact hI5 | exact hI5.below (belAlloc _ _) | exact hI5.below (belDrew _)); rintro e w6 ⟨ov, iv, rfl, hP6, hb6⟩; obtain ⟨go, co, gi, ci, rfl, rfl⟩ := hP6.form (outL_len _ _ _) (inL_len _ _ _) hnp; (first | have b6 := bel2 b5 hb6 | have b6 := bel2 (bel2 b5 (belAlloc _ _)) hb6 | have b6 := bel2 (bel2 b5 (belDrew _)) hb6); have hQ6 := hP6.mono (show w3.heap.size ≤ _ by first | exact b5.size | exact (bel2 b5 (belAlloc _ _)).size | exact (bel2 b5 (belDrew _)).size);
            (first | (have n9 := ownP_low (t := w3.heap.size) hP6 x4; have e9 := e9.below hb6; obtain ⟨y0, y1, y2, y3⟩ := e9.cells; have y4 := e9.lt) | (have n9 := ownP_low (t := w5.heap.size) hP6 (by simp); have e9 := (Blk2.new w5 _ _ _).below hb6; obtain ⟨y0, y1, y2, y3⟩ := e9.cells; have y4 := e9.lt) | skip)))
    all_goals
      go_wp2_with fail
      go_meet
      first
        | exact ⟨_, _, _, rfl, fitSt_alloc b6.size hQ6 b6 _⟩
        | exact ⟨_, _, _, rfl, (fitSt_alloc b6.size hQ6 b6 _).drew⟩
        | exact ⟨_, _, _, rfl, fitSt_store hQ6 b6 (by first | exact Nat.le_refl _ | exact b5.size) e9 n9.1 n9.2⟩
        | exact ⟨_, _, _, rfl, (fitSt_store hQ6 b6 (by first | exact Nat.le_refl _ | exact b5.size) e9 n9.1 n9.2).drew⟩
  case rest =>
    obtain ⟨t, ov, iv, rfl, hs⟩ := hcut
    obtain ⟨w6, rfl⟩ : ∃ w6 : World, w6 = wc := ⟨_, rfl⟩
    obtain ⟨c0, c1, c2, c3, c4, c5⟩ := six_below hs.below ⟨c0, c1, c2, c3, c4, c5⟩
    obtain ⟨t0, t1, _, _⟩ := hs.blk.cells
    have hle6 := hs.below.size
    have Hsl := Lib.hid (fun (W : World) (h : Below w6.heap.size w6 W) (a b : Int) => slack_is days ve cp ln (.slice ca cm cc) (.slice da dm dc) ov iv L D (outL D n (inL D n (numsL n l))) (inL D n (numsL n l)) n a b W ((HC.out.below hs.below).below h) ((HG.out.below hs.below).below h) (hs.own.1.ints.below h) (hs.own.2.1.ints.below h) Hn.out (by omega) hD (outL_len _ _ _) (inL_len _ _ _) (fun k => by have := nth_out_bd hD n (numsL n l) k; omega) (fun k => by have := nth_in_bd hD n (numsL n l) k; omega))
    have HB6 := Lib.hid (HB.out.trans (hs.below.mono hsz23))
    have hsz6 : w.heap.size ≤ w6.heap.size := by omega
    have Hbd := Lib.hid (slack_bd hD n (numsL n l))
    have Hat := Lib.hid (fun (a : Nat) (ha : a < n) (hn : 1 < n) => slack_at hD (numsL n l) ha hn)
    generalize slackI D n (outL D n (inL D n (numsL n l))) (inL D n (numsL n l)) = SL at *
    clear hs HN HF
    go_upto_region 4 with (fail)
    rw [show Value.int .i64 ((cm : Int) + 1) = Value.int .i64 (n : Int) by rw [hncm.out]]
    go_wp2_with fail
    go_loopw [8, 9, 10] (fun a s b wr => ∃ (k : Nat) (x y : Value), a = .int .i64 k ∧ x = s ∧ y = b ∧ k ≤ n ∧ Below w6.heap.size w6 wr) (fun a _ _ _ => n - (intOf a).toNat)
    case atStart => exact ⟨0, _, _, rfl, rfl, rfl, Nat.zero_le _, Below.refl _ _⟩
    case round =>
      obtain ⟨k, x, y, rfl, rfl, rfl, hk, hb⟩ := hrel
      by_cases hgo : k < n ∧ 1 < n
      · obtain ⟨g1, g2⟩ := hgo
        obtain ⟨wo, rfl⟩ : ∃ wo : World, wo = wr := ⟨_, rfl⟩
        obtain ⟨d0, d1, d2, d3, d4, d5⟩ := six_below hb ⟨c0, c1, c2, c3, c4, c5⟩
        have s0 := cell_below hb t0
        have s1 := cell_below hb t1
        have hi1 : (k : Int) < (n : Int) := by omega
        have hi2 : (1 : Int) < (n : Int) := by omega
        have hmod : ∃ m : Nat, ((k : Int) + 1).tmod (n : Int) = (m : Int) ∧ m < n ∧ m ≠ k := by
          refine ⟨(k + 1) % n, ?_, Nat.mod_lt _ (by omega), ?_⟩
          · rw [Int.tmod_eq_emod_of_nonneg (by omega)]
            simp
          · by_cases h : k + 1 < n
            · rw [Nat.mod_eq_of_lt h]; omega
            · rw [show k + 1 = n by omega, Nat.mod_self]; omega
        obtain ⟨m, hm1, hm2, hm3⟩ := hmod
        have hnz1 : ¬ n = 0 := by omega
        have hnz2 : (n == 0) = false := by simpa using hnz1
        have hw1 : IntKind.i64.wrap ((k : Int) + 1) = (k : Int) + 1 := IntWalk.i64_in _ (by omega)
        have hbd := Hbd.out k m
        have Hc := Lib.hid (fun (W : World) (h : Below wo.heap.size wo W) => Hsl.out W (bel2 hb h) (k : Int) (m : Int))
        have b0 := Below.refl wo.heap.size wo
        have Hb := Lib.hid hb
        obtain ⟨S, hS⟩ : ∃ S, SL (k : Int) (m : Int) = S := ⟨_, rfl⟩
        rw [hS] at Hc hbd
        have HS := Lib.hid hS
        obtain ⟨hbd1, hbd2⟩ := hbd
        clear hb hS
        go_upto_region 7 with fail
        go_cut [9] (fun s9 wx => s9 = .int .i64 S ∧ Below wo.heap.size wo wx)
        case first =>
          go_region_held3 (fun w' => (w'.cell? ⟨gy, 0, none⟩ = some (.int .i64 days) ∧ w'.cell? ⟨gy, 1, none⟩ = some (.int .i64 ve) ∧ w'.cell? ⟨gy, 2, none⟩ = some (.int .i64 cp) ∧ w'.cell? ⟨gy, 3, none⟩ = some (.int .i64 ln) ∧ w'.cell? ⟨gy, 4, none⟩ = some (.slice ca cm cc) ∧ w'.cell? ⟨gy, 5, none⟩ = some (.slice da dm dc) ∧
              w'.cell? ⟨t, 0, none⟩ = some ov ∧ w'.cell? ⟨t, 1, none⟩ = some iv))
            (first | go_keep | exact eight_below b6 ⟨d0, d1, d2, d3, d4, d5, s0, s1⟩)
            (first | (go_at_call 25; refine (Hc.out _ ?_).mono ?_; (first | exact b0 | exact belDrew _); rintro e w7 ⟨rfl, hb7⟩; (first | have b6 := bel2 b0 hb7 | have b6 := bel2 (belDrew wo) hb7)))
          all_goals
            go_wp2_with fail
            go_meet
            exact ⟨rfl, by first | exact b6 | exact b6.drew⟩
        case rest =>
          obtain ⟨rfl, hbc⟩ := hcut
          obtain ⟨w8, rfl⟩ : ∃ w8 : World, w8 = wc := ⟨_, rfl⟩
          clear hw1 hm1 d0 d1 d2 d3 d4 d5 s0 s1
          go_wp2_with fail
          go_loopw [9, 10] (fun s b wq => ∃ (j : Nat) (Q : Int), b = .int .i64 j ∧ s = .int .i64 Q ∧ j ≤ n ∧ 0 ≤ Q ∧ Q ≤ 60 ∧ (∀ j', j' < j → j' ≠ k → Q ≤ SL k j') ∧ Below w8.heap.size w8 wq) (fun _ b _ => n - (intOf b).toNat)
          case atStart => exact ⟨0, S, rfl, rfl, Nat.zero_le _, hbd1, hbd2, fun j' hj => by omega, Below.refl _ _⟩
          case round =>
            obtain ⟨j, Q, rfl, rfl, hj, hq0, hq1, hall, hbq⟩ := hrel
            have Hall := Lib.hid hall
            have hbw := bel2 Hb.out (bel2 hbc hbq)
            clear hall
            by_cases hlt : j < n
            · have hj1 : (j : Int) < (n : Int) := by omega
              obtain ⟨d0, d1, d2, d3, d4, d5⟩ := six_below hbw ⟨c0, c1, c2, c3, c4, c5⟩
              have s0 := cell_below hbw t0
              have s1 := cell_below hbw t1
              by_cases hjk : j = k
              · have bne : ((j : Int) != (k : Int)) = false := by simp; omega
                have Hjk := Lib.hid hjk
                clear hjk
                go_wp2_with fail
                go_roundw
                case rel => exact ⟨j + 1, Q, by go_num, rfl, by omega, hq0, hq1, fun j' hj' hne => by rcases Nat.lt_succ_iff_lt_or_eq.1 hj' with h | rfl; exact Hall.out j' h hne; exact absurd Hjk.out hne, hbq⟩
                case measure => simp [intOf]; omega
              · have bne : ((j : Int) != (k : Int)) = true := by simp; omega
                have hbd := Hbd.out k j
                have Hc2 := Lib.hid (fun (W : World) (h : Below wr.heap.size wr W) => Hsl.out W (bel2 hbw h) (k : Int) (j : Int))
                obtain ⟨R, hR⟩ : ∃ R, SL (k : Int) (j : Int) = R := ⟨_, rfl⟩
                rw [hR] at Hc2 hbd
                have HR := Lib.hid hR
                obtain ⟨hr1, hr2⟩ := hbd
                have b00 := Below.refl wr.heap.size wr
                clear hR hjk
                by_cases hRQ : R < Q
                · have hRQ' : decide (R < Q) = true := by simpa using hRQ
                  go_wp2_with fail
                  refine (Hc2.out _ b00).mono ?_
                  rintro e w9 ⟨rfl, hb9⟩
                  obtain ⟨u0, u1, u2, u3, u4, u5, v0, v1⟩ := eight_below hb9 ⟨d0, d1, d2, d3, d4, d5, s0, s1⟩
                  go_wp2_with fail
                  refine (Hc2.out _ hb9).mono ?_
                  rintro e w10 ⟨rfl, hb10⟩
                  have hb11 := bel2 hbq (bel2 hb9 hb10)
                  clear hb9 hb10
                  go_wp2_with fail
                  go_roundw
                  case rel => exact ⟨j + 1, R, by go_num, rfl, by omega, hr1, hr2, fun j' hj' hne => by rcases Nat.lt_succ_iff_lt_or_eq.1 hj' with h | rfl; have := Hall.out j' h hne; omega; rw [HR.out]; omega, hb11⟩
                  case measure => simp [intOf]; omega
                · have hRQ' : decide (R < Q) = false := by simpa using hRQ
                  go_wp2_with fail
                  refine (Hc2.out _ b00).mono ?_
                  rintro e w9 ⟨rfl, hb9⟩
                  have hb11 := bel2 hbq hb9
                  clear hb9
                  go_wp2_with fail
                  go_roundw
                  case rel => exact ⟨j + 1, Q, by go_num, rfl, by omega, hq0, hq1, fun j' hj' hne => by rcases Nat.lt_succ_iff_lt_or_eq.1 hj' with h | rfl; exact Hall.out j' h hne; rw [HR.out]; omega, hb11⟩
                  case measure => simp [intOf]; omega
            · have hjn : j = n := by omega
              subst hjn
              have hQ : Q = 0 := by
                obtain ⟨b, hb1, hb2, hb3⟩ := Hat.out k g1 g2
                have := Hall.out b hb1 hb2
                omega
              subst hQ
              have Hbw := Lib.hid hbw
              clear hbw hbq
              go_wp2_with fail
              go_roundw
              case rel => exact ⟨k + 1, _, _, by go_num, rfl, rfl, by omega, Hbw.out⟩
              case measure => simp [intOf]; omega
      · have hgo2 : (decide (k < n) = false) ∨ (decide (k < n) = true ∧ decide ((1 : Int) < (n : Int)) = false) := by
          by_cases q : k < n
          · exact .inr ⟨by simpa using q, by simp; omega⟩
          · exact .inl (by simpa using q)
        clear hgo
        rcases hgo2 with q1 | ⟨q1, q2⟩
        all_goals
          go_wp2_with fail
          refine (lives17_is _).mono ?_
          rintro e w9 ⟨rfl, hb9⟩
          have hb10 := bel2 hb hb9
          clear hb9
          go_wp2_with fail
          go_ret
          exact ⟨rfl, HB6.out.trans (hb10.mono hsz6)⟩
end Go.Proofs.Ythilfibgpobcjaa
