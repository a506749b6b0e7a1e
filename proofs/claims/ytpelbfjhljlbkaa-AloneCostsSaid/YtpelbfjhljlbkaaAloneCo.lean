/-
  My own work: the walk of AloneCosts.
-/
import Derived.Test.YtpelbfjhljlbkaaAloneAC
import Derived.Test.YtpelbfjhljlbkaaAloneW
import Derived.Test.YtpelbfjhljlbkaaAloneI
import Derived.Deep.DrawnRows
namespace Go.Proofs.Ytpelbfjhljlbkaa
open Go.RowKit
set_option linter.unusedVariables false
set_option maxRecDepth 100000
attribute [local go_sem ↓] Go.wp_at_zero Go.wp_at_succ

set_option maxHeartbeats 6400000 in
theorem aloneCosts_walk (C : Cu) (pv lv : Value) (n0 : Int) (L : List Int) (w : World) (hW : WfC C) (hp : Words w pv C.ps) (hn : (Lit.int .i64 n0).wf = true) (hL : Ints w lv L) (hLw : ∀ x ∈ L, (Lit.int .i64 x).wf = true) :
    Calls Try.prog 6 #[.agg #[.int .i64 C.kd, .int .i64 C.dm, pv, .int .i64 C.rt, .int .i64 C.sz, .int .i64 C.st, .int .i64 C.ru, .int .i64 C.hd], .int .i64 n0, lv] w fun e w' => e = .returned (.bool true) ∧ Below w.heap.size w w' := by
  obtain ⟨w1, ew, hb1, hsz1, hcu⟩ := box_cust w C.kd C.dm pv C.rt C.sz C.st C.ru C.hd
  obtain ⟨n, hnn⟩ := Int.eq_ofNat_of_zero_le (show 0 ≤ rnd n0 1 6 by have := rnd_bd n0 1 6 (by decide); omega)
  have hnb := rnd_bd n0 1 6 (by decide)
  rw [hnn] at hnb
  have hR := round11_is n0 6 w1 hn (by decide) (by decide)
  rw [hnn] at hR
  have HR := Lib.hid hR
  have HCu := Lib.hid (customer_is C pv n w1 hW (hp.below hb1) (by omega) (by omega))
  have HL1 := Lib.hid (hL.below hb1)
  have HLw := Lib.hid hLw
  have Hew := Lib.hid ew
  obtain ⟨c0, c1, c2, c3, c4, c5, c6, c7⟩ := hcu
  clear ew hsz1 hR hW hp hn hL hLw hnn
  go_enter Try.func6, Try.ntmps6
  go_upto_region 1 with (fail)
  rw [Hew.out]
  go_wp2_with fail
  refine HR.out.mono ?_
  rintro e w' ⟨rfl, rfl⟩
  go_wp2_with fail
  refine HCu.out.mono ?_
  rintro e w2 ⟨X, xv, rfl, hG, hxp, hb2⟩
  obtain ⟨w3, ew3, hb3, hsz3, hx⟩ := box_cust w2 X.kd X.dm xv X.rt X.sz X.st X.ru X.hd
  have hb23 := bel2 hb2 hb3
  have HB3 := Lib.hid (hb1.trans (hb23.mono hb1.size))
  have hsz13 : w.heap.size ≤ w3.heap.size := HB3.out.size
  have HPr := Lib.hid (prices_is lv L w3 (HL1.out.below hb23) HLw.out)
  have Hxp := Lib.hid (hxp.below hb3)
  have HG := Lib.hid (good_ok hG)
  have Hps := Lib.hid (good_ps (show n ≤ 64 by omega) hG)
  have Hew3 := Lib.hid ew3
  have hxf := words_form hxp
  clear c0 c1 c2 c3 c4 c5 c6 c7 hG hxp hb2 hb3 ew3 hsz3 hb23
  obtain ⟨xa, xn, xc, rfl⟩ := hxf
  obtain ⟨kd, dm, ps, rt, sz, st, ru, hd⟩ := X
  simp only at HG Hew3 Hxp Hps hx
  have Hcx := Lib.hid (show IsCust w3 w2.heap.size kd dm (.slice xa xn xc) rt sz st ru hd from hx)
  clear hx
  obtain ⟨c0, c1, c2, c3, c4, c5, c6, c7⟩ := Hcx.out
  go_upto_region 3 with fail
  rw [Hew3.out]
  generalize w2.heap.size = g at *
  go_wp2_with fail
  refine HPr.out.mono ?_
  rintro e w4 ⟨qv, rfl, hown, hb4⟩
  have hPo : PriceOk (pricesL L 8) := fun x hx => by have := prices_bd L 8 x hx; omega
  have hPl : (pricesL L 8).length ≤ 8 := by unfold pricesL; rw [List.length_map]; exact List.length_take_le 8 L
  generalize pricesL L 8 = P at *
  have HPo := Lib.hid hPo
  have HQ := Lib.hid hown.ints
  have Hcx4 := Lib.hid (Hcx.out.below hb4)
  have Hxp4 := Lib.hid (Hxp.out.below hb4)
  have HB4 := Lib.hid (HB3.out.trans (hb4.mono hsz13))
  have hsz14 : w.heap.size ≤ w4.heap.size := HB4.out.size
  have hqf := own_slice hown
  have hk := ok_kd HG.out
  clear c0 c1 c2 c3 c4 c5 c6 c7 hown hb4 hPo
  clear Hcx Hxp HB3
  obtain ⟨qa, qn, qc, rfl⟩ := hqf
  obtain ⟨c0, c1, c2, c3, c4, c5, c6, c7⟩ := Hcx4.out
  have HAl := Lib.hid (allC_is kd dm (.slice xa xn xc) rt sz st ru hd 1000 n ps w4 HG.out (by omega) Hxp4.out)
  go_wp2_with fail
  refine HAl.out.mono ?_
  rintro e w5 ⟨av, rfl, hall, hb5⟩
  have Hcx5 := Lib.hid (Hcx4.out.below hb5)
  have Hxp5 := Lib.hid (Hxp4.out.below hb5)
  have HQ5 := Lib.hid (HQ.out.below hb5)
  have HB5 := Lib.hid (HB4.out.trans (hb5.mono hsz14))
  have hsz15 : w.heap.size ≤ w5.heap.size := HB5.out.size
  have Hall := Lib.hid hall.grid
  clear c0 c1 c2 c3 c4 c5 c6 c7 hall hb5 Hcx4 Hxp4 HQ HB4 HAl HPr HCu HR hsz14
  obtain ⟨c0, c1, c2, c3, c4, c5, c6, c7⟩ := Hcx5.out
  go_upto_if 25 with fail
  go_cut [9] (fun s9 wx => ∃ (u : Value) (D : List (List (Int × Int))), u = s9 ∧ GridV wx u D ∧ Hid (∀ V ∈ D, suitsV kd dm ps rt sz st ru 1000 V n = true) ∧ Below w5.heap.size w5 wx)
  case first =>
    by_cases hru : ru = 2
    · obtain ⟨hk2, T⟩ : kd = 2 ∧ TankOk st rt sz ru hd := by
        rcases HG.out with ⟨_, _, _, _, _, _, h0⟩ | h
        · omega
        · exact h
      subst hru hk2
      have hAny := refAny_is dm (.slice xa xn xc) (.slice qa qn qc) rt sz st hd 1000 n P w5 T (by omega) HQ5.out HPo.out.at_
      have hfo : FoundBy 2 dm ps rt sz st 2 hd 1000 P n (anyV st sz rt hd 1000 P n) (anyB st sz rt hd 1000 P n) := .inr (.inr ⟨rfl, rfl, T, rfl, rfl⟩)
      have hsu := fun hb => found_suits (show n ≤ 20 by omega) HG.out hfo hb
      have Hsu := Lib.hid hsu
      have HAny := Lib.hid hAny
      clear hk hAny hsu hfo T
      generalize anyV st sz rt hd 1000 P n = V at *
      generalize anyB st sz rt hd 1000 P n = y at *
      cases y with
      | false =>
        go_wp2_with fail
        refine HAny.out.mono ?_
        rintro e w7 ⟨wv, rfl, _, hb7⟩
        go_wp2_with fail
        go_meet
        exact ⟨_, [], rfl, GridV.nil _, Lib.hid (fun V h => by cases h), hb7⟩
      | true =>
        go_wp2_with fail
        refine HAny.out.mono ?_
        rintro e w7 ⟨wv, rfl, hw, hb7⟩
        obtain ⟨wa, wn, wc', rfl, _, _, _⟩ := hw.vis.open
        have Hw := Lib.hid hw
        have Hb7 := Lib.hid hb7
        have hsz7 : w5.heap.size ≤ w7.heap.size := hb7.size
        clear hw hb7
        go_wp2_with (at_builtin; refine wpList_pushU rfl _ _ rfl w7 w5.heap.size (.slice none 0 0) [] (.slice wa wn wc') V rfl rfl rfl (OwnU.nil _ _) Hw.out (fun k hk => by cases hk) (by decide) hsz7 ?_)
        intro g8 c8 w8 hown8 hg8 hb8 _ _
        have Hown8 := Lib.hid hown8.grid
        have Hb8 := Lib.hid (Hb7.out.trans hb8)
        clear hown8 hg8 hb8
        go_wp2_with fail
        go_meet
        exact ⟨_, [V], rfl, Hown8.out, Lib.hid (fun U h => by simp at h; subst h; first | exact Hsu.out rfl | exact Hsu.out trivial), Hb8.out⟩
    · have hru' : (ru == 2) = false := by simpa using hru
      have hal := allV_suits (cap := 1000) (show n ≤ 20 by omega) HG.out
      have Hal := Lib.hid hal
      clear hru hk hal
      go_wp2_with fail
      go_meet
      exact ⟨_, _, rfl, Hall.out, Hal, Below.refl _ _⟩
  case rest =>
  obtain ⟨u, D, rfl, hG, Hsu, hbc⟩ := hcut
  obtain ⟨w6, rfl⟩ : ∃ w6 : World, w6 = wc := ⟨_, rfl⟩
  obtain ⟨ua, m, uc, rfl, hm, hm63, hcell⟩ := hG.open
  have HB6 := Lib.hid (HB5.out.trans (hbc.mono hsz15))
  have hsz16 : w.heap.size ≤ w6.heap.size := HB6.out.size
  have Hcx6 := Lib.hid (Hcx5.out.below hbc)
  have Hxp6 := Lib.hid (Hxp5.out.below hbc)
  have HQ6 := Lib.hid (HQ5.out.below hbc)
  have Hcell := Lib.hid hcell
  have Hm := Lib.hid hm
  clear c0 c1 c2 c3 c4 c5 c6 c7 hG hcell hbc hm Hall Hcx5 Hxp5 HQ5 HB5 hsz15
  go_wp2_with fail
  go_loopw [12] (fun i wr => ∃ (k : Nat), k ≤ m ∧ i = .int .i64 k ∧ Below w6.heap.size w6 wr) (fun i _ => m - (intOf i).toNat)
  case atStart => exact ⟨0, Nat.zero_le _, rfl, Below.refl _ _⟩
  case round =>
    obtain ⟨k, hk', rfl, hb⟩ := hrel
    obtain ⟨wo, rfl⟩ : ∃ wo : World, wo = wr := ⟨_, rfl⟩
    have Hb := Lib.hid hb
    by_cases hlt : k < m
    · obtain ⟨b, o, ra, rn, rc, rfl, hbl, f0, hV⟩ := Hcell.out k hlt
      have f0 := cell_below hb f0
      have hs := Hsu.out _ (nthU_mem (show k < D.length by rw [Hm.out]; exact hlt))
      have hg := suits_good (show n ≤ 20 by omega) HG.out hs
      have HS1 := Lib.hid (fun (W : World) (h : Below wo.heap.size wo W) => suits_is kd dm (.slice xa xn xc) (.slice ra rn rc) rt sz st ru hd 1000 n ps (nthU D k) W hk (by omega) (Hxp6.out.below (bel2 hb h)) Hps.out.1 Hps.out.2 (hV.below (bel2 hb h)) hg.1 hg.2)
      rw [hs] at HS1
      have HC1 := Lib.hid (fun (W : World) (h : Below wo.heap.size wo W) => cost_is kd dm (.slice xa xn xc) (.slice qa qn qc) (.slice ra rn rc) rt sz st ru hd n P (nthU D k) W hk (by omega) (HQ6.out.below (bel2 hb h)) HPo.out.at_ (hV.below (bel2 hb h)) hg.1 hg.2)
      have HC2 := Lib.hid (fun (W : World) (h : Below wo.heap.size wo W) => refCost_is kd dm (.slice xa xn xc) (.slice qa qn qc) (.slice ra rn rc) rt sz st ru hd n P (nthU D k) W hk (by omega) (HQ6.out.below (bel2 hb h)) HPo.out.at_ (hV.below (bel2 hb h)) hg.1 hg.2)
      generalize costV kd st rt sz hd P (nthU D k) n = KV at *
      obtain ⟨c0, c1, c2, c3, c4, c5, c6, c7⟩ := Hcx6.out.below hb
      have x8 := Ext.cell f0
      have hi0 : (0 : Int) ≤ (k : Int) := by omega
      have hi1 : (k : Int) < (m : Int) := by omega
      clear hb hV hs hg f0 hk Hsu
      have x0 := Ext.cell c0
      have x1 := Ext.cell c1
      have x2 := Ext.cell c2
      have x3 := Ext.cell c3
      have x4 := Ext.cell c4
      have x5 := Ext.cell c5
      have x6 := Ext.cell c6
      have x7 := Ext.cell c7
      clear c0 c1 c2 c3 c4 c5 c6 c7
      go_upto_region 13 with fail
      refine wp_region_ext (by kernel_rfl) (by kernel_rfl) ?_
      repeat (go_big_quiet_step (first
        | (go_at_call 19; exact ext_call _ (HS1.out _ (Ext.below _)))
        | (go_at_call 16; exact ext_call _ (HC1.out _ (Ext.below _)))
        | (go_at_call 23; exact ext_call _ (HC2.out _ (Ext.below _)))))
      refine wpQuiet_nil ?_
      intro _ hw'
      obtain ⟨z, rfl⟩ := hw'
      have Hz := Lib.hid (bel2 Hb.out z.below)
      obtain ⟨zw, hzw⟩ : ∃ zw, zw = z.w := ⟨_, rfl⟩
      go_wp2_with fail
      go_roundw
      case rel => exact ⟨k + 1, by omega, by go_num, Hz.out⟩
      case measure => simp [intOf]; omega
    · have hkm : k = m := by omega
      subst hkm
      have HB7 := Lib.hid (HB6.out.trans (hb.mono hsz16))
      have hsz17 : w.heap.size ≤ wo.heap.size := HB7.out.size
      clear hk hb
      go_wp2_with fail
      refine (lives11_is _).mono ?_
      rintro e w10 ⟨rfl, hb10⟩
      go_wp2_with fail
      go_ret
      exact ⟨rfl, HB7.out.trans (hb10.mono hsz17)⟩
end Go.Proofs.Ytpelbfjhljlbkaa
