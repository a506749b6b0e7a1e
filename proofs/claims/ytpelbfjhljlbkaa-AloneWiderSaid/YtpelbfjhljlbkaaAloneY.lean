/-
  My own work: the walk of AloneWider.
-/
import Derived.Test.YtpelbfjhljlbkaaAloneX
import Derived.Test.YtpelbfjhljlbkaaExt
namespace Go.Proofs.Ytpelbfjhljlbkaa
open Go.RowKit
set_option linter.unusedVariables false
set_option maxRecDepth 100000
attribute [local go_sem ↓] Go.wp_at_zero Go.wp_at_succ

theorem good_dm {n : Nat} {X : Cu} (h : GoodC n X) : fitsI X.dm = true := by
  rcases h with ⟨_, h, _⟩ | ⟨_, h1, h2, _⟩
  · rw [h]; decide
  · exact fitsI_iff.2 (by omega)

set_option maxHeartbeats 6400000 in
theorem aloneWider_walk (C : Cu) (pv lv : Value) (n0 a b : Int) (L : List Int) (w : World) (hW : WfC C) (hp : Words w pv C.ps) (hn : (Lit.int .i64 n0).wf = true) (hL : Ints w lv L) (hLw : ∀ x ∈ L, (Lit.int .i64 x).wf = true) :
    Calls Try.prog 3 #[.agg #[.int .i64 C.kd, .int .i64 C.dm, pv, .int .i64 C.rt, .int .i64 C.sz, .int .i64 C.st, .int .i64 C.ru, .int .i64 C.hd], .int .i64 n0, .int .i64 a, .int .i64 b, lv] w fun e w' => e = .returned (.bool true) ∧ Below w.heap.size w w' := by
  obtain ⟨w1, ew, hb1, hsz1, hcu⟩ := box_cust w C.kd C.dm pv C.rt C.sz C.st C.ru C.hd
  obtain ⟨n, hnn⟩ := Int.eq_ofNat_of_zero_le (show 0 ≤ rnd n0 1 6 by have := rnd_bd n0 1 6 (by decide); omega)
  have hnb := rnd_bd n0 1 6 (by decide)
  rw [hnn] at hnb
  have hR := round11_is n0 6 w1 hn (by decide) (by decide)
  rw [hnn] at hR
  have HR := Lib.hid hR
  have HCu := Lib.hid (customer_is C pv n w1 hW (hp.below hb1) (by omega) (by omega))
  have HL1 := Lib.hid (hL.below hb1)
  have HLw := Lib.hid hLw
  have Hew := Lib.hid ew
  obtain ⟨c0, c1, c2, c3, c4, c5, c6, c7⟩ := hcu
  clear ew hsz1 hR hW hp hn hL hLw hnn
  go_enter Try.func3, Try.ntmps3
  go_upto_region 1 with (fail)
  rw [Hew.out]
  go_wp2_with fail
  refine HR.out.mono ?_
  rintro e w' ⟨rfl, rfl⟩
  go_wp2_with fail
  refine HCu.out.mono ?_
  rintro e w2 ⟨X, xv, rfl, hG, hxp, hb2⟩
  obtain ⟨w3, ew3, hb3, hsz3, hx⟩ := box_cust w2 X.kd X.dm xv X.rt X.sz X.st X.ru X.hd
  have hb23 := bel2 hb2 hb3
  have HB3 := Lib.hid (hb1.trans (hb23.mono hb1.size))
  have hsz13 : w.heap.size ≤ w3.heap.size := HB3.out.size
  have HPr := Lib.hid (prices_is lv L w3 (HL1.out.below hb23) HLw.out)
  have Hxp := Lib.hid (hxp.below hb3)
  have HG := Lib.hid hG
  have Hew3 := Lib.hid ew3
  have hxf := words_form hxp
  clear c0 c1 c2 c3 c4 c5 c6 c7 hG hxp hb2 hb3 ew3 hsz3 hb23
  obtain ⟨xa, xn, xc, rfl⟩ := hxf
  obtain ⟨kd, dm, ps, rt, sz, st, ru, hd⟩ := X
  simp only at HG Hew3 Hxp hx
  have Hcx := Lib.hid (show IsCust w3 w2.heap.size kd dm (.slice xa xn xc) rt sz st ru hd from hx)
  clear hx
  obtain ⟨c0, c1, c2, c3, c4, c5, c6, c7⟩ := Hcx.out
  go_upto_region 3 with fail
  rw [Hew3.out]
  generalize w2.heap.size = g at *
  go_wp2_with fail
  refine HPr.out.mono ?_
  rintro e w4 ⟨qv, rfl, hown, hb4⟩
  have hPo : PriceOk (pricesL L 8) := fun x hx => by have := prices_bd L 8 x hx; omega
  generalize pricesL L 8 = P at *
  have HPo := Lib.hid hPo
  have HQ := Lib.hid hown.ints
  have Hcx4 := Lib.hid (Hcx.out.below hb4)
  have Hxp4 := Lib.hid (Hxp.out.below hb4)
  have HB4 := Lib.hid (HB3.out.trans (hb4.mono hsz13))
  have hsz14 : w.heap.size ≤ w4.heap.size := HB4.out.size
  clear c0 c1 c2 c3 c4 c5 c6 c7 hown hb4 hPo
  clear Hcx Hxp HB3
  obtain ⟨c0, c1, c2, c3, c4, c5, c6, c7⟩ := Hcx4.out
  have hcase : (decide (a < 0) = true) ∨ (decide (a < 0) = false ∧ decide (b < a) = true) ∨ (decide (a < 0) = false ∧ decide (b < a) = false ∧ decide (2147483648 < b) = true) ∨ (decide (a < 0) = false ∧ decide (b < a) = false ∧ decide (2147483648 < b) = false) := by
    by_cases q1 : a < 0
    · exact .inl (by simpa using q1)
    · by_cases q2 : b < a
      · exact .inr (.inl ⟨by simpa using q1, by simpa using q2⟩)
      · by_cases q3 : 2147483648 < b
        · exact .inr (.inr (.inl ⟨by simpa using q1, by simpa using q2, by simpa using q3⟩))
        · exact .inr (.inr (.inr ⟨by simpa using q1, by simpa using q2, by simpa using q3⟩))
  rcases hcase with q1 | ⟨q1, q2⟩ | ⟨q1, q2, q3⟩ | ⟨q1, q2, q3⟩
  · go_wp2_with fail
    refine (lives11_is _).mono ?_
    rintro e w10 ⟨rfl, hb10⟩
    go_wp2_with fail
    go_ret
    exact ⟨rfl, HB4.out.trans (hb10.mono hsz14)⟩
  · go_wp2_with fail
    refine (lives11_is _).mono ?_
    rintro e w10 ⟨rfl, hb10⟩
    go_wp2_with fail
    go_ret
    exact ⟨rfl, HB4.out.trans (hb10.mono hsz14)⟩
  · go_wp2_with fail
    refine (lives11_is _).mono ?_
    rintro e w10 ⟨rfl, hb10⟩
    go_wp2_with fail
    go_ret
    exact ⟨rfl, HB4.out.trans (hb10.mono hsz14)⟩
  · have ha0 : 0 ≤ a := by have := of_decide_eq_false q1; omega
    have hab : a ≤ b := by have := of_decide_eq_false q2; omega
    go_wp2_with fail
    refine (solve_is kd dm _ _ rt sz st ru hd a n ps P w4 HG.out (by omega) Hxp4.out HQ.out HPo.out).mono ?_
    rintro e w5 ⟨V, x, hf1, v, rfl, hv, hb5⟩
    have Hf1 := Lib.hid hf1
    have HV := Lib.hid hv.vis
    have Hcx5 := Lib.hid (Hcx4.out.below hb5)
    have Hxp5 := Lib.hid (Hxp4.out.below hb5)
    have HQ5 := Lib.hid (HQ.out.below hb5)
    have HB5 := Lib.hid (HB4.out.trans (hb5.mono hsz14))
    have hsz15 : w.heap.size ≤ w5.heap.size := HB5.out.size
    clear c0 c1 c2 c3 c4 c5 c6 c7 hf1 hv hb5 Hcx4 Hxp4 HQ HB4
    obtain ⟨c0, c1, c2, c3, c4, c5, c6, c7⟩ := Hcx5.out
    go_wp2_with fail
    refine (solve_is kd dm _ _ rt sz st ru hd b n ps P w5 HG.out (by omega) Hxp5.out HQ5.out HPo.out).mono ?_
    rintro e w6 ⟨W, y, hf2, u, rfl, hu, hb6⟩
    have hwid := found_wider HPo.out (show n ≤ 20 by omega) ha0 hab Hf1.out hf2
    have hdm := good_dm HG.out
    have hg1 := found_good (n := n) hdm (by omega) Hf1.out
    have hg2 := found_good (n := n) hdm (by omega) hf2
    have hk := good_tank HG.out
    simp only at hk
    have HU := Lib.hid hu.vis
    have HV6 := Lib.hid (HV.out.below hb6)
    have Hcx6 := Lib.hid (Hcx5.out.below hb6)
    have HQ6 := Lib.hid (HQ5.out.below hb6)
    have HB6 := Lib.hid (HB5.out.trans (hb6.mono hsz15))
    have hsz16 : w.heap.size ≤ w6.heap.size := HB6.out.size
    have HS := Lib.hid (fun (Z : World) (h : Below w6.heap.size w6 Z) => cost_is kd dm (.slice xa xn xc) qv v rt sz st ru hd n P V Z hk (by omega) (HQ6.out.below h) HPo.out.at_ (HV6.out.below h) hg1.1 hg1.2)
    have HT := Lib.hid (fun (Z : World) (h : Below w6.heap.size w6 Z) => cost_is kd dm (.slice xa xn xc) qv u rt sz st ru hd n P W Z hk (by omega) (HQ6.out.below h) HPo.out.at_ (HU.out.below h) hg2.1 hg2.2)
    generalize costV kd st rt sz hd P V n = kv at *
    generalize costV kd st rt sz hd P W n = ku at *
    have hru : (ru == 2) = true ∨ ((ru == 2) = false ∧ ru ≠ 2) := by
      by_cases h : ru = 2
      · exact .inl (by simpa using h)
      · exact .inr ⟨by simpa using h, h⟩
    clear c0 c1 c2 c3 c4 c5 c6 c7 hf2 hu hb6 Hcx5 Hxp5 HQ5 HB5 HG hdm hg1 hg2 hk Hf1 HV HU
    have hcx6 := Hcx6.out
    have e0 := Ext.cell hcx6.c0
    have e1 := Ext.cell hcx6.c1
    have e2 := Ext.cell hcx6.c2
    have e3 := Ext.cell hcx6.c3
    have e4 := Ext.cell hcx6.c4
    have e5 := Ext.cell hcx6.c5
    have e6 := Ext.cell hcx6.c6
    have e7 := Ext.cell hcx6.c7
    clear hcx6
    cases x with
    | false =>
      clear hwid
      go_upto_region 10 with fail
      refine wp_region_ext (by kernel_rfl) (by kernel_rfl) ?_
      repeat (go_big_quiet_step (first
        | (go_at_call 14; exact ext_call _ (lives11_is _))))
      refine wpQuiet_nil ?_
      intro _ hw'
      obtain ⟨z, rfl⟩ := hw'
      go_wp2_with fail
      go_ret
      exact ⟨rfl, HB6.out.trans (z.below.mono hsz16)⟩
    | true =>
      obtain ⟨rfl, hle⟩ := hwid rfl
      rcases hru with hru | ⟨hru, hne⟩
      · clear hle
        go_upto_region 10 with fail
        refine wp_region_ext (by kernel_rfl) (by kernel_rfl) ?_
        repeat (go_big_quiet_step (first
          | (go_at_call 14; exact ext_call _ (lives11_is _))))
        refine wpQuiet_nil ?_
        intro _ hw'
        obtain ⟨z, rfl⟩ := hw'
        go_wp2_with fail
        go_ret
        exact ⟨rfl, HB6.out.trans (z.below.mono hsz16)⟩
      · have hle' : decide (ku ≤ kv) = true := decide_eq_true (hle hne)
        clear hle hne
        go_upto_region 10 with fail
        refine wp_region_ext (by kernel_rfl) (by kernel_rfl) ?_
        repeat (go_big_quiet_step (first
          | (go_at_call_of 16 v; exact ext_call _ (HS.out _ (Ext.below _)))
          | (go_at_call_of 16 u; exact ext_call _ (HT.out _ (Ext.below _)))
          | (go_at_call 14; exact ext_call _ (lives11_is _))))
        refine wpQuiet_nil ?_
        intro _ hw'
        obtain ⟨z, rfl⟩ := hw'
        go_wp2_with fail
        go_ret
        exact ⟨rfl, HB6.out.trans (z.below.mono hsz16)⟩
end Go.Proofs.Ytpelbfjhljlbkaa
