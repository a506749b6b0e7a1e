/-
  My own work: the walk of AloneSolves.
-/
import Derived.Test.YtpelbfjhljlbkaaAloneAC
import Derived.Test.YtpelbfjhljlbkaaAloneW
import Derived.Test.YtpelbfjhljlbkaaAloneJ
import Derived.Deep.DrawnRows
namespace Go.Proofs.Ytpelbfjhljlbkaa
open Go.RowKit
set_option linter.unusedVariables false
set_option maxRecDepth 100000
attribute [local go_sem ↓] Go.wp_at_zero Go.wp_at_succ

set_option maxHeartbeats 6400000 in
theorem aloneSolves_walk (C : Cu) (pv lv : Value) (n0 : Int) (cap : Int) (L : List Int) (w : World) (hW : WfC C) (hp : Words w pv C.ps) (hn : (Lit.int .i64 n0).wf = true) (hL : Ints w lv L) (hLw : ∀ x ∈ L, (Lit.int .i64 x).wf = true) :
    Calls Try.prog 7 #[.agg #[.int .i64 C.kd, .int .i64 C.dm, pv, .int .i64 C.rt, .int .i64 C.sz, .int .i64 C.st, .int .i64 C.ru, .int .i64 C.hd], .int .i64 n0, .int .i64 cap, lv] w fun e w' => e = .returned (.bool true) ∧ Below w.heap.size w w' := by
  obtain ⟨w1, ew, hb1, hsz1, hcu⟩ := box_cust w C.kd C.dm pv C.rt C.sz C.st C.ru C.hd
  obtain ⟨n, hnn⟩ := Int.eq_ofNat_of_zero_le (show 0 ≤ rnd n0 1 6 by have := rnd_bd n0 1 6 (by decide); omega)
  have hnb := rnd_bd n0 1 6 (by decide)
  rw [hnn] at hnb
  have hR := round11_is n0 6 w1 hn (by decide) (by decide)
  rw [hnn] at hR
  have HR := Lib.hid hR
  have HCu := Lib.hid (customer_is C pv n w1 hW (hp.below hb1) (by omega) (by omega))
  have HL1 := Lib.hid (hL.below hb1)
  have HLw := Lib.hid hLw
  have Hew := Lib.hid ew
  obtain ⟨c0, c1, c2, c3, c4, c5, c6, c7⟩ := hcu
  clear ew hsz1 hR hW hp hn hL hLw hnn
  go_enter Try.func7, Try.ntmps7
  go_upto_region 1 with (fail)
  rw [Hew.out]
  go_wp2_with fail
  refine HR.out.mono ?_
  rintro e w' ⟨rfl, rfl⟩
  go_wp2_with fail
  refine HCu.out.mono ?_
  rintro e w2 ⟨X, xv, rfl, hG, hxp, hb2⟩
  obtain ⟨w3, ew3, hb3, hsz3, hx⟩ := box_cust w2 X.kd X.dm xv X.rt X.sz X.st X.ru X.hd
  have hb23 := bel2 hb2 hb3
  have HB3 := Lib.hid (hb1.trans (hb23.mono hb1.size))
  have hsz13 : w.heap.size ≤ w3.heap.size := HB3.out.size
  have HPr := Lib.hid (prices_is lv L w3 (HL1.out.below hb23) HLw.out)
  have Hxp := Lib.hid (hxp.below hb3)
  have HG := Lib.hid (good_ok hG)
  have Hps := Lib.hid (good_ps (show n ≤ 64 by omega) hG)
  have Hew3 := Lib.hid ew3
  have hxf := words_form hxp
  clear c0 c1 c2 c3 c4 c5 c6 c7 hG hxp hb2 hb3 ew3 hsz3 hb23
  obtain ⟨xa, xn, xc, rfl⟩ := hxf
  obtain ⟨kd, dm, ps, rt, sz, st, ru, hd⟩ := X
  simp only at HG Hew3 Hxp Hps hx
  have Hcx := Lib.hid (show IsCust w3 w2.heap.size kd dm (.slice xa xn xc) rt sz st ru hd from hx)
  clear hx
  obtain ⟨c0, c1, c2, c3, c4, c5, c6, c7⟩ := Hcx.out
  go_upto_region 3 with fail
  rw [Hew3.out]
  generalize w2.heap.size = g at *
  go_wp2_with fail
  refine HPr.out.mono ?_
  rintro e w4 ⟨qv, rfl, hown, hb4⟩
  have hPo : PriceOk (pricesL L 8) := fun x hx => by have := prices_bd L 8 x hx; omega
  have hPl : (pricesL L 8).length ≤ 8 := by unfold pricesL; rw [List.length_map]; exact List.length_take_le 8 L
  generalize pricesL L 8 = P at *
  have HPo := Lib.hid hPo
  have HQ := Lib.hid hown.ints
  have Hcx4 := Lib.hid (Hcx.out.below hb4)
  have Hxp4 := Lib.hid (Hxp.out.below hb4)
  have HB4 := Lib.hid (HB3.out.trans (hb4.mono hsz13))
  have hsz14 : w.heap.size ≤ w4.heap.size := HB4.out.size
  have hqf := own_slice hown
  have hk := ok_kd HG.out
  clear c0 c1 c2 c3 c4 c5 c6 c7 hown hb4 hPo
  clear Hcx Hxp HB3
  obtain ⟨qa, qn, qc, rfl⟩ := hqf
  obtain ⟨c0, c1, c2, c3, c4, c5, c6, c7⟩ := Hcx4.out
  go_wp2_with fail
  refine (solveC_is kd dm _ _ rt sz st ru hd cap n ps P w4 HG.out (by omega) Hxp4.out HQ.out HPo.out).mono ?_
  rintro e w5 ⟨V, x, hf, v, rfl, hv, hb5⟩
  obtain ⟨va, vn, vc, rfl, hvn, _, _⟩ := hv.vis.open
  have Hcx5 := Lib.hid (Hcx4.out.below hb5)
  have Hxp5 := Lib.hid (Hxp4.out.below hb5)
  have HQ5 := Lib.hid (HQ.out.below hb5)
  have HV := Lib.hid hv.vis
  have HB5 := Lib.hid (HB4.out.trans (hb5.mono hsz14))
  have hsz15 : w.heap.size ≤ w5.heap.size := HB5.out.size
  have Hvn := Lib.hid hvn
  have hE := easy_is kd dm (.slice xa xn xc) rt sz st ru hd cap n ps w5 HG.out (by omega) Hxp5.out
  rw [← found_easy (show n ≤ 20 by omega) hf] at hE
  have HE := Lib.hid hE
  have Hf := Lib.hid hf
  clear c0 c1 c2 c3 c4 c5 c6 c7 hv hb5 hf hE hvn Hcx4 Hxp4 HQ HB4
  obtain ⟨c0, c1, c2, c3, c4, c5, c6, c7⟩ := Hcx5.out
  go_wp2_with fail
  refine HE.out.mono ?_
  rintro e w6 ⟨rfl, hb6⟩
  obtain ⟨w5', rfl⟩ : ∃ q : World, q = w5 := ⟨_, rfl⟩
  have Hcx6 := Lib.hid (Hcx5.out.below hb6)
  have Hxp6 := Lib.hid (Hxp5.out.below hb6)
  have HQ6 := Lib.hid (HQ5.out.below hb6)
  have HV6 := Lib.hid (HV.out.below hb6)
  have HB6 := Lib.hid (HB5.out.trans (hb6.mono hsz15))
  have hsz16 : w.heap.size ≤ w6.heap.size := HB6.out.size
  clear c0 c1 c2 c3 c4 c5 c6 c7 hb6 Hcx5 Hxp5 HQ5 HV HB5 HE
  clear hsz14 hsz15
  obtain ⟨w5, rfl⟩ : ∃ q : World, q = w6 := ⟨_, rfl⟩
  have hne : (x != x) = false := by cases x <;> rfl
  have hxx : (x == x) = true := by cases x <;> rfl
  obtain ⟨c0, c1, c2, c3, c4, c5, c6, c7⟩ := Hcx6.out
  have b0 := Below.refl w5.heap.size w5
  have hsu := fun hb : x = true => found_suits (show n ≤ 20 by omega) HG.out Hf.out hb
  have HSu := Lib.hid (fun (Z : World) (hb : x = true) (h : Below w5.heap.size w5 Z) => refSuits_is kd dm (.slice xa xn xc) (.slice va vn vc) rt sz st ru hd cap n ps V Z hk (by omega) (Hxp6.out.below h) Hps.out.1 Hps.out.2 (HV6.out.below h) (suits_good (show n ≤ 20 by omega) HG.out (hsu hb)).1 (suits_good (show n ≤ 20 by omega) HG.out (hsu hb)).2)
  have Hsu := Lib.hid hsu
  clear hsu
  by_cases hru : ru = 2
  · obtain ⟨hk2, T⟩ : kd = 2 ∧ TankOk st rt sz ru hd := by
      rcases HG.out with ⟨_, _, _, _, _, _, h0⟩ | h
      · omega
      · exact h
    have hva : V = anyV st sz rt hd cap P n ∧ x = anyB st sz rt hd cap P n := by
      rcases Hf.out with ⟨h, _⟩ | ⟨_, h, _⟩ | ⟨_, _, _, h1, h2⟩
      · omega
      · omega
      · exact ⟨h1, h2⟩
    subst hru hk2
    have hAny := refAny_is dm (.slice xa xn xc) (.slice qa qn qc) rt sz st hd cap n P w5 T (by omega) HQ6.out HPo.out.at_
    rw [← hva.1, ← hva.2] at hAny
    have HAny := Lib.hid hAny
    have HSame := Lib.hid (fun (Z : World) (wv : Value) (h : Below w5.heap.size w5 Z) (hw : Vis Z wv V) => sameV_is (.slice va vn vc) wv V V Z (HV6.out.below h) hw)
    rw [decide_eq_true (rfl : V = V)] at HSame
    clear hk hAny hva T
    cases x with
    | false =>
      go_wp2_with fail
      refine HAny.out.mono ?_
      rintro e w7 ⟨wv, rfl, hw, hb7⟩
      obtain ⟨c0, c1, c2, c3, c4, c5, c6, c7⟩ := Hcx6.out.below hb7
      have HB7 := Lib.hid (HB6.out.trans (hb7.mono hsz16))
      have hsz17 : w.heap.size ≤ w7.heap.size := HB7.out.size
      have HS1 := Lib.hid (HSame.out w7 wv hb7 hw.vis)
      clear hw hb7
      go_wp2_with fail
      refine HS1.out.mono ?_
      rintro e w8 ⟨rfl, hb8⟩
      have HB8 := Lib.hid (HB7.out.trans (hb8.mono hsz17))
      have hsz18 : w.heap.size ≤ w8.heap.size := HB8.out.size
      clear hb8
      go_wp2_with fail
      refine (lives11_is _).mono ?_
      rintro e w10 ⟨rfl, hb10⟩
      go_wp2_with fail
      go_ret
      exact ⟨rfl, HB8.out.trans (hb10.mono hsz18)⟩
    | true =>
      have hs1 := Hsu.out rfl
      have HSu1 := Lib.hid (fun (Z : World) (h : Below w5.heap.size w5 Z) => HSu.out Z rfl h)
      rw [hs1] at HSu1
      clear hs1
      go_wp2_with fail
      refine HAny.out.mono ?_
      rintro e w7 ⟨wv, rfl, hw, hb7⟩
      obtain ⟨c0, c1, c2, c3, c4, c5, c6, c7⟩ := Hcx6.out.below hb7
      have HB7 := Lib.hid (HB6.out.trans (hb7.mono hsz16))
      have hsz17 : w.heap.size ≤ w7.heap.size := HB7.out.size
      have HS1 := Lib.hid (HSame.out w7 wv hb7 hw.vis)
      clear hw
      go_wp2_with fail
      refine HS1.out.mono ?_
      rintro e w8 ⟨rfl, hb8⟩
      have hb58 := bel2 hb7 hb8
      obtain ⟨c0, c1, c2, c3, c4, c5, c6, c7⟩ := Hcx6.out.below hb58
      have HSu2 := Lib.hid (HSu1.out _ hb58)
      have HB8 := Lib.hid (HB7.out.trans (hb8.mono hsz17))
      have hsz18 : w.heap.size ≤ w8.heap.size := HB8.out.size
      clear hb7 hb8 hb58
      go_wp2_with fail
      refine HSu2.out.mono ?_
      rintro e w9 ⟨rfl, hb9⟩
      have HB9 := Lib.hid (HB8.out.trans (hb9.mono hsz18))
      have hsz19 : w.heap.size ≤ w9.heap.size := HB9.out.size
      clear hb9
      go_wp2_with fail
      refine (lives11_is _).mono ?_
      rintro e w10 ⟨rfl, hb10⟩
      go_wp2_with fail
      go_ret
      exact ⟨rfl, HB9.out.trans (hb10.mono hsz19)⟩
  · have hru' : (ru == 2) = false := by simpa using hru
    obtain ⟨hx1, hx2⟩ := found_least (show n ≤ 20 by omega) HPo.out HG.out Hf.out hru
    have hall := allV_suits (cap := cap) (show n ≤ 20 by omega) HG.out
    have HA := Lib.hid (fun (W : World) (h : Below w5.heap.size w5 W) => allC_is kd dm (.slice xa xn xc) rt sz st ru hd cap n ps W HG.out (by omega) (Hxp6.out.below h))
    have HLe := Lib.hid (fun (W : World) (lv : Value) (h : Below w5.heap.size w5 W) (hGr : GridV W lv (allV kd dm ps rt sz st cap n)) => least_is kd dm (.slice xa xn xc) (.slice qa qn qc) lv rt sz st ru hd n P (allV kd dm ps rt sz st cap n) W hk (by omega) (HQ6.out.below h) HPo.out.at_ hGr (fun V hV => suits_good (show n ≤ 20 by omega) HG.out (hall V hV)))
    have HCo := Lib.hid (fun (Z : World) (hb : x = true) (h : Below w5.heap.size w5 Z) => refCost_is kd dm (.slice xa xn xc) (.slice qa qn qc) (.slice va vn vc) rt sz st ru hd n P V Z hk (by omega) (HQ6.out.below h) HPo.out.at_ (HV6.out.below h) (suits_good (show n ≤ 20 by omega) HG.out (Hsu.out hb)).1 (suits_good (show n ≤ 20 by omega) HG.out (Hsu.out hb)).2)
    have hno := fun hb : x = false => found_none Hf.out hb
    rw [← hx1] at HLe
    have HX2 := Lib.hid hx2
    have Hno := Lib.hid hno
    clear hall hx1 hx2 hk hru hno
    generalize allV kd dm ps rt sz st cap n = AV at *
    generalize leastU (fun U => costV kd st rt sz hd P U n) AV AV.length = LE at *
    go_upto_region 10 with fail
    go_cut [15, 16] (fun s9 s10 wx => s9 = .int .i64 LE ∧ s10 = .bool x ∧ Below w5.heap.size w5 wx)
    case first =>
      first
        | (go_region_held3 (fun w' => (w'.cell? ⟨g, 0, none⟩ = some (.int .i64 kd) ∧ w'.cell? ⟨g, 1, none⟩ = some (.int .i64 dm) ∧ w'.cell? ⟨g, 2, none⟩ = some (.slice xa xn xc) ∧ w'.cell? ⟨g, 3, none⟩ = some (.int .i64 rt) ∧ w'.cell? ⟨g, 4, none⟩ = some (.int .i64 sz) ∧ w'.cell? ⟨g, 5, none⟩ = some (.int .i64 st) ∧ w'.cell? ⟨g, 6, none⟩ = some (.int .i64 ru) ∧ w'.cell? ⟨g, 7, none⟩ = some (.int .i64 hd)))
            (first | go_keep | exact cust8_below b6 ⟨c0, c1, c2, c3, c4, c5, c6, c7⟩ | exact cust8_below b7 ⟨c0, c1, c2, c3, c4, c5, c6, c7⟩)
            (first
              | (go_at_call 21; refine (HA.out _ ?_).mono ?_; (first | exact b0 | exact belDrew _); rintro e w6 ⟨lv', rfl, hown, hb6⟩; have hq := hown.grid; (first | have b6 := bel2 b0 hb6 | have b6 := bel2 (belDrew w5) hb6))
              | (go_at_call 26; refine (HLe.out _ _ ?_ ?_).mono ?_; (first | exact b6 | exact bel2 b6 (belDrew _)); (first | exact hq | exact hq.below (belDrew _)); rintro e w7 ⟨rfl, hb7⟩; (first | have b7 := bel2 b6 hb7 | have b7 := bel2 (bel2 b6 (belDrew _)) hb7)))
            )
        | fail
      all_goals
        go_wp2_with fail
        go_meet
        first
          | exact ⟨rfl, rfl, b7⟩
          | exact ⟨rfl, rfl, b7.drew⟩
    case rest =>
      obtain ⟨rfl, rfl, hbc⟩ := hcut
      obtain ⟨w6, rfl⟩ : ∃ w6 : World, w6 = wc := ⟨_, rfl⟩
      have HB7 := Lib.hid (HB6.out.trans (hbc.mono hsz16))
      have hsz17 : w.heap.size ≤ w6.heap.size := HB7.out.size
      obtain ⟨c0, c1, c2, c3, c4, c5, c6, c7⟩ := Hcx6.out.below hbc
      cases x with
      | false =>
        have hV0 : vn = 0 := by rw [← Hvn.out, Hno.out rfl]; rfl
        have hV0' : ((vn : Int) == 0) = true := by subst hV0; rfl
        clear hV0 hbc
        go_wp2_with fail
        refine (lives11_is _).mono ?_
        rintro e w10 ⟨rfl, hb10⟩
        go_wp2_with fail
        go_ret
        exact ⟨rfl, HB7.out.trans (hb10.mono hsz17)⟩
      | true =>
        have hs1 := Hsu.out rfl
        have HSu1 := Lib.hid (HSu.out w6 rfl hbc)
        rw [hs1] at HSu1
        have HCo1 := Lib.hid (fun (Z : World) (h : Below w6.heap.size w6 Z) => HCo.out Z rfl (bel2 hbc h))
        rw [← HX2.out rfl] at HCo1
        clear hs1 hbc
        go_wp2_with fail
        refine HSu1.out.mono ?_
        rintro e w8 ⟨rfl, hb8⟩
        obtain ⟨c0, c1, c2, c3, c4, c5, c6, c7⟩ := (IsCust.mk c0 c1 c2 c3 c4 c5 c6 c7).below hb8
        have HB8 := Lib.hid (HB7.out.trans (hb8.mono hsz17))
        have hsz18 : w.heap.size ≤ w8.heap.size := HB8.out.size
        have HCo2 := Lib.hid (HCo1.out w8 hb8)
        clear hb8
        go_wp2_with fail
        refine HCo2.out.mono ?_
        rintro e w9 ⟨rfl, hb9⟩
        have HB9 := Lib.hid (HB8.out.trans (hb9.mono hsz18))
        have hsz19 : w.heap.size ≤ w9.heap.size := HB9.out.size
        clear hb9
        go_wp2_with fail
        refine (lives11_is _).mono ?_
        rintro e w10 ⟨rfl, hb10⟩
        go_wp2_with fail
        go_ret
        exact ⟨rfl, HB9.out.trans (hb10.mono hsz19)⟩
end Go.Proofs.Ytpelbfjhljlbkaa
