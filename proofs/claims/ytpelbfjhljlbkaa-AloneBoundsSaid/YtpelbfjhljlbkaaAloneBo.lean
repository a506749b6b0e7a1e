/-
  My own work: the walk of AloneBounds.
-/
import Derived.Test.YtpelbfjhljlbkaaAloneAC
import Derived.Deep.DrawnRows
namespace Go.Proofs.Ytpelbfjhljlbkaa
open Go.RowKit
set_option linter.unusedVariables false
set_option maxRecDepth 100000
attribute [local go_sem ↓] Go.wp_at_zero Go.wp_at_succ

set_option maxHeartbeats 6400000 in
theorem aloneBounds_walk (C : Cu) (pv lv : Value) (n0 : Int) (cap0 : Int) (L : List Int) (w : World) (hW : WfC C) (hp : Words w pv C.ps) (hn : (Lit.int .i64 n0).wf = true) (hL : Ints w lv L) (hLw : ∀ x ∈ L, (Lit.int .i64 x).wf = true) :
    Calls Try.prog 8 #[.agg #[.int .i64 C.kd, .int .i64 C.dm, pv, .int .i64 C.rt, .int .i64 C.sz, .int .i64 C.st, .int .i64 C.ru, .int .i64 C.hd], .int .i64 n0, .int .i64 cap0, lv] w fun e w' => e = .returned (.bool true) ∧ Below w.heap.size w w' := by
  obtain ⟨w1, ew, hb1, hsz1, hcu⟩ := box_cust w C.kd C.dm pv C.rt C.sz C.st C.ru C.hd
  obtain ⟨n, hnn⟩ := Int.eq_ofNat_of_zero_le (show 0 ≤ rnd n0 1 6 by have := rnd_bd n0 1 6 (by decide); omega)
  have hnb := rnd_bd n0 1 6 (by decide)
  rw [hnn] at hnb
  have hR := round11_is n0 6 w1 hn (by decide) (by decide)
  rw [hnn] at hR
  have HR := Lib.hid hR
  have HCu := Lib.hid (customer_is C pv n w1 hW (hp.below hb1) (by omega) (by omega))
  have HL1 := Lib.hid (hL.below hb1)
  have HLw := Lib.hid hLw
  have Hew := Lib.hid ew
  obtain ⟨c0, c1, c2, c3, c4, c5, c6, c7⟩ := hcu
  clear ew hsz1 hR hW hp hn hL hLw hnn
  go_enter Try.func8, Try.ntmps8
  go_upto_region 1 with (fail)
  rw [Hew.out]
  go_wp2_with fail
  refine HR.out.mono ?_
  rintro e w' ⟨rfl, rfl⟩
  go_wp2_with fail
  refine HCu.out.mono ?_
  rintro e w2 ⟨X, xv, rfl, hG, hxp, hb2⟩
  obtain ⟨w3, ew3, hb3, hsz3, hx⟩ := box_cust w2 X.kd X.dm xv X.rt X.sz X.st X.ru X.hd
  have hb23 := bel2 hb2 hb3
  have HB3 := Lib.hid (hb1.trans (hb23.mono hb1.size))
  have hsz13 : w.heap.size ≤ w3.heap.size := HB3.out.size
  have HPr := Lib.hid (prices_is lv L w3 (HL1.out.below hb23) HLw.out)
  have Hxp := Lib.hid (hxp.below hb3)
  have HG := Lib.hid (good_ok hG)
  have Hps := Lib.hid (good_ps (show n ≤ 64 by omega) hG)
  have Hew3 := Lib.hid ew3
  have hxf := words_form hxp
  clear c0 c1 c2 c3 c4 c5 c6 c7 hG hxp hb2 hb3 ew3 hsz3 hb23
  obtain ⟨xa, xn, xc, rfl⟩ := hxf
  obtain ⟨kd, dm, ps, rt, sz, st, ru, hd⟩ := X
  simp only at HG Hew3 Hxp Hps hx
  have Hcx := Lib.hid (show IsCust w3 w2.heap.size kd dm (.slice xa xn xc) rt sz st ru hd from hx)
  clear hx
  obtain ⟨c0, c1, c2, c3, c4, c5, c6, c7⟩ := Hcx.out
  go_upto_region 3 with fail
  rw [Hew3.out]
  generalize w2.heap.size = g at *
  go_wp2_with fail
  refine HPr.out.mono ?_
  rintro e w4 ⟨qv, rfl, hown, hb4⟩
  have hPo : PriceOk (pricesL L 8) := fun x hx => by have := prices_bd L 8 x hx; omega
  have hPl : (pricesL L 8).length ≤ 8 := by unfold pricesL; rw [List.length_map]; exact List.length_take_le 8 L
  generalize pricesL L 8 = P at *
  have HPo := Lib.hid hPo
  have HQ := Lib.hid hown.ints
  have Hcx4 := Lib.hid (Hcx.out.below hb4)
  have Hxp4 := Lib.hid (Hxp.out.below hb4)
  have HB4 := Lib.hid (HB3.out.trans (hb4.mono hsz13))
  have hsz14 : w.heap.size ≤ w4.heap.size := HB4.out.size
  have hqf := own_slice hown
  have hk := ok_kd HG.out
  clear c0 c1 c2 c3 c4 c5 c6 c7 hown hb4 hPo
  clear Hcx Hxp HB3
  obtain ⟨qa, qn, qc, rfl⟩ := hqf
  obtain ⟨c0, c1, c2, c3, c4, c5, c6, c7⟩ := Hcx4.out
  obtain ⟨cap, hcap⟩ : ∃ c : Int, c = if cap0 < 0 ∨ 2147483648 < cap0 then 9 else cap0 := ⟨_, rfl⟩
  have hcb : 0 ≤ cap ∧ cap ≤ 2147483648 := by rw [hcap]; split <;> omega
  have Hcap := Lib.hid hcap
  clear hcap
  obtain ⟨B, hB⟩ : ∃ B : Bool, B = decide (cap0 < 0 ∨ 2147483648 < cap0) := ⟨_, rfl⟩
  have HB := Lib.hid hB
  clear hB
  go_upto_region 4 with fail
  go_cut [23] (fun sb wx => sb = .bool B ∧ w4 = wx)
  case first =>
    have hcase : (decide (cap0 < 0) = true ∧ Hid (B = true)) ∨ (decide (cap0 < 0) = false ∧ decide (2147483648 < cap0) = true ∧ Hid (B = true)) ∨ (decide (cap0 < 0) = false ∧ decide (2147483648 < cap0) = false ∧ Hid (B = false)) := by
      have h := HB.out
      by_cases q1 : cap0 < 0
      · exact .inl ⟨by simpa using q1, by rw [h, decide_eq_true (Or.inl q1)]; rfl⟩
      · by_cases q2 : 2147483648 < cap0
        · exact .inr (.inl ⟨by simpa using q1, by simpa using q2, by rw [h, decide_eq_true (Or.inr q2)]; rfl⟩)
        · exact .inr (.inr ⟨by simpa using q1, by simpa using q2, by rw [h, decide_eq_false (by omega)]; rfl⟩)
    rcases hcase with ⟨q1, hm⟩ | ⟨q1, q2, hm⟩ | ⟨q1, q2, hm⟩
    all_goals
      go_wp2_with fail
      go_meet
      exact ⟨by rw [hm.out], rfl⟩
  case rest =>
  obtain ⟨rfl, rfl⟩ := hcut
  obtain ⟨w4, rfl⟩ : ∃ wq : World, wq = w4 := ⟨_, rfl⟩
  go_upto_if 23 with fail
  go_cut [2] (fun s2 wx => s2 = .int .i64 cap ∧ w4 = wx)
  case first =>
    have hB := HB.out
    cases B with
    | true =>
      have hm : Hid (cap = 9) := Lib.hid (by rw [Hcap.out, if_pos (of_decide_eq_true hB.symm)])
      go_wp2_with fail
      go_meet
      exact ⟨by rw [hm.out], rfl⟩
    | false =>
      have hm : Hid (cap = cap0) := Lib.hid (by rw [Hcap.out, if_neg (of_decide_eq_false hB.symm)])
      go_wp2_with fail
      go_meet
      exact ⟨by rw [hm.out], rfl⟩
  case rest =>
  obtain ⟨rfl, rfl⟩ := hcut
  obtain ⟨w4, rfl⟩ : ∃ wq : World, wq = w4 := ⟨_, rfl⟩
  have HBo := Lib.hid (fun (W : World) (h : Below w4.heap.size w4 W) => bound_is kd dm (.slice xa xn xc) (.slice qa qn qc) rt sz st ru hd cap n ps P W HG.out (by omega) (Hxp4.out.below h) (HQ.out.below h) HPo.out)
  have HRe := Lib.hid (fun (W : World) (h : Below w4.heap.size w4 W) => refBound_is kd dm (.slice xa xn xc) (.slice qa qn qc) rt sz st ru hd cap n ps P W HG.out (by omega) (by omega) (Hxp4.out.below h) (HQ.out.below h) HPo.out)
  generalize boundI kd dm ps rt sz st ru hd cap P n = BV at *
  clear hk HPo HQ Hxp4 Hcx4 HCu HR HPr HG
  have x0 := Ext.cell c0
  have x1 := Ext.cell c1
  have x2 := Ext.cell c2
  have x3 := Ext.cell c3
  have x4 := Ext.cell c4
  have x5 := Ext.cell c5
  have x6 := Ext.cell c6
  have x7 := Ext.cell c7
  clear c0 c1 c2 c3 c4 c5 c6 c7
  go_upto_region 6 with fail
  refine wp_region_ext (by kernel_rfl) (by kernel_rfl) ?_
  repeat (go_big_quiet_step (first
    | (go_at_call 27; exact ext_call _ (HBo.out _ (Ext.below _)))
    | (go_at_call 28; exact ext_call _ (HRe.out _ (Ext.below _)))
    | (go_at_call 14; exact ext_call _ (lives11_is _))))
  refine wpQuiet_nil ?_
  intro _ hw'
  obtain ⟨z, rfl⟩ := hw'
  go_wp2_with fail
  go_ret
  exact ⟨rfl, HB4.out.trans (z.below.mono hsz14)⟩
end Go.Proofs.Ytpelbfjhljlbkaa
