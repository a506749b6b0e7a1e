/-
  My own work: the walk of AloneBelow.
-/
import Derived.Test.YtpelbfjhljlbkaaAloneAC
import Derived.Test.YtpelbfjhljlbkaaAloneI
import Derived.Test.YtpelbfjhljlbkaaMStock
import Derived.Deep.DrawnRows
namespace Go.Proofs.Ytpelbfjhljlbkaa
open Go.RowKit
set_option linter.unusedVariables false
set_option maxRecDepth 100000
attribute [local go_sem ↓] Go.wp_at_zero Go.wp_at_succ

/-- The most of the first bringings. -/
def mostTo (q : List Int) : Nat → Int
  | 0 => 0
  | k + 1 => if mostTo q k < nth q k then nth q k else mostTo q k
theorem mostTo_le (q : List Int) (k j : Nat) (h : j < k) : nth q j ≤ mostTo q k := by
  induction k with
  | zero => omega
  | succ k ih =>
    rw [mostTo]
    by_cases e : j = k
    · subst e; split <;> omega
    · have := ih (by omega)
      split <;> omega
/-- Bringings that may be, by the most of them. -/
theorem holds_suit {st rt sz ru : Int} {q : List Int} {n : Nat} (hl : q.length = n) (h : holdsE st rt sz ru q = 0) : SuitQ st rt sz ru (mostTo q n) q n := by
  obtain ⟨h0, hfull⟩ := holdsE_inv h
  have hday := nightsE_zero h0
  rw [hl] at hday hfull
  have hok : q.all okQ = true := by
    rcases nightsE_cases st rt sz q with ⟨h, _⟩ | ⟨_, h⟩ | ⟨_, h, _⟩
    · rw [h] at h0; cases h0
    · exact h
    · exact h
  refine ⟨hl, hok, hday, fun k hk _ => mostTo_le q n k hk, fun hr k hk hp => ?_⟩
  have := hfull hr k hk
  unfold fillsUp at this
  rw [Bool.or_eq_true, decide_eq_true_eq, decide_eq_true_eq] at this
  omega

set_option maxHeartbeats 6400000 in
theorem aloneBelow_walk (C : Cu) (pv qv0 lv : Value) (Q0 L : List Int) (w : World) (hW : WfC C) (hp : Words w pv C.ps) (hq : Ints w qv0 Q0) (hL : Ints w lv L) (hLw : ∀ x ∈ L, (Lit.int .i64 x).wf = true) :
    Calls Try.prog 10 #[.agg #[.int .i64 C.kd, .int .i64 C.dm, pv, .int .i64 C.rt, .int .i64 C.sz, .int .i64 C.st, .int .i64 C.ru, .int .i64 C.hd], qv0, lv] w fun e w' => e = .returned (.bool true) ∧ Below w.heap.size w w' := by
  obtain ⟨w1, ew, hb1, hsz1, hcu⟩ := box_cust w C.kd C.dm pv C.rt C.sz C.st C.ru C.hd
  obtain ⟨a, m0, c, rfl, hm0, _, _⟩ := hq.open
  have hmc := hq.cap
  have HT := Lib.hid (tank_is C.kd C.dm pv C.rt C.sz C.st C.ru C.hd w1 hW.rt hW.sz hW.st hW.ru hW.hd)
  have HQ1 := Lib.hid (hq.below hb1)
  have HL1 := Lib.hid (hL.below hb1)
  have HLw := Lib.hid hLw
  have Hew := Lib.hid ew
  have Hm0 := Lib.hid hm0
  obtain ⟨c0, c1, c2, c3, c4, c5, c6, c7⟩ := hcu
  clear ew hsz1 hW hp hq hL hLw hm0
  go_enter Try.func10, Try.ntmps10
  go_upto_region 1 with (fail)
  rw [Hew.out]
  go_wp2_with fail
  refine HT.out.mono ?_
  rintro e w2 ⟨rfl, hb2⟩
  obtain ⟨w3, ew3, hb3, hsz3, hx⟩ := box_cust w2 2 0 (.slice none 0 0) (rnd C.rt 0 12) (rnd C.sz 1 40) (rnd C.st 0 (rnd C.sz 1 40)) (rnd C.ru 1 2) (rnd C.hd 0 9)
  have hT : TankOk (rnd C.st 0 (rnd C.sz 1 40)) (rnd C.rt 0 12) (rnd C.sz 1 40) (rnd C.ru 1 2) (rnd C.hd 0 9) := by
    have h1 := rnd_bd C.rt 0 12 (by decide)
    have h2 := rnd_bd C.sz 1 40 (by decide)
    have h3 := rnd_bd C.st 0 (rnd C.sz 1 40) (by omega)
    have h4 := rnd_bd C.ru 1 2 (by decide)
    have h5 := rnd_bd C.hd 0 9 (by decide)
    exact ⟨by omega, by omega, by omega, by omega, by omega, by omega, by omega, by omega, by omega⟩
  have HTk := Lib.hid hT
  clear hT
  generalize rnd C.st 0 (rnd C.sz 1 40) = st at *
  generalize rnd C.rt 0 12 = rt at *
  generalize rnd C.sz 1 40 = sz at *
  generalize rnd C.ru 1 2 = ru at *
  generalize rnd C.hd 0 9 = hd at *
  have hb23 := bel2 hb2 hb3
  have HB3 := Lib.hid (hb1.trans (hb23.mono hb1.size))
  have hsz13 : w.heap.size ≤ w3.heap.size := HB3.out.size
  have HL3 := Lib.hid (HL1.out.below hb23)
  have HQ3 := Lib.hid (HQ1.out.below hb23)
  have Hew3 := Lib.hid ew3
  have Hcx := Lib.hid hx
  clear c0 c1 c2 c3 c4 c5 c6 c7 hb2 hb3 ew3 hsz3 hb23 hx
  obtain ⟨c0, c1, c2, c3, c4, c5, c6, c7⟩ := Hcx.out
  go_upto_region 2 with fail
  rw [Hew3.out]
  generalize w2.heap.size = g at *
  go_upto_if 17 with fail
  go_cut [1] (fun s1 wx => ∃ (m : Nat), s1 = .slice a m c ∧ m ≤ 8 ∧ Ints w3 (.slice a m c) (Q0.take m) ∧ m ≤ m0 ∧ w3 = wx)
  case first =>
    by_cases h8 : 8 < m0
    · have h8' : decide (8 < (m0 : Int)) = true := by simp; omega
      have hi1 : (8 : Int) ≤ (c : Int) := by omega
      have hi2 : 8 ≤ c := by omega
      have HVt := Lib.hid (HQ3.out.take (show 8 ≤ m0 by omega))
      clear h8
      rw [h8']
      go_wp2_with fail
      go_meet
      exact ⟨8, rfl, by omega, HVt.out, by have := of_decide_eq_true h8'; omega, rfl⟩
    · have h8' : decide (8 < (m0 : Int)) = false := by simp; omega
      have hm8 : m0 ≤ 8 := by omega
      have HVt := Lib.hid (HQ3.out.take (Nat.le_refl m0))
      clear h8
      rw [h8']
      go_wp2_with fail
      go_meet
      exact ⟨m0, rfl, hm8, HVt.out, Nat.le_refl _, rfl⟩
  case rest =>
  obtain ⟨m, rfl, hm8, hqt, hmm0, rfl⟩ := hcut
  obtain ⟨w3, rfl⟩ : ∃ wq : World, wq = w3 := ⟨_, rfl⟩
  have hql : (Q0.take m).length = m := by rw [List.length_take, Hm0.out]; omega
  generalize Q0.take m = q at *
  have HQ := Lib.hid hqt
  have Hql := Lib.hid hql
  have HPr := Lib.hid (prices_is lv L w3 HL3.out HLw.out)
  clear hqt hql hmm0 hmc HQ3 HQ1 HL3 HL1 HT Hm0 HLw
  go_wp2_with fail
  refine HPr.out.mono ?_
  rintro e w4 ⟨pq, rfl, hown, hb4⟩
  have hPo : PriceOk (pricesL L 8) := fun x hx => by have := prices_bd L 8 x hx; omega
  generalize pricesL L 8 = P at *
  have HPo := Lib.hid hPo
  have HP4 := Lib.hid hown.ints
  have HQ4 := Lib.hid (HQ.out.below hb4)
  have Hcx4 := Lib.hid (Hcx.out.below hb4)
  have HB4 := Lib.hid (HB3.out.trans (hb4.mono hsz13))
  have hsz14 : w.heap.size ≤ w4.heap.size := HB4.out.size
  have hqf := own_slice hown
  clear c0 c1 c2 c3 c4 c5 c6 c7 hown hb4 hPo Hcx HQ HB3 HPr
  obtain ⟨qa, qn, qc, rfl⟩ := hqf
  obtain ⟨c0, c1, c2, c3, c4, c5, c6, c7⟩ := Hcx4.out
  by_cases hm0 : m = 0
  · have h0' : ((m : Int) == 0) = true := by simp; omega
    clear hm0
    go_wp2_with fail
    refine (lives11_is _).mono ?_
    rintro e w10 ⟨rfl, hb10⟩
    go_wp2_with fail
    go_ret
    exact ⟨rfl, HB4.out.trans (hb10.mono hsz14)⟩
  have h0' : ((m : Int) == 0) = false := by simp; omega
  have hSm : Small st rt sz q := ⟨HTk.out.st0, by have := HTk.out.st1; have := HTk.out.sz1; omega, HTk.out.rt0, by have := HTk.out.rt1; omega, by rw [Hql.out]; omega⟩
  have HHo := Lib.hid (refHolds_is 2 0 (.slice none 0 0) rt sz st ru hd (.slice a m c) q w4 HQ4.out hSm)
  by_cases hE : holdsE st rt sz ru q = 0
  rotate_left
  · have hE' : (holdsE st rt sz ru q != 0) = true := by simpa using hE
    generalize holdsE st rt sz ru q = E at *
    clear hE hSm
    go_wp2_with fail
    refine HHo.out.mono ?_
    rintro e w5 ⟨rfl, hb5⟩
    have HB5 := Lib.hid (HB4.out.trans (hb5.mono hsz14))
    have hsz15 : w.heap.size ≤ w5.heap.size := HB5.out.size
    clear hb5
    go_wp2_with fail
    refine (lives11_is _).mono ?_
    rintro e w10 ⟨rfl, hb10⟩
    go_wp2_with fail
    go_ret
    exact ⟨rfl, HB5.out.trans (hb10.mono hsz15)⟩
  have hS := holds_suit Hql.out hE
  have HS := Lib.hid hS
  rw [hE] at HHo
  have hC : CuOk m 2 0 [] rt sz st ru hd := .inr ⟨rfl, HTk.out⟩
  have hsu := suit_to (dm := 0) (ps := []) hS (show m ≤ 20 by omega)
  have hgo := suits_good (show m ≤ 20 by omega) hC hsu
  have hble := bound_le (show m ≤ 20 by omega) HPo.out hC hsu
  have HC := Lib.hid hC
  have Hsu := Lib.hid hsu
  have Hgo := Lib.hid hgo
  have Hble := Lib.hid hble
  have Hm0 := Lib.hid hm0
  clear hE hSm hS hC hsu hgo hble hm0
  go_wp2_with fail
  refine HHo.out.mono ?_
  rintro e w5 ⟨rfl, hb5⟩
  have HP5 := Lib.hid (HP4.out.below hb5)
  have HQ5 := Lib.hid (HQ4.out.below hb5)
  have Hcx5 := Lib.hid (Hcx4.out.below hb5)
  have HB5 := Lib.hid (HB4.out.trans (hb5.mono hsz14))
  have hsz15 : w.heap.size ≤ w5.heap.size := HB5.out.size
  clear c0 c1 c2 c3 c4 c5 c6 c7 hb5 HHo HP4 HQ4 Hcx4 HB4 hsz14
  obtain ⟨a', n', c', he, _, _, hcell⟩ := HQ5.out.open
  simp only [Value.slice.injEq] at he
  obtain ⟨rfl, rfl, rfl⟩ := he
  have Hcell := Lib.hid hcell
  clear hcell
  go_wp2_with fail
  go_loopw [9, 10] (fun s i wr => ∃ (k : Nat) (M : Int), k ≤ m ∧ i = .int .i64 k ∧ s = .int .i64 M ∧ M = mostTo q k ∧ w5 = wr) (fun _ i _ => m - (intOf i).toNat)
  case atStart => exact ⟨0, 0, Nat.zero_le _, rfl, rfl, rfl, rfl⟩
  case round =>
    obtain ⟨k, M, hk, rfl, rfl, hM, rfl⟩ := hrel
    by_cases hlt : k < m
    · obtain ⟨b, o, rfl, f0⟩ := Hcell.out k hlt
      have hst : mostTo q (k + 1) = if M < nth q k then nth q k else M := by rw [mostTo, ← hM]
      generalize nth q k = X at *
      have hi0 : (0 : Int) ≤ (k : Int) := by omega
      have hi1 : (k : Int) < (m : Int) := by omega
      by_cases h : M < X
      · have h' : decide (M < X) = true := decide_eq_true h
        rw [if_pos h] at hst
        have Hst := Lib.hid hst
        clear h hst hM
        go_wp2_with fail
        go_roundw
        case rel => exact ⟨k + 1, X, by omega, by go_num, rfl, Hst.out.symm, by first | rfl | trivial⟩
        case measure => simp [intOf]; omega
      · have h' : decide (M < X) = false := decide_eq_false h
        rw [if_neg h] at hst
        have Hst := Lib.hid hst
        clear h hst hM
        go_wp2_with fail
        go_roundw
        case rel => exact ⟨k + 1, M, by omega, by go_num, rfl, Hst.out.symm, by first | rfl | trivial⟩
        case measure => simp [intOf]; omega
    · have hkm : k = m := by omega
      subst hkm
      rw [← hM] at Hsu Hble HS
      have Hk0 := Hm0
      obtain ⟨c0, c1, c2, c3, c4, c5, c6, c7⟩ := Hcx5.out
      have HVi := Lib.hid (refVisits_is (.slice a k c) q w5 HQ5.out (by rw [Hql.out]; omega))
      generalize visitsOf q = V at *
      clear hM
      go_wp2_with fail
      refine HVi.out.mono ?_
      rintro e w6 ⟨vv, rfl, hv, hb6⟩
      obtain ⟨va, vn, vc, rfl, _, _, _⟩ := hv.vis.open
      have HV6 := Lib.hid hv.vis
      have HP6 := Lib.hid (HP5.out.below hb6)
      have Hcx6 := Lib.hid (Hcx5.out.below hb6)
      have HB6 := Lib.hid (HB5.out.trans (hb6.mono hsz15))
      have hsz16 : w.heap.size ≤ w6.heap.size := HB6.out.size
      have HCo := Lib.hid (cost_is 2 0 (.slice none 0 0) (.slice qa qn qc) (.slice va vn vc) rt sz st ru hd k P V w6 (.inr ⟨rfl, HTk.out⟩) (by omega) HP6.out HPo.out.at_ HV6.out Hgo.out.1 Hgo.out.2)
      clear c0 c1 c2 c3 c4 c5 c6 c7 hv hb6 HP5 Hcx5 HB5 HQ5 Hcell
      obtain ⟨c0, c1, c2, c3, c4, c5, c6, c7⟩ := Hcx6.out
      go_wp2_with fail
      refine HCo.out.mono ?_
      rintro e w7 ⟨rfl, hb7⟩
      have HV7 := Lib.hid (HV6.out.below hb7)
      have HP7 := Lib.hid (HP6.out.below hb7)
      have Hcx7 := Lib.hid (Hcx6.out.below hb7)
      have HB7 := Lib.hid (HB6.out.trans (hb7.mono hsz16))
      have hsz17 : w.heap.size ≤ w7.heap.size := HB7.out.size
      have hk20 : k ≤ 20 := by omega
      have HwS := Lib.hid (fun (W : World) (h : Below w7.heap.size w7 W) => suits_is 2 0 (.slice none 0 0) (.slice va vn vc) rt sz st ru hd M k [] V W (.inr ⟨rfl, HTk.out⟩) hk20 (Words.nil W) (by simp) (by simp) (HV7.out.below h) Hgo.out.1 Hgo.out.2)
      rw [Hsu.out] at HwS
      have HwB := Lib.hid (fun (W : World) (h : Below w7.heap.size w7 W) => bound_is 2 0 (.slice none 0 0) (.slice qa qn qc) rt sz st ru hd M k [] P W HC.out hk20 (Words.nil W) (HP7.out.below h) HPo.out)
      have HwC := Lib.hid (fun (W : World) (h : Below w7.heap.size w7 W) => refCost_is 2 0 (.slice none 0 0) (.slice qa qn qc) (.slice va vn vc) rt sz st ru hd k P V W (.inr ⟨rfl, HTk.out⟩) hk20 (HP7.out.below h) HPo.out.at_ (HV7.out.below h) Hgo.out.1 Hgo.out.2)
      have HwE := Lib.hid (fun (W : World) (h : Below w7.heap.size w7 W) => easy_is 2 0 (.slice none 0 0) rt sz st ru hd M k [] W HC.out hk20 (Words.nil W))
      have he2 : easyB 2 0 [] rt sz st ru M k = canB st sz ru rt M k := by unfold easyB; rw [if_neg (by decide)]
      rw [he2] at HwE
      have HwK := Lib.hid (fun (W : World) (h : Below w7.heap.size w7 W) => refCan_is 2 0 (.slice none 0 0) rt sz st ru hd M k W HTk.out hk20)
      have hle := decide_eq_true Hble.out
      generalize costV 2 st rt sz hd P V k = KV at *
      generalize boundI 2 0 [] rt sz st ru hd M P k = BV at *
      generalize canB st sz ru rt M k = CB at *
      have hcb : (CB == CB) = true := by cases CB <;> rfl
      clear c0 c1 c2 c3 c4 c5 c6 c7 hb7 he2 HV6 HP6 Hcx6 HB6 Hsu Hble HS HCo HVi
      obtain ⟨c0, c1, c2, c3, c4, c5, c6, c7⟩ := Hcx7.out
      have x0 := Ext.cell c0
      have x1 := Ext.cell c1
      have x2 := Ext.cell c2
      have x3 := Ext.cell c3
      have x4 := Ext.cell c4
      have x5 := Ext.cell c5
      have x6 := Ext.cell c6
      have x7 := Ext.cell c7
      clear c0 c1 c2 c3 c4 c5 c6 c7
      go_upto_region 15 with fail
      refine wp_region_ext (by kernel_rfl) (by kernel_rfl) ?_
      repeat (go_big_quiet_step (first
        | (go_at_call 19; exact ext_call _ (HwS.out _ (Ext.below _)))
        | (go_at_call 27; exact ext_call _ (HwB.out _ (Ext.below _)))
        | (go_at_call 23; exact ext_call _ (HwC.out _ (Ext.below _)))
        | (go_at_call 24; exact ext_call _ (HwE.out _ (Ext.below _)))
        | (go_at_call 32; exact ext_call _ (HwK.out _ (Ext.below _)))
        | (go_at_call 14; exact ext_call _ (lives11_is _))))
      refine wpQuiet_nil ?_
      intro _ hw'
      obtain ⟨z, rfl⟩ := hw'
      go_wp2_with fail
      go_ret
      exact ⟨rfl, HB7.out.trans (z.below.mono hsz17)⟩
end Go.Proofs.Ytpelbfjhljlbkaa
