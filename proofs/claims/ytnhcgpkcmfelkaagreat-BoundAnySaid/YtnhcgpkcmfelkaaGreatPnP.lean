/-
  My own work: the walk of BoundAny.
-/
import Derived.Test.YtnhcgpkcmfelkaaGreatMPna
import Derived.Test.YtnhcgpkcmfelkaaGreatMPnb
import Derived.Test.YtnhcgpkcmfelkaaGreatMBd
import Derived.Test.YtnhcgpkcmfelkaaGreatBdG
import Derived.Deep.DrawnRows
namespace Go.Proofs.YtnhcgpkcmfelkaaGreat
open Go.RowKit
set_option linter.unusedVariables false
set_option maxRecDepth 100000
attribute [local go_sem ↓] Go.wp_at_zero Go.wp_at_succ

theorem climb_base0 {n : Nat} {L : List Cu} {D : List (List Int)} (hI : OkI n L) (cap : Int) (hD : ArcBd D) (hn : n ≤ 20) (seed : Int) (k : Nat) : 0 ≤ climbB n cap L D seed k := by
  have h1 := sumUpto_bd (fun i => cheapI D L.length i * forcedC n cap (nthC L i)) 3840 L.length (fun i hi => by
    have h2 := cheapI_bd hD L.length i
    have h3 := forcedC_bd cap hn (hI.cus _ (nthC_mem hi))
    exact ⟨Int.mul_nonneg h2.1 h3.1, by have := Int.mul_le_mul h2.2 h3.2 h3.1 (by decide); omega⟩)
  have h4 : 0 ≤ baseT n cap L D := h1.1
  unfold climbB bestT
  omega
set_option maxRecDepth 100000 in
set_option maxHeartbeats 6400000 in
theorem boundAny_walk (i0 i1 i2 i3 : Int) (cv0 dv0 pk jv : Value) (L0 : List Cu) (D0 : List (List Int)) (xs : List Int) (bs : List Bool) (seed bud : Int) (w : World) (a0 : (Lit.int .i64 i0).wf = true) (a1 : (Lit.int .i64 i1).wf = true) (a2 : (Lit.int .i64 i2).wf = true) (a3 : (Lit.int .i64 i3).wf = true) (hC0 : Custs w cv0 L0) (hL0 : ∀ C ∈ L0, WfC C) (hG0 : Grid w dv0 D0) (hD0 : ∀ r ∈ D0, ∀ x ∈ r, (Lit.int .i64 x).wf = true) (hx0 : Ints w pk xs) (hxw : ∀ x ∈ xs, (Lit.int .i64 x).wf = true) (hj0 : Bools w jv bs) (hbl : bs.length ≤ 9223372036854775807) (hm : (Lit.int .i64 bud).wf = true) :
    Calls Tryz.prog 5 #[.agg #[.int .i64 i0, .int .i64 i1, .int .i64 i2, .int .i64 i3, cv0, dv0], pk, jv, .int .i64 seed, .int .i64 bud] w fun e w' => e = .returned (.bool true) ∧ Below w.heap.size w w' := by
  obtain ⟨w1, ew, hb1, hsz1, hx⟩ := box_inst w (.int .i64 i0) (.int .i64 i1) (.int .i64 i2) (.int .i64 i3) cv0 dv0
  obtain ⟨c0, c1, c2, c3, c4, c5⟩ := hx
  have Hgood := Lib.hid (goodInst_is i0 i1 i2 i3 cv0 dv0 L0 D0 w1 a0 a1 a2 a3 (hC0.below hb1) hL0 (hG0.below hb1) hD0)
  have Hew := Lib.hid ew
  have Hb1 := Lib.hid hb1
  have Hpk1 := Lib.hid (hx0.below hb1)
  have Hjv1 := Lib.hid (hj0.below hb1)
  have Hxw := Lib.hid hxw
  have Hbl := Lib.hid hbl
  have hmb := wf_i64 hm
  have hsz : w.heap.size ≤ w1.heap.size := hb1.size
  obtain ⟨xa, xn, xc, rfl, _⟩ := hx0.open
  have hj00 := hj0
  obtain ⟨ja, jn, jc, rfl, _, _⟩ := hj00
  clear ew hb1 hsz1 hC0 hG0 hL0 hD0 hx0 hj0 hxw hbl hm
  go_enter Tryz.func5, Tryz.ntmps5
  go_upto_region 1 with (fail)
  rw [Hew.out]
  go_wp2_with fail
  refine Hgood.out.mono ?_
  rintro e w2 ⟨days, ve, cp, ln, cv, dv, L, D, rfl, hdays, hLn, hgood, hC, hG, hb2⟩
  obtain ⟨ca, cm, cc, rfl, hcm, _, _⟩ := hC.open
  obtain ⟨da, dm, dc, rfl, _, _, _⟩ := hG.open
  obtain ⟨w3, ew3, hb3, hsz3, hy⟩ := box_inst w2 (.int .i64 days) (.int .i64 6) (.int .i64 cp) (.int .i64 1000) (.slice ca cm cc) (.slice da dm dc)
  have hD : ArcBd D := arcBd_of hgood.dist hgood.rows
  have HOk := Lib.hid (good_okI hgood)
  have hcp : 0 ≤ cp ∧ cp ≤ 40 := ⟨hgood.cp0, hgood.cp40⟩
  have HIP := Lib.hid (InstP.mk (i1 := 6) (i3 := 1000) (cap := cp) (good_okI hgood) hgood.good hgood.n6 (by omega) (by omega) (by omega) hgood.rows hgood.dist hD)
  have Hn6 := Lib.hid hgood.n6
  have HC := Lib.hid (hC.below hb3)
  have HG := Lib.hid (hG.below hb3)
  have HD := Lib.hid hD
  have Hew3 := Lib.hid ew3
  have hb13 := bel2 hb2 hb3
  have HB := Lib.hid (Hb1.out.trans (hb13.mono hsz))
  have Hpk := Lib.hid (Hpk1.out.below hb13)
  have Hjv := Lib.hid (Hjv1.out.below hb13)
  have hsz23 : w.heap.size ≤ w3.heap.size := HB.out.size
  have hgylt : w2.heap.size < w3.heap.size := by omega
  have Hy := Lib.hid hy
  obtain ⟨MM, hMM⟩ : ∃ MM : Int, MM = if 30 < bud then bud % 31 else bud := ⟨_, rfl⟩
  have hw1 : 30 < bud → bud.tmod 31 = MM := fun h => by rw [Int.tmod_eq_emod_of_nonneg (by omega), hMM, if_pos h]
  have hw1' : 30 < bud → bud % 31 = MM := fun h => by rw [hMM, if_pos h]
  have hw2 : bud ≤ 30 → bud = MM := fun h => by rw [hMM, if_neg (by omega)]
  have Hw1 := Lib.hid hw1
  have Hw1' := Lib.hid hw1'
  have Hw2 := Lib.hid hw2
  clear c0 c1 c2 c3 c4 c5 hdays hLn hgood hC hG hb2 hb3 hb13 ew3 hcm hsz3 hD hMM hmb hw1 hw1' hw2 hy
  go_upto_if 21 with fail
  rw [Hew3.out]
  generalize w2.heap.size = gy at *
  go_cut [4] (fun s1 wx => s1 = .int .i64 MM ∧ w3 = wx)
  case first =>
    by_cases h : 30 < bud
    · have h' : decide (30 < bud) = true := decide_eq_true h
      have h1 := Hw1.out h
      have h2 := Hw1'.out h
      have h3 : 0 ≤ bud := by omega
      have H1 := Lib.hid h1
      have H2 := Lib.hid h2
      rw [h']
      clear h h'
      go_wp2_with fail
      go_meet
      exact ⟨by first | rfl | rw [H1.out] | rw [H2.out], rfl⟩
    · have h' : decide (30 < bud) = false := decide_eq_false h
      have H := Lib.hid (Hw2.out (by omega))
      rw [h']
      clear h h'
      go_wp2_with fail
      go_meet
      exact ⟨by rw [H.out], rfl⟩
  case rest =>
  obtain ⟨rfl, rfl⟩ := hcut
  obtain ⟨w3, rfl⟩ : ∃ wq : World, wq = w3 := ⟨_, rfl⟩
  clear Hw1 Hw1' Hw2
  obtain ⟨n, hn⟩ : ∃ n, L.length + 1 = n := ⟨_, rfl⟩
  obtain ⟨l, hl⟩ := climb_fit days cp L D seed (clipI MM 0 1000).toNat
  have HCl := Lib.hid (climb_is days 6 cp 1000 seed MM (.slice ca cm cc) (.slice da dm dc) L D w3 HC.out HG.out HD.out HOk.out (by omega))
  have hn20 : days ≤ 20 := by have := HOk.out.n7; omega
  have hbest : ∀ P, PlanD days cp L P → climbB days cp L D seed (clipI MM 0 1000).toNat ≤ costP D days L P := fun P h => by
    have hmay : mayP D (L.length + 1) (outL D (L.length + 1) (climbS days cp L D seed (clipI MM 0 1000).toNat).1) (climbS days cp L D seed (clipI MM 0 1000).toNat).1 := by rw [hl]; exact may_fit HD.out _ _
    have hbd : ∀ j, 0 ≤ nth (outL D (L.length + 1) (climbS days cp L D seed (clipI MM 0 1000).toNat).1) j ∧ nth (outL D (L.length + 1) (climbS days cp L D seed (clipI MM 0 1000).toNat).1) j ≤ 500 ∧ 0 ≤ nth (climbS days cp L D seed (clipI MM 0 1000).toNat).1 j ∧ nth (climbS days cp L D seed (clipI MM 0 1000).toNat).1 j ≤ 500 := fun j => by
      rw [hl]
      have h1 := nth_out_bd HD.out (L.length + 1) l j
      have h2 := nth_in_bd HD.out (L.length + 1) l j
      omega
    have hv1 := h.value HOk.out hn20 hmay hbd
    have hv2 := h.base HOk.out hn20 HD.out
    unfold climbB bestT
    omega
  have hbase : 0 ≤ climbB days cp L D seed (clipI MM 0 1000).toNat := by
    have h1 := climb_base0 HOk.out cp HD.out hn20 seed (clipI MM 0 1000).toNat
    exact h1
  have Hbest := Lib.hid hbest
  clear hbest hn hl
  generalize climbB days cp L D seed (clipI MM 0 1000).toNat = CB at *
  generalize outL D (L.length + 1) (climbS days cp L D seed (clipI MM 0 1000).toNat).1 = OO at *
  generalize (climbS days cp L D seed (clipI MM 0 1000).toNat).1 = II at *
  obtain ⟨c0, c1, c2, c3, c4, c5⟩ := Hy.out
  go_wp2_with fail
  refine HCl.out.mono ?_
  rintro e w4 ⟨ov4, iv4, rfl, hO4, hI4, hb4⟩
  obtain ⟨oa, on, oc, rfl, _⟩ := hO4.open
  obtain ⟨ia, inn, ic, rfl, _⟩ := hI4.open
  obtain ⟨w5, ew5, hb5, hsz5, _⟩ := box_prices w4 (.slice oa on oc) (.slice ia inn ic)
  have hb35 := bel2 hb4 hb5
  have Hb35 := Lib.hid hb35
  have Hew5 := Lib.hid ew5
  have Hy5 := Lib.hid (Hy.out.below hb35)
  have HB5 := Lib.hid (HB.out.trans (hb35.mono hsz23))
  have hsz5' : w.heap.size ≤ w5.heap.size := HB5.out.size
  clear c0 c1 c2 c3 c4 c5 hO4 hI4 hb4 hb5 hb35 hsz5 ew5 HCl
  obtain ⟨c0, c1, c2, c3, c4, c5⟩ := Hy5.out
  go_upto_region 7 with fail
  rw [Hew5.out]
  clear Hew5
  have HM := Lib.hid (made_is days 6 cp 1000 (.slice ca cm cc) (.slice da dm dc) (.slice xa xn xc) (.slice ja jn jc) L D xs bs w5 (HC.out.below Hb35.out) (HG.out.below Hb35.out) HD.out HOk.out Hn6.out (Hpk.out.below Hb35.out) Hxw.out (Hjv.out.below Hb35.out) Hbl.out)
  go_wp2_with fail
  refine HM.out.mono ?_
  rintro e w6 ⟨qa, qn, qc, is, rfl, hP, hb6⟩
  obtain ⟨w7, ew7, hb7, hsz7, q0⟩ := box_plan w6 (.slice qa qn qc)
  have HP : Hid (is = true → ∃ P, DaysP w7 (.slice qa qn qc) P ∧ SmallP P) := Lib.hid (fun h => by obtain ⟨P, h1, h2⟩ := hP h; exact ⟨P, h1.below hb7, h2⟩)
  have hb57 := bel2 hb6 hb7
  have Hb37 := Lib.hid (bel2 Hb35.out hb57)
  have Hew7 := Lib.hid ew7
  have Hy7 := Lib.hid (Hy5.out.below hb57)
  have HB7 := Lib.hid (HB5.out.trans (hb57.mono hsz5'))
  have hsz7' : w.heap.size ≤ w7.heap.size := HB7.out.size
  have Hq7 := Lib.hid q0
  clear c0 c1 c2 c3 c4 c5 hP hb6 hb7 hb57 ew7 hsz7 HM q0
  obtain ⟨c0, c1, c2, c3, c4, c5⟩ := Hy7.out
  have q0 := Hq7.out
  go_upto_region 8 with fail
  rw [Hew7.out]
  clear Hew7
  generalize w6.heap.size = gq at *
  have e0 : decide (0 ≤ CB) = true := decide_eq_true hbase
  cases is with
  | false =>
    go_wp2_with fail
    refine (lives18_is _).mono ?_
    rintro e w8 ⟨rfl, hb8⟩
    have hB8 := HB7.out.trans (hb8.mono hsz7')
    clear hb8
    go_wp2_with fail
    go_ret
    exact ⟨rfl, hB8⟩
  | true =>
    obtain ⟨P, hdp7, hS⟩ := HP.out rfl
    have HPl := Lib.hid (planP_is days 6 cp 1000 (.slice ca cm cc) (.slice da dm dc) (.slice qa qn qc) L D P w7 (HC.out.below Hb37.out) (HG.out.below Hb37.out) HIP.out hdp7 hS)
    have Hdp := Lib.hid hdp7
    have HS := Lib.hid hS
    clear hdp7 hS
    go_wp2_with fail
    refine HPl.out.mono ?_
    rintro e w8 ⟨v, rfl, hv, hb8⟩
    have Hv := Lib.hid hv
    have HB8 := Lib.hid (HB7.out.trans (hb8.mono hsz7'))
    have Hb38 := Lib.hid (bel2 Hb37.out hb8)
    have Hy8 := Lib.hid (Hy7.out.below hb8)
    have Hq8 := Lib.hid (cell_below hb8 q0)
    have Hdp8 := Lib.hid (Hdp.out.below hb8)
    have hsz8 : w.heap.size ≤ w8.heap.size := HB8.out.size
    clear c0 c1 c2 c3 c4 c5 q0 hb8 hv HPl
    obtain ⟨c0, c1, c2, c3, c4, c5⟩ := Hy8.out
    have q0 := Hq8.out
    by_cases hz : v = 0
    · subst hz
      have HPd := Lib.hid (Hv.out rfl)
      have hne : ((0 : Int) != 0) = false := by decide
      have HK := Lib.hid (costP_is days 6 cp 1000 (.slice ca cm cc) (.slice da dm dc) (.slice qa qn qc) L D P w8 (HC.out.below Hb38.out) (HG.out.below Hb38.out) HD.out HOk.out Hdp8.out HS.out HPd.out)
      have hle := Hbest.out P HPd.out
      generalize costP D days L P = CP at *
      have e1 : decide (CB ≤ CP) = true := decide_eq_true hle
      clear hle Hbest
      go_wp2_with fail
      refine HK.out.mono ?_
      rintro e w9 ⟨rfl, hb9⟩
      have HB9 := Lib.hid (HB8.out.trans (hb9.mono hsz8))
      have hsz9 : w.heap.size ≤ w9.heap.size := HB9.out.size
      clear c0 c1 c2 c3 c4 c5 q0 hb9
      go_wp2_with fail
      refine (lives18_is _).mono ?_
      rintro e w12 ⟨rfl, hb12⟩
      have hB12 := HB9.out.trans (hb12.mono hsz9)
      clear hb12
      go_wp2_with fail
      go_ret
      exact ⟨rfl, hB12⟩
    · have hne : (v != 0) = true := by simpa using hz
      go_wp2_with fail
      refine (lives18_is _).mono ?_
      rintro e w9 ⟨rfl, hb9⟩
      have hB9 := HB8.out.trans (hb9.mono hsz8)
      clear hb9
      go_wp2_with fail
      go_ret
      exact ⟨rfl, hB9⟩
end Go.Proofs.YtnhcgpkcmfelkaaGreat
