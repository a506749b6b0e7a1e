/-
  My own work: the walk of BoundClimbsUp.
-/
import Derived.Test.YtnhcgpkcmfelkaaBdM
namespace Go.Proofs.Ytnhcgpkcmfelkaa
open Go.RowKit
set_option linter.unusedVariables false
set_option maxRecDepth 100000
attribute [local go_sem ↓] Go.wp_at_zero Go.wp_at_succ

theorem clip_nat (b : Int) : ∃ k : Nat, (clipI b 0 1000).toNat = k ∧ (b ≤ 0 → k = 0) := ⟨_, rfl, fun h => by unfold clipI; omega⟩
theorem clip_le (a b : Int) (h : a ≤ b) : (clipI a 0 1000).toNat ≤ (clipI b 0 1000).toNat := by unfold clipI; omega

set_option maxRecDepth 100000 in
set_option maxHeartbeats 6400000 in
theorem boundClimbsUp_walk (i0 i1 i2 i3 : Int) (cv0 dv0 : Value) (L0 : List Cu) (D0 : List (List Int)) (seed bud : Int) (w : World) (a0 : (Lit.int .i64 i0).wf = true) (a1 : (Lit.int .i64 i1).wf = true) (a2 : (Lit.int .i64 i2).wf = true) (a3 : (Lit.int .i64 i3).wf = true) (hC0 : Custs w cv0 L0) (hL0 : ∀ C ∈ L0, WfC C) (hG0 : Grid w dv0 D0) (hD0 : ∀ r ∈ D0, ∀ x ∈ r, (Lit.int .i64 x).wf = true) (hm : (Lit.int .i64 bud).wf = true) :
    Calls Try.prog 3 #[.agg #[.int .i64 i0, .int .i64 i1, .int .i64 i2, .int .i64 i3, cv0, dv0], .int .i64 seed, .int .i64 bud] w fun e w' => e = .returned (.bool true) ∧ Below w.heap.size w w' := by
  obtain ⟨w1, ew, hb1, hsz1, hx⟩ := box_inst w (.int .i64 i0) (.int .i64 i1) (.int .i64 i2) (.int .i64 i3) cv0 dv0
  obtain ⟨c0, c1, c2, c3, c4, c5⟩ := hx
  have Hgood := Lib.hid (goodInst_is i0 i1 i2 i3 cv0 dv0 L0 D0 w1 a0 a1 a2 a3 (hC0.below hb1) hL0 (hG0.below hb1) hD0)
  have Hew := Lib.hid ew
  have Hb1 := Lib.hid hb1
  have hmb := wf_i64 hm
  clear hm
  have hsz : w.heap.size ≤ w1.heap.size := hb1.size
  clear ew hb1 hsz1 hC0 hG0 hL0 hD0
  go_enter Try.func3, Try.ntmps3
  go_upto_region 1 with (fail)
  rw [Hew.out]
  go_wp2_with fail
  refine Hgood.out.mono ?_
  rintro e w2 ⟨days, ve, cp, ln, cv, dv, L, D, rfl, hdays, hLn, hgood, hC, hG, hb2⟩
  obtain ⟨ca, cm, cc, rfl, hcm, _, _⟩ := hC.open
  obtain ⟨da, dm, dc, rfl, _, _, _⟩ := hG.open
  obtain ⟨w3, ew3, hb3, hsz3, hy⟩ := box_inst w2 (.int .i64 days) (.int .i64 ve) (.int .i64 cp) (.int .i64 ln) (.slice ca cm cc) (.slice da dm dc)
  have HD := Lib.hid (arcBd_of hgood.dist hgood.rows)
  have HOk := Lib.hid (good_okI hgood)
  have hcp : 0 ≤ cp ∧ cp ≤ 40 := ⟨hgood.cp0, hgood.cp40⟩
  have HC := Lib.hid (hC.below hb3)
  have HG := Lib.hid (hG.below hb3)
  have Hew3 := Lib.hid ew3
  have hb13 := bel2 hb2 hb3
  have HB3 := Lib.hid (Hb1.out.trans (hb13.mono hsz))
  have hsz13 : w.heap.size ≤ w3.heap.size := HB3.out.size
  have Hy := Lib.hid hy
  obtain ⟨MM, hMM⟩ : ∃ MM : Int, MM = if 20 < bud then bud % 21 else bud := ⟨_, rfl⟩
  have hM0 : -9223372036854775808 ≤ MM ∧ MM ≤ 20 := by rw [hMM]; split <;> omega
  have hw1 : 20 < bud → bud.tmod 21 = MM := fun h => by rw [Int.tmod_eq_emod_of_nonneg (by omega), hMM, if_pos h]
  have hw1' : 20 < bud → bud % 21 = MM := fun h => by rw [hMM, if_pos h]
  have hw2 : bud ≤ 20 → bud = MM := fun h => by rw [hMM, if_neg (by omega)]
  have Hw1 := Lib.hid hw1
  have Hw1' := Lib.hid hw1'
  have Hw2 := Lib.hid hw2
  have HM0 := Lib.hid hM0
  clear hMM hM0 hmb hw1 hw1' hw2 hC hG hb2 hb3 ew3 hsz3 hgood hb13 hdays hLn hy
  go_upto_if 18 with fail
  rw [Hew3.out]
  generalize w2.heap.size = g at *
  go_cut [2] (fun s1 wx => s1 = .int .i64 MM ∧ w3 = wx)
  case first =>
    by_cases h : 20 < bud
    · have h' : decide (20 < bud) = true := decide_eq_true h
      have h1 := Hw1.out h
      have h2 := Hw1'.out h
      have h3 : 0 ≤ bud := by omega
      have H1 := Lib.hid h1
      have H2 := Lib.hid h2
      rw [h']
      clear h h'
      go_wp2_with fail
      go_meet
      exact ⟨by first | rfl | rw [H1.out] | rw [H2.out], rfl⟩
    · have h' : decide (20 < bud) = false := decide_eq_false h
      have H := Lib.hid (Hw2.out (by omega))
      rw [h']
      clear h h'
      go_wp2_with fail
      go_meet
      exact ⟨by rw [H.out], rfl⟩
  case rest =>
  obtain ⟨rfl, rfl⟩ := hcut
  obtain ⟨w3, rfl⟩ : ∃ wq : World, wq = w3 := ⟨_, rfl⟩
  have HCl := Lib.hid (fun (W : World) (b : Int) (h : Below w3.heap.size w3 W) => climb_is days ve cp ln seed b _ _ L D W (HC.out.below h) (HG.out.below h) HD.out HOk.out (by omega))
  have HFi := Lib.hid (fun (W : World) (h : Below w3.heap.size w3 W) => refFirst_is days ve cp ln _ _ L D (L.length + 1) W (HC.out.below h) (HG.out.below h) rfl (by have := HOk.out.len; omega) HD.out)
  obtain ⟨A, hA⟩ : ∃ A, A = climbB days cp L D seed (clipI 0 0 1000).toNat := ⟨_, rfl⟩
  obtain ⟨Bb, hB⟩ : ∃ B, B = climbB days cp L D seed (clipI MM 0 1000).toNat := ⟨_, rfl⟩
  obtain ⟨Cc, hCc⟩ : ∃ C, C = climbB days cp L D seed (clipI (MM + 5) 0 1000).toNat := ⟨_, rfl⟩
  obtain ⟨Ba, hBa⟩ : ∃ B, B = baseT days cp L D := ⟨_, rfl⟩
  have hAB : A ≤ Bb := by rw [hA, hB]; exact climb_mono _ _ _ _ _ _ _ (by unfold clipI; omega)
  have hBC : Bb ≤ Cc := by rw [hB, hCc]; exact climb_mono _ _ _ _ _ _ _ (clip_le _ _ (by omega))
  have hBB : Ba ≤ Bb := by rw [hB, hBa]; exact climb_base _ _ _ _ _ _
  have hAf : A = bestT days cp L D (outL D (L.length + 1) (inL D (L.length + 1) (firstL (L.length + 1)))) (inL D (L.length + 1) (firstL (L.length + 1))) := by rw [hA]; rfl
  have HBe := Lib.hid (fun (W : World) (ov iv : Value) (h : Below w3.heap.size w3 W) (hO : Ints W ov (outL D (L.length + 1) (inL D (L.length + 1) (firstL (L.length + 1))))) (hI : Ints W iv (inL D (L.length + 1) (firstL (L.length + 1)))) =>
    bdBest_is days ve cp ln _ _ ov iv L D _ _ W (HC.out.below h) (HG.out.below h) HD.out hO hI HOk.out (by omega) (outL_len _ _ _) (inL_len _ _ _) (fun j => by have h1 := nth_out_bd HD.out (L.length + 1) (firstL (L.length + 1)) j; have h2 := nth_in_bd HD.out (L.length + 1) (firstL (L.length + 1)) j; omega))
  rw [← hAf] at HBe
  have HBs := Lib.hid (fun (W : World) (h : Below w3.heap.size w3 W) => bdBase_is days ve cp ln _ _ L D W (HC.out.below h) (HG.out.below h) HD.out HOk.out)
  rw [← hBa] at HBs
  have HCa := Lib.hid (fun (W : World) (h : Below w3.heap.size w3 W) => HCl.out W 0 h)
  rw [← hA] at HCa
  have HCb := Lib.hid (fun (W : World) (h : Below w3.heap.size w3 W) => HCl.out W MM h)
  rw [← hB] at HCb
  have HCc := Lib.hid (fun (W : World) (h : Below w3.heap.size w3 W) => HCl.out W (MM + 5) h)
  rw [← hCc] at HCc
  have q1 : decide (A ≤ Bb) = true := decide_eq_true hAB
  have q2 : decide (Bb ≤ Cc) = true := decide_eq_true hBC
  have q3 : decide (Ba ≤ Bb) = true := decide_eq_true hBB
  have q4 : (A == A) = true := by simp
  have hw5 : wrap64 (MM + 5) = MM + 5 := by have := HM0.out; rw [wrap_id (by omega) (by omega)]
  have hw5' : IntKind.i64.wrap (MM + 5) = MM + 5 := by have := HM0.out; exact IntWalk.i64_in _ (by omega)
  obtain ⟨c0, c1, c2, c3, c4, c5⟩ := Hy.out
  clear hA hB hCc hBa hAB hBC hBB hAf HCl Hw1 Hw1' Hw2
  go_wp2_with fail
  refine (HCa.out _ (Below.refl _ _)).mono ?_
  rintro e w4 ⟨ov4, iv4, rfl, hO4, hI4, hb4⟩
  obtain ⟨oa, on, oc, rfl, _⟩ := hO4.open
  obtain ⟨ia, inn, ic, rfl, _⟩ := hI4.open
  obtain ⟨w5, ew5, hb5, hsz5, _⟩ := box_prices w4 (.slice oa on oc) (.slice ia inn ic)
  have hb35 := bel2 hb4 hb5
  have Hb35 := Lib.hid hb35
  have Hew5 := Lib.hid ew5
  clear c0 c1 c2 c3 c4 c5 hO4 hI4 hb4 hb5 hsz5 ew5
  obtain ⟨c0, c1, c2, c3, c4, c5⟩ := Hy.out.below hb35
  clear hb35
  go_upto_region 5 with fail
  rw [Hew5.out]
  go_wp2_with fail
  refine (HCb.out _ Hb35.out).mono ?_
  rintro e w6 ⟨ov4, iv4, rfl, hO4, hI4, hb6⟩
  obtain ⟨oa, on, oc, rfl, _⟩ := hO4.open
  obtain ⟨ia, inn, ic, rfl, _⟩ := hI4.open
  obtain ⟨w7, ew7, hb7, hsz7, _⟩ := box_prices w6 (.slice oa on oc) (.slice ia inn ic)
  have hb37 := bel2 Hb35.out (bel2 hb6 hb7)
  have Hb37 := Lib.hid hb37
  have Hew7 := Lib.hid ew7
  clear c0 c1 c2 c3 c4 c5 hO4 hI4 hb6 hb7 hsz7 ew7
  obtain ⟨c0, c1, c2, c3, c4, c5⟩ := Hy.out.below hb37
  clear hb37
  go_upto_region 6 with fail
  rw [Hew7.out]
  go_wp2_with fail
  refine (HCc.out _ Hb37.out).mono ?_
  rintro e w8 ⟨ov4, iv4, rfl, hO4, hI4, hb8⟩
  obtain ⟨oa, on, oc, rfl, _⟩ := hO4.open
  obtain ⟨ia, inn, ic, rfl, _⟩ := hI4.open
  obtain ⟨w9, ew9, hb9, hsz9, _⟩ := box_prices w8 (.slice oa on oc) (.slice ia inn ic)
  have hb39 := bel2 Hb37.out (bel2 hb8 hb9)
  have Hb39 := Lib.hid hb39
  have Hew9 := Lib.hid ew9
  clear c0 c1 c2 c3 c4 c5 hO4 hI4 hb8 hb9 hsz9 ew9
  obtain ⟨c0, c1, c2, c3, c4, c5⟩ := Hy.out.below hb39
  clear hb39
  have b0 := Below.refl w9.heap.size w9
  go_upto_region 7 with fail
  rw [Hew9.out]
  go_cut [14] (fun s14 wx => s14 = .int .i64 A ∧ Below w9.heap.size w9 wx)
  case first =>
    first
      | (go_region_held3 (fun w' => w'.cell? ⟨g, 0, none⟩ = some (.int .i64 days) ∧ w'.cell? ⟨g, 1, none⟩ = some (.int .i64 ve) ∧ w'.cell? ⟨g, 2, none⟩ = some (.int .i64 cp) ∧ w'.cell? ⟨g, 3, none⟩ = some (.int .i64 ln) ∧ w'.cell? ⟨g, 4, none⟩ = some (.slice ca cm cc) ∧ w'.cell? ⟨g, 5, none⟩ = some (.slice da dm dc))
          (first | go_keep | exact ⟨cell_below b5 c0, cell_below b5 c1, cell_below b5 c2, cell_below b5 c3, cell_below b5 c4, cell_below b5 c5⟩ | exact ⟨cell_below b6 c0, cell_below b6 c1, cell_below b6 c2, cell_below b6 c3, cell_below b6 c4, cell_below b6 c5⟩)
          (first
            | (go_at_call 8; refine (HFi.out _ (bel2 Hb39.out ?_)).mono ?_; (first | exact b0 | exact belDrew _); rintro e wF ⟨fo, fi, rfl, hP5, hb5⟩; have hFO := hP5.1.ints; have hFI := hP5.2.1.ints; (first | have b5 := bel2 b0 hb5 | have b5 := bel2 (belDrew w9) hb5))
            | (go_at_call 7; refine (HBe.out _ _ _ (bel2 Hb39.out ?_) ?_ ?_).mono ?_; (first | exact b5 | exact bel2 b5 (belDrew _)); (first | exact hFO | exact hFO.below (belDrew _)); (first | exact hFI | exact hFI.below (belDrew _)); rintro e wB ⟨rfl, hb6⟩; (first | have b6 := bel2 b5 hb6 | have b6 := bel2 (bel2 b5 (belDrew _)) hb6))))
      | fail
    all_goals
      go_wp2_with fail
      go_meet
      first
        | exact ⟨rfl, b6⟩
        | exact ⟨rfl, b6.drew⟩
  case rest =>
  obtain ⟨rfl, hbc⟩ := hcut
  obtain ⟨w10, rfl⟩ : ∃ w10 : World, w10 = wc := ⟨_, rfl⟩
  have Hb310 := Lib.hid (bel2 Hb39.out hbc)
  clear c0 c1 c2 c3 c4 c5 hbc b0
  obtain ⟨c0, c1, c2, c3, c4, c5⟩ := Hy.out.below Hb310.out
  have hmm : (decide (MM < 0) = true) ∨ (decide (MM < 0) = false) := by cases decide (MM < 0) <;> simp
  rcases hmm with hmm | hmm
  all_goals
    go_wp2_with fail
    refine (HBs.out _ Hb310.out).mono ?_
    rintro e w11 ⟨rfl, hb11⟩
    have hb311 := bel2 Hb310.out hb11
    go_wp2_with fail
    refine (lives18_is _).mono ?_
    rintro e w12 ⟨rfl, hb12⟩
    have hB12 := HB3.out.trans ((bel2 hb311 hb12).mono hsz13)
    go_wp2_with fail
    go_ret
    exact ⟨rfl, hB12⟩
end Go.Proofs.Ytnhcgpkcmfelkaa
