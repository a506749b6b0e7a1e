/-
  My own work: the walks of BoundWider and BoundClimbsUp.
-/
import Derived.Test.YtnhcgpkcmfelkaaMBd
import Derived.Test.YtnhcgpkcmfelkaaMDual
import Derived.Deep.DrawnRows
namespace Go.Proofs.Ytnhcgpkcmfelkaa
open Go.RowKit
set_option linter.unusedVariables false
set_option maxRecDepth 100000
attribute [local go_sem ↓] Go.wp_at_zero Go.wp_at_succ

theorem ext_cost {f : FuncId} {args : Array Value} {w : World} {k : Int} (z : Ext w) (h : Calls Try.prog f args z.w (CostOut z.w k)) : Calls Try.prog f args z.w fun e w'' => e = .returned (.int .i64 k) ∧ ∃ z' : Ext w, w'' = z'.w :=
  h.mono fun _ w' ⟨he, hb⟩ => ⟨he, ⟨w', bel2 z.below hb⟩, rfl⟩

theorem good_okI {days : Nat} {ve cp ln : Int} {L : List Cu} {D : List (List Int)} (h : GoodI days ve cp ln L D) : OkI days L :=
  ⟨by have := h.n6; omega, fun C hC => good_ok (h.good C hC), h.d1, h.d7⟩
theorem forcedC_wider {n : Nat} {a b : Int} (hab : a ≤ b) (C : Cu) : forcedC n b C ≤ forcedC n a C := by
  unfold forcedC forcedV
  split
  · exact Int.le_refl _
  · exact forced_wider C.rt C.st C.sz n a b hab
theorem mustC_same {n : Nat} (a b : Int) (C : Cu) : mustC n a C = mustC n b C := by
  unfold mustC
  split
  · rename_i h
    unfold forcedC forcedV
    rw [if_pos h, if_pos h]
  · rfl
theorem base_wider {n : Nat} {a b : Int} (hab : a ≤ b) {D : List (List Int)} (hD : ArcBd D) (L : List Cu) : baseT n b L D ≤ baseT n a L D :=
  sumUpto_le _ _ _ (fun i _ => Int.mul_le_mul_of_nonneg_left (forcedC_wider hab _) (cheapI_bd hD L.length i).1)
theorem least_wider {n : Nat} {a b : Int} (ha : 0 < a) (hab : a ≤ b) {L : List Cu} (hI : OkI n L) : leastT n b L ≤ leastT n a L := by
  have hn : n ≤ 20 := by have := hI.n7; omega
  unfold leastT
  simp only []
  rw [if_pos ha, if_pos (by omega)]
  have h1 := mostUpto_le (fun i => forcedC n b (nthC L i)) (fun i => forcedC n a (nthC L i)) L.length (fun i _ => forcedC_wider hab _)
  have h2 : sumUpto (fun i => mustC n b (nthC L i)) L.length = sumUpto (fun i => mustC n a (nthC L i)) L.length := sumUpto_congr _ _ _ (fun i _ => mustC_same b a _)
  rw [h2]
  have h3 := (sumUpto_bd (fun i => mustC n a (nthC L i)) 2000 L.length (fun i hi => mustC_bd a hn (hI.cus _ (nthC_mem hi)))).1
  have h4 := ceil_mono (sumUpto (fun i => mustC n a (nthC L i)) L.length) a b h3 ha hab
  omega
theorem climb_val (n : Nat) (cap : Int) (L : List Cu) (D : List (List Int)) (seed : Int) (k : Nat) : valI n cap L D (climbS n cap L D seed k).1 ≤ valI n cap L D (climbS n cap L D seed (k + 1)).1 := by
  rw [climbS]
  unfold climbStep
  simp only []
  split
  · omega
  · exact Int.le_refl _
theorem climb_mono (n : Nat) (cap : Int) (L : List Cu) (D : List (List Int)) (seed : Int) (j k : Nat) (h : j ≤ k) : climbB n cap L D seed j ≤ climbB n cap L D seed k := by
  have key : valI n cap L D (climbS n cap L D seed j).1 ≤ valI n cap L D (climbS n cap L D seed k).1 := by
    induction k with
    | zero => rw [show j = 0 by omega]; exact Int.le_refl _
    | succ k ih =>
      by_cases e : j = k + 1
      · subst e; exact Int.le_refl _
      · exact Int.le_trans (ih (by omega)) (climb_val n cap L D seed k)
  unfold climbB bestT
  unfold valI at key
  omega
theorem climb_base (n : Nat) (cap : Int) (L : List Cu) (D : List (List Int)) (seed : Int) (k : Nat) : baseT n cap L D ≤ climbB n cap L D seed k := by
  unfold climbB bestT
  omega

set_option maxRecDepth 100000 in
set_option maxHeartbeats 6400000 in
theorem boundWider_walk (i0 i1 i2 i3 : Int) (cv0 dv0 : Value) (L0 : List Cu) (D0 : List (List Int)) (more : Int) (w : World) (a0 : (Lit.int .i64 i0).wf = true) (a1 : (Lit.int .i64 i1).wf = true) (a2 : (Lit.int .i64 i2).wf = true) (a3 : (Lit.int .i64 i3).wf = true) (hC0 : Custs w cv0 L0) (hL0 : ∀ C ∈ L0, WfC C) (hG0 : Grid w dv0 D0) (hD0 : ∀ r ∈ D0, ∀ x ∈ r, (Lit.int .i64 x).wf = true) (hm : (Lit.int .i64 more).wf = true) :
    Calls Try.prog 4 #[.agg #[.int .i64 i0, .int .i64 i1, .int .i64 i2, .int .i64 i3, cv0, dv0], .int .i64 more] w fun e w' => e = .returned (.bool true) ∧ Below w.heap.size w w' := by
  obtain ⟨w1, ew, hb1, hsz1, hx⟩ := box_inst w (.int .i64 i0) (.int .i64 i1) (.int .i64 i2) (.int .i64 i3) cv0 dv0
  obtain ⟨c0, c1, c2, c3, c4, c5⟩ := hx
  have Hgood := Lib.hid (goodInst_is i0 i1 i2 i3 cv0 dv0 L0 D0 w1 a0 a1 a2 a3 (hC0.below hb1) hL0 (hG0.below hb1) hD0)
  have Hew := Lib.hid ew
  have Hb1 := Lib.hid hb1
  have hmb := wf_i64 hm
  clear hm
  have hsz : w.heap.size ≤ w1.heap.size := hb1.size
  clear ew hb1 hsz1 hC0 hG0 hL0 hD0
  go_enter Try.func4, Try.ntmps4
  go_upto_region 1 with (fail)
  rw [Hew.out]
  go_wp2_with fail
  refine Hgood.out.mono ?_
  rintro e w2 ⟨days, ve, cp, ln, cv, dv, L, D, rfl, hdays, hLn, hgood, hC, hG, hb2⟩
  obtain ⟨ca, cm, cc, rfl, hcm, _, _⟩ := hC.open
  obtain ⟨da, dm, dc, rfl, _, _, _⟩ := hG.open
  obtain ⟨w3, ew3, hb3, hsz3, hy⟩ := box_inst w2 (.int .i64 days) (.int .i64 ve) (.int .i64 cp) (.int .i64 ln) (.slice ca cm cc) (.slice da dm dc)
  have HD := Lib.hid (arcBd_of hgood.dist hgood.rows)
  have HOk := Lib.hid (good_okI hgood)
  have hcp : 0 ≤ cp ∧ cp ≤ 40 := ⟨hgood.cp0, hgood.cp40⟩
  have HC := Lib.hid (hC.below hb3)
  have HG := Lib.hid (hG.below hb3)
  have Hew3 := Lib.hid ew3
  have hb13 := bel2 hb2 hb3
  have HB3 := Lib.hid (Hb1.out.trans (hb13.mono hsz))
  have hsz13 : w.heap.size ≤ w3.heap.size := HB3.out.size
  have Hy := Lib.hid hy
  obtain ⟨MM, hMM⟩ : ∃ MM : Int, MM = if more < 0 then -(more + 1) else more := ⟨_, rfl⟩
  have hM0 : 0 ≤ MM ∧ MM ≤ 9223372036854775807 := by rw [hMM]; split <;> omega
  have hw1 : more < 0 → wrap64 (-wrap64 (more + 1)) = MM := fun h => by
    rw [wrap_id (n := more + 1) (by omega) (by omega), wrap_id (by omega) (by omega), hMM, if_pos h]
  have hw2 : 0 ≤ more → more = MM := fun h => by rw [hMM, if_neg (by omega)]
  have Hw1 := Lib.hid hw1
  have Hw2 := Lib.hid hw2
  have HM0 := Lib.hid hM0
  clear hMM hM0 hmb hw1 hw2 hC hG hb2 hb3 ew3 hsz3 hgood hb13 hdays hLn hy
  go_upto_if 10 with fail
  rw [Hew3.out]
  generalize w2.heap.size = g at *
  go_cut [1] (fun s1 wx => s1 = .int .i64 MM ∧ w3 = wx)
  case first =>
    by_cases h : more < 0
    · have h' : decide (more < 0) = true := decide_eq_true h
      have H := Lib.hid (Hw1.out h)
      rw [h']
      clear h h'
      go_wp2_with fail
      go_meet
      exact ⟨by first | rfl | rw [H.out], rfl⟩
    · have h' : decide (more < 0) = false := decide_eq_false h
      have H := Lib.hid (Hw2.out (by omega))
      rw [h']
      clear h h'
      go_wp2_with fail
      go_meet
      exact ⟨by rw [H.out], rfl⟩
  case rest =>
  obtain ⟨rfl, rfl⟩ := hcut
  obtain ⟨w3, rfl⟩ : ∃ wq : World, wq = w3 := ⟨_, rfl⟩
  obtain ⟨w4, ew4, hb4, hsz4, hz4⟩ := box_inst w3 (.int .i64 days) (.int .i64 ve) (.int .i64 cp) (.int .i64 ln) (.slice ca cm cc) (.slice da dm dc)
  have Hew4 := Lib.hid ew4
  have hf4 : w4.frozen? ⟨w3.heap.size, 2, none⟩ = false := by rw [← ew4]; simp [go_sem]
  have hlt3 := Hy.out.lt
  obtain ⟨c0, c1, c2, c3, c4, c5⟩ := Hy.out
  clear ew4
  go_upto_region 5 with fail
  rw [Hew4.out]
  have hy4 := Hy.out.below hb4
  clear c0 c1 c2 c3 c4 c5
  obtain ⟨r, hr⟩ : ∃ r, r = MM % 1001 := ⟨_, rfl⟩
  have hrb : 0 ≤ r ∧ r ≤ 1000 := by have h0 := HM0.out; rw [hr]; omega
  have ht : MM.tmod 1001 = r := by have h0 := HM0.out; rw [Int.tmod_eq_emod_of_nonneg (by omega), hr]
  have Ht := Lib.hid ht
  obtain ⟨cz, hcz⟩ : ∃ cz, cp + r = cz := ⟨_, rfl⟩
  have hczb : cp ≤ cz ∧ cz ≤ 2000 := by omega
  have hm1 : MM % 1001 = r := hr.symm
  clear hr
  have hm0 : 0 ≤ MM := HM0.out.1
  have d2 := hy4.c2
  have d2z := hz4.c2
  go_upto_region 6 with fail
  obtain ⟨w5, hw5⟩ : ∃ w5, w5 = w4.setCell ⟨w3.heap.size, 2, none⟩ (.int .i64 cz) := ⟨_, rfl⟩
  rw [← hw5]
  have hy5 : IsInst w5 g (.int .i64 days) (.int .i64 ve) (.int .i64 cp) (.int .i64 ln) (.slice ca cm cc) (.slice da dm dc) := by
    rw [hw5]
    exact hy4.kept (grownBy_setCell w4 ⟨w3.heap.size, 2, none⟩ _) (by simp; omega)
  have hz5 : IsInst w5 w3.heap.size (.int .i64 days) (.int .i64 ve) (.int .i64 cz) (.int .i64 ln) (.slice ca cm cc) (.slice da dm dc) := by
    rw [hw5]
    exact ⟨set_far hz4.c0 (by decide), set_far hz4.c1 (by decide), World.cell?_setCell_same _ _ _ hz4.c2, set_far hz4.c3 (by decide), set_far hz4.c4 (by decide), set_far hz4.c5 (by decide)⟩
  have hb35 : Below w3.heap.size w3 w5 := by
    rw [hw5]
    exact hb4.setCell (p := ⟨w3.heap.size, 2, none⟩) (Nat.le_refl _) _
  have HB5 := Lib.hid (HB3.out.trans (hb35.mono hsz13))
  have hsz15 : w.heap.size ≤ w5.heap.size := HB5.out.size
  have HBz := Lib.hid (fun (W : World) (h : Below w5.heap.size w5 W) => bdBase_is days ve cz ln _ _ L D W (HC.out.below (bel2 hb35 h)) (HG.out.below (bel2 hb35 h)) HD.out HOk.out)
  have HBy := Lib.hid (fun (W : World) (h : Below w5.heap.size w5 W) => bdBase_is days ve cp ln _ _ L D W (HC.out.below (bel2 hb35 h)) (HG.out.below (bel2 hb35 h)) HD.out HOk.out)
  have HLz := Lib.hid (fun (W : World) (h : Below w5.heap.size w5 W) => bdLeast_is days ve cz ln _ (.slice da dm dc) L W (HC.out.below (bel2 hb35 h)) HOk.out (by omega))
  have HLy := Lib.hid (fun (W : World) (h : Below w5.heap.size w5 W) => bdLeast_is days ve cp ln _ (.slice da dm dc) L W (HC.out.below (bel2 hb35 h)) HOk.out (by omega))
  have hle1 := decide_eq_true (base_wider (n := days) hczb.1 HD.out L)
  have hle2 := fun h : 0 < cp => decide_eq_true (least_wider (n := days) h hczb.1 HOk.out)
  have Hle2 := Lib.hid hle2
  generalize baseT days cz L D = Bz at *
  generalize baseT days cp L D = By at *
  generalize leastT days cz L = Lz at *
  generalize leastT days cp L = Ly at *
  have x0 := Ext.cell hy5.c0
  have x1 := Ext.cell hy5.c1
  have x2 := Ext.cell hy5.c2
  have x3 := Ext.cell hy5.c3
  have x4 := Ext.cell hy5.c4
  have x5 := Ext.cell hy5.c5
  have z0 := Ext.cell hz5.c0
  have z1 := Ext.cell hz5.c1
  have z2 := Ext.cell hz5.c2
  have z3 := Ext.cell hz5.c3
  have z4 := Ext.cell hz5.c4
  have z5 := Ext.cell hz5.c5
  generalize w3.heap.size = gz at *
  clear hw5 hy4 hz4 hy5 hz5 hf4 d2 d2z hb4 hb35 hle2 hcz ht hm1 hm0 hsz4
  by_cases h0 : cp = 0
  · have h0' : (cp == 0) = true := by simpa using h0
    clear h0
    refine wp_region_ext (by kernel_rfl) (by kernel_rfl) ?_
    repeat (go_big_quiet_step (first
      | (go_at_call 9; with_reducible exact ext_cost _ (HBz.out _ (Ext.below _)))
      | (go_at_call 9; with_reducible exact ext_cost _ (HBy.out _ (Ext.below _)))
      | (go_at_call 10; exact ext_call _ (lives18_is _))))
    refine wpQuiet_nil ?_
    intro _ hw'
    obtain ⟨z, rfl⟩ := hw'
    go_wp2_with fail
    go_ret
    exact ⟨rfl, HB5.out.trans (z.below.mono hsz15)⟩
  · have h0' : (cp == 0) = false := by simpa using h0
    have hle3 := Hle2.out (by omega)
    clear h0
    refine wp_region_ext (by kernel_rfl) (by kernel_rfl) ?_
    repeat (go_big_quiet_step (first
      | (go_at_call 9; with_reducible exact ext_cost _ (HBz.out _ (Ext.below _)))
      | (go_at_call 9; with_reducible exact ext_cost _ (HBy.out _ (Ext.below _)))
      | (go_at_call 11; with_reducible exact ext_cost _ (HLz.out _ (Ext.below _)))
      | (go_at_call 11; with_reducible exact ext_cost _ (HLy.out _ (Ext.below _)))
      | (go_at_call 10; exact ext_call _ (lives18_is _))))
    refine wpQuiet_nil ?_
    intro _ hw'
    obtain ⟨z, rfl⟩ := hw'
    go_wp2_with fail
    go_ret
    exact ⟨rfl, HB5.out.trans (z.below.mono hsz15)⟩
end Go.Proofs.Ytnhcgpkcmfelkaa
