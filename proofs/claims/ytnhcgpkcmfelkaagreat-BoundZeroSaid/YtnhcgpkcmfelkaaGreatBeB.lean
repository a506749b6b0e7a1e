/-
  My own work: layer 18's document: Least: its contract.
-/
import Derived.Test.YtnhcgpkcmfelkaaGreatBeA
namespace Go.Proofs.YtnhcgpkcmfelkaaGreat
open Go.RowKit
set_option linter.unusedVariables false
set_option maxRecDepth 100000
attribute [local go_sem ↓] Go.wp_at_zero Go.wp_at_succ

set_option maxHeartbeats 3200000 in
theorem refLeast18_is (n : Nat) (i1 cap i3 : Int) (cv dv : Value) (L : List Cu) (w : World) (hC : Custs w cv L) (hI : OkI n L) (hcap : 0 ≤ cap ∧ cap ≤ 4294967296) :
    Calls Tryz.prog 12 #[.agg #[.int .i64 n, .int .i64 i1, .int .i64 cap, .int .i64 i3, cv, dv]] w (CostOut w (leastT n cap L)) := by
  have hn20 : n ≤ 20 := by have := hI.n7; omega
  have hlen := hI.len
  obtain ⟨ca, N, cc, rfl, hN, _, hcell⟩ := hC.open
  obtain ⟨w1, ew, hb1, hsz1, hx⟩ := box_inst w (.int .i64 n) (.int .i64 i1) (.int .i64 cap) (.int .i64 i3) (.slice ca N cc) dv
  obtain ⟨F, hF⟩ : ∃ f : Nat → Int, f = fun i => forcedC n cap (nthC L i) := ⟨_, rfl⟩
  obtain ⟨G, hG⟩ : ∃ f : Nat → Int, f = fun i => mustC n cap (nthC L i) := ⟨_, rfl⟩
  have Hres : Hid (leastT n cap L = if 0 < cap then max (mostUpto F N) (ceilI (sumUpto G N) cap) else mostUpto F N) := Lib.hid (by rw [← hN, hF, hG]; rfl)
  have HFe := Lib.hid hF
  have HGe := Lib.hid hG
  have Hcell := Lib.hid hcell
  have HI := Lib.hid hI
  have HN := Lib.hid hN
  have Hew := Lib.hid ew
  have Hx := Lib.hid hx
  have Hb1 := Lib.hid hb1
  have hsz : w.heap.size ≤ w1.heap.size := hb1.size
  have hN1 : N ≤ 100 := by omega
  obtain ⟨da, hda⟩ : ∃ da, da = dv := ⟨_, rfl⟩
  obtain ⟨c0, c1, c2, c3, c4, c5⟩ := hx
  clear ew hsz1 hC hb1 hI hF hG hcell hN hlen hda
  go_enter Tryz.func12, Tryz.ntmps12
  go_upto_region 1 with fail
  rw [Hew.out]
  go_wp2_with fail
  go_loopw [3, 4, 5, 6, 7] (fun s3 s4 i s6 s7 wr => ∃ (k : Nat) (M S : Int) (y6 y7 : Value), k ≤ N ∧ y6 = s6 ∧ y7 = s7 ∧ i = .int .i64 k ∧ s3 = .int .i64 M ∧ s4 = .int .i64 S ∧ M = mostUpto F k ∧ S = sumUpto G k ∧ Below w1.heap.size w1 wr) (fun _ _ i _ _ _ => N - (intOf i).toNat)
  case atStart => exact ⟨0, 0, 0, _, _, Nat.zero_le _, rfl, rfl, rfl, rfl, rfl, rfl, rfl, Below.refl _ _⟩
  case round =>
    obtain ⟨k, M, S, y6, y7, hk, rfl, rfl, rfl, rfl, rfl, hM, hS, hb⟩ := hrel
    obtain ⟨wo, rfl⟩ : ∃ wo : World, wo = wr := ⟨_, rfl⟩
    have Hb := Lib.hid hb
    clear c0 c1 c2 c3 c4 c5
    have hGb : ∀ i, i < k → 0 ≤ G i ∧ G i ≤ 2000 := fun i hi => by
      have h2 := mustC_bd cap hn20 (HI.out.cus _ (nthC_mem (show i < L.length by rw [HN.out]; omega)))
      rw [HGe.out]; exact h2
    have hsb := sumUpto_bd G 2000 k hGb
    rw [← hS] at hsb
    have hFb : ∀ i, i < k → F i ≤ 64 := fun i hi => by
      have h2 := forcedC_bd cap hn20 (HI.out.cus _ (nthC_mem (show i < L.length by rw [HN.out]; omega)))
      rw [HFe.out]; exact h2.2
    have hMb := mostUpto_bd F 64 (by omega) k hFb
    rw [← hM] at hMb
    by_cases hlt : k < N
    · have hi1 : (k : Int) < (N : Int) := by omega
      have hi0 : (0 : Int) ≤ (k : Int) := by omega
      have hkL : k < L.length := by rw [HN.out]; exact hlt
      have hok := HI.out.cus _ (nthC_mem hkL)
      have hst1 : mostUpto F (k + 1) = max M (F k) := by rw [mostUpto, ← hM]
      have hst2 : sumUpto G (k + 1) = S + G k := by rw [sumUpto, ← hS]
      have hFk : F k = forcedC n cap (nthC L k) := by rw [HFe.out]
      have hGk : G k = if (nthC L k).kd = 1 then F k * (nthC L k).dm else wantsI (nthC L k).rt (nthC L k).st n := by rw [HGe.out, HFe.out]; rfl
      have hfb := forcedC_bd cap hn20 hok
      have hmb := mustC_bd cap hn20 hok
      rw [show mustC n cap (nthC L k) = G k by rw [HGe.out]] at hmb
      obtain ⟨b, o, pv, rfl, _, hcu⟩ := Hcell.out k hlt
      obtain ⟨pa, pn, pc, rfl⟩ := words_form hcu.pats
      have HF := Lib.hid (fun (W : World) (h : Below w1.heap.size w1 W) => refForcedC_is (nthC L k).kd (nthC L k).dm (.slice pa pn pc) (nthC L k).rt (nthC L k).sz (nthC L k).st (nthC L k).ru (nthC L k).hd cap n (nthC L k).ps W hok hn20 (hcu.pats.below (bel2 Hb1.out h)))
      have hkd := ok_kd hok
      have HW := Lib.hid (fun (W : World) (T : TankOk (nthC L k).st (nthC L k).rt (nthC L k).sz (nthC L k).ru (nthC L k).hd) => refWants_is (nthC L k).kd (nthC L k).dm (.slice pa pn pc) (nthC L k).rt (nthC L k).sz (nthC L k).st (nthC L k).ru (nthC L k).hd n W T (by omega))
      have hcu1 := hcu.below (bel2 Hb1.out hb)
      unfold forcedC at hFk hfb
      generalize forcedV (nthC L k).kd (nthC L k).ps (nthC L k).rt (nthC L k).st (nthC L k).sz n cap = FV at *
      rw [hFk] at hst1 hGk
      generalize G k = GV at *
      generalize nthC L k = X at *
      obtain ⟨kd, dm, ps, rt, sz, st, ru, hd⟩ := X
      simp only at HF HW hcu1 hGk hkd
      obtain ⟨w2, ew2, hb2, hsz2, hz2⟩ := box_cust wo kd dm (.slice pa pn pc) rt sz st ru hd
      have Hew2 := Lib.hid ew2
      have hx0 := Hx.out.below hb
      have hb12 := hb.trans (hb2.mono hb.size)
      have hx2 := hx0.below hb2
      have Hb12 := Lib.hid hb12
      have Hx2 := Lib.hid hx2
      have Hz2 := Lib.hid hz2
      obtain ⟨e0, e1, e2, e3, e4, e5⟩ := hx0
      obtain ⟨y0, y1, y2, y3, y4, y5, y6, y7, _⟩ := hcu1
      have Hst1 := Lib.hid hst1
      have Hst2 := Lib.hid hst2
      have hm1 : (M < FV ∧ decide (M < FV) = true ∧ max M FV = FV) ∨ (¬ M < FV ∧ decide (M < FV) = false ∧ max M FV = M) := by
        by_cases h : M < FV
        · exact .inl ⟨h, decide_eq_true h, by omega⟩
        · exact .inr ⟨h, decide_eq_false h, by omega⟩
      have Hm1 := Lib.hid hm1
      have hw2 : wrap64 (S + GV) = S + GV := wrap_id (by omega) (by omega)
      have Hw2 := Lib.hid hw2
      have HGk := Lib.hid hGk
      have Hkd := Lib.hid hkd
      have Hmb := Lib.hid hmb
      clear hb hM hS hst1 hst2 hfb hcu hok hkL ew2 hb2 hsz2 hx2 hz2 hb12 hm1 hGb hFb hsb hMb hFk hw2 hGk hkd hmb
      go_upto_region 7 with fail
      rw [Hew2.out]
      clear e0 e1 e2 e3 e4 e5 y0 y1 y2 y3 y4 y5 y6 y7
      obtain ⟨e0, e1, e2, e3, e4, e5⟩ := Hx2.out
      obtain ⟨z0, z1, z2, z3, z4, z5, z6, z7⟩ := Hz2.out
      generalize wo.heap.size = gc at *
      go_wp2_with fail
      refine (HF.out _ Hb12.out).mono ?_
      rintro e w5 ⟨rfl, hb5⟩
      have Hx5 := Lib.hid (Hx2.out.below hb5)
      have Hz5 := Lib.hid (Hz2.out.below hb5)
      have Hb5 := Lib.hid (Hb12.out.trans (hb5.mono Hb12.out.size))
      clear e0 e1 e2 e3 e4 e5 z0 z1 z2 z3 z4 z5 z6 z7 hb5
      obtain ⟨e0, e1, e2, e3, e4, e5⟩ := Hx5.out
      obtain ⟨z0, z1, z2, z3, z4, z5, z6, z7⟩ := Hz5.out
      have key : ∃ MN, MN = max M FV := ⟨_, rfl⟩
      rcases Hkd.out with rfl | ⟨rfl, T⟩
      · have hg := HGk.out
        rw [if_pos rfl] at hg
        have hwm : wrap64 (FV * dm) = FV * dm := by have := Hmb.out; rw [hg] at this; exact wrap_id (by omega) (by omega)
        have hws := Hw2.out
        rw [hg] at hws
        have Hst3 := Lib.hid (show sumUpto G (k + 1) = S + FV * dm by rw [Hst2.out, hg])
        clear hg Hst2
        rcases Hm1.out with ⟨q1, q2, q3⟩ | ⟨q1, q2, q3⟩
        all_goals
          have Hst4 := Lib.hid (show mostUpto F (k + 1) = _ by rw [Hst1.out, q3])
          clear q3
          go_wp2_with fail
          go_roundw
          case rel => exact ⟨k + 1, _, _, _, _, by omega, rfl, rfl, by go_num, rfl, rfl, Hst4.out.symm, (by first | exact Hst3.out.symm | (rw [hws]; exact Hst3.out.symm)), Hb5.out⟩
          case measure => simp [intOf]; omega
      · have hg := HGk.out
        rw [if_neg (by decide)] at hg
        have HW5 := Lib.hid (fun W => HW.out W T)
        rw [← hg] at HW5
        have hws := Hw2.out
        rcases Hm1.out with ⟨q1, q2, q3⟩ | ⟨q1, q2, q3⟩
        all_goals
          have Hst4 := Lib.hid (show mostUpto F (k + 1) = _ by rw [Hst1.out, q3])
          clear q3 T hg
          go_wp2_with fail
          refine (HW5.out _).mono ?_
          rintro e w6 ⟨rfl, hb6⟩
          have Hb6 := Lib.hid (Hb5.out.trans (hb6.mono Hb5.out.size))
          clear hb6
          go_wp2_with fail
          go_roundw
          case rel => exact ⟨k + 1, _, _, _, _, by omega, rfl, rfl, by go_num, rfl, rfl, Hst4.out.symm, (by first | exact Hst2.out.symm | (rw [hws]; exact Hst2.out.symm)), Hb6.out⟩
          case measure => simp [intOf]; omega
    · have hkN : k = N := by omega
      subst hkN
      have hr := Hres.out
      rw [← hM, ← hS] at hr
      have hB := Hb1.out.trans (hb.mono hsz)
      obtain ⟨e0, e1, e2, e3, e4, e5⟩ := Hx.out.below hb
      by_cases hc0 : 0 < cap
      · rw [if_pos hc0] at hr
        have hq1 : decide (0 < cap) = true := decide_eq_true hc0
        have hq0 : ¬ cap = 0 := by omega
        have hq2 : (cap == 0) = false := by simpa using hq0
        obtain ⟨CE, hCE⟩ : ∃ CE, CE = ceilI S cap := ⟨_, rfl⟩
        rw [← hCE] at hr
        have hce0 : 0 ≤ CE := by rw [hCE]; exact Int.ediv_nonneg (by omega) (by omega)
        have hce1 : CE ≤ S + cap := by rw [hCE]; unfold ceilI; exact Int.le_trans (Int.ediv_le_self _ (by omega)) (by omega)
        have hw1 : wrap64 (S + cap) = S + cap := wrap_id (by omega) (by omega)
        have hw2 : wrap64 (S + cap - 1) = S + cap - 1 := wrap_id (by omega) (by omega)
        have ht : (S + cap - 1).tdiv cap = CE := by rw [Int.tdiv_eq_ediv_of_nonneg (by omega), hCE]; rfl
        have hw3 : wrap64 CE = CE := wrap_id (by omega) (by omega)
        have hm1 : (M < CE ∧ decide (M < CE) = true ∧ max M CE = CE) ∨ (¬ M < CE ∧ decide (M < CE) = false ∧ max M CE = M) := by
          by_cases h : M < CE
          · exact .inl ⟨h, decide_eq_true h, by omega⟩
          · exact .inr ⟨h, decide_eq_false h, by omega⟩
        clear hb hM hS hsb hMb hFb hGb hCE hce0 hce1
        rcases hm1 with ⟨q1, q2, q3⟩ | ⟨q1, q2, q3⟩
        all_goals
          rw [q3] at hr
          have Hr := Lib.hid hr
          clear hr q3
          go_wp2_with fail
          go_ret
          rw [Hr.out]
          first | exact ⟨rfl, hB⟩ | (rw [hw3]; exact ⟨rfl, hB⟩)
      · rw [if_neg hc0] at hr
        have Hr := Lib.hid hr
        have hq1 : decide (0 < cap) = false := decide_eq_false hc0
        clear hb hM hS hsb hMb hFb hGb hr
        go_wp2_with fail
        go_ret
        rw [Hr.out]
        exact ⟨rfl, hB⟩

end Go.Proofs.YtnhcgpkcmfelkaaGreat
