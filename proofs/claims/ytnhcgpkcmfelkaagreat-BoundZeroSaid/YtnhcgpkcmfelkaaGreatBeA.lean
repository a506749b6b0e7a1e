/-
  My own work: layer 18's document: Cheap (of layer 6), Least, Value, Base, Best: their contracts.
-/
import Derived.Test.YtnhcgpkcmfelkaaGreatMBd
import Derived.Deep.DrawnRows
namespace Go.Proofs.YtnhcgpkcmfelkaaGreat
open Go.RowKit
set_option linter.unusedVariables false
set_option maxRecDepth 100000
attribute [local go_sem ↓] Go.wp_at_zero Go.wp_at_succ

def comeR (D : List (List Int)) (b j : Nat) : Int := if j = 0 then -1 else comeUpto D b j
def leaveR (D : List (List Int)) (b j : Nat) : Int := if j = 0 then -1 else leaveUpto D b j
theorem leaveUpto_bd {D : List (List Int)} (hD : ArcBd D) (a k : Nat) : 0 ≤ leaveUpto D a k ∧ leaveUpto D a k ≤ 60 := by
  induction k with
  | zero => exact hD a 0
  | succ k ih =>
    have := hD a k
    rw [leaveUpto]
    split
    · exact ih
    · omega
theorem comeR_same (D : List (List Int)) (k : Nat) : comeR D (k + 1) (k + 1 + 1) = comeR D (k + 1) (k + 1) := by
  unfold comeR
  rw [if_neg (by omega), if_neg (by omega), comeUpto, if_pos rfl]
theorem leaveR_same (D : List (List Int)) (k : Nat) : leaveR D (k + 1) (k + 1 + 1) = leaveR D (k + 1) (k + 1) := by
  unfold leaveR
  rw [if_neg (by omega), if_neg (by omega), leaveUpto, if_pos rfl]
theorem comeR_step {D : List (List Int)} (hD : ArcBd D) {b j : Nat} (hb : 0 < b) (h : j ≠ b) :
    (comeR D b j < 0 ∧ comeR D b (j + 1) = arcI D j b) ∨ (¬ comeR D b j < 0 ∧ comeR D b (j + 1) = min (comeR D b j) (arcI D j b)) := by
  by_cases h0 : j = 0
  · subst h0
    left
    unfold comeR
    rw [if_pos rfl, if_neg (by omega), comeUpto, if_neg h, comeUpto]
    exact ⟨by omega, Int.min_self _⟩
  · right
    unfold comeR
    rw [if_neg h0, if_neg (by omega), comeUpto, if_neg h]
    have := comeUpto_bd hD b j
    exact ⟨by omega, rfl⟩
theorem leaveR_step {D : List (List Int)} (hD : ArcBd D) {b j : Nat} (hb : 0 < b) (h : j ≠ b) :
    (leaveR D b j < 0 ∧ leaveR D b (j + 1) = arcI D b j) ∨ (¬ leaveR D b j < 0 ∧ leaveR D b (j + 1) = min (leaveR D b j) (arcI D b j)) := by
  by_cases h0 : j = 0
  · subst h0
    left
    unfold leaveR
    rw [if_pos rfl, if_neg (by omega), leaveUpto, if_neg h, leaveUpto]
    exact ⟨by omega, Int.min_self _⟩
  · right
    unfold leaveR
    rw [if_neg h0, if_neg (by omega), leaveUpto, if_neg h]
    have := leaveUpto_bd hD b j
    exact ⟨by omega, rfl⟩
/-- 'if p < 0 || x < p': what the two sides say. -/
theorem less_cases {P X R : Int} (h : (P < 0 ∧ R = X) ∨ (¬ P < 0 ∧ R = min P X)) :
    (P < 0 ∧ decide (P < 0) = true ∧ R = X) ∨ (¬ P < 0 ∧ decide (P < 0) = false ∧ X < P ∧ decide (X < P) = true ∧ R = X) ∨ (¬ P < 0 ∧ decide (P < 0) = false ∧ ¬ X < P ∧ decide (X < P) = false ∧ R = P) := by
  rcases h with ⟨h1, h2⟩ | ⟨h1, h2⟩
  · exact .inl ⟨h1, decide_eq_true h1, h2⟩
  · by_cases h3 : X < P
    · exact .inr (.inl ⟨h1, decide_eq_false h1, h3, decide_eq_true h3, by omega⟩)
    · exact .inr (.inr ⟨h1, decide_eq_false h1, h3, decide_eq_false h3, by omega⟩)

set_option maxHeartbeats 3200000 in
theorem refCheap_is (i0 i1 i2 i3 : Int) (cv dv : Value) (L : List Cu) (D : List (List Int)) (k : Nat) (w : World) (hC : Custs w cv L) (hG : Grid w dv D) (hD : ArcBd D) (hk : k < L.length) (hN : L.length ≤ 4000) :
    Calls Tryz.prog 39 #[.agg #[.int .i64 i0, .int .i64 i1, .int .i64 i2, .int .i64 i3, cv, dv], .int .i64 k] w fun e w' => ∃ b, e = .returned (.tuple #[.int .i64 (cheapI D L.length k), .int .i64 b]) ∧ Below w.heap.size w w' := by
  obtain ⟨ca, N, cc, rfl, hn, _, _⟩ := hC.open
  obtain ⟨w1, ew, hb1, hsz1, hin⟩ := box_inst w (.int .i64 i0) (.int .i64 i1) (.int .i64 i2) (.int .i64 i3) (.slice ca N cc) dv
  have Hew := Lib.hid ew
  have Hin := Lib.hid hin
  have HA := Lib.hid (fun (W : World) (a b : Int) (h : Below w1.heap.size w1 W) => refArc_is i0 i1 i2 i3 (.slice ca N cc) dv D a b W ((hG.below hb1).below h))
  have hN' : N ≤ 4000 := by omega
  have hkN : k < N := by omega
  have hsz : w.heap.size ≤ w1.heap.size := hb1.size
  have HD := Lib.hid hD
  have Hb1 := Lib.hid hb1
  rw [hn]
  obtain ⟨da, dn, dc, rfl, _⟩ := hG.open
  have Hfin : Hid (comeR D (k + 1) (N + 1) = cheapI D N k) := Lib.hid (by unfold comeR cheapI; rw [if_neg (by omega)])
  obtain ⟨c0, c1, c2, c3, c4, c5⟩ := hin
  clear ew hsz1 hC hG hn hN hD hb1 hk
  go_enter Tryz.func39, Tryz.ntmps39
  go_upto_region 1 with (fail)
  rw [Hew.out]
  go_wp2_with fail
  go_loopw [6, 7, 8, 9, 10] (fun s6 s7 i s9 s10 wr => ∃ (j : Nat) (PP QQ : Int) (y9 y10 : Value), j ≤ N + 1 ∧ y9 = s9 ∧ y10 = s10 ∧ i = .int .i64 j ∧ s6 = .int .i64 PP ∧ s7 = .int .i64 QQ ∧ PP = comeR D (k + 1) j ∧ QQ = leaveR D (k + 1) j ∧ Below w1.heap.size w1 wr) (fun _ _ i _ _ _ => N + 1 - (intOf i).toNat)
  case atStart => exact ⟨0, _, _, _, _, Nat.zero_le _, rfl, rfl, rfl, rfl, rfl, rfl, rfl, Below.refl _ _⟩
  case round =>
    obtain ⟨j, PP, QQ, y9, y10, hj, rfl, rfl, rfl, rfl, rfl, hPP, hQQ, hb⟩ := hrel
    obtain ⟨wo, rfl⟩ : ∃ wo : World, wo = wr := ⟨_, rfl⟩
    have Hb := Lib.hid hb
    obtain ⟨e0, e1, e2, e3, e4, e5⟩ := Hin.out.below hb
    clear c0 c1 c2 c3 c4 c5 hb
    by_cases hlt : j < N + 1
    · have hi1 : (j : Int) ≤ (N : Int) := by omega
      by_cases hjk : j = k + 1
      · have hne2 : ((j : Int) == (k : Int) + 1) = true := by simp; omega
        subst hjk
        have hc := comeR_same D k
        have hl := leaveR_same D k
        rw [← hPP] at hc
        rw [← hQQ] at hl
        have Hc := Lib.hid hc
        have Hl := Lib.hid hl
        clear hPP hQQ hc hl
        go_wp2_with fail
        go_roundw
        case rel => exact ⟨k + 1 + 1, PP, QQ, _, _, by omega, rfl, rfl, by go_num, rfl, rfl, Hc.out.symm, Hl.out.symm, Hb.out⟩
        case measure => simp [intOf]; omega
      · have hne2 : ((j : Int) == (k : Int) + 1) = false := by simp; omega
        have hs1 := comeR_step HD.out (Nat.succ_pos k) hjk
        have hs2 := leaveR_step HD.out (Nat.succ_pos k) hjk
        rw [← hPP] at hs1
        rw [← hQQ] at hs2
        have Hc1 := Lib.hid (fun (W : World) (h : Below w1.heap.size w1 W) => HA.out W j ((k : Int) + 1) h)
        have Hc2 := Lib.hid (fun (W : World) (h : Below w1.heap.size w1 W) => HA.out W ((k : Int) + 1) j h)
        rw [show ((k.succ : Nat) : Int) = (k : Int) + 1 by omega] at hs1 hs2
        generalize arcI D j ((k : Int) + 1) = X1 at *
        generalize arcI D ((k : Int) + 1) j = X2 at *
        obtain ⟨P2, hP2⟩ : ∃ P2, P2 = comeR D (k + 1) (j + 1) := ⟨_, rfl⟩
        obtain ⟨Q2, hQ2⟩ : ∃ Q2, Q2 = leaveR D (k + 1) (j + 1) := ⟨_, rfl⟩
        rw [← hP2] at hs1
        rw [← hQ2] at hs2
        have HP2 := Lib.hid hP2
        have HQ2 := Lib.hid hQ2
        clear hPP hQQ hjk hP2 hQ2
        rcases less_cases hs1 with ⟨p1, p2, rfl⟩ | ⟨p1, p2, p3, p4, rfl⟩ | ⟨p1, p2, p3, p4, rfl⟩ <;> rcases less_cases hs2 with ⟨q1, q2, rfl⟩ | ⟨q1, q2, q3, q4, rfl⟩ | ⟨q1, q2, q3, q4, rfl⟩
        all_goals
          clear hs1 hs2
          go_wp2_with fail
          refine (Hc1.out _ Hb.out).mono ?_
          rintro e w5 ⟨rfl, hb5⟩
          have hb25 := Hb.out.trans (hb5.mono Hb.out.size)
          obtain ⟨e0, e1, e2, e3, e4, e5⟩ := Hin.out.below hb25
          have Hb25 := Lib.hid hb25
          clear hb5 hb25
          go_wp2_with fail
          refine (Hc2.out _ Hb25.out).mono ?_
          rintro e w6 ⟨rfl, hb6⟩
          have Hb26 := Lib.hid (Hb25.out.trans (hb6.mono Hb25.out.size))
          clear hb6
          go_wp2_with fail
          go_roundw
          case rel => exact ⟨j + 1, _, _, _, _, by omega, rfl, rfl, by go_num, rfl, rfl, HP2.out, HQ2.out, Hb26.out⟩
          case measure => simp [intOf]; omega
    · have hjN : j = N + 1 := by omega
      subst hjN
      have Hf : Hid (cheapI D N k = PP) := Lib.hid (by rw [hPP, Hfin.out])
      clear hPP hQQ Hfin
      have hB := Hb1.out.trans (Hb.out.mono hsz)
      go_wp2_with fail
      go_ret2
      exact ⟨QQ, by rw [Hf.out]; rfl, hB⟩

set_option maxHeartbeats 3200000 in
theorem refBase18_is (n : Nat) (i1 cap i3 : Int) (cv dv : Value) (L : List Cu) (D : List (List Int)) (w : World) (hC : Custs w cv L) (hG : Grid w dv D) (hD : ArcBd D) (hI : OkI n L) :
    Calls Tryz.prog 16 #[.agg #[.int .i64 n, .int .i64 i1, .int .i64 cap, .int .i64 i3, cv, dv]] w (CostOut w (baseT n cap L D)) := by
  have hn20 : n ≤ 20 := by have := hI.n7; omega
  have hL4 : L.length ≤ 4000 := by have := hI.len; omega
  have hlen := hI.len
  obtain ⟨ca, N, cc, rfl, hN, _, hcell⟩ := hC.open
  obtain ⟨w1, ew, hb1, hsz1, hx⟩ := box_inst w (.int .i64 n) (.int .i64 i1) (.int .i64 cap) (.int .i64 i3) (.slice ca N cc) dv
  have HCh := Lib.hid (fun (W : World) (k : Nat) (h : Below w1.heap.size w1 W) (hk : k < L.length) => refCheap_is n i1 cap i3 _ dv L D k W (hC.below (bel2 hb1 h)) (hG.below (bel2 hb1 h)) hD hk hL4)
  obtain ⟨f, hf⟩ : ∃ f : Nat → Int, f = fun i => cheapI D L.length i * forcedC n cap (nthC L i) := ⟨_, rfl⟩
  have Hres : Hid (baseT n cap L D = sumUpto f N) := Lib.hid (by rw [← hN, hf]; rfl)
  have Hf := Lib.hid hf
  have Hcell := Lib.hid hcell
  have HI := Lib.hid hI
  have HD := Lib.hid hD
  have HN := Lib.hid hN
  have Hew := Lib.hid ew
  have Hx := Lib.hid hx
  have Hb1 := Lib.hid hb1
  have hsz : w.heap.size ≤ w1.heap.size := hb1.size
  have hN1 : N ≤ 100 := by omega
  obtain ⟨da, dn, dc, rfl, _⟩ := hG.open
  obtain ⟨c0, c1, c2, c3, c4, c5⟩ := hx
  clear ew hsz1 hC hG hb1 hI hD hf hcell hN hlen hL4
  go_enter Tryz.func16, Tryz.ntmps16
  go_upto_region 1 with fail
  rw [Hew.out]
  go_wp2_with fail
  go_loopw [3, 4, 5, 6] (fun s i s5 s6 wr => ∃ (k : Nat) (S : Int) (y5 y6 : Value), k ≤ N ∧ y5 = s5 ∧ y6 = s6 ∧ i = .int .i64 k ∧ s = .int .i64 S ∧ S = sumUpto f k ∧ Below w1.heap.size w1 wr) (fun _ i _ _ _ => N - (intOf i).toNat)
  case atStart => exact ⟨0, 0, _, _, Nat.zero_le _, rfl, rfl, rfl, rfl, rfl, Below.refl _ _⟩
  case round =>
    obtain ⟨k, S, y5, y6, hk, rfl, rfl, rfl, rfl, hS, hb⟩ := hrel
    obtain ⟨wo, rfl⟩ : ∃ wo : World, wo = wr := ⟨_, rfl⟩
    have Hb := Lib.hid hb
    clear c0 c1 c2 c3 c4 c5
    by_cases hlt : k < N
    · have hi1 : (k : Int) < (N : Int) := by omega
      have hi0 : (0 : Int) ≤ (k : Int) := by omega
      have hkL : k < L.length := by rw [HN.out]; exact hlt
      have hok := HI.out.cus _ (nthC_mem hkL)
      have hst : sumUpto f (k + 1) = S + f k := by rw [sumUpto, ← hS]
      have hfb : ∀ i, i < k + 1 → 0 ≤ f i ∧ f i ≤ 60 * 64 := fun i hi => by
        have h1 := cheapI_bd HD.out L.length i
        have h2 := forcedC_bd cap hn20 (HI.out.cus _ (nthC_mem (show i < L.length by rw [HN.out]; omega)))
        rw [Hf.out]
        exact ⟨Int.mul_nonneg h1.1 h2.1, Int.mul_le_mul h1.2 h2.2 h2.1 (by omega)⟩
      have hsb := sumUpto_bd f (60 * 64) k (fun i hi => hfb i (by omega))
      rw [← hS] at hsb
      have hfk := hfb k (by omega)
      have hfe : f k = cheapI D L.length k * forcedC n cap (nthC L k) := by rw [Hf.out]
      have Hc := Lib.hid (HCh.out wo k hb hkL)
      obtain ⟨b, o, pv, rfl, _, hcu⟩ := Hcell.out k hlt
      obtain ⟨pa, pn, pc, rfl⟩ := words_form hcu.pats
      have HF := Lib.hid (fun (W : World) (h : Below w1.heap.size w1 W) => refForcedC_is (nthC L k).kd (nthC L k).dm (.slice pa pn pc) (nthC L k).rt (nthC L k).sz (nthC L k).st (nthC L k).ru (nthC L k).hd cap n (nthC L k).ps W hok hn20 (hcu.pats.below (bel2 Hb1.out h)))
      have Hcu := Lib.hid (hcu.below Hb1.out)
      unfold forcedC at hfe
      generalize forcedV (nthC L k).kd (nthC L k).ps (nthC L k).rt (nthC L k).st (nthC L k).sz n cap = FV at *
      generalize cheapI D L.length k = CV at *
      rw [hfe] at hst hfk
      have hw1 : wrap64 (CV * FV) = CV * FV := wrap_id (by omega) (by omega)
      have hw1' : IntKind.i64.wrap (CV * FV) = CV * FV := IntWalk.i64_in _ (by omega)
      have hw2 : wrap64 (S + CV * FV) = S + CV * FV := wrap_id (by omega) (by omega)
      have hw2' : IntKind.i64.wrap (S + CV * FV) = S + CV * FV := IntWalk.i64_in _ (by omega)
      have Hst := Lib.hid hst
      obtain ⟨e0, e1, e2, e3, e4, e5⟩ := Hx.out.below hb
      generalize nthC L k = X at *
      obtain ⟨kd, dm, ps, rt, sz, st, ru, hd⟩ := X
      simp only at HF Hcu
      clear hb hS hst hfe hfk hfb hsb hcu hok hkL
      go_wp2_with fail
      refine Hc.out.mono ?_
      rintro e w5 ⟨bb, rfl, hb5⟩
      have hb25 := Hb.out.trans (hb5.mono Hb.out.size)
      have Hb25 := Lib.hid hb25
      have hx5 := Hx.out.below hb25
      have x0 := Ext.cell hx5.c0
      have x1 := Ext.cell hx5.c1
      have x2 := Ext.cell hx5.c2
      have x3 := Ext.cell hx5.c3
      have x4 := Ext.cell hx5.c4
      have x5 := Ext.cell hx5.c5
      obtain ⟨y0, y1, y2, y3, y4, y5, y6, y7, _⟩ := Hcu.out.below hb25
      have z0 := Ext.cell y0
      have z1 := Ext.cell y1
      have z2 := Ext.cell y2
      have z3 := Ext.cell y3
      have z4 := Ext.cell y4
      have z5 := Ext.cell y5
      have z6 := Ext.cell y6
      have z7 := Ext.cell y7
      have HF5 := Lib.hid (fun (W : World) (h : Below w5.heap.size w5 W) => HF.out W (bel2 hb25 h))
      have hd := hx5.c0
      clear hb5 hb25 hx5 y0 y1 y2 y3 y4 y5 y6 y7 e0 e1 e2 e3 e4 e5
      go_upto_region 6 with fail
      refine wp_region_ext (by kernel_rfl) (by kernel_rfl) ?_
      repeat (go_big_quiet_step (first
        | (go_at_call 31; exact ext_call _ (HF5.out _ (Ext.below _)))))
      refine wpQuiet_nil ?_
      intro _ hw'
      obtain ⟨z, rfl⟩ := hw'
      have Hz := Lib.hid (bel2 Hb25.out z.below)
      generalize z.w = w6 at *
      go_wp2_with fail
      go_roundw
      case rel => exact ⟨k + 1, _, _, _, by omega, rfl, rfl, by go_num, rfl, Hst.out.symm, Hz.out⟩
      case measure => simp [intOf]; omega
    · have hkN : k = N := by omega
      subst hkN
      have HS := Lib.hid hS
      have hB := Hb1.out.trans (hb.mono hsz)
      obtain ⟨e0, e1, e2, e3, e4, e5⟩ := Hx.out.below hb
      clear hb hS
      go_wp2_with fail
      go_ret
      rw [Hres.out, ← HS.out]
      exact ⟨rfl, hB⟩
end Go.Proofs.YtnhcgpkcmfelkaaGreat
