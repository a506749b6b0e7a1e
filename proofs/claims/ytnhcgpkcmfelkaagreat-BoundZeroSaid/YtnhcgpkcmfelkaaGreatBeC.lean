/-
  My own work: layer 18's document: Value, Best: their contracts.
-/
import Derived.Test.YtnhcgpkcmfelkaaGreatBeB
namespace Go.Proofs.YtnhcgpkcmfelkaaGreat
open Go.RowKit
set_option linter.unusedVariables false
set_option maxRecDepth 100000
attribute [local go_sem ↓] Go.wp_at_zero Go.wp_at_succ

theorem wrap_k {k N on inn : Nat} (h : k < N) (hN : N ≤ 100) (ho : on = N + 1) (hi : inn = N + 1) :
    IntKind.i64.wrap ((k : Int) + 1) = (k : Int) + 1 ∧ wrap64 ((k : Int) + 1) = (k : Int) + 1 ∧ (0 : Int) ≤ (k : Int) + 1 ∧ (k : Int) + 1 < (on : Int) ∧ (k : Int) + 1 < (inn : Int) := by
  have h1 : IntKind.i64.wrap ((k : Int) + 1) = (k : Int) + 1 := IntWalk.i64_in _ (by omega)
  have h2 : wrap64 ((k : Int) + 1) = (k : Int) + 1 := wrap_id (by omega) (by omega)
  rw [h1, h2]
  clear h1 h2
  omega
theorem wrap_p {a b p : Int} (h : p = a + b) (hb : 0 ≤ a ∧ a ≤ 500 ∧ 0 ≤ b ∧ b ≤ 500) : wrap64 (a + b) = p ∧ IntKind.i64.wrap (a + b) = p ∧ 0 ≤ p ∧ p ≤ 1000 := by
  have h1 : IntKind.i64.wrap (a + b) = a + b := IntWalk.i64_in _ (by omega)
  have h2 : wrap64 (a + b) = a + b := wrap_id (by omega) (by omega)
  rw [h1, h2]
  clear h1 h2
  omega
theorem wrap_s {a b c : Int} {k : Nat} (ha : 0 ≤ a ∧ a ≤ 1000 * 200100) (hb : 0 ≤ b ∧ b ≤ 1064000 * k) (hk : k ≤ 100) (hc : 0 ≤ c ∧ c ≤ 1064000) : wrap64 (a + b + c) = a + (b + c) ∧ IntKind.i64.wrap (a + b + c) = a + (b + c) := by
  have h1 : IntKind.i64.wrap (a + b + c) = a + b + c := IntWalk.i64_in _ (by omega)
  have h2 : wrap64 (a + b + c) = a + b + c := wrap_id (by omega) (by omega)
  rw [h1, h2]
  clear h1 h2
  omega

theorem meas_lt {d n : Nat} (h : d < n) : n - (((d : Int) + 1)).toNat < n - ((d : Int)).toNat := by
  rw [show ((d : Int) + 1).toNat = d + 1 by omega, Int.toNat_natCast]
  omega
theorem meas_ltw {d n : Nat} (h : d < n) (hn : n ≤ 1000000) : n - (wrap64 ((d : Int) + 1)).toNat < n - ((d : Int)).toNat := by
  have e : wrap64 ((d : Int) + 1) = (d : Int) + 1 := wrap_id (by omega) (by omega)
  rw [e]
  exact meas_lt h
set_option maxHeartbeats 3200000 in
theorem refValue18_is (n : Nat) (i1 cap i3 : Int) (cv dv ov iv : Value) (L : List Cu) (O I : List Int) (w : World) (hC : Custs w cv L) (hO : Ints w ov O) (hI : Ints w iv I) (hOk : OkI n L) (hcap : 0 ≤ cap ∧ cap ≤ 4294967296) (hOl : O.length = L.length + 1) (hIl : I.length = L.length + 1) (hb : ∀ j, 0 ≤ nth O j ∧ nth O j ≤ 500 ∧ 0 ≤ nth I j ∧ nth I j ≤ 500) :
    Calls Tryz.prog 14 #[.agg #[.int .i64 n, .int .i64 i1, .int .i64 cap, .int .i64 i3, cv, dv], .agg #[ov, iv]] w (CostOut w (valueT n cap L O I)) := by
  have hn20 : n ≤ 20 := by have := hOk.n7; omega
  obtain ⟨w1, ew, hb1, hsz1, hx⟩ := box_inst w (.int .i64 n) (.int .i64 i1) (.int .i64 cap) (.int .i64 i3) cv dv
  obtain ⟨w2, ew2, hb2, hsz2, hp0, hp1⟩ : ∃ w2, w1.alloc (.cells #[ov, iv] 29) = w2 ∧ Below w1.heap.size w1 w2 ∧ w2.heap.size = w1.heap.size + 1 ∧ w2.cell? ⟨w1.heap.size, 0, none⟩ = some ov ∧ w2.cell? ⟨w1.heap.size, 1, none⟩ = some iv :=
    ⟨_, rfl, (Below.refl _ _).alloc (Nat.le_refl _) _, by simp, by simp [go_sem], by simp [go_sem]⟩
  have hbb := bel2 hb1 hb2
  have hx2 := hx.below hb2
  rw [hsz1] at hp0 hp1
  have HL := Lib.hid (fun (W : World) (h : Below w2.heap.size w2 W) => refLeast18_is n i1 cap i3 cv dv L W (hC.below (bel2 hbb h)) hOk hcap)
  have hlb := leastT_bd cap hn20 hOk.len hOk.cus
  obtain ⟨A, hA⟩ : ∃ f : Nat → Int, f = fun i => aloneC n cap (priceI2 O I i) (nthC L i) := ⟨_, rfl⟩
  have hAb : ∀ i, i < L.length → 0 ≤ A i ∧ A i ≤ 1064000 := fun i hi => by rw [hA]; exact aloneC_bd cap hn20 (by have := hb (i + 1); unfold priceI2; omega) (hOk.cus _ (nthC_mem hi))
  have hlen := hOk.len
  obtain ⟨oa, on, oc, rfl, hon, _, hoc⟩ := hO.open
  obtain ⟨ia, inn, ic, rfl, hinn, _, hic⟩ := hI.open
  obtain ⟨b1, o1, rfl, f1⟩ := hoc 0 (by omega)
  obtain ⟨b2, o2, rfl, f2⟩ := hic 0 (by omega)
  obtain ⟨ca, N, cc, rfl, hN, _, hcell⟩ := hC.open
  have Hoc := Lib.hid hoc
  have Hic := Lib.hid hic
  rw [Nat.add_zero] at f1 f2
  have g1 := cell_below hbb f1
  have g2 := cell_below hbb f2
  have Hres : Hid (valueT n cap L O I = sumUpto A N + (nth O 0 + nth I 0) * leastT n cap L) := Lib.hid (by rw [hA, ← hN]; rfl)
  generalize leastT n cap L = LT at *
  have hb0 := hb 0
  generalize nth O 0 = X at *
  generalize nth I 0 = Y at *
  have m1 : 0 ≤ (X + Y) * LT := Int.mul_nonneg (by omega) hlb.1
  have m2 : (X + Y) * LT ≤ 1000 * 200100 := Int.mul_le_mul (by omega) hlb.2 hlb.1 (by omega)
  have hw0 : IntKind.i64.wrap (X + Y) = X + Y := IntWalk.i64_in _ (by omega)
  have hw1 : IntKind.i64.wrap ((X + Y) * LT) = (X + Y) * LT := IntWalk.i64_in _ (by omega)
  obtain ⟨PR, hPR⟩ : ∃ PR, PR = (X + Y) * LT := ⟨_, rfl⟩
  have hon0 : (0 : Int) < (on : Int) := by omega
  have hin0 : (0 : Int) < (inn : Int) := by omega
  have HA := Lib.hid hA
  have HAb := Lib.hid hAb
  have Hcell := Lib.hid hcell
  have HOk := Lib.hid hOk
  have HN := Lib.hid hN
  have Hb := Lib.hid hb
  have Hew := Lib.hid ew
  have Hew2 := Lib.hid ew2
  have Hbb := Lib.hid hbb
  have hszw : w.heap.size ≤ w2.heap.size := hbb.size
  have Hx2 := Lib.hid hx2
  have Hp0 := Lib.hid hp0
  have Hp1 := Lib.hid hp1
  have hN1 : N ≤ 100 := by omega
  have HonN : Hid (on = N + 1) := Lib.hid (by omega)
  have HinN : Hid (inn = N + 1) := Lib.hid (by omega)
  obtain ⟨da, hda⟩ : ∃ da, da = dv := ⟨_, rfl⟩
  have x0 := Ext.cell hx2.c0
  have x1 := Ext.cell hx2.c1
  have x2 := Ext.cell hx2.c2
  have x3 := Ext.cell hx2.c3
  have x4 := Ext.cell hx2.c4
  have x5 := Ext.cell hx2.c5
  have y0 := Ext.cell hp0
  have y1 := Ext.cell hp1
  have y2 := Ext.cell g1
  have y3 := Ext.cell g2
  have HPR := Lib.hid hPR
  have hPb : 0 ≤ PR ∧ PR ≤ 1000 * 200100 := by rw [hPR]; exact ⟨m1, m2⟩
  clear ew ew2 hsz1 hsz2 hx hx2 hC hO hI hb1 hb2 hbb hOk hp0 hp1 hoc hic f1 f2 g1 g2 hon hinn hOl hIl hb hAb hA hN hda hPR m1 m2 hcell hlen
  go_enter Tryz.func14, Tryz.ntmps14
  go_upto_region 1 with fail
  rw [Hew.out]
  rw [Hew2.out]
  generalize w1.heap.size = gx at *
  go_cut [5] (fun s5 wx => s5 = .int .i64 PR ∧ Below w2.heap.size w2 wx)
  case first =>
    refine wp_region_ext (by kernel_rfl) (by kernel_rfl) ?_
    repeat (go_big_quiet_step (first
      | (go_at_call 12; exact ext_call _ (HL.out _ (Ext.below _)))))
    refine wpQuiet_nil ?_
    intro _ hw'
    obtain ⟨z, rfl⟩ := hw'
    go_wp2_with fail
    go_meet
    exact ⟨by rw [HPR.out], z.below⟩
  case rest =>
  obtain ⟨rfl, hbc⟩ := hcut
  obtain ⟨w3, rfl⟩ : ∃ w3 : World, w3 = wc := ⟨_, rfl⟩
  have Hb3 := Lib.hid hbc
  clear x0 x1 x2 x3 x4 x5 y0 y1 y2 y3 hbc hw0 hw1
  go_wp2_with fail
  go_loopw [5, 6, 7, 8] (fun s5 i s7 s8 wr => ∃ (k : Nat) (S : Int) (y7 y8 : Value), k ≤ N ∧ y7 = s7 ∧ y8 = s8 ∧ i = .int .i64 k ∧ s5 = .int .i64 (PR + S) ∧ S = sumUpto A k ∧ Below w2.heap.size w2 wr) (fun _ i _ _ _ => N - (intOf i).toNat)
  case atStart => exact ⟨0, 0, _, _, Nat.zero_le _, rfl, rfl, rfl, by rw [Int.add_zero], rfl, Hb3.out⟩
  case round =>
    obtain ⟨k, S, y7, y8, hk, rfl, rfl, rfl, rfl, hS, hb⟩ := hrel
    obtain ⟨wo, rfl⟩ : ∃ wo : World, wo = wr := ⟨_, rfl⟩
    have HbO := Lib.hid hb
    by_cases hlt : k < N
    · have hi1 : (k : Int) < (N : Int) := by omega
      have hi0 : (0 : Int) ≤ (k : Int) := by omega
      have Hwk := Lib.hid (wrap_k hlt hN1 HonN.out HinN.out)
      have hkL : k < L.length := by rw [HN.out]; exact hlt
      have hok := HOk.out.cus _ (nthC_mem hkL)
      have hst : sumUpto A (k + 1) = S + A k := by rw [sumUpto, ← hS]
      have hsb := sumUpto_bd A 1064000 k (fun i hi => HAb.out i (by rw [HN.out]; omega))
      rw [← hS] at hsb
      have hak := HAb.out k hkL
      have hAk : A k = aloneC n cap (priceI2 O I k) (nthC L k) := by rw [HA.out]
      have hbk := Hb.out (k + 1)
      obtain ⟨p, hp⟩ : ∃ p, p = priceI2 O I k := ⟨_, rfl⟩
      have hpe : p = nth O (k + 1) + nth I (k + 1) := hp
      rw [← hp] at hAk
      obtain ⟨_, _, hv1, fo⟩ := Hoc.out (k + 1) (by have := HonN.out; omega)
      obtain ⟨_, _, hv2, fi⟩ := Hic.out (k + 1) (by have := HinN.out; omega)
      simp only [Option.some.injEq, Addr.mk.injEq, and_true] at hv1 hv2
      obtain ⟨rfl, rfl⟩ := hv1
      obtain ⟨rfl, rfl⟩ := hv2
      generalize nth O (k + 1) = PO at *
      generalize nth I (k + 1) = PI at *
      have Hwp := Lib.hid (wrap_p hpe hbk)
      have hpb := Hwp.out.2.2
      obtain ⟨b, o, pv, rfl, _, hcu⟩ := Hcell.out k hlt
      obtain ⟨pa, pn, pc, rfl⟩ := words_form hcu.pats
      have hPo : PriceOk (List.replicate n p) := fun x hx => by rw [List.eq_of_mem_replicate hx]; exact hpb
      have HB := Lib.hid (fun (W : World) (lv : Value) (h : Below w2.heap.size w2 W) (hl : Ints W lv (List.replicate n p)) => refBound_is (nthC L k).kd (nthC L k).dm (.slice pa pn pc) lv (nthC L k).rt (nthC L k).sz (nthC L k).st (nthC L k).ru (nthC L k).hd cap n (nthC L k).ps (List.replicate n p) W hok (by omega) HOk.out.n1 (hcu.pats.below (bel2 Hbb.out h)) hl hPo)
      have Hcu := Lib.hid (hcu.below (bel2 Hbb.out hb))
      unfold aloneC at hAk
      generalize boundI (nthC L k).kd (nthC L k).dm (nthC L k).ps (nthC L k).rt (nthC L k).sz (nthC L k).st (nthC L k).ru (nthC L k).hd cap (List.replicate n p) n = BV at *
      generalize nthC L k = Z at *
      obtain ⟨kd, dm, ps, rt, sz, st, ru, hd⟩ := Z
      simp only at HB Hcu
      rw [hAk] at hst hak
      have Hws := Lib.hid (wrap_s hPb hsb (by omega) hak)
      have Hst := Lib.hid hst
      have hfo := cell_below (bel2 Hbb.out hb) fo
      have hfi := cell_below (bel2 Hbb.out hb) fi
      have Hq0 := Lib.hid (cell_below hb Hp0.out)
      have Hq1 := Lib.hid (cell_below hb Hp1.out)
      have Hxo := Lib.hid (Hx2.out.below hb)
      obtain ⟨e0, e1, e2, e3, e4, e5⟩ := Hxo.out
      clear hst hsb hak hAk hp hpe hok hcu hPo hbk fo fi hkL hS
      go_wp2_with fail
      go_loopw [7, 8] (fun v i wr => ∃ (d : Nat) (y : Value), d ≤ n ∧ y = v ∧ i = .int .i64 d ∧ Own wr wo.heap.size y (List.replicate d p) ∧ Below wo.heap.size wo wr) (fun _ i _ => n - (intOf i).toNat)
      case atStart => exact ⟨0, _, Nat.zero_le _, rfl, rfl, Own.nil _ _, Below.refl _ _⟩
      case round =>
        obtain ⟨d, y, hd', rfl, rfl, hown, hbi⟩ := hrel
        obtain ⟨wi, rfl⟩ : ∃ wi : World, wi = wr := ⟨_, rfl⟩
        have Hbi := Lib.hid hbi
        have Hown := Lib.hid hown
        clear e0 e1 e2 e3 e4 e5
        obtain ⟨e0, e1, e2, e3, e4, e5⟩ := Hxo.out.below hbi
        have q0 := cell_below hbi Hq0.out
        have q1 := cell_below hbi Hq1.out
        have fo := cell_below hbi hfo
        have fi := cell_below hbi hfi
        by_cases hdl : d < n
        · have hd1 : (d : Int) < (n : Int) := by omega
          have hszi : wo.heap.size ≤ wi.heap.size := hbi.size
          have Hll : Hid ((List.replicate d p).length = d) := Lib.hid (by simp)
          have Hrep : Hid (List.replicate d p ++ [p] = List.replicate (d + 1) p) := Lib.hid (by rw [List.replicate_succ'])
          obtain ⟨va, vn, vc, rfl⟩ := own_slice hown
          clear hown hbi
          have hd12 : d + 1 ≤ 1000000000000 := by omega
          obtain ⟨hwk, hwk', hk1a, hk1b, hk1c⟩ := Hwk.out
          obtain ⟨hwp, hwp', _⟩ := Hwp.out
          go_upto_region 9 with fail
          go_region_law (first
            | (refine step_pushN (by rfl) (.tmp 34) (.tmp 48) 26 3 (.int .i64 0) 1 8 Tryz.underlying26 info_int rfl (by decide) (by decide) (by rfl) _ wo.heap.size (.slice va vn vc) d ((List.replicate d p).map (Value.int .i64)) [.int .i64 p] wi.heap.size (by rfl) (by rfl) (by exact Lies.new wi [.int .i64 p] _) rfl (by intro u hu; simp at hu; subst hu; rfl) (by have h := Hown.out; unfold Own at h; rw [Hll.out] at h; exact World.ownsRow.alloc h _) (by first | exact hd12 | omega) (by first | exact hszi | (simp [World.drew]; exact Nat.le_trans hszi (Nat.le_succ _)) | (simp [World.drew]; exact hszi) | (simp [World.drew]; omega)) ?_; intro g6 cap6 w6 hrow6 hg6 hb6 hat6 hge6 hlt6))
          all_goals
            have Hown6 : Hid (Own w6 wo.heap.size (.slice (some ⟨g6, 0, none⟩) (d + 1) cap6) (List.replicate (d + 1) p)) := Lib.hid (by unfold Own; rw [← Hrep.out]; simpa using hrow6)
            clear hwk hwk' hwp hwp'
            go_wp2_with fail
            go_roundw
            case rel => exact ⟨d + 1, _, Nat.succ_le_of_lt hdl, rfl, by go_num, Hown6.out, (by first | exact Hbi.out.trans hb6 | exact (Hbi.out.alloc hszi _).drew.trans hb6 | exact (Hbi.out.drew.alloc (by simp [World.drew]; exact hszi) _).trans hb6)⟩
            case measure => clear hd1 hd12 hszi; simp only [intOf]; exact meas_lt hdl
        · have hdn : d = n := by omega
          subst hdn
          have hbo : Below w2.heap.size w2 wi := hb.trans (hbi.mono hb.size)
          have HbR := Lib.hid hbo
          have hli := hown.ints
          obtain ⟨va, vn, vc, rfl⟩ := own_slice hown
          have HB2 := Lib.hid (fun (W : World) (h : Below wi.heap.size wi W) => HB.out W _ (bel2 hbo h) (hli.below h))
          have hxi := Hx2.out.below hbo
          have x0 := Ext.cell hxi.c0
          have x1 := Ext.cell hxi.c1
          have x2 := Ext.cell hxi.c2
          have x3 := Ext.cell hxi.c3
          have x4 := Ext.cell hxi.c4
          have x5 := Ext.cell hxi.c5
          obtain ⟨y0, y1, y2, y3, y4, y5, y6, y7, _⟩ := Hcu.out.below hbi
          have z0 := Ext.cell y0
          have z1 := Ext.cell y1
          have z2 := Ext.cell y2
          have z3 := Ext.cell y3
          have z4 := Ext.cell y4
          have z5 := Ext.cell y5
          have z6 := Ext.cell y6
          have z7 := Ext.cell y7
          clear hbo hli hxi y0 y1 y2 y3 y4 y5 y6 y7 hown hbi q0 q1 fo fi
          obtain ⟨hws, hws'⟩ := Hws.out
          go_upto_region 10 with fail
          refine wp_region_ext (by kernel_rfl) (by kernel_rfl) ?_
          repeat (go_big_quiet_step (first
            | (go_at_call 36; exact ext_call _ (HB2.out _ (Ext.below _)))))
          refine wpQuiet_nil ?_
          intro _ hw'
          obtain ⟨z, rfl⟩ := hw'
          have Hz := Lib.hid (HbR.out.trans (z.below.mono HbR.out.size))
          generalize z.w = w6 at *
          clear hws hws'
          go_wp2_with fail
          go_roundw
          case rel => exact ⟨k + 1, S + BV, _, _, by omega, rfl, rfl, by go_num, (by first | rfl | exact congrArg (Value.int .i64) Hws.out.1), Hst.out.symm, Hz.out⟩
          case measure => simp [intOf]; omega
    · have hkN : k = N := by omega
      subst hkN
      have Hr : Hid (valueT n cap L O I = PR + S) := Lib.hid (by rw [Hres.out, ← hS, HPR.out, Int.add_comm])
      have hB := Hbb.out.trans (hb.mono hszw)
      obtain ⟨e0, e1, e2, e3, e4, e5⟩ := Hx2.out.below hb
      clear hb hS Hres
      go_wp2_with fail
      go_ret
      rw [Hr.out]
      exact ⟨rfl, hB⟩

set_option maxHeartbeats 3200000 in
theorem refBest18_is (n : Nat) (i1 cap i3 : Int) (cv dv ov iv : Value) (L : List Cu) (D : List (List Int)) (O I : List Int) (w : World) (hC : Custs w cv L) (hG : Grid w dv D) (hD : ArcBd D) (hO : Ints w ov O) (hI : Ints w iv I) (hOk : OkI n L) (hcap : 0 ≤ cap ∧ cap ≤ 4294967296) (hOl : O.length = L.length + 1) (hIl : I.length = L.length + 1) (hb : ∀ j, 0 ≤ nth O j ∧ nth O j ≤ 500 ∧ 0 ≤ nth I j ∧ nth I j ≤ 500) :
    Calls Tryz.prog 18 #[.agg #[.int .i64 n, .int .i64 i1, .int .i64 cap, .int .i64 i3, cv, dv], .agg #[ov, iv]] w (CostOut w (bestT n cap L D O I)) := by
  obtain ⟨w1, ew, hb1, hsz1, hx⟩ := box_inst w (.int .i64 n) (.int .i64 i1) (.int .i64 cap) (.int .i64 i3) cv dv
  obtain ⟨w2, ew2, hb2, hsz2, hp0, hp1⟩ : ∃ w2, w1.alloc (.cells #[ov, iv] 29) = w2 ∧ Below w1.heap.size w1 w2 ∧ w2.heap.size = w1.heap.size + 1 ∧ w2.cell? ⟨w1.heap.size, 0, none⟩ = some ov ∧ w2.cell? ⟨w1.heap.size, 1, none⟩ = some iv :=
    ⟨_, rfl, (Below.refl _ _).alloc (Nat.le_refl _) _, by simp, by simp [go_sem], by simp [go_sem]⟩
  have hbb := bel2 hb1 hb2
  have hx2 := hx.below hb2
  rw [hsz1] at hp0 hp1
  have HV := Lib.hid (fun (W : World) (h : Below w2.heap.size w2 W) => refValue18_is n i1 cap i3 cv dv ov iv L O I W (hC.below (bel2 hbb h)) (hO.below (bel2 hbb h)) (hI.below (bel2 hbb h)) hOk hcap hOl hIl hb)
  have HB := Lib.hid (fun (W : World) (h : Below w2.heap.size w2 W) => refBase18_is n i1 cap i3 cv dv L D W (hC.below (bel2 hbb h)) (hG.below (bel2 hbb h)) hD hOk)
  have Hres : Hid (bestT n cap L D O I = max (valueT n cap L O I) (baseT n cap L D)) := Lib.hid rfl
  generalize valueT n cap L O I = V at *
  generalize baseT n cap L D = B at *
  have hm1 : (V < B ∧ decide (V < B) = true ∧ max V B = B) ∨ (¬ V < B ∧ decide (V < B) = false ∧ max V B = V) := by
    by_cases h : V < B
    · exact .inl ⟨h, decide_eq_true h, by omega⟩
    · exact .inr ⟨h, decide_eq_false h, by omega⟩
  obtain ⟨oa, on, oc, rfl, _⟩ := hO.open
  obtain ⟨ia, inn, ic, rfl, _⟩ := hI.open
  obtain ⟨ca, N, cc, rfl, _⟩ := hC.open
  obtain ⟨da, dn, dc, rfl, _⟩ := hG.open
  obtain ⟨c0, c1, c2, c3, c4, c5⟩ := hx2
  have Hew := Lib.hid ew
  have Hew2 := Lib.hid ew2
  have Hbb := Lib.hid hbb
  have Hx2 := Lib.hid (hx.below hb2)
  have hszw : w.heap.size ≤ w2.heap.size := hbb.size
  clear ew ew2 hsz1 hsz2 hx hC hG hO hI hb1 hb2 hbb hOk hOl hIl hb hD
  rcases hm1 with ⟨q1, q2, q3⟩ | ⟨q1, q2, q3⟩
  all_goals
    rw [q3] at Hres
    clear q3
    go_enter Tryz.func18, Tryz.ntmps18
    go_upto_region 1 with fail
    rw [Hew.out]
    rw [Hew2.out]
    go_wp2_with fail
    refine (HV.out _ (Below.refl _ _)).mono ?_
    rintro e w3 ⟨rfl, hb3⟩
    clear c0 c1 c2 c3 c4 c5
    obtain ⟨c0, c1, c2, c3, c4, c5⟩ := Hx2.out.below hb3
    have Hb3 := Lib.hid hb3
    clear hb3
    go_wp2_with fail
    refine (HB.out _ Hb3.out).mono ?_
    rintro e w4 ⟨rfl, hb4⟩
    have Hb4 := Lib.hid (Hbb.out.trans ((bel2 Hb3.out hb4).mono hszw))
    clear hb4
    go_wp2_with fail
    go_ret
    rw [Hres.out]
    exact ⟨rfl, Hb4.out⟩
end Go.Proofs.YtnhcgpkcmfelkaaGreat
