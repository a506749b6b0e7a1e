/-
  My own work: the walk of DualMay.
-/
import Derived.Test.YthilfibgpobcjaaDualF
import Derived.Test.YthilfibgpobcjaaDualH
import Derived.Test.YthilfibgpobcjaaDualM
import Derived.Test.YthilfibgpobcjaaGood4
namespace Go.Proofs.Ythilfibgpobcjaa
open Go.RowKit
set_option linter.unusedVariables false
attribute [local go_sem ↓] Go.wp_at_zero Go.wp_at_succ

/-- The prices of the law's argument, cut to twelve numbers. -/
structure CutSt (tp : Nat) (ov iv : Value) (O I : List Int) (w3 w : World) : Prop where
  blk : Blk2 w tp ov iv
  o : Ints w ov O
  i : Ints w iv I
  no : 0 < O.length → ov.ownBlock ≠ some tp
  ni : 0 < I.length → iv.ownBlock ≠ some tp
  grown : w3.grownBy w (some tp)
theorem FitSt.set_o {B : Nat} {w2 w : World} {t go n co gi ci : Nat} {O I : List Int} (h : FitSt B w2 t (.slice (some ⟨go, 0, none⟩) n co) (.slice (some ⟨gi, 0, none⟩) n ci) O I w) (hp : 0 < O.length) (y : Int) :
    FitSt B w2 t (.slice (some ⟨go, 0, none⟩) n co) (.slice (some ⟨gi, 0, none⟩) n ci) (O.set 0 y) I (w.setCell ⟨go, 0, none⟩ (.int .i64 y)) := by
  have hg := grownBy_setCell w ⟨go, 0, none⟩ (.int .i64 y)
  have h1 := h.own.1.set 0 y hp
  have hgo := (h.own.1.lt go rfl).1
  refine ⟨h.ge, h.blk.kept hg (fun e => h.ne0 (by simp at e; simp [Value.ownBlock, e])), ⟨h1, own_ne h.own.2.1 hg (h.own.2.2 go rfl), h.own.2.2⟩, h.ne0, h.ne1, h.below.setCell (p := ⟨go, 0, none⟩) hgo _⟩

theorem ints_take_all {w : World} {a : Option Addr} {n c : Nat} {xs : List Int} (h : Ints w (.slice a n c) xs) : xs.length = n := by
  obtain ⟨_, _, h1, _⟩ := h
  simp only [Value.slice.injEq] at h1
  exact h1.2.1.symm
theorem take_pos {k : Nat} {xs : List Int} (h : 0 < (xs.take k).length) : 0 < xs.length := by
  rw [List.length_take] at h; omega

theorem ownBlock_len (a : Option Addr) (n c m d : Nat) : (Value.slice a n c).ownBlock = (Value.slice a m d).ownBlock := by cases a <;> rfl
theorem CutSt.cut_o {tp on oc : Nat} {oa : Option Addr} {iv : Value} {O I : List Int} {w3 w : World} (h : CutSt tp (.slice oa on oc) iv O I w3 w) (k : Nat) (hk : k ≤ on) : CutSt tp (.slice oa k oc) iv (O.take k) I w3 (w.setCell ⟨tp, 0, none⟩ (.slice oa k oc)) := by
  have hg := grownBy_setCell w ⟨tp, 0, none⟩ (.slice oa k oc)
  refine ⟨⟨h.blk.lies.set 0 _ (by simp), by rw [World.frozen?_setCell]; exact h.blk.f0, by rw [World.frozen?_setCell]; exact h.blk.f1⟩, (h.o.take hk).kept hg (fun hp => by rw [ownBlock_len oa k oc on oc]; exact h.no (take_pos hp)), h.i.kept hg h.ni, fun hp => by rw [ownBlock_len oa k oc on oc]; exact h.no (take_pos hp), h.ni, grownBy_trans h.grown hg⟩
theorem CutSt.cut_i {tp im ic : Nat} {ia : Option Addr} {ov : Value} {O I : List Int} {w3 w : World} (h : CutSt tp ov (.slice ia im ic) O I w3 w) (k : Nat) (hk : k ≤ im) : CutSt tp ov (.slice ia k ic) O (I.take k) w3 (w.setCell ⟨tp, 1, none⟩ (.slice ia k ic)) := by
  have hg := grownBy_setCell w ⟨tp, 1, none⟩ (.slice ia k ic)
  refine ⟨⟨h.blk.lies.set 1 _ (by simp), by rw [World.frozen?_setCell]; exact h.blk.f0, by rw [World.frozen?_setCell]; exact h.blk.f1⟩, h.o.kept hg h.no, (h.i.take hk).kept hg (fun hp => by rw [ownBlock_len ia k ic im ic]; exact h.ni (take_pos hp)), h.no, fun hp => by rw [ownBlock_len ia k ic im ic]; exact h.ni (take_pos hp), grownBy_trans h.grown hg⟩

theorem set_one_bd {O : List Int} {k : Nat} (h : ∀ k, 0 ≤ nth O k ∧ nth O k ≤ 60) (h0 : 0 < O.length) : 0 ≤ nth (O.set 0 (nth O 0 + 1)) k ∧ nth (O.set 0 (nth O 0 + 1)) k ≤ 61 := by
  rw [nth_set h0]
  split
  · have := h 0; omega
  · have := h k; omega

set_option maxRecDepth 100000 in
set_option maxHeartbeats 12800000 in
theorem dualMay_walk (i0 i1 i2 i3 : Int) (cv0 dv0 : Value) (L0 : List Cu) (D0 : List (List Int)) (ov0 iv0 lv : Value) (O0 I0 l : List Int) (a b : Int) (w : World) (a0 : (Lit.int .i64 i0).wf = true) (a1 : (Lit.int .i64 i1).wf = true) (a2 : (Lit.int .i64 i2).wf = true) (a3 : (Lit.int .i64 i3).wf = true) (hC0 : Custs w cv0 L0) (hL0 : ∀ C ∈ L0, WfC C) (hG0 : Grid w dv0 D0) (hD0 : ∀ r ∈ D0, ∀ x ∈ r, (Lit.int .i64 x).wf = true) (hov : Ints w ov0 O0) (hiv : Ints w iv0 I0) (hlv : Ints w lv l) :
    Calls Try.prog 4 #[.agg #[.int .i64 i0, .int .i64 i1, .int .i64 i2, .int .i64 i3, cv0, dv0], .agg #[ov0, iv0], lv, .int .i64 a, .int .i64 b] w fun e w' => e = .returned (.bool true) ∧ Below w.heap.size w w' := by
  obtain ⟨w0, ew, hb1, hsz1, hx⟩ := box_inst w (.int .i64 i0) (.int .i64 i1) (.int .i64 i2) (.int .i64 i3) cv0 dv0
  obtain ⟨w1, ewp⟩ : ∃ w1, w0.alloc (.cells #[ov0, iv0] 31) = w1 := ⟨_, rfl⟩
  have hbp : Below w0.heap.size w0 w1 := by rw [← ewp]; exact belAlloc _ _
  have hszp : w1.heap.size = w.heap.size + 1 + 1 := by rw [← ewp]; simp; omega
  have hblk1 : Blk2 w1 (w.heap.size + 1) ov0 iv0 := by rw [← ewp, ← hsz1]; exact Blk2.new _ _ _ _
  have hbb := bel2 hb1 hbp
  have hx := hx.below hbp
  obtain ⟨c0, c1, c2, c3, c4, c5⟩ := hx
  have Hgood := Lib.hid (goodOwn_is i0 i1 i2 i3 cv0 dv0 L0 D0 w1 a0 a1 a2 a3 (hC0.below hbb) hL0 (hG0.below hbb) hD0)
  have Hew := Lib.hid ew
  have Hewp := Lib.hid ewp
  have HB1 := Lib.hid hbb
  have hno0 := hov.notNew (show w.heap.size ≤ w.heap.size + 1 by omega)
  have hni0 := hiv.notNew (show w.heap.size ≤ w.heap.size + 1 by omega)
  have Hov1 := Lib.hid (hov.below hbb)
  have Hiv1 := Lib.hid (hiv.below hbb)
  have Hlv1 := Lib.hid (hlv.below hbb)
  have hnl0 := hlv.notNew (show w.heap.size ≤ w.heap.size + 1 by omega)
  obtain ⟨oa, on, oc, rfl, hon, _, _⟩ := hov.open
  obtain ⟨ia, im, ic, rfl, him, _, _⟩ := hiv.open
  have hcapo := hov.cap
  have hcapi := hiv.cap
  have Hon := Lib.hid hon
  have Him := Lib.hid him
  have Hno0 := Lib.hid hno0
  have Hni0 := Lib.hid hni0
  have Hnl0 := Lib.hid hnl0
  have hsz : w.heap.size ≤ w1.heap.size := hbb.size
  have htp1 : w.heap.size + 1 < w1.heap.size := by omega
  clear ew ewp hb1 hbp hsz1 hszp hC0 hG0 hL0 hD0 hov hiv hlv hbb hno0 hni0 hnl0 hon him
  go_enter Try.func4, Try.ntmps4
  go_upto_region 1 with (fail)
  rw [Hew.out, Hewp.out]
  generalize etp : w.heap.size + 1 = tp at *
  have Htp := Lib.hid etp
  have htpw : w.heap.size ≤ tp := by omega
  clear etp
  go_wp2_with fail
  refine Hgood.out.mono ?_
  rintro e w2 ⟨days, ve, cp, ln, cv, dv, L, D, rfl, hdays, hLn, hgood, hC, hG, hb2⟩
  obtain ⟨ca, cm, cc, rfl, hcm, _, _⟩ := hC.custs.open
  obtain ⟨da, dm, dc, rfl, _, _, _⟩ := hG.grid.open
  obtain ⟨w3, ew3, hb3, hsz3, hy⟩ := box_inst w2 (.int .i64 days) (.int .i64 ve) (.int .i64 cp) (.int .i64 ln) (.slice ca cm cc) (.slice da dm dc)
  have hD : ArcBd D := arcBd_of hgood.dist hgood.rows
  obtain ⟨n, hn⟩ : ∃ n, L.length + 1 = n := ⟨_, rfl⟩
  have hn7 : n ≤ 7 := by have := hgood.n6; omega
  have hnp : 0 < n := by omega
  have hncm : Hid ((n : Int) = (cm : Int) + 1) := Lib.hid (by omega)
  have hcm6 : cm ≤ 6 := by omega
  have HC3 := Lib.hid (hC.below hb3)
  have HG3 := Lib.hid (hG.below hb3)
  have Hn := Lib.hid hn
  have Hew3 := Lib.hid ew3
  have hb13 := bel2 hb2 hb3
  have Hblk3 := Lib.hid (hblk1.below hb13)
  have HB3 := Lib.hid (HB1.out.trans (hb13.mono hsz))
  have hst3 : CutSt tp (.slice oa on oc) (.slice ia im ic) O0 I0 w3 w3 := ⟨hblk1.below hb13, Hov1.out.below hb13, Hiv1.out.below hb13, Hno0.out, Hni0.out, ⟨rfl, rfl, rfl, Nat.le_refl _, fun _ _ _ => rfl⟩⟩
  have Hst3 := Lib.hid hst3
  have Hlv3 := Lib.hid (Hlv1.out.below hb13)
  have hs12 : w1.heap.size ≤ w2.heap.size := hb2.size
  have hs23 : w2.heap.size < w3.heap.size := by omega
  have htpy : ¬ w2.heap.size = tp := by omega
  have htpy2 : tp < w2.heap.size := by omega
  clear c0 c1 c2 c3 c4 c5 hdays hLn hgood hC hG hb2 hb3 hb13 hsz3 ew3 hn hcm hblk1 hst3
  obtain ⟨c0, c1, c2, c3, c4, c5⟩ := hy
  obtain ⟨p0, p1, p2, p3⟩ := Hblk3.out.cells
  go_upto_region 2 with (fail)
  rw [Hew3.out]
  generalize w2.heap.size = gy at *
  go_upto_if 23 with fail
  go_cut [10] (fun s10 wx => s10 = .bool false ∧ ∃ on2 : Nat, CutSt tp (.slice oa on2 oc) (.slice ia im ic) (O0.take on2) I0 w3 wx)
  case first =>
    by_cases h12 : 12 < on
    · have h1 : decide ((12 : Int) < (on : Int)) = true := by simp; omega
      have hc1 : (12 : Int) ≤ (oc : Int) := by omega
      have hc2 : (12 : Int) ≤ (on : Int) := by omega
      have H9 := Lib.hid (Hst3.out.cut_o 12 (by omega))
      rw [h1]
      go_wp2_with fail
      go_meet
      exact ⟨rfl, 12, H9.out⟩
    · have h1 : decide ((12 : Int) < (on : Int)) = false := by simp; omega
      have Ht : Hid (O0.take on = O0) := Lib.hid (by rw [List.take_of_length_le]; rw [Hon.out]; omega)
      rw [h1]
      go_wp2_with fail
      go_meet
      exact ⟨rfl, on, by rw [Ht.out]; exact Hst3.out⟩
  case rest =>
    obtain ⟨rfl, on2, hst⟩ := hcut
    obtain ⟨w4, rfl⟩ : ∃ w4 : World, w4 = wc := ⟨_, rfl⟩
    have Hst4 := Lib.hid hst
    clear hst p0 p1 p2 p3
    obtain ⟨p0, p1, p2, p3⟩ := Hst4.out.blk.cells
    go_upto_if 31 with fail
    go_cut [10] (fun s10 wx => s10 = .bool false ∧ ∃ in2 : Nat, CutSt tp (.slice oa on2 oc) (.slice ia in2 ic) (O0.take on2) (I0.take in2) w3 wx)
    case first =>
      by_cases h12 : 12 < im
      · have h1 : decide ((12 : Int) < (im : Int)) = true := by simp; omega
        have hc1 : (12 : Int) ≤ (ic : Int) := by omega
        have hc2 : (12 : Int) ≤ (im : Int) := by omega
        have H9 := Lib.hid (Hst4.out.cut_i 12 (by omega))
        rw [h1]
        go_wp2_with fail
        go_meet
        exact ⟨rfl, 12, H9.out⟩
      · have h1 : decide ((12 : Int) < (im : Int)) = false := by simp; omega
        have Ht : Hid (I0.take im = I0) := Lib.hid (by rw [List.take_of_length_le]; rw [Him.out]; omega)
        rw [h1]
        go_wp2_with fail
        go_meet
        exact ⟨rfl, im, by rw [Ht.out]; exact Hst4.out⟩
    case rest =>
      obtain ⟨rfl, in2, hst⟩ := hcut
      obtain ⟨w5, rfl⟩ : ∃ w5 : World, w5 = wc := ⟨_, rfl⟩
      clear p0 p1 p2 p3
      obtain ⟨t0, t1, _, _⟩ := hst.blk.cells
      have hneg : some gy ≠ some tp := by simpa using htpy
      have d0 := hst.grown.cell c0 hneg
      have d1 := hst.grown.cell c1 hneg
      have d2 := hst.grown.cell c2 hneg
      have d3 := hst.grown.cell c3 hneg
      have d4 := hst.grown.cell c4 hneg
      have d5 := hst.grown.cell c5 hneg
      have HC := Lib.hid (HC3.out.kept hst.grown (by intro k hk; cases hk; exact htp1)).custs
      have HG := Lib.hid (HG3.out.kept hst.grown (by intro k hk; cases hk; exact htp1)).grid
      have HB5 := Lib.hid (HB3.out.grown hst.grown HB3.out.size (by intro k hk; cases hk; exact htpw))
      have Hlv := Lib.hid (Hlv3.out.kept hst.grown Hnl0.out)
      have Ho5 := Lib.hid hst.o
      have Hi5 := Lib.hid hst.i
      have HM1 := Lib.hid (fun (W : World) (h : Below w5.heap.size w5 W) => may_is days ve cp ln (.slice ca cm cc) (.slice da dm dc) (.slice oa on2 oc) (.slice ia in2 ic) L D (O0.take on2) (I0.take in2) n W (HC.out.below h) (HG.out.below h) (Ho5.out.below h) (Hi5.out.below h) Hn.out (by omega) hD)
      have HM2 := Lib.hid (fun (W : World) (h : Below w5.heap.size w5 W) => refMay_is days ve cp ln (.slice ca cm cc) (.slice da dm dc) (.slice oa on2 oc) (.slice ia in2 ic) L D (O0.take on2) (I0.take in2) n W (HC.out.below h) (HG.out.below h) (Ho5.out.below h) (Hi5.out.below h) Hn.out (by omega) hD)
      have hme : mayE D n (O0.take on2) (I0.take in2) = if mayB D n (O0.take on2) (I0.take in2) = true then 0 else 16 := rfl
      have b0 := Below.refl w5.heap.size w5
      have hsz5 : w.heap.size ≤ w5.heap.size := HB5.out.size
      rw [hme] at HM1
      generalize mayB D n (O0.take on2) (I0.take in2) = MB at *
      clear hst c0 c1 c2 c3 c4 c5 hme
      go_upto_region 6 with fail
      go_cut [43] (fun s43 wx => s43 = .bool false ∧ Below w5.heap.size w5 wx)
      case first =>
        cases MB with
        | true =>
          rw [if_pos rfl] at HM1
          go_region_held3 (fun w' => w'.cell? ⟨gy, 0, none⟩ = some (.int .i64 days) ∧ w'.cell? ⟨gy, 1, none⟩ = some (.int .i64 ve) ∧ w'.cell? ⟨gy, 2, none⟩ = some (.int .i64 cp) ∧ w'.cell? ⟨gy, 3, none⟩ = some (.int .i64 ln) ∧ w'.cell? ⟨gy, 4, none⟩ = some (.slice ca cm cc) ∧ w'.cell? ⟨gy, 5, none⟩ = some (.slice da dm dc) ∧ w'.cell? ⟨tp, 0, none⟩ = some (.slice oa on2 oc) ∧ w'.cell? ⟨tp, 1, none⟩ = some (.slice ia in2 ic))
            (first | go_keep | exact eight_below b7 ⟨d0, d1, d2, d3, d4, d5, t0, t1⟩ | exact eight_below b6 ⟨d0, d1, d2, d3, d4, d5, t0, t1⟩)
            (first
              | (go_at_call 20; refine (HM1.out _ ?_).mono ?_; (first | exact b0 | exact belDrew _); rintro e w6 ⟨rfl, hb6⟩; (first | have b6 := bel2 b0 hb6 | have b6 := bel2 (belDrew w5) hb6))
              | (go_at_call 21; refine (HM2.out _ ?_).mono ?_; exact b6; rintro e w7 ⟨rfl, hb7⟩; have b7 := bel2 b6 hb7))
          all_goals
            go_wp2_with fail
            go_meet
            exact ⟨rfl, by first | exact b7 | exact b7.drew⟩
        | false =>
          rw [if_neg (by simp)] at HM1
          go_region_held3 (fun w' => w'.cell? ⟨gy, 0, none⟩ = some (.int .i64 days) ∧ w'.cell? ⟨gy, 1, none⟩ = some (.int .i64 ve) ∧ w'.cell? ⟨gy, 2, none⟩ = some (.int .i64 cp) ∧ w'.cell? ⟨gy, 3, none⟩ = some (.int .i64 ln) ∧ w'.cell? ⟨gy, 4, none⟩ = some (.slice ca cm cc) ∧ w'.cell? ⟨gy, 5, none⟩ = some (.slice da dm dc) ∧ w'.cell? ⟨tp, 0, none⟩ = some (.slice oa on2 oc) ∧ w'.cell? ⟨tp, 1, none⟩ = some (.slice ia in2 ic))
            (first | go_keep | exact eight_below b7 ⟨d0, d1, d2, d3, d4, d5, t0, t1⟩ | exact eight_below b6 ⟨d0, d1, d2, d3, d4, d5, t0, t1⟩)
            (first
              | (go_at_call 20; refine (HM1.out _ ?_).mono ?_; (first | exact b0 | exact belDrew _); rintro e w6 ⟨rfl, hb6⟩; (first | have b6 := bel2 b0 hb6 | have b6 := bel2 (belDrew w5) hb6))
              | (go_at_call 21; refine (HM2.out _ ?_).mono ?_; exact b6; rintro e w7 ⟨rfl, hb7⟩; have b7 := bel2 b6 hb7))
          all_goals
            go_wp2_with fail
            go_meet
            exact ⟨rfl, by first | exact b7 | exact b7.drew⟩
      case rest =>
        obtain ⟨rfl, hbc⟩ := hcut
        obtain ⟨w6, rfl⟩ : ∃ w6 : World, w6 = wc := ⟨_, rfl⟩
        obtain ⟨c0, c1, c2, c3, c4, c5⟩ := six_below hbc ⟨d0, d1, d2, d3, d4, d5⟩
        have HC6 := Lib.hid (HC.out.below hbc)
        have HG6 := Lib.hid (HG.out.below hbc)
        have Hlv6 := Lib.hid (Hlv.out.below hbc)
        have HB6 := Lib.hid (HB5.out.trans (hbc.mono hsz5))
        have hsz6 : w.heap.size ≤ w6.heap.size := HB6.out.size
        have HN := Lib.hid (fun (W : World) (h : Below w6.heap.size w6 W) => numbers_is days ve cp ln (.slice ca cm cc) (.slice da dm dc) lv L l n W (HC6.out.below h) (Hlv6.out.below h) Hn.out (by omega))
        have HF := Lib.hid (fun (W : World) (nv : Value) (h : Below w6.heap.size w6 W) (hI : Ints W nv (numsL n l)) => refFit_is days ve cp ln (.slice ca cm cc) (.slice da dm dc) nv L D (numsL n l) n W (HC6.out.below h) (HG6.out.below h) hI Hn.out (by omega) (nums_len n l) hD)
        clear d0 d1 d2 d3 d4 d5 t0 t1 hbc HM1 HM2 b0
        go_upto_region 8 with fail
        go_cut [12] (fun s wx => ∃ (t : Nat) (ov iv : Value), s = .pointer (some ⟨t, 0, none⟩) ∧ FitSt w6.heap.size w6 t ov iv (outL D n (inL D n (numsL n l))) (inL D n (numsL n l)) wx)
        case first =>
          have b0 := Below.refl w6.heap.size w6
          go_region_held3 (fun w' => w'.cell? ⟨gy, 0, none⟩ = some (.int .i64 days) ∧ w'.cell? ⟨gy, 1, none⟩ = some (.int .i64 ve) ∧ w'.cell? ⟨gy, 2, none⟩ = some (.int .i64 cp) ∧ w'.cell? ⟨gy, 3, none⟩ = some (.int .i64 ln) ∧ w'.cell? ⟨gy, 4, none⟩ = some (.slice ca cm cc) ∧ w'.cell? ⟨gy, 5, none⟩ = some (.slice da dm dc))
            (first | go_keep | exact six_below b5 ⟨c0, c1, c2, c3, c4, c5⟩ | exact six_below b6 ⟨c0, c1, c2, c3, c4, c5⟩ | exact six_below (b5.alloc b5.size _) ⟨c0, c1, c2, c3, c4, c5⟩ | exact six_below (b6.alloc b6.size _) ⟨c0, c1, c2, c3, c4, c5⟩ | exact six_below (b6.drew) ⟨c0, c1, c2, c3, c4, c5⟩ | exact six_below (b5.drew) ⟨c0, c1, c2, c3, c4, c5⟩ | exact six_below (fitSt_store hQ6 b6 (by first | exact Nat.le_refl _ | exact b5.size) e9 n9.1 n9.2).below ⟨c0, c1, c2, c3, c4, c5⟩)
            (first
              | (go_at_call 15; refine (HN.out _ ?_).mono ?_; (first | exact b0 | exact belDrew w6 | exact bel2 (belDrew w6) (belAlloc _ _) | exact bel2 (belAlloc w6 _) (belDrew _)); rintro e wN ⟨nv, rfl, hN5, hb5⟩; have hI5 := hN5.ints; (first | have b5 := bel2 b0 hb5 | have b5 := bel2 (belDrew w6) hb5 | have b5 := bel2 (bel2 (belDrew w6) (belAlloc _ _)) hb5 | have b5 := bel2 (bel2 (belAlloc w6 _) (belDrew _)) hb5); (first | (have e9 := (Blk2.new w6 _ _ _).drew.below hb5; have x4 := e9.lt) | skip))
              | (go_at_call 22; refine (HF.out _ _ ?_ ?_).mono ?_; (first | exact b5 | exact bel2 b5 (belAlloc _ _) | exact bel2 b5 (belDrew _)); (first | exact hI5 | exact hI5.below (belAlloc _ _) | exact hI5.below (belDrew _)); rintro e wF ⟨ov, iv, rfl, hP6, hb6⟩; obtain ⟨go, co, gi, ci, rfl, rfl⟩ := hP6.form (outL_len _ _ _) (inL_len _ _ _) hnp; (first | have b6 := bel2 b5 hb6 | have b6 := bel2 (bel2 b5 (belAlloc _ _)) hb6 | have b6 := bel2 (bel2 b5 (belDrew _)) hb6); have hQ6 := hP6.mono (show w6.heap.size ≤ _ by first | exact b5.size | exact (bel2 b5 (belAlloc _ _)).size | exact (bel2 b5 (belDrew _)).size);
                  (first | (have n9 := ownP_low (t := w6.heap.size) hP6 x4; have e9 := e9.below hb6; obtain ⟨y0, y1, y2, y3⟩ := e9.cells; have y4 := e9.lt) | (have n9 := ownP_low (t := wN.heap.size) hP6 (by simp); have e9 := (Blk2.new wN _ _ _).below hb6; obtain ⟨y0, y1, y2, y3⟩ := e9.cells; have y4 := e9.lt) | skip)))
          all_goals
            go_wp2_with fail
            go_meet
            first
              | exact ⟨_, _, _, rfl, fitSt_alloc b6.size hQ6 b6 _⟩
              | exact ⟨_, _, _, rfl, (fitSt_alloc b6.size hQ6 b6 _).drew⟩
              | exact ⟨_, _, _, rfl, fitSt_store hQ6 b6 (by first | exact Nat.le_refl _ | exact b5.size) e9 n9.1 n9.2⟩
              | exact ⟨_, _, _, rfl, (fitSt_store hQ6 b6 (by first | exact Nat.le_refl _ | exact b5.size) e9 n9.1 n9.2).drew⟩
        case rest =>
          obtain ⟨t, ov, iv, rfl, hs⟩ := hcut
          obtain ⟨w7, rfl⟩ : ∃ w7 : World, w7 = wc := ⟨_, rfl⟩
          obtain ⟨go, co, gi, ci, rfl, rfl⟩ := hs.own.form (outL_len _ _ _) (inL_len _ _ _) hnp
          obtain ⟨t0, t1, _, _⟩ := hs.blk.cells
          have hOb := nth_out_bd hD n (numsL n l)
          have hIb := nth_in_bd hD n (numsL n l)
          have hOl := outL_len D n (inL D n (numsL n l))
          have hIl := inL_len D n (numsL n l)
          obtain ⟨g9, c9, hv9, _, _, _, hcell⟩ := hs.own.1.out (by rw [hOl]; exact hnp)
          simp only [Value.slice.injEq, Option.some.injEq, Addr.mk.injEq, and_true] at hv9
          obtain ⟨rfl, hv1, hv2⟩ := hv9
          obtain ⟨f0, f1⟩ := hcell 0 (by rw [hOl]; exact hnp)
          rw [Nat.zero_add] at f0 f1
          generalize outL D n (inL D n (numsL n l)) = O at *
          generalize inL D n (numsL n l) = I at *
          have hX := hOb 0
          have hs2 := hs.set_o (by rw [hOl]; exact hnp) (nth O 0 + 1)
          have hO2b := fun k => set_one_bd (k := k) hOb (by rw [hOl]; exact hnp)
          have hO2l : (O.set 0 (nth O 0 + 1)).length = n := by rw [List.length_set]; exact hOl
          obtain ⟨O2, hO2⟩ : ∃ O2, O.set 0 (nth O 0 + 1) = O2 := ⟨_, rfl⟩
          rw [hO2] at hs2 hO2b hO2l
          have hgo6 := (hs.own.1.lt go rfl).2
          generalize nth O 0 = X at *
          obtain ⟨hX1, hX2⟩ := hX
          have hw1 : IntKind.i64.wrap (X + 1) = X + 1 := IntWalk.i64_in _ (by omega)
          have hn0 : (0 : Int) < (n : Int) := by omega
          have HS2 := Lib.hid hs2
          have HO2b := Lib.hid hO2b
          have HIb := Lib.hid hIb
          have HO2l := Lib.hid hO2l
          have HIl := Lib.hid hIl
          clear hcell hv1 hv2 hs2 hO2 hO2b hO2l hIb hIl hOb hOl hs HN HF
          go_upto_region 9 with fail
          go_cut [10] (fun s10 wx => s10 = .bool false ∧ FitSt w6.heap.size w6 t (.slice (some ⟨go, 0, none⟩) n co) (.slice (some ⟨gi, 0, none⟩) n ci) O2 I wx)
          case first =>
            go_region
            all_goals
              go_wp2_with fail
              go_meet
              exact ⟨rfl, by first | exact HS2.out | exact HS2.out.drew⟩
          case rest =>
            obtain ⟨rfl, hs⟩ := hcut
            obtain ⟨w8, rfl⟩ : ∃ w8 : World, w8 = wc := ⟨_, rfl⟩
            clear t0 t1 f0 f1 hw1 hgo6
            obtain ⟨t0, t1, _, _⟩ := hs.blk.cells
            obtain ⟨d0, d1, d2, d3, d4, d5⟩ := six_below hs.below ⟨c0, c1, c2, c3, c4, c5⟩
            have HC8 := Lib.hid (HC6.out.below hs.below)
            have HG8 := Lib.hid (HG6.out.below hs.below)
            have HB8 := Lib.hid (HB6.out.trans (hs.below.mono hsz6))
            have hsz8 : w.heap.size ≤ w8.heap.size := HB8.out.size
            have HO8 := Lib.hid hs.own.1.ints
            have HI8 := Lib.hid hs.own.2.1.ints
            have HE := Lib.hid (fun (W : World) (h : Below w8.heap.size w8 W) => may_is days ve cp ln (.slice ca cm cc) (.slice da dm dc) (.slice (some ⟨go, 0, none⟩) n co) (.slice (some ⟨gi, 0, none⟩) n ci) L D O2 I n W (HC8.out.below h) (HG8.out.below h) (HO8.out.below h) (HI8.out.below h) Hn.out (by omega) hD)
            have HR := Lib.hid (refMay_is days ve cp ln (.slice ca cm cc) (.slice da dm dc) (.slice (some ⟨go, 0, none⟩) n co) (.slice (some ⟨gi, 0, none⟩) n ci) L D O2 I n w8 HC8.out HG8.out HO8.out HI8.out Hn.out (by omega) hD)
            have HSl := Lib.hid (fun (W : World) (h : Below w8.heap.size w8 W) => slack_is days ve cp ln (.slice ca cm cc) (.slice da dm dc) (.slice (some ⟨go, 0, none⟩) n co) (.slice (some ⟨gi, 0, none⟩) n ci) L D O2 I n a b W (HC8.out.below h) (HG8.out.below h) (HO8.out.below h) (HI8.out.below h) Hn.out (by omega) hD HO2l.out HIl.out (fun k => by have := HO2b.out k; omega) (fun k => by have := HIb.out k; omega))
            have HAr := Lib.hid (fun (W : World) (h : Below w8.heap.size w8 W) => refArc_is days ve cp ln (.slice ca cm cc) (.slice da dm dc) D a b W (HG8.out.below h))
            have HZ := Lib.hid (fun (W : World) (h : Below w8.heap.size w8 W) => zero_is days ve cp ln (.slice ca cm cc) (.slice da dm dc) L n W (HC8.out.below h) Hn.out (by omega))
            have HEz := Lib.hid (fun (W : World) (zo zi : Value) (h : Below w8.heap.size w8 W) (ho : Ints W zo (List.replicate n 0)) (hi : Ints W zi (List.replicate n 0)) => may_is days ve cp ln (.slice ca cm cc) (.slice da dm dc) zo zi L D (List.replicate n 0) (List.replicate n 0) n W (HC8.out.below h) (HG8.out.below h) ho hi Hn.out (by omega) hD)
            rw [mayE_yes (by unfold mayB; rw [decide_eq_true_iff]; exact may_zero hD n)] at HEz
            have hme : mayE D n O2 I = if mayB D n O2 I = true then 0 else 16 := rfl
            rw [hme] at HE
            have hsl : slackI D n O2 I a b = if 0 ≤ a ∧ a < n ∧ 0 ≤ b ∧ b < n ∧ a ≠ b then arcI D a b - nth O2 a.toNat - nth I b.toNat else 0 := rfl
            have hA := hD a b
            obtain ⟨hA1, hA2⟩ := hA
            have Hdl := Lib.hid (And.intro hs.own.1.ints hs.own.2.1.ints)
            clear hs c0 c1 c2 c3 c4 c5 hme hD HS2
            generalize mayB D n O2 I = MC at *
            generalize slackI D n O2 I a b = SL at *
            generalize arcI D a b = A at *
            by_cases hin : 0 ≤ a ∧ a < n ∧ 0 ≤ b ∧ b < n ∧ a ≠ b
            · obtain ⟨h1, h2, h3, h4, h5⟩ := hin
              rw [if_pos ⟨h1, h2, h3, h4, h5⟩] at hsl
              obtain ⟨j, rfl⟩ := Int.eq_ofNat_of_zero_le h1
              obtain ⟨k, rfl⟩ := Int.eq_ofNat_of_zero_le h3
              rw [Int.toNat_natCast, Int.toNat_natCast] at hsl
              have hx := HO2b.out j
              have hy := HIb.out k
              obtain ⟨hx1, hx2⟩ := hx
              obtain ⟨hy1, hy2⟩ := hy
              obtain ⟨_, _, _, hv1, _, _, ho⟩ := HO8.out.open
              simp only [Value.slice.injEq] at hv1
              obtain ⟨rfl, rfl, rfl⟩ := hv1
              obtain ⟨_, _, _, hv2, _, _, hi⟩ := HI8.out.open
              simp only [Value.slice.injEq] at hv2
              obtain ⟨rfl, rfl, rfl⟩ := hv2
              obtain ⟨_, _, he1, f0⟩ := ho j (by omega)
              simp only [Option.some.injEq, Addr.mk.injEq, and_true] at he1
              obtain ⟨rfl, rfl⟩ := he1
              obtain ⟨_, _, he2, f1⟩ := hi k (by omega)
              simp only [Option.some.injEq, Addr.mk.injEq, and_true] at he2
              obtain ⟨rfl, rfl⟩ := he2
              rw [Nat.zero_add] at f0 f1
              generalize nth O2 j = X2 at *
              generalize nth I k = Y2 at *
              obtain ⟨K, hK⟩ : ∃ K, K = A - X2 - Y2 := ⟨_, rfl⟩
              rw [← hK] at hsl
              subst hsl
              have hw1 : IntKind.i64.wrap (A - X2) = A - X2 := IntWalk.i64_in _ (by omega)
              have hw2 : IntKind.i64.wrap (A - X2 - Y2) = SL := by rw [hK]; exact IntWalk.i64_in _ (by omega)
              have hj0 : (0 : Int) ≤ (j : Int) := by omega
              have hk0 : (0 : Int) ≤ (k : Int) := by omega
              have bne : ((j : Int) != (k : Int)) = true := by simp; omega
              clear ho hi h5 hK h1 h3
              cases MC with
              | true =>
                rw [if_pos rfl] at HE
                go_wp2_with fail
                refine HR.out.mono ?_
                rintro e w9 ⟨rfl, hb9⟩
                obtain ⟨x0, x1, x2, x3, x4, x5, y0, y1⟩ := eight_below hb9 ⟨d0, d1, d2, d3, d4, d5, t0, t1⟩
                go_wp2_with fail
                refine (HE.out _ hb9).mono ?_
                rintro e w10 ⟨rfl, hb10⟩
                have b10 := bel2 hb9 hb10
                clear x0 x1 x2 x3 x4 x5 y0 y1 hb9 hb10
                obtain ⟨x0, x1, x2, x3, x4, x5, y0, y1⟩ := eight_below b10 ⟨d0, d1, d2, d3, d4, d5, t0, t1⟩
                have f010 := cell_below b10 f0
                have f110 := cell_below b10 f1
                go_upto_region 13 with (fail)
                rw [show Value.int .i64 ((cm : Int) + 1) = Value.int .i64 (n : Int) by rw [hncm.out]]
                go_wp2_with fail
                go_region_held3 (fun w' => (w'.cell? ⟨gy, 0, none⟩ = some (.int .i64 days) ∧ w'.cell? ⟨gy, 1, none⟩ = some (.int .i64 ve) ∧ w'.cell? ⟨gy, 2, none⟩ = some (.int .i64 cp) ∧ w'.cell? ⟨gy, 3, none⟩ = some (.int .i64 ln) ∧ w'.cell? ⟨gy, 4, none⟩ = some (.slice ca cm cc) ∧ w'.cell? ⟨gy, 5, none⟩ = some (.slice da dm dc) ∧
                    w'.cell? ⟨t, 0, none⟩ = some (.slice (some ⟨go, 0, none⟩) n co) ∧ w'.cell? ⟨t, 1, none⟩ = some (.slice (some ⟨gi, 0, none⟩) n ci)) ∧ w'.cell? ⟨go, j, none⟩ = some (.int .i64 X2) ∧ w'.cell? ⟨gi, k, none⟩ = some (.int .i64 Y2))
                  (first | go_keep | exact ⟨eight_below b17 ⟨d0, d1, d2, d3, d4, d5, t0, t1⟩, cell_below b17 f0, cell_below b17 f1⟩)
                  (first | (go_at_call 23; refine (HAr.out _ ?_).mono ?_; (first | exact b10 | exact bel2 b10 (belDrew _)); rintro e w17 ⟨rfl, hb17⟩; (first | have b17 := bel2 b10 hb17 | have b17 := bel2 (bel2 b10 (belDrew _)) hb17)))
                all_goals
                  clear b10
                  have b10 := b17
                  clear b17
                  go_wp2_with fail
                  refine (HZ.out _ ?_).mono ?_
                  · first | exact b10 | exact b10.drew
                  rintro e w11 ⟨zo, zi, rfl, hPz, hb11⟩
                  obtain ⟨go3, co3, gi3, ci3, rfl, rfl⟩ := hPz.form List.length_replicate List.length_replicate hnp
                  obtain ⟨w12, ew12, hb12, hs12', z0, z1⟩ := box_price w11 (.slice (some ⟨go3, 0, none⟩) n co3) (.slice (some ⟨gi3, 0, none⟩) n ci3)
                  have Hew12 := Lib.hid ew12
                  (first | have b12 := bel2 b10 (bel2 hb11 hb12) | have b12 := bel2 b10.drew (bel2 hb11 hb12))
                  have HPz := Lib.hid (hPz.below hb12)
                  clear ew12 hb11 hb12 hs12' hPz b10
                  obtain ⟨x0, x1, x2, x3, x4, x5, y0, y1⟩ := eight_below b12 ⟨d0, d1, d2, d3, d4, d5, t0, t1⟩
                  go_upto_region 17 with (fail)
                  rw [Hew12.out]
                  go_wp2_with fail
                  refine (HSl.out _ b12).mono ?_
                  rintro e w13 ⟨rfl, hb13⟩
                  have b13 := bel2 b12 hb13
                  clear x0 x1 x2 x3 x4 x5 y0 y1
                  obtain ⟨x0, x1, x2, x3, x4, x5, y0, y1⟩ := eight_below b13 ⟨d0, d1, d2, d3, d4, d5, t0, t1⟩
                  have z03 := cell_below hb13 z0
                  have z13 := cell_below hb13 z1
                  have HPz3 := Lib.hid (HPz.out.below hb13)
                  clear b12 hb13 z0 z1
                  go_wp2_with fail
                  refine (HEz.out _ _ _ b13 HPz3.out.1.ints HPz3.out.2.1.ints).mono ?_
                  rintro e w14 ⟨rfl, hb14⟩
                  have b14 := Lib.hid (bel2 b13 hb14)
                  clear b13 hb14 x0 x1 x2 x3 x4 x5 y0 y1 z03 z13
                  go_wp2_with fail
                  refine (lives17_is _).mono ?_
                  rintro e w15 ⟨rfl, hb15⟩
                  go_wp2_with fail
                  go_ret
                  exact ⟨rfl, HB8.out.trans ((bel2 b14.out hb15).mono hsz8)⟩
              | false =>
                rw [if_neg (by simp)] at HE
                go_wp2_with fail
                refine HR.out.mono ?_
                rintro e w9 ⟨rfl, hb9⟩
                obtain ⟨x0, x1, x2, x3, x4, x5, y0, y1⟩ := eight_below hb9 ⟨d0, d1, d2, d3, d4, d5, t0, t1⟩
                go_wp2_with fail
                refine (HE.out _ hb9).mono ?_
                rintro e w10 ⟨rfl, hb10⟩
                have b10 := bel2 hb9 hb10
                clear x0 x1 x2 x3 x4 x5 y0 y1 hb9 hb10
                obtain ⟨x0, x1, x2, x3, x4, x5, y0, y1⟩ := eight_below b10 ⟨d0, d1, d2, d3, d4, d5, t0, t1⟩
                have f010 := cell_below b10 f0
                have f110 := cell_below b10 f1
                go_upto_region 13 with (fail)
                rw [show Value.int .i64 ((cm : Int) + 1) = Value.int .i64 (n : Int) by rw [hncm.out]]
                go_wp2_with fail
                go_region_held3 (fun w' => (w'.cell? ⟨gy, 0, none⟩ = some (.int .i64 days) ∧ w'.cell? ⟨gy, 1, none⟩ = some (.int .i64 ve) ∧ w'.cell? ⟨gy, 2, none⟩ = some (.int .i64 cp) ∧ w'.cell? ⟨gy, 3, none⟩ = some (.int .i64 ln) ∧ w'.cell? ⟨gy, 4, none⟩ = some (.slice ca cm cc) ∧ w'.cell? ⟨gy, 5, none⟩ = some (.slice da dm dc) ∧
                    w'.cell? ⟨t, 0, none⟩ = some (.slice (some ⟨go, 0, none⟩) n co) ∧ w'.cell? ⟨t, 1, none⟩ = some (.slice (some ⟨gi, 0, none⟩) n ci)) ∧ w'.cell? ⟨go, j, none⟩ = some (.int .i64 X2) ∧ w'.cell? ⟨gi, k, none⟩ = some (.int .i64 Y2))
                  (first | go_keep | exact ⟨eight_below b17 ⟨d0, d1, d2, d3, d4, d5, t0, t1⟩, cell_below b17 f0, cell_below b17 f1⟩)
                  (first | (go_at_call 23; refine (HAr.out _ ?_).mono ?_; (first | exact b10 | exact bel2 b10 (belDrew _)); rintro e w17 ⟨rfl, hb17⟩; (first | have b17 := bel2 b10 hb17 | have b17 := bel2 (bel2 b10 (belDrew _)) hb17)))
                all_goals
                  clear b10
                  have b10 := b17
                  clear b17
                  go_wp2_with fail
                  refine (HZ.out _ ?_).mono ?_
                  · first | exact b10 | exact b10.drew
                  rintro e w11 ⟨zo, zi, rfl, hPz, hb11⟩
                  obtain ⟨go3, co3, gi3, ci3, rfl, rfl⟩ := hPz.form List.length_replicate List.length_replicate hnp
                  obtain ⟨w12, ew12, hb12, hs12', z0, z1⟩ := box_price w11 (.slice (some ⟨go3, 0, none⟩) n co3) (.slice (some ⟨gi3, 0, none⟩) n ci3)
                  have Hew12 := Lib.hid ew12
                  (first | have b12 := bel2 b10 (bel2 hb11 hb12) | have b12 := bel2 b10.drew (bel2 hb11 hb12))
                  have HPz := Lib.hid (hPz.below hb12)
                  clear ew12 hb11 hb12 hs12' hPz b10
                  obtain ⟨x0, x1, x2, x3, x4, x5, y0, y1⟩ := eight_below b12 ⟨d0, d1, d2, d3, d4, d5, t0, t1⟩
                  go_upto_region 17 with (fail)
                  rw [Hew12.out]
                  go_wp2_with fail
                  refine (HSl.out _ b12).mono ?_
                  rintro e w13 ⟨rfl, hb13⟩
                  have b13 := bel2 b12 hb13
                  clear x0 x1 x2 x3 x4 x5 y0 y1
                  obtain ⟨x0, x1, x2, x3, x4, x5, y0, y1⟩ := eight_below b13 ⟨d0, d1, d2, d3, d4, d5, t0, t1⟩
                  have z03 := cell_below hb13 z0
                  have z13 := cell_below hb13 z1
                  have HPz3 := Lib.hid (HPz.out.below hb13)
                  clear b12 hb13 z0 z1
                  go_wp2_with fail
                  refine (HEz.out _ _ _ b13 HPz3.out.1.ints HPz3.out.2.1.ints).mono ?_
                  rintro e w14 ⟨rfl, hb14⟩
                  have b14 := Lib.hid (bel2 b13 hb14)
                  clear b13 hb14 x0 x1 x2 x3 x4 x5 y0 y1 z03 z13
                  go_wp2_with fail
                  refine (lives17_is _).mono ?_
                  rintro e w15 ⟨rfl, hb15⟩
                  go_wp2_with fail
                  go_ret
                  exact ⟨rfl, HB8.out.trans ((bel2 b14.out hb15).mono hsz8)⟩
            · rw [if_neg hin] at hsl
              subst hsl
              have hcase : decide (0 ≤ a) = false ∨ (decide (0 ≤ a) = true ∧ decide (a < (n : Int)) = false) ∨ (decide (0 ≤ a) = true ∧ decide (a < (n : Int)) = true ∧ decide (0 ≤ b) = false) ∨
                  (decide (0 ≤ a) = true ∧ decide (a < (n : Int)) = true ∧ decide (0 ≤ b) = true ∧ decide (b < (n : Int)) = false) ∨ (decide (0 ≤ a) = true ∧ decide (a < (n : Int)) = true ∧ decide (0 ≤ b) = true ∧ decide (b < (n : Int)) = true ∧ (a != b) = false) := by
                by_cases g1 : 0 ≤ a
                · by_cases g2 : a < (n : Int)
                  · by_cases g3 : 0 ≤ b
                    · by_cases g4 : b < (n : Int)
                      · by_cases g5 : a = b
                        · exact .inr (.inr (.inr (.inr ⟨by simpa using g1, by simpa using g2, by simpa using g3, by simpa using g4, by simpa using g5⟩)))
                        · exact absurd ⟨g1, g2, g3, g4, g5⟩ hin
                      · exact .inr (.inr (.inr (.inl ⟨by simpa using g1, by simpa using g2, by simpa using g3, by simpa using g4⟩)))
                    · exact .inr (.inr (.inl ⟨by simpa using g1, by simpa using g2, by simpa using g3⟩))
                  · exact .inr (.inl ⟨by simpa using g1, by simpa using g2⟩)
                · exact .inl (by simpa using g1)
              clear hin
              cases MC with
              | true =>
                rw [if_pos rfl] at HE
                rcases hcase with e1 | ⟨e1, e2⟩ | ⟨e1, e2, e3⟩ | ⟨e1, e2, e3, e4⟩ | ⟨e1, e2, e3, e4, e5⟩
                all_goals
                  go_wp2_with fail
                  refine HR.out.mono ?_
                  rintro e w9 ⟨rfl, hb9⟩
                  obtain ⟨x0, x1, x2, x3, x4, x5, y0, y1⟩ := eight_below hb9 ⟨d0, d1, d2, d3, d4, d5, t0, t1⟩
                  go_wp2_with fail
                  refine (HE.out _ hb9).mono ?_
                  rintro e w10 ⟨rfl, hb10⟩
                  have b10 := bel2 hb9 hb10
                  clear x0 x1 x2 x3 x4 x5 y0 y1 hb9 hb10
                  obtain ⟨x0, x1, x2, x3, x4, x5, y0, y1⟩ := eight_below b10 ⟨d0, d1, d2, d3, d4, d5, t0, t1⟩
                  go_upto_region 13 with (fail)
                  rw [show Value.int .i64 ((cm : Int) + 1) = Value.int .i64 (n : Int) by rw [hncm.out]]
                  go_wp2_with fail
                  clear x0 x1 x2 x3 x4 x5 y0 y1
                  refine (HZ.out _ ?_).mono ?_
                  · first | exact b10 | exact b10.drew
                  rintro e w11 ⟨zo, zi, rfl, hPz, hb11⟩
                  obtain ⟨go3, co3, gi3, ci3, rfl, rfl⟩ := hPz.form List.length_replicate List.length_replicate hnp
                  obtain ⟨w12, ew12, hb12, hs12', z0, z1⟩ := box_price w11 (.slice (some ⟨go3, 0, none⟩) n co3) (.slice (some ⟨gi3, 0, none⟩) n ci3)
                  have Hew12 := Lib.hid ew12
                  (first | have b12 := bel2 b10 (bel2 hb11 hb12) | have b12 := bel2 b10.drew (bel2 hb11 hb12))
                  have HPz := Lib.hid (hPz.below hb12)
                  clear ew12 hb11 hb12 hs12' hPz b10
                  obtain ⟨x0, x1, x2, x3, x4, x5, y0, y1⟩ := eight_below b12 ⟨d0, d1, d2, d3, d4, d5, t0, t1⟩
                  go_upto_region 17 with (fail)
                  rw [Hew12.out]
                  go_wp2_with fail
                  refine (HSl.out _ b12).mono ?_
                  rintro e w13 ⟨rfl, hb13⟩
                  have b13 := bel2 b12 hb13
                  clear x0 x1 x2 x3 x4 x5 y0 y1
                  obtain ⟨x0, x1, x2, x3, x4, x5, y0, y1⟩ := eight_below b13 ⟨d0, d1, d2, d3, d4, d5, t0, t1⟩
                  have z03 := cell_below hb13 z0
                  have z13 := cell_below hb13 z1
                  have HPz3 := Lib.hid (HPz.out.below hb13)
                  clear b12 hb13 z0 z1
                  go_wp2_with fail
                  refine (HEz.out _ _ _ b13 HPz3.out.1.ints HPz3.out.2.1.ints).mono ?_
                  rintro e w14 ⟨rfl, hb14⟩
                  have b14 := Lib.hid (bel2 b13 hb14)
                  clear b13 hb14 x0 x1 x2 x3 x4 x5 y0 y1 z03 z13
                  go_wp2_with fail
                  refine (lives17_is _).mono ?_
                  rintro e w15 ⟨rfl, hb15⟩
                  go_wp2_with fail
                  go_ret
                  exact ⟨rfl, HB8.out.trans ((bel2 b14.out hb15).mono hsz8)⟩
              | false =>
                rw [if_neg (by simp)] at HE
                rcases hcase with e1 | ⟨e1, e2⟩ | ⟨e1, e2, e3⟩ | ⟨e1, e2, e3, e4⟩ | ⟨e1, e2, e3, e4, e5⟩
                all_goals
                  go_wp2_with fail
                  refine HR.out.mono ?_
                  rintro e w9 ⟨rfl, hb9⟩
                  obtain ⟨x0, x1, x2, x3, x4, x5, y0, y1⟩ := eight_below hb9 ⟨d0, d1, d2, d3, d4, d5, t0, t1⟩
                  go_wp2_with fail
                  refine (HE.out _ hb9).mono ?_
                  rintro e w10 ⟨rfl, hb10⟩
                  have b10 := bel2 hb9 hb10
                  clear x0 x1 x2 x3 x4 x5 y0 y1 hb9 hb10
                  obtain ⟨x0, x1, x2, x3, x4, x5, y0, y1⟩ := eight_below b10 ⟨d0, d1, d2, d3, d4, d5, t0, t1⟩
                  go_upto_region 13 with (fail)
                  rw [show Value.int .i64 ((cm : Int) + 1) = Value.int .i64 (n : Int) by rw [hncm.out]]
                  go_wp2_with fail
                  clear x0 x1 x2 x3 x4 x5 y0 y1
                  refine (HZ.out _ ?_).mono ?_
                  · first | exact b10 | exact b10.drew
                  rintro e w11 ⟨zo, zi, rfl, hPz, hb11⟩
                  obtain ⟨go3, co3, gi3, ci3, rfl, rfl⟩ := hPz.form List.length_replicate List.length_replicate hnp
                  obtain ⟨w12, ew12, hb12, hs12', z0, z1⟩ := box_price w11 (.slice (some ⟨go3, 0, none⟩) n co3) (.slice (some ⟨gi3, 0, none⟩) n ci3)
                  have Hew12 := Lib.hid ew12
                  (first | have b12 := bel2 b10 (bel2 hb11 hb12) | have b12 := bel2 b10.drew (bel2 hb11 hb12))
                  have HPz := Lib.hid (hPz.below hb12)
                  clear ew12 hb11 hb12 hs12' hPz b10
                  obtain ⟨x0, x1, x2, x3, x4, x5, y0, y1⟩ := eight_below b12 ⟨d0, d1, d2, d3, d4, d5, t0, t1⟩
                  go_upto_region 17 with (fail)
                  rw [Hew12.out]
                  go_wp2_with fail
                  refine (HSl.out _ b12).mono ?_
                  rintro e w13 ⟨rfl, hb13⟩
                  have b13 := bel2 b12 hb13
                  clear x0 x1 x2 x3 x4 x5 y0 y1
                  obtain ⟨x0, x1, x2, x3, x4, x5, y0, y1⟩ := eight_below b13 ⟨d0, d1, d2, d3, d4, d5, t0, t1⟩
                  have z03 := cell_below hb13 z0
                  have z13 := cell_below hb13 z1
                  have HPz3 := Lib.hid (HPz.out.below hb13)
                  clear b12 hb13 z0 z1
                  go_wp2_with fail
                  refine (HEz.out _ _ _ b13 HPz3.out.1.ints HPz3.out.2.1.ints).mono ?_
                  rintro e w14 ⟨rfl, hb14⟩
                  have b14 := Lib.hid (bel2 b13 hb14)
                  clear b13 hb14 x0 x1 x2 x3 x4 x5 y0 y1 z03 z13
                  go_wp2_with fail
                  refine (lives17_is _).mono ?_
                  rintro e w15 ⟨rfl, hb15⟩
                  go_wp2_with fail
                  go_ret
                  exact ⟨rfl, HB8.out.trans ((bel2 b14.out hb15).mono hsz8)⟩

end Go.Proofs.Ythilfibgpobcjaa
