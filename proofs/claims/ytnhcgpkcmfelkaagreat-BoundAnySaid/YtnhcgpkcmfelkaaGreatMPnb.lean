/-
  My own work: tranterref12.Cost: its contract.
  My own work: tranterref16.Customer: its contract, as far as plans need it.
  My own work: tranterref06.customer, tranterref06.May of a good instance: their contracts.
  My own work: tranterref16.Plan: its contract, as far as the bounds need it.
  My own work: tranterref16.Holding, tranterref16.Cost of a plan that may be: their contracts.
  My own work: tranterref16.Cost of a plan that may be: its contract.
-/
import Derived.Test.YtnhcgpkcmfelkaaGreatMPna
import Derived.Test.YtnhcgpkcmfelkaaGreatAloneG
import Derived.Test.YtnhcgpkcmfelkaaGreatMGood
import Derived.Deep.DrawnRows
namespace Go.Proofs.YtnhcgpkcmfelkaaGreat
section
open Go.RowKit
set_option linter.unusedVariables false
set_option maxRecDepth 100000
attribute [local go_sem ↓] Go.wp_at_zero Go.wp_at_succ

theorem wayP_succ (D : List (List Int)) (T : List (List (Int × Int))) (k : Nat) (h : k < T.length) : wayP D (T.take (k + 1)) = wayP D (T.take k) + wayI D ((nthT T k).map (·.1)) := by
  rw [takeT_succ T k h]
  simp [wayP]
theorem wayP_bd {D : List (List Int)} (hD : ArcBd D) (T : List (List (Int × Int))) (h : ∀ r ∈ T, r.length ≤ 1000) (k : Nat) (hk : k ≤ T.length) : 0 ≤ wayP D (T.take k) ∧ wayP D (T.take k) ≤ 100000 * k := by
  induction k with
  | zero => simp [wayP]
  | succ k ih =>
    have h1 := ih (by omega)
    have h2 := h (nthT T k) (nthT_in (by omega))
    have h3 := way_bd hD ((nthT T k).map (·.1)) ((nthT T k).map (·.1)).length
    rw [wayP_succ D T k (by omega)]
    rw [List.length_map] at h3
    unfold wayI
    rw [List.length_map]
    omega

set_option maxRecDepth 100000 in
set_option maxHeartbeats 3200000 in
theorem costT_is (i0 i1 i2 i3 : Int) (cv dv tv : Value) (D : List (List Int)) (N : Nat) (cap : Int) (T : List (List (Int × Int))) (w : World) (hcv : ∃ ca cn cc, cv = .slice ca cn cc) (hG : Grid w dv D) (hD : ArcBd D) (hN : N ≤ 1000) (h : Tours w tv T) (hT : T.length ≤ 1000) (hr : ∀ r ∈ T, r.length ≤ 1000) (hok : ∀ r ∈ T, TourD N cap r) :
    Calls Tryz.prog 46 #[.agg #[.int .i64 i0, .int .i64 i1, .int .i64 i2, .int .i64 i3, cv, dv], .agg #[tv]] w (CostOut w (wayP D T)) := by
  obtain ⟨w1, ew, hb1, hsz1, hx⟩ := box_inst w (.int .i64 i0) (.int .i64 i1) (.int .i64 i2) (.int .i64 i3) cv dv
  obtain ⟨w2, ew2, hb2, hsz2, p0⟩ := box_day w1 tv
  rw [hsz1] at p0
  have hbb := bel2 hb1 hb2
  obtain ⟨ca, cn, cc, rfl⟩ := hcv
  have hx2 := hx.below hb2
  obtain ⟨c0, c1, c2, c3, c4, c5⟩ := hx2
  have hG2 := hG.below hbb
  obtain ⟨da, dn, dc, rfl, _, _, _⟩ := hG2.open
  obtain ⟨a, n, c, rfl, hn, _, hc⟩ := (h.below hbb).open
  have Hew := Lib.hid ew
  have Hew2 := Lib.hid ew2
  have Hbb := Lib.hid hbb
  have Hn := Lib.hid hn
  have Hc := Lib.hid hc
  have HD := Lib.hid hD
  have Hr := Lib.hid hr
  have Hok := Lib.hid hok
  have Hbd := Lib.hid (wayP_bd hD T hr)
  have Hx2 := Lib.hid (hx.below hb2)
  have Hp0 := Lib.hid p0
  have HWy := Lib.hid (fun (W : World) (sv : Value) (r : List (Int × Int)) (h : Below w2.heap.size w2 W) (hl : Ints W sv (r.map (·.1))) (ht : TourD N cap r) (hr : r.length ≤ 1000) =>
    refWay_is i0 i1 i2 i3 (.slice ca cn cc) (.slice da dn dc) sv D (r.map (·.1)) W (hG2.below h) hD hl (by rw [List.length_map]; exact ht.some) (by rw [List.length_map]; exact hr) (fun k => custs_bd (N := N) (fun m hm => ht.ok _ (nthP_mem hm)) (by omega) k))
  have hn1 : n ≤ 1000 := by omega
  have hszw : w.heap.size ≤ w2.heap.size := hbb.size
  clear ew ew2 hx hG hG2 hD h hn hc hb2 hsz1 hsz2 hN hr hbb hb1 hT hok
  go_enter Tryz.func46, Tryz.ntmps46
  go_upto_region 1 with (fail)
  rw [Hew.out]
  rw [Hew2.out]
  generalize w.heap.size + 1 = gt at *
  go_wp2_with fail
  go_loopw [5, 6] (fun v i wr => ∃ (k : Nat) (S : Int), i = .int .i64 k ∧ v = .int .i64 S ∧ k ≤ n ∧ S = wayP D (T.take k) ∧ Below w2.heap.size w2 wr) (fun _ i _ => n - (intOf i).toNat)
  case atStart => exact ⟨0, 0, rfl, rfl, Nat.zero_le _, by simp [wayP], Below.refl _ _⟩
  case round =>
    obtain ⟨k, S, rfl, rfl, hk, hS, hb⟩ := hrel
    obtain ⟨wo, rfl⟩ : ∃ wo : World, wo = wr := ⟨_, rfl⟩
    have HS := Lib.hid hS
    have Hb := Lib.hid hb
    obtain ⟨c0, c1, c2, c3, c4, c5⟩ := Hx2.out.below hb
    have p0 := cell_below hb Hp0.out
    clear hS hb
    by_cases hlt : k < n
    · obtain ⟨b, o, sa, sn, sc, rfl, f0, hpr⟩ := Hc.out k hlt
      have hkT : k < T.length := by rw [Hn.out]; exact hlt
      have hmem := Hr.out _ (nthT_in hkT)
      have ht := Hok.out _ (nthT_in hkT)
      have hst := wayP_succ D T k hkT
      have h1 := Hbd.out k (Nat.le_of_lt hkT)
      have h2 := Hbd.out (k + 1) hkT
      have f0 := cell_below Hb.out f0
      have HCu := Lib.hid (fun (W : World) (h : Below wo.heap.size wo W) => custsOf_is (.slice sa sn sc) (nthT T k) W (hpr.below (bel2 Hb.out h)) (Nat.le_trans hmem (by decide)))
      have HWk := Lib.hid (fun (W : World) (lv : Value) (h : Below wo.heap.size wo W) (hl : Ints W lv ((nthT T k).map (·.1))) => HWy.out W lv (nthT T k) (bel2 Hb.out h) hl ht hmem)
      rw [← HS.out] at hst h1
      rw [hst] at h2
      generalize wayI D ((nthT T k).map (·.1)) = WY at *
      have hw : IntKind.i64.wrap (S + WY) = S + WY := IntWalk.i64_in _ (by omega)
      have Hst := Lib.hid hst
      have hi0 : (0 : Int) ≤ (k : Int) := by omega
      have hi1 : (k : Int) < (n : Int) := by omega
      have b0 := Below.refl wo.heap.size wo
      clear hpr hmem ht hst h1 h2 hkT
      go_upto_region 5 with fail
      go_region_held3 (fun w' => w'.cell? ⟨w.heap.size, 0, none⟩ = some (.int .i64 i0) ∧ w'.cell? ⟨w.heap.size, 1, none⟩ = some (.int .i64 i1) ∧ w'.cell? ⟨w.heap.size, 2, none⟩ = some (.int .i64 i2) ∧ w'.cell? ⟨w.heap.size, 3, none⟩ = some (.int .i64 i3) ∧ w'.cell? ⟨w.heap.size, 4, none⟩ = some (.slice ca cn cc) ∧ w'.cell? ⟨w.heap.size, 5, none⟩ = some (.slice da dn dc) ∧ w'.cell? ⟨gt, 0, none⟩ = some (.slice (some ⟨b, o, none⟩) n c) ∧ w'.cell? ⟨b, o + k, none⟩ = some (.slice sa sn sc))
        (first | go_keep | exact ⟨cell_below b5 c0, cell_below b5 c1, cell_below b5 c2, cell_below b5 c3, cell_below b5 c4, cell_below b5 c5, cell_below b5 p0, cell_below b5 f0⟩ | exact ⟨cell_below b6 c0, cell_below b6 c1, cell_below b6 c2, cell_below b6 c3, cell_below b6 c4, cell_below b6 c5, cell_below b6 p0, cell_below b6 f0⟩)
        (first
          | (go_at_call 68; refine (HCu.out _ ?_).mono ?_; (first | exact b0 | exact belDrew _); rintro e wM ⟨lv, rfl, hown5, hb5⟩; obtain ⟨la, ln, lc, rfl⟩ := own_slice hown5; have Hli5 := Lib.hid hown5.ints; clear hown5; (first | have b5 := bel2 b0 hb5 | have b5 := bel2 (belDrew wo) hb5))
          | (go_at_call 75; refine (HWk.out _ _ ?_ ?_).mono ?_; (first | exact b5 | exact b5.drew); (first | exact Hli5.out | exact Hli5.out.below (belDrew _)); rintro e wW ⟨rfl, hb6⟩; (first | have b6 := bel2 b5 hb6 | have b6 := bel2 b5.drew hb6)))
      all_goals
        clear c0 c1 c2 c3 c4 c5 p0 f0 b0 hw
        go_wp2_with fail
        go_roundw
        case rel => exact ⟨k + 1, _, by go_num, rfl, Nat.succ_le_of_lt hlt, Hst.out.symm, (by first | exact bel2 Hb.out b6 | exact bel2 Hb.out b6.drew)⟩
        case measure => simp only [intOf]; first | exact meas_one hlt | exact meas_oneW hlt (by omega)
    · have hkn : n = k := by omega
      subst hkn
      have Hr2 : Hid (S = wayP D T) := Lib.hid (by rw [HS.out, ← Hn.out, List.take_length])
      have HBo := Lib.hid (Hbb.out.trans (Hb.out.mono hszw))
      clear hk
      go_wp2_with fail
      go_ret
      rw [Hr2.out]
      exact ⟨rfl, HBo.out⟩
end

section
open Go.RowKit
set_option linter.unusedVariables false
set_option maxRecDepth 100000
attribute [local go_sem ↓] Go.wp_at_zero Go.wp_at_succ

theorem vis_days {N n : Nat} {cap : Int} {P : List (List (List (Int × Int)))} (h : ∀ d, d < n → DayD N cap (nthD P d)) (i : Int) (k : Nat) (hk : k ≤ n) : (visTo i P k).length ≤ k := by
  induction k with
  | zero => simp [visTo]
  | succ k ih =>
    have h1 := ih (by omega)
    have h2 := filter_once (h k (by omega)).once i
    rw [visTo, List.length_append]
    unfold selD
    rw [List.length_map]
    omega
def setTo (V : List (Int × Int)) (k : Nat) : Nat := (V.take k).foldl (fun s p => withN s p.1) 0
theorem setTo_succ (V : List (Int × Int)) (k : Nat) (h : k < V.length) : setTo V (k + 1) = putN (setTo V k) (nthV V k).1 1 := by
  unfold setTo
  rw [List.take_succ_eq_append_getElem h, List.foldl_append]
  unfold putN
  rw [if_pos rfl]
  simp [nthV, h]
theorem setTo_lt (V : List (Int × Int)) (k : Nat) : setTo V k < 18446744073709551616 := by
  have : ∀ (U : List (Int × Int)) (s : Nat), s < 18446744073709551616 → U.foldl (fun s p => withN s p.1) s < 18446744073709551616 := by
    intro U
    induction U with
    | nil => intro s h; exact h
    | cons x U ih => intro s h; exact ih _ (with_lt _ h)
  exact this _ _ (by decide)
theorem ofToV {V : List (Int × Int)} {Q : Int × Int → Prop} (h : ∀ m, m < V.length → Q (nthV V m)) : ∀ p ∈ V, Q p := by
  intro r hr
  obtain ⟨i, hi, rfl⟩ := List.getElem_of_mem hr
  have := h i hi
  rwa [show nthV V i = V[i] by simp [nthV, hi]] at this
theorem nthV_in {V : List (Int × Int)} {i : Nat} (h : i < V.length) : nthV V i ∈ V := by
  rw [show nthV V i = V[i] by simp [nthV, h]]; exact List.getElem_mem h

set_option maxRecDepth 100000 in
set_option maxHeartbeats 3200000 in
theorem custP_is (n : Nat) (i1 cap i3 : Int) (cv dvv dp : Value) (L : List Cu) (P : List (List (List (Int × Int)))) (i : Nat) (w : World) (hC : Custs w cv L) (hgv : ∃ da dn dc, dvv = .slice da dn dc) (hOk : OkI n L) (hdp : DaysP w dp P) (hS : SmallP P) (hPl : P.length = n) (hday : ∀ d, d < n → DayD L.length cap (nthD P d)) (hi : i < L.length) :
    Calls Tryz.prog 44 #[.agg #[.int .i64 n, .int .i64 i1, .int .i64 cap, .int .i64 i3, cv, dvv], .agg #[dp], .int .i64 i] w (MayOut w (CustD n (nthC L i) (visTo i P n))) := by
  obtain ⟨w1, ew, hb1, hsz1, hx⟩ := box_inst w (.int .i64 n) (.int .i64 i1) (.int .i64 cap) (.int .i64 i3) cv dvv
  obtain ⟨w2, ew2, hb2, hsz2, p0⟩ := box_plan w1 dp
  rw [hsz1] at p0
  obtain ⟨da, dn, dc, rfl⟩ := hgv
  have hbb := bel2 hb1 hb2
  have hx2 := hx.below hb2
  obtain ⟨c0, c1, c2, c3, c4, c5⟩ := hx2
  obtain ⟨ca, N, cc, rfl, hN, _, hcell⟩ := (hC.below hbb).open
  obtain ⟨pa, pn, pc, rfl, _⟩ := (hdp.below hbb).open
  obtain ⟨cb, co, pv, rfl, _, hcu⟩ := hcell i (by omega)
  obtain ⟨ta, tn, tc, rfl⟩ := words_form hcu.pats
  have Hcu := Lib.hid hcu
  have Hew := Lib.hid ew
  have Hew2 := Lib.hid ew2
  have Hbb := Lib.hid hbb
  have Hx2 := Lib.hid (hx.below hb2)
  have hok := hOk.cus _ (nthC_mem hi)
  have hn7 := hOk.n7
  have hN1 : N ≤ 100 := by have := hOk.len; omega
  have Hvm := Lib.hid (vis_mem hday i n (Nat.le_refl n))
  have Hvl := Lib.hid (vis_days hday i n (Nat.le_refl n))
  have HV := Lib.hid (fun (W : World) (h : Below w2.heap.size w2 W) => visits08_is (.slice pa pn pc) P i W ((hdp.below hbb).below h) hS)
  rw [hPl] at HV
  generalize hVe : visTo i P n = V at *
  have hi0 : (0 : Int) ≤ (i : Int) := by omega
  have hi1 : (i : Int) < (N : Int) := by omega
  have hi2 : decide ((i : Int) < 0) = false := by simp
  have hi3 : decide ((N : Int) ≤ (i : Int)) = false := by simp; omega
  have hszw : w.heap.size ≤ w2.heap.size := hbb.size
  have hcu2 := hcu
  generalize nthC L i = Z at *
  obtain ⟨kd, dm, ps, rt, sz, st, ru, hd⟩ := Z
  obtain ⟨y0, y1, y2, y3, y4, y5, y6, y7, hpw⟩ := hcu2
  obtain ⟨w3, ew3, hb3, hsz3, hz3⟩ := box_cust w2 kd dm (.slice ta tn tc) rt sz st ru hd
  have Hew3 := Lib.hid ew3
  have Hb3 := Lib.hid hb3
  have hgc : w2.heap.size ≤ w3.heap.size := hb3.size
  have Hz3 := Lib.hid hz3
  have Hpw := Lib.hid hpw
  have Hx3 := Lib.hid (Hx2.out.below hb3)
  have Hp3 := Lib.hid (cell_below hb3 p0)
  have HB3 := Lib.hid (Hbb.out.trans (hb3.mono hszw))
  have hok2 : OkC n ⟨kd, dm, ps, rt, sz, st, ru, hd⟩ := hok
  have Hok := Lib.hid hok2
  clear ew ew2 ew3 hx hC hdp hS hPl hday hi hN hcell hcu hbb hb1 hb2 hb3 hsz1 hsz2 hsz3 hz3 hok hok2 hOk hpw Hcu hVe
  go_enter Tryz.func44, Tryz.ntmps44
  go_upto_region 1 with (fail)
  rw [Hew.out]
  rw [Hew2.out]
  generalize w.heap.size + 1 = gt at *
  go_upto_region 4 with fail
  rw [Hew3.out]
  clear c0 c1 c2 c3 c4 c5 p0 y0 y1 y2 y3 y4 y5 y6 y7
  have p0 := Hp3.out
  generalize hgce : w2.heap.size = gc at *
  have Hgce := Lib.hid hgce
  clear hgce
  go_wp2_with fail
  refine (HV.out _ Hb3.out).mono ?_
  rintro e w4 ⟨vv, rfl, hown, hb4⟩
  obtain ⟨va, vn, vc, rfl, hvn, _, hvc⟩ := hown.vis.open
  have HVi := Lib.hid hown.vis
  have Hvn := Lib.hid hvn
  have Hvc := Lib.hid hvc
  have Hx4 := Lib.hid (Hx3.out.below hb4)
  have Hz4 := Lib.hid (Hz3.out.below hb4)
  have Hb4 := Lib.hid (Hb3.out.trans (hb4.mono hgc))
  have hgc4 : gc ≤ w4.heap.size := Nat.le_trans hgc hb4.size
  have HB4 := Lib.hid (HB3.out.trans (hb4.mono HB3.out.size))
  have hsz4 : w.heap.size ≤ w4.heap.size := HB4.out.size
  have hvn1 : vn ≤ 7 := by have := Hvl.out; omega
  clear hown hvn hvc hb4 p0
  obtain ⟨z0, z1, z2, z3, z4, z5, z6, z7⟩ := Hz4.out
  obtain ⟨c0, c1, c2, c3, c4, c5⟩ := Hx4.out
  rcases Hok.out with ⟨h1, hd1, hd2, hpl, _, hpb, _⟩ | ⟨h1, T⟩
  · simp only at h1 hd1 hd2 hpl hpb
    subst h1
    have Hpb := Lib.hid hpb
    clear hpb hd1 hd2
    go_wp2_with fail
    go_loopw [9, 10] (fun s j wr => ∃ (k : Nat), j = .int .i64 k ∧ s = .int .u64 (setTo V k : Int) ∧ k ≤ vn ∧ (∀ m, m < k → (nthV V m).2 = dm) ∧ Below w4.heap.size w4 wr) (fun _ j _ => vn - (intOf j).toNat)
    case atStart => exact ⟨0, rfl, rfl, Nat.zero_le _, fun m hm => absurd hm (Nat.not_lt_zero _), Below.refl _ _⟩
    case round =>
      obtain ⟨k, rfl, rfl, hk, hq, hb⟩ := hrel
      obtain ⟨wo, rfl⟩ : ∃ wo : World, wo = wr := ⟨_, rfl⟩
      have Hq := Lib.hid hq
      have Hb := Lib.hid hb
      clear hq hb z0 z1 z2 z3 z4 z5 z6 z7 c0 c1 c2 c3 c4 c5
      by_cases hlt : k < vn
      · obtain ⟨b, o, rfl, f0, f1⟩ := Hvc.out k hlt
        have hst := setTo_succ V k (by rw [Hvn.out]; exact hlt)
        obtain ⟨X, hX⟩ : ∃ X, X = (nthV V k).1 := ⟨_, rfl⟩
        obtain ⟨Q, hQ⟩ : ∃ Q, Q = (nthV V k).2 := ⟨_, rfl⟩
        rw [← hX] at hst f0
        rw [← hQ] at f1
        have HQ := Lib.hid hQ
        have Hst := Lib.hid hst
        have hslt := setTo_lt V k
        have HPut := Lib.hid (fun (W : World) => put_is (setTo V k) X 1 W hslt (.inr rfl))
        rw [← Hst.out] at HPut
        have f0 := cell_below Hb.out f0
        have f1 := cell_below Hb.out f1
        have Hf0 := Lib.hid f0
        have d1 := (Hz4.out.below Hb.out).c1
        have hk0 : (0 : Int) ≤ (k : Int) := by omega
        have hk1 : (k : Int) < (vn : Int) := by omega
        clear hX hQ hst hslt f0
        go_upto_region 11 with fail
        by_cases hqd : Q = dm
        · subst hqd
          have hq : (Q != Q) = false := by simp
          go_quiet (fail)
          have f0 := cell_below (below_drewN (Below.refl _ wo) nq) Hf0.out
          clear d1 f1
          go_wp2_with fail
          refine (HPut.out _).mono ?_
          rintro e w5 ⟨rfl, hb5⟩
          have Hb5 := Lib.hid (Hb.out.trans ((bel2 (below_drewN (Below.refl _ wo) nq) hb5).mono Hb.out.size))
          clear hb5 f0
          go_wp2_with fail
          go_roundw
          case rel => exact ⟨k + 1, by go_num, rfl, Nat.succ_le_of_lt hlt, fun m hm => (by
            by_cases e : m = k
            · subst e; exact HQ.out.symm
            · exact Hq.out m (Nat.lt_of_le_of_ne (Nat.le_of_lt_succ hm) e)), Hb5.out⟩
          case measure => simp only [intOf]; first | exact meas_one hlt | exact meas_oneW hlt (by omega)
        · have hq : (Q != dm) = true := by simpa using hqd
          have HBo := Lib.hid (HB4.out.trans (Hb.out.mono hsz4))
          clear hqd
          go_quiet (fail)
          go_wp2_with fail
          go_ret
          exact MayOut.no (by decide) (below_drewN HBo.out _)
      · have hkn : k = vn := by omega
        have Hqa : Hid (∀ p ∈ V, p.2 = dm) := Lib.hid (ofToV (by rw [Hvn.out, ← hkn]; exact Hq.out))
        have Hsa : Hid (setTo V k = V.foldl (fun s p => withN s p.1) 0) := Lib.hid (by unfold setTo; rw [hkn, ← Hvn.out, List.take_length])
        clear hk
        subst hkn
        generalize setTo V k = SS at *
        go_wp2_with fail
        go_loopw [11] (fun j wr => ∃ (m : Nat), j = .int .i64 m ∧ m ≤ tn ∧ Below w4.heap.size w4 wr) (fun j _ => tn - (intOf j).toNat)
        case atStart => exact ⟨0, rfl, Nat.zero_le _, Hb.out⟩
        case round =>
          obtain ⟨m, rfl, hm, hb⟩ := hrel
          obtain ⟨wi, rfl⟩ : ∃ wi : World, wi = wr := ⟨_, rfl⟩
          have Hbi := Lib.hid hb
          have d2 := (Hz4.out.below hb).c2
          have HBi := Lib.hid (HB4.out.trans (hb.mono hsz4))
          clear hb
          obtain ⟨ta', tn', tc', hte, htn, _, _, hpc⟩ := Hpw.out.open
          simp only [Value.slice.injEq] at hte
          obtain ⟨rfl, rfl, rfl⟩ := hte
          have hpl1 : tn ≤ 1000 := by omega
          by_cases hltm : m < tn
          · obtain ⟨b, o, rfl, _, g0⟩ := hpc m hltm
            have g0 := cell_below (show Below w2.heap.size w2 wi by rw [Hgce.out]; exact Hb4.out.trans (Hbi.out.mono hgc4)) g0
            have hk0 : (0 : Int) ≤ (m : Int) := by omega
            have hk1 : (m : Int) < (tn : Int) := by omega
            have Hmem : Hid (nthN ps m ∈ ps) := Lib.hid (nthN_mem (by omega))
            obtain ⟨A, hA⟩ : ∃ A, A = nthN ps m := ⟨_, rfl⟩
            rw [← hA] at g0 Hmem
            clear hA hpc htn
            by_cases he : A = SS
            · subst he
              have hq : ((A : Int) == (A : Int)) = true := by simp
              have hfin : Hid (CustD n ⟨1, dm, ps, rt, sz, st, ru, hd⟩ V) := Lib.hid (.inl ⟨rfl, Hqa.out, by rw [← Hsa.out]; exact Hmem.out⟩)
              go_wp2_with fail
              go_ret
              exact ⟨0, rfl, fun _ => hfin.out, HBi.out⟩
            · have hq : ((A : Int) == (SS : Int)) = false := by simp; omega
              have hq2 : ¬ (A : Int) = (SS : Int) := by omega
              clear he
              go_wp2_with fail
              go_roundw
              case rel => exact ⟨m + 1, by go_num, Nat.succ_le_of_lt hltm, Hbi.out⟩
              case measure => simp only [intOf]; first | exact meas_one hltm | exact meas_oneW hltm (by omega)
          · have hmn : m = tn := by omega
            clear hm hpc htn
            subst hmn
            go_wp2_with fail
            go_ret
            exact MayOut.no (by decide) HBi.out
  · simp only at h1 T
    subst h1
    have HTk := Lib.hid T
    have HBr := Lib.hid (fun (W : World) (h : Below w4.heap.size w4 W) => refBrings_is (.slice va vn vc) V n W (HVi.out.below h) (fun p hp => fitsI_iff.2 (by have := Hvm.out p hp; omega)) (by omega) (by rw [Hvn.out]; omega))
    have hql : (bringsOf V n).length = n := by unfold bringsOf; rw [foldl_bring_len]; simp
    have HHo := Lib.hid (fun (W : World) (qv : Value) (hq : Ints W qv (bringsOf V n)) => refHolds_is 2 dm (.slice ta tn tc) rt sz st ru hd qv (bringsOf V n) W hq ⟨HTk.out.st0, by have := HTk.out.sz1; have := HTk.out.st1; omega, HTk.out.rt0, by have := HTk.out.rt1; omega, by rw [hql]; omega⟩)
    obtain ⟨R, hR⟩ : ∃ R, R = holdsE st rt sz ru (bringsOf V n) := ⟨_, rfl⟩
    rw [← hR] at HHo
    have HR := Lib.hid hR
    clear T hql hR
    have b0 := Below.refl w4.heap.size w4
    go_upto_region 6 with fail
    go_region_held3 (fun w' => w'.cell? ⟨w.heap.size, 0, none⟩ = some (.int .i64 n) ∧ w'.cell? ⟨gc, 0, none⟩ = some (.int .i64 2) ∧ w'.cell? ⟨gc, 1, none⟩ = some (.int .i64 dm) ∧ w'.cell? ⟨gc, 2, none⟩ = some (.slice ta tn tc) ∧ w'.cell? ⟨gc, 3, none⟩ = some (.int .i64 rt) ∧ w'.cell? ⟨gc, 4, none⟩ = some (.int .i64 sz) ∧ w'.cell? ⟨gc, 5, none⟩ = some (.int .i64 st) ∧ w'.cell? ⟨gc, 6, none⟩ = some (.int .i64 ru) ∧ w'.cell? ⟨gc, 7, none⟩ = some (.int .i64 hd))
      (first | go_keep | exact ⟨cell_below b5 c0, cell_below b5 z0, cell_below b5 z1, cell_below b5 z2, cell_below b5 z3, cell_below b5 z4, cell_below b5 z5, cell_below b5 z6, cell_below b5 z7⟩ | exact ⟨cell_below b6 c0, cell_below b6 z0, cell_below b6 z1, cell_below b6 z2, cell_below b6 z3, cell_below b6 z4, cell_below b6 z5, cell_below b6 z6, cell_below b6 z7⟩)
      (first
        | (go_at_call 72; refine (HBr.out _ ?_).mono ?_; (first | exact b0 | exact belDrew _); rintro e wM ⟨qv, rfl, hown5, hb5⟩; obtain ⟨la, ln, lc, rfl⟩ := own_slice hown5; have Hli5 := Lib.hid hown5.ints; clear hown5; (first | have b5 := bel2 b0 hb5 | have b5 := bel2 (belDrew w4) hb5))
        | (go_at_call 71; refine (HHo.out _ _ ?_).mono ?_; (first | exact Hli5.out | exact Hli5.out.below (belDrew _)); rintro e wW ⟨rfl, hb6⟩; (first | have b6 := bel2 b5 hb6 | have b6 := bel2 b5.drew hb6)))
    all_goals
      go_wp2_with fail
      go_ret
      exact ⟨R, rfl, fun h => .inr ⟨rfl, by rw [← HR.out]; exact h⟩, by first | exact HB4.out.trans (b6.mono hsz4) | exact HB4.out.trans (b6.drew.mono hsz4)⟩
end

section
open Go.RowKit
set_option linter.unusedVariables false
set_option maxRecDepth 100000
attribute [local go_sem ↓] Go.wp_at_zero Go.wp_at_succ

theorem next_none {p n : Nat} (hn : n ≤ 64) (h : p < 2 ^ n) : nextI p n = -1 := by
  unfold nextI
  have e : allUpto p (n : Int).toNat 64 = [] := by
    rw [List.eq_nil_iff_forall_not_mem]
    intro x hx
    obtain ⟨h0, h1⟩ := all_bd _ _ _ x hx
    obtain ⟨k, rfl⟩ := Int.eq_ofNat_of_zero_le h0
    obtain ⟨h2, h3⟩ := (mem_all p _ 64 k (by omega)).1 hx
    rw [Nat.testBit_lt_two_pow (Nat.lt_of_lt_of_le h (Nat.pow_le_pow_right (by decide) (by omega)))] at h3
    cases h3
  rw [e]; rfl
def TrueOut (w : World) (e : Ending) (w' : World) : Prop := e = .returned (.bool true) ∧ Below w.heap.size w w'

set_option maxRecDepth 100000 in
set_option maxHeartbeats 3200000 in
theorem cust06_is (n : Nat) (kd dm : Int) (pt : Value) (rt sz st ru hd : Int) (ps : List Nat) (w : World) (hC : GoodC n ⟨kd, dm, ps, rt, sz, st, ru, hd⟩) (hn : n ≤ 7) (hp : Words w pt ps) :
    Calls Tryz.prog 67 #[.agg #[.int .i64 kd, .int .i64 dm, pt, .int .i64 rt, .int .i64 sz, .int .i64 st, .int .i64 ru, .int .i64 hd], .int .i64 n] w (TrueOut w) := by
  obtain ⟨w1, ew, hb1, hsz1, hcu⟩ := box_cust w kd dm pt rt sz st ru hd
  obtain ⟨a, m, c, rfl, hm, _, _, hc⟩ := (hp.below hb1).open
  have Hew := Lib.hid ew
  have Hb1 := Lib.hid hb1
  have Hc := Lib.hid hc
  have Hm := Lib.hid hm
  have Hcu := Lib.hid hcu
  obtain ⟨c0, c1, c2, c3, c4, c5, c6, c7⟩ := hcu
  have hsz : w.heap.size ≤ w1.heap.size := hb1.size
  clear ew hb1 hsz1 hp hc
  rcases hC with ⟨h0, h1, h2, h3, h4, h5, h6, h7, h8, h9, h10, h11⟩ | ⟨h0, h1, h2, h3, h4, h5, h6, h7, h8, h9, h10⟩
  · simp only at h0 h1 h2 h3 h4 h5 h6 h7 h8 h9 h10 h11
    subst h0 h1 h2
    have hm0 : m = 0 := by rw [← hm]; rfl
    subst hm0
    clear hm
    have g1 : decide (rt < 0) = false := decide_eq_false (by omega)
    have g2 : decide (2147483648 < rt) = false := decide_eq_false (by omega)
    have g3 : decide (sz < 1) = false := decide_eq_false (by omega)
    have g4 : decide (2147483648 < sz) = false := decide_eq_false (by omega)
    have g5 : decide (st < 0) = false := decide_eq_false (by omega)
    have g6 : decide (sz < st) = false := decide_eq_false (by omega)
    have g7 : decide (0 ≤ hd) = true := decide_eq_true (by omega)
    have g8 : decide (hd ≤ 1024) = true := decide_eq_true (by omega)
    clear h3 h4 h5 h6 h7 h8 h10 h11
    rcases h9 with h9 | h9
    all_goals
      subst h9
      go_enter Tryz.func67, Tryz.ntmps67
      go_upto_region 1 with (fail)
      rw [Hew.out]
      go_wp2_with fail
      go_ret
      exact ⟨rfl, Hb1.out⟩
  · simp only at h0 h1 h2 h3 h4 h5 h6 h7 h8 h9 h10
    subst h0 h3 h4 h5 h6 h7
    have hm1 : 1 ≤ m := by omega
    have hm4 : m ≤ 4 := by omega
    have g1 : decide (dm < 1) = false := decide_eq_false (by omega)
    have g2 : decide (2147483648 < dm) = false := decide_eq_false (by omega)
    have g3 : decide ((m : Int) < 1) = false := decide_eq_false (by omega)
    have g4 : decide (64 < (m : Int)) = false := decide_eq_false (by omega)
    have Hps := Lib.hid h10
    clear h1 h2 h8 h9 h10 hm hm1
    go_enter Tryz.func67, Tryz.ntmps67
    go_upto_region 1 with (fail)
    rw [Hew.out]
    go_wp2_with fail
    go_loopw [5] (fun j wr => ∃ (k : Nat), j = .int .i64 k ∧ k ≤ m ∧ Below w1.heap.size w1 wr) (fun j _ => m - (intOf j).toNat)
    case atStart => exact ⟨0, rfl, Nat.zero_le _, Below.refl _ _⟩
    case round =>
      obtain ⟨k, rfl, hk, hb⟩ := hrel
      obtain ⟨wo, rfl⟩ : ∃ wo : World, wo = wr := ⟨_, rfl⟩
      have Hb := Lib.hid hb
      have d2 := (Hcu.out.below hb).c2
      clear hb c0 c1 c2 c3 c4 c5 c6 c7
      by_cases hlt : k < m
      · obtain ⟨b, o, rfl, _, f0⟩ := Hc.out k hlt
        have f0 := cell_below Hb.out f0
        have hpk := Hps.out _ (nthN_mem (xs := ps) (k := k) (by rw [Hm.out]; exact hlt))
        have h64 := pow_le_64 (n := n) (by omega) hpk
        have HN := Lib.hid (fun (W : World) => refNext_is (nthN ps k) n W h64)
        rw [next_none (by omega) hpk] at HN
        have hk0 : (0 : Int) ≤ (k : Int) := by omega
        have hk1 : (k : Int) < (m : Int) := by omega
        clear hpk h64
        go_wp2_with fail
        refine (HN.out _).mono ?_
        rintro e w5 ⟨rfl, hb5⟩
        have Hb5 := Lib.hid (bel2 Hb.out hb5)
        clear hb5 f0 d2
        go_wp2_with fail
        go_roundw
        case rel => exact ⟨k + 1, by go_num, Nat.succ_le_of_lt hlt, Hb5.out⟩
        case measure => simp only [intOf]; first | exact meas_one hlt | exact meas_oneW hlt (by omega)
      · have hkm : k = m := by omega
        have HB := Lib.hid (Hb1.out.trans (Hb.out.mono hsz))
        clear hk
        subst hkm
        go_wp2_with fail
        go_ret
        exact ⟨rfl, HB.out⟩

set_option maxRecDepth 100000 in
set_option maxHeartbeats 6400000 in
theorem may06_is (n : Nat) (i1 cap i3 : Int) (cv dv : Value) (L : List Cu) (D : List (List Int)) (w : World) (hC : Custs w cv L) (hG : Grid w dv D) (hL : ∀ C ∈ L, GoodC n C) (hN6 : L.length ≤ 6) (hn : 1 ≤ n ∧ n ≤ 7) (h1 : 0 ≤ i1 ∧ i1 ≤ 1000) (h2 : 0 ≤ cap ∧ cap ≤ 1000) (h3 : 0 ≤ i3 ∧ i3 ≤ 1000) (hrows : D.length = L.length + 1) (hdist : GoodRows L.length D) :
    Calls Tryz.prog 42 #[.agg #[.int .i64 n, .int .i64 i1, .int .i64 cap, .int .i64 i3, cv, dv]] w (TrueOut w) := by
  obtain ⟨w1, ew, hb1, hsz1, hx⟩ := box_inst w (.int .i64 n) (.int .i64 i1) (.int .i64 cap) (.int .i64 i3) cv dv
  have Hx := Lib.hid hx
  obtain ⟨c0, c1, c2, c3, c4, c5⟩ := hx
  obtain ⟨ca, N, cc, rfl, hN, _, hcell⟩ := (hC.below hb1).open
  obtain ⟨da, dn, dc, rfl, hdn, _, hrow⟩ := (hG.below hb1).open
  have Hew := Lib.hid ew
  have Hb1 := Lib.hid hb1
  have hsz : w.heap.size ≤ w1.heap.size := hb1.size
  have Hcell := Lib.hid hcell
  have Hrow := Lib.hid hrow
  have HL := Lib.hid hL
  have HN := Lib.hid hN
  have Hdn := Lib.hid hdn
  rw [hN] at hdist hrows hN6
  have Hdist := Lib.hid hdist
  have Hdd : Hid (D.length = N + 1) := Lib.hid hrows
  have hdnN : dn = N + 1 := by omega
  subst hdnN
  have hn7 := hn.2
  have g1 : decide ((n : Int) < 1) = false := decide_eq_false (by omega)
  have g2 : decide (64 < (n : Int)) = false := decide_eq_false (by omega)
  have g3 : decide (i1 < 0) = false := decide_eq_false (by omega)
  have g4 : decide (2147483648 < i1) = false := decide_eq_false (by omega)
  have g5 : decide (cap < 0) = false := decide_eq_false (by omega)
  have g6 : decide (2147483648 < cap) = false := decide_eq_false (by omega)
  have g7 : decide (i3 < 0) = false := decide_eq_false (by omega)
  have g8 : decide (2147483648 < i3) = false := decide_eq_false (by omega)
  have g9 : decide (2000 < (N : Int)) = false := decide_eq_false (by omega)
  clear ew hb1 hsz1 hC hG hL hn h1 h2 h3 hN hdn hrows hcell hrow hdist
  go_enter Tryz.func42, Tryz.ntmps42
  go_upto_region 1 with (fail)
  rw [Hew.out]
  go_wp2_with fail
  go_loopw [4, 5] (fun j z wr => ∃ (k : Nat) (y : Value), j = .int .i64 k ∧ y = z ∧ k ≤ N ∧ Below w1.heap.size w1 wr) (fun j _ _ => N - (intOf j).toNat)
  case atStart => exact ⟨0, _, rfl, rfl, Nat.zero_le _, Below.refl _ _⟩
  case round =>
    obtain ⟨k, y, rfl, rfl, hk, hb⟩ := hrel
    obtain ⟨wo, rfl⟩ : ∃ wo : World, wo = wr := ⟨_, rfl⟩
    have Hb := Lib.hid hb
    have Hxo := Lib.hid (Hx.out.below hb)
    clear hb c0 c1 c2 c3 c4 c5
    obtain ⟨c0, c1, c2, c3, c4, c5⟩ := Hxo.out
    by_cases hlt : k < N
    · obtain ⟨b, o, pv, rfl, _, hcu⟩ := Hcell.out k hlt
      have hgc := HL.out _ (nthC_mem (L := L) (k := k) (by rw [HN.out]; exact hlt))
      obtain ⟨ta, tn, tc, rfl⟩ := words_form hcu.pats
      have hcu := hcu.below Hb.out
      generalize nthC L k = Z at *
      obtain ⟨kd, dm, ps, rt, sz, st, ru, hd⟩ := Z
      have HCu := Lib.hid (fun (W : World) (h : Below wo.heap.size wo W) => cust06_is n kd dm (.slice ta tn tc) rt sz st ru hd ps W hgc hn7 (hcu.pats.below h))
      obtain ⟨y0, y1, y2, y3, y4, y5, y6, y7, _⟩ := hcu
      have hk0 : (0 : Int) ≤ (k : Int) := by omega
      have hk1 : (k : Int) < (N : Int) := by omega
      have x0 := Ext.cell c0
      have x1 := Ext.cell c1
      have x2 := Ext.cell c2
      have x3 := Ext.cell c3
      have x4 := Ext.cell c4
      have x5 := Ext.cell c5
      have v0 := Ext.cell y0
      have v1 := Ext.cell y1
      have v2 := Ext.cell y2
      have v3 := Ext.cell y3
      have v4 := Ext.cell y4
      have v5 := Ext.cell y5
      have v6 := Ext.cell y6
      have v7 := Ext.cell y7
      clear hgc c0 c1 c2 c3 c4 c5 y0 y1 y2 y3 y4 y5 y6 y7
      go_upto_region 7 with fail
      refine wp_region_ext (by kernel_rfl) (by kernel_rfl) ?_
      repeat (go_big_quiet_step (first
        | (go_at_call 67; exact ext_call _ (HCu.out _ (Ext.below _)))))
      refine wpQuiet_nil ?_
      intro _ hw'
      obtain ⟨z, rfl⟩ := hw'
      have Hz := Lib.hid (bel2 Hb.out z.below)
      generalize z.w = w5 at *
      clear x0 x1 x2 x3 x4 x5 v0 v1 v2 v3 v4 v5 v6 v7
      go_wp2_with fail
      go_roundw
      case rel => exact ⟨k + 1, _, by go_num, rfl, Nat.succ_le_of_lt hlt, Hz.out⟩
      case measure => simp only [intOf]; first | exact meas_one hlt | exact meas_oneW hlt (by omega)
    · have hkN : k = N := by omega
      clear hk hlt
      subst hkN
      go_wp2_with fail
      go_loopw [6, 7] (fun j z wr => ∃ (i : Nat) (y : Value), j = .int .i64 i ∧ y = z ∧ i ≤ k + 1 ∧ Below w1.heap.size w1 wr) (fun j _ _ => (k + 1) - (intOf j).toNat)
      case atStart => exact ⟨0, _, rfl, rfl, Nat.zero_le _, Hb.out⟩
      case round =>
        obtain ⟨i, y, rfl, rfl, hi, hb⟩ := hrel
        obtain ⟨wm, rfl⟩ : ∃ wm : World, wm = wr := ⟨_, rfl⟩
        have Hbm := Lib.hid hb
        clear hb c0 c1 c2 c3 c4 c5
        have d5 := (Hx.out.below Hbm.out).c5
        by_cases hlt : i < k + 1
        · have hlti : i ≤ k := Nat.le_of_lt_succ hlt
          obtain ⟨b, o, ra, rn, rc, rfl, _, f0, hrn, _, hcc⟩ := Hrow.out i hlt
          obtain ⟨hlen, hv⟩ := Hdist.out i (by rw [Hdd.out]; exact hlt)
          have hrnN : rn = k + 1 := by omega
          subst hrnN
          have Hcc := Lib.hid hcc
          have Hv := Lib.hid hv
          have Hf0 := Lib.hid f0
          have f0 := cell_below Hbm.out f0
          have hi0 : (0 : Int) ≤ (i : Int) := by omega
          have hi1 : (i : Int) ≤ (k : Int) := by omega
          have hi2 : (i : Int) < (k : Int) + 1 := by omega
          have hi3 : i ≤ k := by omega
          have hw1 : wrap64 ((k : Int) + 1) = (k : Int) + 1 := wrap_id (by omega) (by omega)
          have hq : ((k : Int) + 1 != (k : Int) + 1) = false := by simp
          clear hcc hv hlen hrn
          go_wp2_with fail
          go_loopw [7] (fun j wr => ∃ (m : Nat), j = .int .i64 m ∧ m ≤ k + 1 ∧ Below w1.heap.size w1 wr) (fun j _ => (k + 1) - (intOf j).toNat)
          case atStart => exact ⟨0, rfl, Nat.zero_le _, Hbm.out⟩
          case round =>
            obtain ⟨m, rfl, hm, hb⟩ := hrel
            obtain ⟨wi, rfl⟩ : ∃ wi : World, wi = wr := ⟨_, rfl⟩
            have Hbi := Lib.hid hb
            clear hb d5 f0 hw1 hq
            have d5 := (Hx.out.below Hbi.out).c5
            have f0 := cell_below Hbi.out Hf0.out
            by_cases hltm : m < k + 1
            · obtain ⟨b2, o2, rfl, _, g0⟩ := Hcc.out m hltm
              have g0 := cell_below Hbi.out g0
              obtain ⟨v0, v60, vd⟩ := Hv.out m (Nat.le_of_lt_succ hltm)
              obtain ⟨X, hX⟩ : ∃ X, X = nth (nthL D i) m := ⟨_, rfl⟩
              rw [← hX] at g0 v0 v60 vd
              have q1 : decide (X < 0) = false := decide_eq_false (by omega)
              have q2 : decide (2147483648 < X) = false := decide_eq_false (by omega)
              have hm0 : (0 : Int) ≤ (m : Int) := by omega
              have hm1 : (m : Int) ≤ (k : Int) := by omega
              have hm2 : (m : Int) < (k : Int) + 1 := by omega
              have hm3 : m ≤ k := by omega
              by_cases him : i = m
              · have hX0 : X = 0 := vd him
                subst hX0
                have q3 : ((i : Int) == (m : Int)) = true := by simp; omega
                clear hX vd v0 v60 him
                go_wp2_with fail
                go_roundw
                case rel => exact ⟨m + 1, by go_num, Nat.succ_le_of_lt hltm, Hbi.out⟩
                case measure => simp only [intOf]; first | exact meas_one hltm | exact meas_oneW hltm (by omega)
              · have q3 : ((i : Int) == (m : Int)) = false := by simp; omega
                clear hX vd v0 v60 him
                go_wp2_with fail
                go_roundw
                case rel => exact ⟨m + 1, by go_num, Nat.succ_le_of_lt hltm, Hbi.out⟩
                case measure => simp only [intOf]; first | exact meas_one hltm | exact meas_oneW hltm (by omega)
            · have hmk : ¬ (m : Int) ≤ (k : Int) := by omega
              have hmk2 : ¬ m ≤ k := by omega
              clear hm hltm
              go_wp2_with fail
              go_roundw
              case rel => exact ⟨i + 1, _, by go_num, rfl, Nat.succ_le_of_lt hlt, Hbi.out⟩
              case measure => simp only [intOf]; first | exact meas_one hlt | exact meas_oneW hlt (by omega)
        · have hik : ¬ (i : Int) ≤ (k : Int) := by omega
          have hik2 : ¬ i ≤ k := by omega
          have HB := Lib.hid (Hb1.out.trans (Hbm.out.mono hsz))
          clear hi hlt
          go_wp2_with fail
          go_ret
          exact ⟨rfl, HB.out⟩
end

section
open Go.RowKit
set_option linter.unusedVariables false
set_option maxRecDepth 100000
attribute [local go_sem ↓] Go.wp_at_zero Go.wp_at_succ

/-- What an instance must be for the walks of plans. -/
structure InstP (n : Nat) (i1 cap i3 : Int) (L : List Cu) (D : List (List Int)) : Prop where
  ok : OkI n L
  good : ∀ C ∈ L, GoodC n C
  n6 : L.length ≤ 6
  v : 0 ≤ i1 ∧ i1 ≤ 1000
  c : 0 ≤ cap ∧ cap ≤ 1000
  l : 0 ≤ i3 ∧ i3 ≤ 1000
  rows : D.length = L.length + 1
  dist : GoodRows L.length D
  arcs : ArcBd D

set_option maxRecDepth 100000 in
set_option maxHeartbeats 3200000 in
theorem planP_is (n : Nat) (i1 cap i3 : Int) (cv dv dp : Value) (L : List Cu) (D : List (List Int)) (P : List (List (List (Int × Int)))) (w : World) (hC : Custs w cv L) (hG : Grid w dv D) (hI : InstP n i1 cap i3 L D) (hdp : DaysP w dp P) (hS : SmallP P) :
    Calls Tryz.prog 21 #[.agg #[.int .i64 n, .int .i64 i1, .int .i64 cap, .int .i64 i3, cv, dv], .agg #[dp]] w (MayOut w (PlanD n cap L P)) := by
  obtain ⟨w1, ew, hb1, hsz1, hx⟩ := box_inst w (.int .i64 n) (.int .i64 i1) (.int .i64 cap) (.int .i64 i3) cv dv
  obtain ⟨w2, ew2, hb2, hsz2, p0⟩ := box_plan w1 dp
  rw [hsz1] at p0
  have hbb := bel2 hb1 hb2
  have hx2 := hx.below hb2
  have hC2 := hC.below hbb
  have hG2 := hG.below hbb
  have hd2 := hdp.below hbb
  have HM := Lib.hid (fun (W : World) (h : Below w2.heap.size w2 W) => may06_is n i1 cap i3 cv dv L D W (hC2.below h) (hG2.below h) hI.good hI.n6 ⟨hI.ok.n1, hI.ok.n7⟩ hI.v hI.c hI.l hI.rows hI.dist)
  have HDy := Lib.hid (fun (W : World) (tv : Value) (T : List (List (Int × Int))) (h : Below w2.heap.size w2 W) (ht : Tours W tv T) (h1 : T.length ≤ 1000) (h2 : ∀ r ∈ T, r.length ≤ 1000) => dayT_is n i1 cap i3 cv dv tv L D T W (hC2.below h) (hG2.below h) hI.arcs (by have := hI.n6; omega) ht h1 h2)
  obtain ⟨da, dn, dc, rfl, _, _, _⟩ := hG2.open
  have HCp := Lib.hid (fun (W : World) (i : Nat) (h : Below w2.heap.size w2 W) (hl : P.length = n) (hday : ∀ d, d < n → DayD L.length cap (nthD P d)) (hi : i < L.length) => custP_is n i1 cap i3 cv (.slice da dn dc) dp L P i W (hC2.below h) ⟨_, _, _, rfl⟩ hI.ok (hd2.below h) hS hl hday hi)
  obtain ⟨ca, N, cc, rfl, hN, _, _⟩ := hC2.open
  obtain ⟨pa, pn, pc, rfl, hpn, _, hdc⟩ := hd2.open
  obtain ⟨c0, c1, c2, c3, c4, c5⟩ := hx2
  have Hew := Lib.hid ew
  have Hew2 := Lib.hid ew2
  have Hbb := Lib.hid hbb
  have HN := Lib.hid hN
  have Hpn := Lib.hid hpn
  have Hdc := Lib.hid hdc
  have HS := Lib.hid hS
  have Hx2 := Lib.hid (hx.below hb2)
  have Hp0 := Lib.hid p0
  have hszw : w.heap.size ≤ w2.heap.size := hbb.size
  have hpn1 : pn ≤ 64 := by have := hS.len; omega
  have hN1 : N ≤ 100 := by have := hI.n6; omega
  have hn7 := hI.ok.n7
  clear ew ew2 hx hC hC2 hG hG2 hdp hd2 hI hS hN hpn hdc hbb hb1 hb2 hsz1 hsz2
  go_enter Tryz.func21, Tryz.ntmps21
  go_upto_region 1 with (fail)
  rw [Hew.out]
  rw [Hew2.out]
  generalize w.heap.size + 1 = gt at *
  go_wp2_with fail
  refine (HM.out _ (Below.refl _ _)).mono ?_
  rintro e w3 ⟨rfl, hb3⟩
  have HB3 := Lib.hid (Hbb.out.trans (hb3.mono hszw))
  have Hb3 := Lib.hid hb3
  clear hb3 c0 c1 c2 c3 c4 c5 p0
  obtain ⟨c0, c1, c2, c3, c4, c5⟩ := Hx2.out.below Hb3.out
  have p0 := cell_below Hb3.out Hp0.out
  by_cases hpl : pn = n
  case neg =>
    have hq : ((pn : Int) != (n : Int)) = true := by simp; omega
    clear hpl
    go_wp2_with fail
    go_ret
    exact MayOut.no (by decide) HB3.out
  have hq : ((pn : Int) != (n : Int)) = false := by simp; omega
  have Hpl : Hid (P.length = n) := Lib.hid (by rw [Hpn.out]; exact hpl)
  have Hpl2 := Lib.hid hpl
  clear hpl
  go_wp2_with fail
  go_loopw [6, 7] (fun j z wr => ∃ (d : Nat) (y : Value), j = .int .i64 d ∧ y = z ∧ d ≤ pn ∧ (∀ m, m < d → DayD L.length cap (nthD P m)) ∧ Below w2.heap.size w2 wr) (fun j _ _ => pn - (intOf j).toNat)
  case atStart => exact ⟨0, _, rfl, rfl, Nat.zero_le _, fun m hm => absurd hm (Nat.not_lt_zero _), Hb3.out⟩
  case round =>
    obtain ⟨d, y, rfl, rfl, hd, hday, hb⟩ := hrel
    obtain ⟨wo, rfl⟩ : ∃ wo : World, wo = wr := ⟨_, rfl⟩
    have Hb := Lib.hid hb
    have Hday := Lib.hid hday
    have hszo : w2.heap.size ≤ wo.heap.size := hb.size
    clear hb hday c0 c1 c2 c3 c4 c5 p0
    obtain ⟨c0, c1, c2, c3, c4, c5⟩ := Hx2.out.below Hb.out
    have p0 := cell_below Hb.out Hp0.out
    by_cases hlt : d < pn
    · obtain ⟨b, o, ta, tn, tc, rfl, f0, htr⟩ := Hdc.out d hlt
      have hdP : d < P.length := by rw [Hpn.out]; exact hlt
      have HDd := Lib.hid (fun (W : World) (h : Below wo.heap.size wo W) => HDy.out W (.slice ta tn tc) (nthD P d) (bel2 Hb.out h) (htr.below (bel2 Hb.out h)) (HS.out.tours d hdP) (HS.out.stops d hdP))
      have f0 := cell_below Hb.out f0
      have Hf0 := Lib.hid f0
      have hi0 : (0 : Int) ≤ (d : Int) := by omega
      have hi1 : (d : Int) < (pn : Int) := by omega
      have b0 := Below.refl wo.heap.size wo
      clear htr hdP
      go_upto_region 9 with fail
      go_cut [7] (fun s7 wx => ∃ v : Int, s7 = .int .i64 v ∧ (v = 0 → DayD L.length cap (nthD P d)) ∧ Below wo.heap.size wo wx)
      case first =>
        go_region_held3 (fun w' => w'.cell? ⟨w.heap.size, 0, none⟩ = some (.int .i64 n) ∧ w'.cell? ⟨w.heap.size, 1, none⟩ = some (.int .i64 i1) ∧ w'.cell? ⟨w.heap.size, 2, none⟩ = some (.int .i64 cap) ∧ w'.cell? ⟨w.heap.size, 3, none⟩ = some (.int .i64 i3) ∧ w'.cell? ⟨w.heap.size, 4, none⟩ = some (.slice ca N cc) ∧ w'.cell? ⟨w.heap.size, 5, none⟩ = some (.slice da dn dc) ∧ w'.cell? ⟨gt, 0, none⟩ = some (.slice (some ⟨b, o, none⟩) pn pc) ∧ w'.cell? ⟨b, o + d, none⟩ = some (.slice ta tn tc))
          (first | go_keep | exact ⟨cell_below b5 c0, cell_below b5 c1, cell_below b5 c2, cell_below b5 c3, cell_below b5 c4, cell_below b5 c5, cell_below b5 p0, cell_below b5 f0⟩)
          (first
            | (go_at_call 43; refine (HDd.out _ ?_).mono ?_; (first | exact b0 | exact belDrew _); rintro e wM ⟨v, rfl, hv, hb5⟩; have Hv := Lib.hid hv; clear hv; (first | have b5 := bel2 b0 hb5 | have b5 := bel2 (belDrew wo) hb5)))
        all_goals
          go_wp2_with fail
          go_meet
          first
            | exact ⟨v, rfl, Hv.out, b5⟩
            | exact ⟨v, rfl, Hv.out, b5.drew⟩
      case rest =>
      obtain ⟨v, rfl, hv, hbc⟩ := hcut
      obtain ⟨w5, rfl⟩ : ∃ w5 : World, w5 = wc := ⟨_, rfl⟩
      have Hv := Lib.hid hv
      have Hb5 := Lib.hid (bel2 Hb.out hbc)
      have HB5 := Lib.hid (Hbb.out.trans (Hb5.out.mono hszw))
      clear hv hbc c0 c1 c2 c3 c4 c5 p0 f0 b0
      by_cases hv0 : v = 0
      · subst hv0
        have Hd := Lib.hid (Hv.out rfl)
        have hq : ((0 : Int) != 0) = false := by simp
        go_wp2_with fail
        go_roundw
        case rel => exact ⟨d + 1, _, by go_num, rfl, Nat.succ_le_of_lt hlt, fun m hm => (by
          by_cases e : m = d
          · subst e; exact Hd.out
          · exact Hday.out m (Nat.lt_of_le_of_ne (Nat.le_of_lt_succ hm) e)), Hb5.out⟩
        case measure => simp only [intOf]; first | exact meas_one hlt | exact meas_oneW hlt (by omega)
      · have hq : (v != 0) = true := by simpa using hv0
        have Hv0 := Lib.hid hv0
        clear hv0
        go_wp2_with fail
        go_ret
        exact MayOut.no Hv0.out HB5.out
    · have Hall : Hid (∀ m, m < n → DayD L.length cap (nthD P m)) := Lib.hid (fun m hm => Hday.out m (by have := Hpl2.out; omega))
      go_wp2_with fail
      go_loopw [8, 9] (fun j z wr => ∃ (i : Nat) (x : Value), j = .int .i64 i ∧ x = z ∧ i ≤ N ∧ (∀ m, m < i → CustD n (nthC L m) (visTo m P n)) ∧ Below w2.heap.size w2 wr) (fun j _ _ => N - (intOf j).toNat)
      case atStart => exact ⟨0, _, rfl, rfl, Nat.zero_le _, fun m hm => absurd hm (Nat.not_lt_zero _), Hb.out⟩
      case round =>
        obtain ⟨i, x, rfl, rfl, hi, hcu, hb⟩ := hrel
        obtain ⟨wi, rfl⟩ : ∃ wi : World, wi = wr := ⟨_, rfl⟩
        have Hbi := Lib.hid hb
        have Hcu := Lib.hid hcu
        clear hb hcu c0 c1 c2 c3 c4 c5 p0
        obtain ⟨c0, c1, c2, c3, c4, c5⟩ := Hx2.out.below Hbi.out
        have p0 := cell_below Hbi.out Hp0.out
        by_cases hlt : i < N
        · have hi0 : (0 : Int) ≤ (i : Int) := by omega
          have hi1 : (i : Int) < (N : Int) := by omega
          have HCi := Lib.hid (HCp.out wi i Hbi.out Hpl.out Hall.out (by rw [HN.out]; exact hlt))
          go_wp2_with fail
          refine HCi.out.mono ?_
          rintro e w6 ⟨v, rfl, hv, hb6⟩
          have Hv := Lib.hid hv
          have Hb6 := Lib.hid (bel2 Hbi.out hb6)
          have HB6 := Lib.hid (Hbb.out.trans (Hb6.out.mono hszw))
          clear hv hb6 c0 c1 c2 c3 c4 c5 p0
          by_cases hv0 : v = 0
          · subst hv0
            have Hd := Lib.hid (Hv.out rfl)
            have hq : ((0 : Int) != 0) = false := by simp
            go_wp2_with fail
            go_roundw
            case rel => exact ⟨i + 1, _, by go_num, rfl, Nat.succ_le_of_lt hlt, fun m hm => (by
              by_cases e : m = i
              · subst e; exact Hd.out
              · exact Hcu.out m (Nat.lt_of_le_of_ne (Nat.le_of_lt_succ hm) e)), Hb6.out⟩
            case measure => simp only [intOf]; first | exact meas_one hlt | exact meas_oneW hlt (by omega)
          · have hq : (v != 0) = true := by simpa using hv0
            have Hv0 := Lib.hid hv0
            clear hv0
            go_wp2_with fail
            go_ret
            exact MayOut.no Hv0.out HB6.out
        · have HP : Hid (PlanD n cap L P) := Lib.hid ⟨Hpl.out, Hall.out, fun m hm => Hcu.out m (by have := HN.out; omega)⟩
          have HBi := Lib.hid (Hbb.out.trans (Hbi.out.mono hszw))
          go_wp2_with fail
          go_ret
          exact ⟨0, rfl, fun _ => HP.out, HBi.out⟩
end

section
open Go.RowKit
set_option linter.unusedVariables false
set_option maxRecDepth 100000
attribute [local go_sem ↓] Go.wp_at_zero Go.wp_at_succ

theorem heldC_one (n : Nat) {C : Cu} (V : List (Int × Int)) (h : C.kd = 1) : heldC n C V = 0 := by unfold heldC; rw [if_pos h]
theorem heldC_two (n : Nat) {C : Cu} (V : List (Int × Int)) (h : C.kd = 2) : heldC n C V = C.hd * (nightsE C.st C.rt C.sz (bringsOf V n)).2.sum := by unfold heldC; rw [if_neg (by omega)]

set_option maxRecDepth 100000 in
set_option maxHeartbeats 3200000 in
theorem holdP_is (n : Nat) (i1 cap i3 : Int) (cv dvv dp : Value) (L : List Cu) (P : List (List (List (Int × Int)))) (w : World) (hC : Custs w cv L) (hgv : ∃ da dn dc, dvv = .slice da dn dc) (hOk : OkI n L) (hdp : DaysP w dp P) (hS : SmallP P) (hPd : PlanD n cap L P) :
    Calls Tryz.prog 45 #[.agg #[.int .i64 n, .int .i64 i1, .int .i64 cap, .int .i64 i3, cv, dvv], .agg #[dp]] w (CostOut w (sumUpto (fun i => heldC n (nthC L i) (visTo i P n)) L.length)) := by
  obtain ⟨w1, ew, hb1, hsz1, hx⟩ := box_inst w (.int .i64 n) (.int .i64 i1) (.int .i64 cap) (.int .i64 i3) cv dvv
  obtain ⟨w2, ew2, hb2, hsz2, p0⟩ := box_plan w1 dp
  rw [hsz1] at p0
  obtain ⟨da, dn, dc, rfl⟩ := hgv
  have hbb := bel2 hb1 hb2
  have hx2 := hx.below hb2
  obtain ⟨c0, c1, c2, c3, c4, c5⟩ := hx2
  obtain ⟨ca, N, cc, rfl, hN, _, hcell⟩ := (hC.below hbb).open
  obtain ⟨pa, pn, pc, rfl, _⟩ := (hdp.below hbb).open
  have hn7 := hOk.n7
  have hN1 : N ≤ 100 := by have := hOk.len; omega
  obtain ⟨H, hH⟩ : ∃ f : Nat → Int, f = fun i => heldC n (nthC L i) (visTo i P n) := ⟨_, rfl⟩
  have hHb : ∀ i, i < L.length → 0 ≤ H i ∧ H i ≤ 200000 := fun i hi => by rw [hH]; exact hPd.held0 hOk (by omega) hi
  have Hres : Hid (sumUpto (fun i => heldC n (nthC L i) (visTo i P n)) L.length = sumUpto H N) := Lib.hid (by rw [hH, ← hN])
  have HH := Lib.hid hH
  have HHb := Lib.hid hHb
  have Hew := Lib.hid ew
  have Hew2 := Lib.hid ew2
  have Hbb := Lib.hid hbb
  have Hx2 := Lib.hid (hx.below hb2)
  have Hp0 := Lib.hid p0
  have Hcell := Lib.hid hcell
  have HN := Lib.hid hN
  have HOk := Lib.hid hOk
  have Hvm := Lib.hid (fun i => vis_mem hPd.day i n (Nat.le_refl n))
  have Hvl := Lib.hid (fun i => vis_days hPd.day i n (Nat.le_refl n))
  have HV := Lib.hid (fun (W : World) (i : Int) (h : Below w2.heap.size w2 W) => visits08_is (.slice pa pn pc) P i W ((hdp.below hbb).below h) hS)
  rw [hPd.len] at HV
  have hszw : w.heap.size ≤ w2.heap.size := hbb.size
  clear ew ew2 hx hC hdp hS hPd hN hcell hbb hb1 hb2 hsz1 hsz2 hOk hH hHb
  go_enter Tryz.func45, Tryz.ntmps45
  go_upto_region 1 with (fail)
  rw [Hew.out]
  rw [Hew2.out]
  generalize w.heap.size + 1 = gt at *
  go_wp2_with fail
  go_loopw [5, 6, 7, 8, 9] (fun s j z7 z8 z9 wr => ∃ (k : Nat) (S : Int) (y7 y8 y9 : Value), y7 = z7 ∧ y8 = z8 ∧ y9 = z9 ∧ j = .int .i64 k ∧ s = .int .i64 S ∧ k ≤ N ∧ S = sumUpto H k ∧ Below w2.heap.size w2 wr) (fun _ j _ _ _ _ => N - (intOf j).toNat)
  case atStart => exact ⟨0, 0, _, _, _, rfl, rfl, rfl, rfl, rfl, Nat.zero_le _, rfl, Below.refl _ _⟩
  case round =>
    obtain ⟨k, S, y7, y8, y9, rfl, rfl, rfl, rfl, rfl, hk, hS, hb⟩ := hrel
    obtain ⟨wo, rfl⟩ : ∃ wo : World, wo = wr := ⟨_, rfl⟩
    have HS := Lib.hid hS
    have Hb := Lib.hid hb
    have hszo : w2.heap.size ≤ wo.heap.size := hb.size
    clear hb c0 c1 c2 c3 c4 c5 p0
    obtain ⟨c0, c1, c2, c3, c4, c5⟩ := Hx2.out.below Hb.out
    by_cases hlt : k < N
    · have hkL : k < L.length := by rw [HN.out]; exact hlt
      have hsb := sumUpto_bd H 200000 k (fun i hi => HHb.out i (by omega))
      rw [← hS] at hsb
      have hst : sumUpto H (k + 1) = S + H k := by rw [sumUpto, ← hS]
      have hHk := HHb.out k hkL
      have hHe : H k = heldC n (nthC L k) (visTo k P n) := by rw [HH.out]
      have hok := HOk.out.cus _ (nthC_mem hkL)
      obtain ⟨b, o, pv, rfl, _, hcu⟩ := Hcell.out k hlt
      obtain ⟨ta, tn, tc, rfl⟩ := words_form hcu.pats
      have hcu := hcu.below Hb.out
      have hvm := Hvm.out k
      have hvl := Hvl.out k
      have HVk := Lib.hid (fun (W : World) (h : Below w2.heap.size w2 W) => HV.out W k h)
      generalize visTo k P n = V at *
      generalize nthC L k = Z at *
      obtain ⟨kd, dm, ps, rt, sz, st, ru, hd⟩ := Z
      obtain ⟨w3, ew3, hb3, hsz3, hz3⟩ := box_cust wo kd dm (.slice ta tn tc) rt sz st ru hd
      have Hew3 := Lib.hid ew3
      have Hz3 := Lib.hid hz3
      have Hx3 := Lib.hid ((Hx2.out.below Hb.out).below hb3)
      have Hb3 := Lib.hid (bel2 Hb.out hb3)
      have Hp3 := Lib.hid (cell_below Hb3.out Hp0.out)
      obtain ⟨y0, y1, y2, y3, y4, y5, y6, y7', _⟩ := hcu
      have hk0 : (0 : Int) ≤ (k : Int) := by omega
      have hk1 : (k : Int) < (N : Int) := by omega
      have Hst := Lib.hid hst
      have hok2 : OkC n ⟨kd, dm, ps, rt, sz, st, ru, hd⟩ := hok
      rcases hok2 with ⟨h1, _⟩ | ⟨h1, T⟩
      · simp only at h1
        subst h1
        rw [heldC_one n V rfl] at hHe
        have Hst2 : Hid (S = sumUpto H (k + 1)) := Lib.hid (by rw [hst, hHe, Int.add_zero])
        clear hS hsb hst hHk hHe hok hkL ew3 hz3 hb3 hsz3 hvm hvl
        go_upto_region 6 with fail
        rw [Hew3.out]
        clear c0 c1 c2 c3 c4 c5 y0 y1 y2 y3 y4 y5 y6 y7'
        obtain ⟨z0, z1, z2, z3, z4, z5, z6, z7⟩ := Hz3.out
        generalize wo.heap.size = gc at *
        go_wp2_with fail
        go_roundw
        case rel => exact ⟨k + 1, S, _, _, _, rfl, rfl, rfl, by go_num, rfl, Nat.succ_le_of_lt hlt, Hst2.out, Hb3.out⟩
        case measure => simp only [intOf]; first | exact meas_one hlt | exact meas_oneW hlt (by omega)
      · simp only at h1 T
        subst h1
        rw [heldC_two n V rfl] at hHe
        simp only at hHe
        have hh := held_small T.hd0 T.hd1 (nights_bd T (bringsOf V n)) (by have := nights_len st rt sz (bringsOf V n); have := brings_len V n; omega)
        have hSm : Small st rt sz (bringsOf V n) := ⟨T.st0, by have := T.st1; have := T.sz1; omega, T.rt0, by have := T.rt1; omega, by have := brings_len V n; omega⟩
        have HBr := Lib.hid (fun (W : World) (vv : Value) (hv : Vis W vv V) => refBrings_is vv V n W hv (fun p hp => fitsI_iff.2 (by have := hvm p hp; omega)) (by omega) (by omega))
        have HNi := Lib.hid (fun (W : World) (qv : Value) (h : Ints W qv (bringsOf V n)) => refNights_is 2 dm (.slice ta tn tc) rt sz st ru hd qv (bringsOf V n) W h hSm)
        generalize (nightsE st rt sz (bringsOf V n)).2 = NL at *
        generalize (nightsE st rt sz (bringsOf V n)).1 = NE at *
        have HHe := Lib.hid (fun (W : World) (v : Value) (h : Ints W v NL) => refHeld_is 2 dm (.slice ta tn tc) rt sz st ru hd v NL W h)
        rw [hh.1, ← hHe] at HHe
        generalize H k = HK at *
        have hw : wrap64 (S + HK) = S + HK := wrap_id (by omega) (by omega)
        have Hw := Lib.hid hw
        have HVk3 := Lib.hid (fun (W : World) (h : Below w3.heap.size w3 W) => HVk.out W (bel2 Hb3.out h))
        clear hS hsb hst hHk hHe hok hkL ew3 hz3 hb3 hsz3 hvm hvl hh hSm T hw
        go_upto_region 6 with fail
        rw [Hew3.out]
        clear c0 c1 c2 c3 c4 c5 y0 y1 y2 y3 y4 y5 y6 y7'
        obtain ⟨z0, z1, z2, z3, z4, z5, z6, z7⟩ := Hz3.out
        obtain ⟨c0, c1, c2, c3, c4, c5⟩ := Hx3.out
        have p0 := Hp3.out
        generalize wo.heap.size = gc at *
        have b0 := Below.refl w3.heap.size w3
        go_upto_region 7 with fail
        go_cut [8, 9] (fun s8 s9 wx => ∃ v x, v = s8 ∧ x = s9 ∧ Ints wx v NL ∧ Below w3.heap.size w3 wx)
        case first =>
          go_region_held3 (fun w' => w'.cell? ⟨w.heap.size, 0, none⟩ = some (.int .i64 n) ∧ w'.cell? ⟨gt, 0, none⟩ = some (.slice pa pn pc) ∧ w'.cell? ⟨gc, 0, none⟩ = some (.int .i64 2) ∧ w'.cell? ⟨gc, 1, none⟩ = some (.int .i64 dm) ∧ w'.cell? ⟨gc, 2, none⟩ = some (.slice ta tn tc) ∧ w'.cell? ⟨gc, 3, none⟩ = some (.int .i64 rt) ∧ w'.cell? ⟨gc, 4, none⟩ = some (.int .i64 sz) ∧ w'.cell? ⟨gc, 5, none⟩ = some (.int .i64 st) ∧ w'.cell? ⟨gc, 6, none⟩ = some (.int .i64 ru) ∧ w'.cell? ⟨gc, 7, none⟩ = some (.int .i64 hd))
            (first | go_keep | exact ⟨cell_below b4 c0, cell_below b4 p0, cell_below b4 z0, cell_below b4 z1, cell_below b4 z2, cell_below b4 z3, cell_below b4 z4, cell_below b4 z5, cell_below b4 z6, cell_below b4 z7⟩ | exact ⟨cell_below b5 c0, cell_below b5 p0, cell_below b5 z0, cell_below b5 z1, cell_below b5 z2, cell_below b5 z3, cell_below b5 z4, cell_below b5 z5, cell_below b5 z6, cell_below b5 z7⟩ | exact ⟨cell_below b6 c0, cell_below b6 p0, cell_below b6 z0, cell_below b6 z1, cell_below b6 z2, cell_below b6 z3, cell_below b6 z4, cell_below b6 z5, cell_below b6 z6, cell_below b6 z7⟩)
            (first
              | (go_at_call 70; refine (HVk3.out _ ?_).mono ?_; (first | exact b0 | exact belDrew _); rintro e wV ⟨vv, rfl, hown4, hb4⟩; have Hvi4 := Lib.hid hown4.vis; obtain ⟨va, vn, vc, rfl, _⟩ := hown4.vis.open; clear hown4; (first | have b4 := bel2 b0 hb4 | have b4 := bel2 (belDrew w3) hb4))
              | (go_at_call 72; refine (HBr.out _ _ ?_).mono ?_; (first | exact Hvi4.out | exact Hvi4.out.below (belDrew _)); rintro e wM ⟨qv, rfl, hown5, hb5⟩; obtain ⟨la, ln, lc, rfl⟩ := own_slice hown5; have Hli5 := Lib.hid hown5.ints; clear hown5; (first | have b5 := bel2 b4 hb5 | have b5 := bel2 b4.drew hb5))
              | (go_at_call 73; refine (HNi.out _ _ ?_).mono ?_; (first | exact Hli5.out | exact Hli5.out.below (belDrew _)); rintro e wN ⟨nv, rfl, hown6, hb6⟩; obtain ⟨na, nn, nc, rfl⟩ := own_slice hown6; have Hli6 := Lib.hid hown6.ints; clear hown6; (first | have b6 := bel2 b5 hb6 | have b6 := bel2 b5.drew hb6)))
          all_goals
            go_wp2_with fail
            go_meet
            first
              | exact ⟨_, _, rfl, rfl, Hli6.out, b6⟩
              | exact ⟨_, _, rfl, rfl, Hli6.out.below (belDrew _), b6.drew⟩
        case rest =>
        obtain ⟨v, x, rfl, rfl, hli, hbc⟩ := hcut
        obtain ⟨w6, rfl⟩ : ∃ w6 : World, w6 = wc := ⟨_, rfl⟩
        obtain ⟨na, nn, nc, rfl, _⟩ := hli.open
        have HHe6 := Lib.hid (HHe.out w6 _ hli)
        obtain ⟨q0, q1, q2, q3, q4, q5, q6, q7⟩ : w6.cell? ⟨gc, 0, none⟩ = some (.int .i64 2) ∧ w6.cell? ⟨gc, 1, none⟩ = some (.int .i64 dm) ∧ w6.cell? ⟨gc, 2, none⟩ = some (.slice ta tn tc) ∧ w6.cell? ⟨gc, 3, none⟩ = some (.int .i64 rt) ∧ w6.cell? ⟨gc, 4, none⟩ = some (.int .i64 sz) ∧ w6.cell? ⟨gc, 5, none⟩ = some (.int .i64 st) ∧ w6.cell? ⟨gc, 6, none⟩ = some (.int .i64 ru) ∧ w6.cell? ⟨gc, 7, none⟩ = some (.int .i64 hd) :=
          ⟨cell_below hbc z0, cell_below hbc z1, cell_below hbc z2, cell_below hbc z3, cell_below hbc z4, cell_below hbc z5, cell_below hbc z6, cell_below hbc z7⟩
        have Hb6 := Lib.hid (bel2 Hb3.out hbc)
        clear hli hbc c0 c1 c2 c3 c4 c5 p0 z0 z1 z2 z3 z4 z5 z6 z7 b0
        go_wp2_with fail
        refine HHe6.out.mono ?_
        rintro e w7 ⟨rfl, hb7⟩
        have Hb7 := Lib.hid (bel2 Hb6.out hb7)
        clear hb7 q0 q1 q2 q3 q4 q5 q6 q7
        go_wp2_with fail
        go_roundw
        case rel => exact ⟨k + 1, S + HK, _, _, _, rfl, rfl, rfl, by go_num, (by first | rfl | exact congrArg (Value.int .i64) Hw.out), Nat.succ_le_of_lt hlt, Hst.out.symm, Hb7.out⟩
        case measure => simp only [intOf]; first | exact meas_one hlt | exact meas_oneW hlt (by omega)
    · have hkN : k = N := by omega
      have HBo := Lib.hid (Hbb.out.trans (Hb.out.mono hszw))
      have HS2 := Lib.hid (show S = sumUpto H N by rw [hS, hkN])
      clear hS hk
      subst hkN
      go_wp2_with fail
      go_ret
      rw [Hres.out, ← HS2.out]
      exact ⟨rfl, HBo.out⟩
end

section
open Go.RowKit
set_option linter.unusedVariables false
set_option maxRecDepth 100000
attribute [local go_sem ↓] Go.wp_at_zero Go.wp_at_succ

def wayTo16 (D : List (List Int)) (P : List (List (List (Int × Int)))) : Nat → Int
  | 0 => 0
  | k + 1 => wayTo16 D P k + wayP D (nthD P k)
theorem wayTo16_eq (D : List (List Int)) (P : List (List (List (Int × Int)))) (k : Nat) (hk : k ≤ P.length) : wayTo16 D P k = wayP D (P.take k).flatten := by
  induction k with
  | zero => simp [wayTo16, wayP]
  | succ k ih =>
    have e : P.take (k + 1) = P.take k ++ [nthD P k] := by
      rw [List.take_succ_eq_append_getElem (by omega)]
      simp [nthD, show k < P.length by omega]
    rw [wayTo16, ih (by omega), e, List.flatten_append]
    simp [wayP]
theorem wayTo16_bd {D : List (List Int)} (hD : ArcBd D) {P : List (List (List (Int × Int)))} (h : SmallP P) (k : Nat) (hk : k ≤ P.length) : 0 ≤ wayTo16 D P k ∧ wayTo16 D P k ≤ 100000000 * k := by
  induction k with
  | zero => simp [wayTo16]
  | succ k ih =>
    have h1 := ih (by omega)
    have h2 := wayP_bd hD (nthD P k) (h.stops k (by omega)) (nthD P k).length (Nat.le_refl _)
    rw [List.take_length] at h2
    have h3 := h.tours k (by omega)
    rw [wayTo16]
    omega

set_option maxRecDepth 100000 in
set_option maxHeartbeats 3200000 in
theorem costP_is (n : Nat) (i1 cap i3 : Int) (cv dv dp : Value) (L : List Cu) (D : List (List Int)) (P : List (List (List (Int × Int)))) (w : World) (hC : Custs w cv L) (hG : Grid w dv D) (hD : ArcBd D) (hOk : OkI n L) (hdp : DaysP w dp P) (hS : SmallP P) (hPd : PlanD n cap L P) :
    Calls Tryz.prog 22 #[.agg #[.int .i64 n, .int .i64 i1, .int .i64 cap, .int .i64 i3, cv, dv], .agg #[dp]] w (CostOut w (costP D n L P)) := by
  obtain ⟨w1, ew, hb1, hsz1, hx⟩ := box_inst w (.int .i64 n) (.int .i64 i1) (.int .i64 cap) (.int .i64 i3) cv dv
  obtain ⟨w2, ew2, hb2, hsz2, p0⟩ := box_plan w1 dp
  rw [hsz1] at p0
  have hbb := bel2 hb1 hb2
  have hx2 := hx.below hb2
  have hC2 := hC.below hbb
  have hG2 := hG.below hbb
  have hd2 := hdp.below hbb
  obtain ⟨da, dn, dc, rfl, _, _, _⟩ := hG2.open
  have hho := holdP_is n i1 cap i3 cv (.slice da dn dc) dp L P w2 hC2 ⟨_, _, _, rfl⟩ hOk hd2 hS hPd
  obtain ⟨ca, N, cc, rfl, hN, _, _⟩ := hC2.open
  have HCd := Lib.hid (fun (W : World) (tv : Value) (T : List (List (Int × Int))) (h : Below w2.heap.size w2 W) (ht : Tours W tv T) (h1 : T.length ≤ 1000) (h2 : ∀ r ∈ T, r.length ≤ 1000) (h3 : ∀ r ∈ T, TourD L.length cap r) => costT_is n i1 cap i3 (.slice ca N cc) (.slice da dn dc) tv D L.length cap T W ⟨_, _, _, rfl⟩ (hG2.below h) hD (by have := hOk.len; omega) ht h1 h2 h3)
  obtain ⟨pa, pn, pc, rfl, hpn, _, hdc⟩ := hd2.open
  obtain ⟨c0, c1, c2, c3, c4, c5⟩ := hx2
  obtain ⟨S0, hS0⟩ : ∃ S, S = sumUpto (fun i => heldC n (nthC L i) (visTo i P n)) L.length := ⟨_, rfl⟩
  have hS0b : 0 ≤ S0 ∧ S0 ≤ 200000 * L.length := by rw [hS0]; exact sumUpto_bd _ 200000 _ (fun i hi => hPd.held0 hOk (by have := hOk.n7; omega) hi)
  have Hres : Hid (costP D n L P = S0 + wayTo16 D P P.length) := Lib.hid (by rw [wayTo16_eq D P _ (Nat.le_refl _), List.take_length, hS0]; rfl)
  rw [← hS0] at hho
  have hS1 : 0 ≤ S0 ∧ S0 ≤ 20000000 := by have := hOk.len; omega
  have Hho := Lib.hid hho
  have Hew := Lib.hid ew
  have Hew2 := Lib.hid ew2
  have Hbb := Lib.hid hbb
  have Hpn := Lib.hid hpn
  have Hdc := Lib.hid hdc
  have HS := Lib.hid hS
  have Hpd := Lib.hid hPd
  have Hwb := Lib.hid (wayTo16_bd hD hS)
  have Hx2 := Lib.hid (hx.below hb2)
  have Hp0 := Lib.hid p0
  have hszw : w.heap.size ≤ w2.heap.size := hbb.size
  have hpn1 : pn ≤ 64 := by have := hS.len; omega
  clear ew ew2 hx hC hC2 hG hG2 hdp hd2 hN hpn hdc hbb hb1 hb2 hsz1 hsz2 hho hS0 hS0b hS hPd hOk hD
  go_enter Tryz.func22, Tryz.ntmps22
  go_upto_region 1 with (fail)
  rw [Hew.out]
  rw [Hew2.out]
  generalize w.heap.size + 1 = gt at *
  go_wp2_with fail
  refine Hho.out.mono ?_
  rintro e w3 ⟨rfl, hb3⟩
  have Hb3 := Lib.hid hb3
  clear hb3 c0 c1 c2 c3 c4 c5 p0
  go_wp2_with fail
  go_loopw [5, 6] (fun s j wr => ∃ (d : Nat) (S : Int), j = .int .i64 d ∧ s = .int .i64 (S0 + S) ∧ d ≤ pn ∧ S = wayTo16 D P d ∧ Below w2.heap.size w2 wr) (fun _ j _ => pn - (intOf j).toNat)
  case atStart => exact ⟨0, 0, rfl, by rw [Int.add_zero], Nat.zero_le _, rfl, Hb3.out⟩
  case round =>
    obtain ⟨d, S, rfl, rfl, hd, hS, hb⟩ := hrel
    obtain ⟨wo, rfl⟩ : ∃ wo : World, wo = wr := ⟨_, rfl⟩
    have Hb := Lib.hid hb
    have HSe := Lib.hid hS
    clear hb hS
    obtain ⟨c0, c1, c2, c3, c4, c5⟩ := Hx2.out.below Hb.out
    have p0 := cell_below Hb.out Hp0.out
    by_cases hlt : d < pn
    · obtain ⟨b, o, ta, tn, tc, rfl, f0, htr⟩ := Hdc.out d hlt
      have hdP : d < P.length := by rw [Hpn.out]; exact hlt
      have hdn : d < n := by rw [← Hpd.out.len]; exact hdP
      have HCk := Lib.hid (fun (W : World) (h : Below wo.heap.size wo W) => HCd.out W (.slice ta tn tc) (nthD P d) (bel2 Hb.out h) (htr.below (bel2 Hb.out h)) (HS.out.tours d hdP) (HS.out.stops d hdP) (Hpd.out.day d hdn).tour)
      have hst : wayTo16 D P (d + 1) = S + wayP D (nthD P d) := by rw [wayTo16, ← HSe.out]
      have h1 := Hwb.out d (Nat.le_of_lt hdP)
      have h2 := Hwb.out (d + 1) hdP
      rw [← HSe.out] at h1
      rw [hst] at h2
      generalize wayP D (nthD P d) = WY at *
      have e1 : S0 + S + WY = S0 + (S + WY) := by omega
      have e2 : -9223372036854775808 ≤ S0 + S + WY ∧ S0 + S + WY ≤ 9223372036854775807 := by omega
      have f0 := cell_below Hb.out f0
      have hi0 : (0 : Int) ≤ (d : Int) := by omega
      have hi1 : (d : Int) < (pn : Int) := by omega
      have Hst := Lib.hid hst
      have He1 := Lib.hid e1
      have hw : IntKind.i64.wrap (S0 + S + WY) = S0 + S + WY := IntWalk.i64_in _ e2
      clear htr hdP hdn hst h1 h2 e1 e2
      go_upto_region 5 with fail
      have x0 := Ext.cell c0
      have x1 := Ext.cell c1
      have x2 := Ext.cell c2
      have x3 := Ext.cell c3
      have x4 := Ext.cell c4
      have x5 := Ext.cell c5
      have y0 := Ext.cell p0
      have v0 := Ext.cell f0
      clear c0 c1 c2 c3 c4 c5 p0 f0
      refine wp_region_ext (by kernel_rfl) (by kernel_rfl) ?_
      repeat (go_big_quiet_step (first
        | (go_at_call 46; with_reducible exact ext_cost _ (HCk.out _ (Ext.below _)))))
      refine wpQuiet_nil ?_
      intro _ hw'
      obtain ⟨z, rfl⟩ := hw'
      have Hz := Lib.hid (bel2 Hb.out z.below)
      generalize z.w = w5 at *
      clear hw x0 x1 x2 x3 x4 x5 y0 v0
      go_wp2_with fail
      go_roundw
      case rel => exact ⟨d + 1, S + WY, by go_num, (by first | rfl | exact congrArg (Value.int .i64) He1.out), Nat.succ_le_of_lt hlt, Hst.out.symm, Hz.out⟩
      case measure => simp only [intOf]; first | exact meas_one hlt | exact meas_oneW hlt (by omega)
    · have hdn : d = pn := by omega
      have HBo := Lib.hid (Hbb.out.trans (Hb.out.mono hszw))
      have HS2 := Lib.hid (show S = wayTo16 D P P.length by rw [HSe.out, hdn, Hpn.out])
      clear hd
      subst hdn
      go_wp2_with fail
      go_ret
      rw [Hres.out, ← HS2.out]
      exact ⟨rfl, HBo.out⟩
end

end Go.Proofs.YtnhcgpkcmfelkaaGreat
