/-
  My own work: the walk of AloneCheaper.
-/
import Derived.Test.YtpelbfjhljlbkaaAloneAC
import Derived.Test.YtpelbfjhljlbkaaPushOwn
import Derived.Deep.DrawnRows
namespace Go.Proofs.Ytpelbfjhljlbkaa
open Go.RowKit
set_option linter.unusedVariables false
set_option maxRecDepth 100000
attribute [local go_sem ↓] Go.wp_at_zero Go.wp_at_succ

theorem half_bd {X : Int} (h : 0 ≤ X ∧ X ≤ 1000) : wrap64 (X.tdiv 2) = X / 2 ∧ 0 ≤ X / 2 ∧ X / 2 ≤ X := by
  have e : X.tdiv 2 = X / 2 := Int.tdiv_eq_ediv_of_nonneg h.1
  rw [e]
  refine ⟨wrap_id (by omega) (by omega), by omega, by omega⟩
/-- One price is halved. -/
theorem half_low {P : List Int} (hP : PriceOk P) {k : Nat} (hk : k < P.length) : PriceOk (P.set k (nth P k / 2)) ∧ ∀ d, priceAt (P.set k (nth P k / 2)) d ≤ priceAt P d := by
  have hm := hP _ (nth_mem hk)
  refine ⟨fun x hx => ?_, fun d => ?_⟩
  · rcases List.mem_or_eq_of_mem_set hx with h | rfl
    · exact hP x h
    · omega
  · unfold priceAt
    rw [List.length_set]
    by_cases hd : 0 ≤ d ∧ d < (P.length : Int)
    · rw [if_pos hd, if_pos hd, nth_set hk]
      split
      · rename_i e
        rw [← e]; omega
      · omega
    · rw [if_neg hd, if_neg hd]; omega

set_option maxHeartbeats 6400000 in
theorem aloneCheaper_walk (C : Cu) (pv lv : Value) (n0 : Int) (cap0 dy : Int) (L : List Int) (w : World) (hW : WfC C) (hp : Words w pv C.ps) (hn : (Lit.int .i64 n0).wf = true) (hL : Ints w lv L) (hLw : ∀ x ∈ L, (Lit.int .i64 x).wf = true) :
    Calls Try.prog 9 #[.agg #[.int .i64 C.kd, .int .i64 C.dm, pv, .int .i64 C.rt, .int .i64 C.sz, .int .i64 C.st, .int .i64 C.ru, .int .i64 C.hd], .int .i64 n0, .int .i64 cap0, lv, .int .i64 dy] w fun e w' => e = .returned (.bool true) ∧ Below w.heap.size w w' := by
  obtain ⟨w1, ew, hb1, hsz1, hcu⟩ := box_cust w C.kd C.dm pv C.rt C.sz C.st C.ru C.hd
  obtain ⟨n, hnn⟩ := Int.eq_ofNat_of_zero_le (show 0 ≤ rnd n0 1 6 by have := rnd_bd n0 1 6 (by decide); omega)
  have hnb := rnd_bd n0 1 6 (by decide)
  rw [hnn] at hnb
  have hR := round11_is n0 6 w1 hn (by decide) (by decide)
  rw [hnn] at hR
  have HR := Lib.hid hR
  have HCu := Lib.hid (customer_is C pv n w1 hW (hp.below hb1) (by omega) (by omega))
  have HL1 := Lib.hid (hL.below hb1)
  have HLw := Lib.hid hLw
  have Hew := Lib.hid ew
  obtain ⟨c0, c1, c2, c3, c4, c5, c6, c7⟩ := hcu
  clear ew hsz1 hR hW hp hn hL hLw hnn
  go_enter Try.func9, Try.ntmps9
  go_upto_region 1 with (fail)
  rw [Hew.out]
  go_wp2_with fail
  refine HR.out.mono ?_
  rintro e w' ⟨rfl, rfl⟩
  go_wp2_with fail
  refine HCu.out.mono ?_
  rintro e w2 ⟨X, xv, rfl, hG, hxp, hb2⟩
  obtain ⟨w3, ew3, hb3, hsz3, hx⟩ := box_cust w2 X.kd X.dm xv X.rt X.sz X.st X.ru X.hd
  have hb23 := bel2 hb2 hb3
  have HB3 := Lib.hid (hb1.trans (hb23.mono hb1.size))
  have hsz13 : w.heap.size ≤ w3.heap.size := HB3.out.size
  have HPr := Lib.hid (prices_is lv L w3 (HL1.out.below hb23) HLw.out)
  have Hxp := Lib.hid (hxp.below hb3)
  have HG := Lib.hid (good_ok hG)
  have Hps := Lib.hid (good_ps (show n ≤ 64 by omega) hG)
  have Hew3 := Lib.hid ew3
  have hxf := words_form hxp
  clear c0 c1 c2 c3 c4 c5 c6 c7 hG hxp hb2 hb3 ew3 hsz3 hb23
  obtain ⟨xa, xn, xc, rfl⟩ := hxf
  obtain ⟨kd, dm, ps, rt, sz, st, ru, hd⟩ := X
  simp only at HG Hew3 Hxp Hps hx
  have Hcx := Lib.hid (show IsCust w3 w2.heap.size kd dm (.slice xa xn xc) rt sz st ru hd from hx)
  clear hx
  obtain ⟨c0, c1, c2, c3, c4, c5, c6, c7⟩ := Hcx.out
  go_upto_region 3 with fail
  rw [Hew3.out]
  generalize w2.heap.size = g at *
  go_wp2_with fail
  refine HPr.out.mono ?_
  rintro e w4 ⟨qv, rfl, hown, hb4⟩
  have hPo : PriceOk (pricesL L 8) := fun x hx => by have := prices_bd L 8 x hx; omega
  have hPl : (pricesL L 8).length ≤ 8 := by unfold pricesL; rw [List.length_map]; exact List.length_take_le 8 L
  generalize pricesL L 8 = P at *
  have HPo := Lib.hid hPo
  have HQ := Lib.hid hown.ints
  have HOw := Lib.hid hown
  have hsz34 : w3.heap.size ≤ w4.heap.size := hb4.size
  have Hcx4 := Lib.hid (Hcx.out.below hb4)
  have Hxp4 := Lib.hid (Hxp.out.below hb4)
  have HB4 := Lib.hid (HB3.out.trans (hb4.mono hsz13))
  have hsz14 : w.heap.size ≤ w4.heap.size := HB4.out.size
  have hqf := own_slice hown
  have hk := ok_kd HG.out
  clear c0 c1 c2 c3 c4 c5 c6 c7 hown hb4 hPo
  clear Hcx Hxp HB3
  obtain ⟨qa, qn, qc, rfl⟩ := hqf
  obtain ⟨c0, c1, c2, c3, c4, c5, c6, c7⟩ := Hcx4.out
  obtain ⟨cap, hcap⟩ : ∃ c : Int, c = if cap0 < 0 ∨ 2147483648 < cap0 then 11 else cap0 := ⟨_, rfl⟩
  have hcb : 0 ≤ cap ∧ cap ≤ 2147483648 := by rw [hcap]; split <;> omega
  have Hcap := Lib.hid hcap
  clear hcap
  obtain ⟨B, hB⟩ : ∃ B : Bool, B = decide (cap0 < 0 ∨ 2147483648 < cap0) := ⟨_, rfl⟩
  have HB := Lib.hid hB
  clear hB
  go_upto_region 4 with fail
  go_cut [30] (fun sb wx => sb = .bool B ∧ w4 = wx)
  case first =>
    have hcase : (decide (cap0 < 0) = true ∧ Hid (B = true)) ∨ (decide (cap0 < 0) = false ∧ decide (2147483648 < cap0) = true ∧ Hid (B = true)) ∨ (decide (cap0 < 0) = false ∧ decide (2147483648 < cap0) = false ∧ Hid (B = false)) := by
      have h := HB.out
      by_cases q1 : cap0 < 0
      · exact .inl ⟨by simpa using q1, by rw [h, decide_eq_true (Or.inl q1)]; rfl⟩
      · by_cases q2 : 2147483648 < cap0
        · exact .inr (.inl ⟨by simpa using q1, by simpa using q2, by rw [h, decide_eq_true (Or.inr q2)]; rfl⟩)
        · exact .inr (.inr ⟨by simpa using q1, by simpa using q2, by rw [h, decide_eq_false (by omega)]; rfl⟩)
    rcases hcase with ⟨q1, hm⟩ | ⟨q1, q2, hm⟩ | ⟨q1, q2, hm⟩
    all_goals
      go_wp2_with fail
      go_meet
      exact ⟨by rw [hm.out], rfl⟩
  case rest =>
  obtain ⟨rfl, rfl⟩ := hcut
  obtain ⟨w4, rfl⟩ : ∃ wq : World, wq = w4 := ⟨_, rfl⟩
  go_upto_if 30 with fail
  go_cut [2] (fun s2 wx => s2 = .int .i64 cap ∧ w4 = wx)
  case first =>
    have hB := HB.out
    cases B with
    | true =>
      have hm : Hid (cap = 11) := Lib.hid (by rw [Hcap.out, if_pos (of_decide_eq_true hB.symm)])
      go_wp2_with fail
      go_meet
      exact ⟨by rw [hm.out], rfl⟩
    | false =>
      have hm : Hid (cap = cap0) := Lib.hid (by rw [Hcap.out, if_neg (of_decide_eq_false hB.symm)])
      go_wp2_with fail
      go_meet
      exact ⟨by rw [hm.out], rfl⟩
  case rest =>
  obtain ⟨rfl, rfl⟩ := hcut
  obtain ⟨w4, rfl⟩ : ∃ wq : World, wq = w4 := ⟨_, rfl⟩
  clear HCu HR HPr Hcap HB
  clear hk
  have hk := ok_kd HG.out
  have hkc := Lib.hid hk
  clear hk
  go_wp2_with (at_builtin; refine wpList_pushOwn rfl _ _ rfl w4 w4.heap.size w3.heap.size (.slice none 0 0) [] P rfl (.slice qa qn qc) rfl HOw.out (Own.nil _ _) (by simp; omega) (Nat.le_refl _) ?_)
  intro lo w5 hown5 hg5 hb5
  obtain ⟨la, ln, lc, rfl⟩ := own_slice hown5
  have hlnn : P.length = ln := by
    obtain ⟨a', c', e, _⟩ := hown5.ints
    simp only [Value.slice.injEq] at e
    exact e.2.1.symm
  have Hown5 := Lib.hid hown5
  have Hcx5 := Lib.hid (Hcx4.out.below hb5)
  have hb5' := Lib.hid hb5
  have Hln := Lib.hid hlnn
  clear c0 c1 c2 c3 c4 c5 c6 c7 hown5 hg5 hb5 hlnn
  obtain ⟨c0, c1, c2, c3, c4, c5, c6, c7⟩ := Hcx5.out
  obtain ⟨F, hF⟩ : ∃ F : Bool, F = decide (0 ≤ dy ∧ dy < (ln : Int)) := ⟨_, rfl⟩
  have HF := Lib.hid hF
  clear hF
  go_upto_region 8 with fail
  go_cut [41] (fun sb wx => sb = .bool F ∧ w5 = wx)
  case first =>
    have hcase : (decide (0 ≤ dy) = false ∧ Hid (F = false)) ∨ (decide (0 ≤ dy) = true ∧ decide (dy < (ln : Int)) = true ∧ Hid (F = true)) ∨ (decide (0 ≤ dy) = true ∧ decide (dy < (ln : Int)) = false ∧ Hid (F = false)) := by
      have h := HF.out
      by_cases q1 : 0 ≤ dy
      · by_cases q2 : dy < (ln : Int)
        · exact .inr (.inl ⟨decide_eq_true q1, decide_eq_true q2, by rw [h, decide_eq_true ⟨q1, q2⟩]; rfl⟩)
        · exact .inr (.inr ⟨decide_eq_true q1, decide_eq_false q2, by rw [h, decide_eq_false (by omega)]; rfl⟩)
      · exact .inl ⟨decide_eq_false q1, by rw [h, decide_eq_false (by omega)]; rfl⟩
    rcases hcase with ⟨q1, hm⟩ | ⟨q1, q2, hm⟩ | ⟨q1, q2, hm⟩
    all_goals
      go_wp2_with fail
      go_meet
      exact ⟨by rw [hm.out], rfl⟩
  case rest =>
  obtain ⟨rfl, rfl⟩ := hcut
  obtain ⟨w5, rfl⟩ : ∃ wq : World, wq = w5 := ⟨_, rfl⟩
  go_upto_if 41 with fail
  go_cut [] (fun wx => ∃ LW : List Int, Own wx w4.heap.size (.slice la ln lc) LW ∧ Hid (PriceOk LW ∧ ∀ d, priceAt LW d ≤ priceAt P d) ∧ Below w4.heap.size w4 wx)
  case first =>
    have hF := HF.out
    cases F with
    | true =>
      have hd := of_decide_eq_true hF.symm
      obtain ⟨k, rfl⟩ := Int.eq_ofNat_of_zero_le hd.1
      have hkl : k < P.length := by rw [Hln.out]; omega
      obtain ⟨g9, c9, hv9, hg91, hg92, _, hcell⟩ := Hown5.out.out (show 0 < P.length by omega)
      simp only [Value.slice.injEq] at hv9
      obtain ⟨rfl, hv1, rfl⟩ := hv9
      have hset := Hown5.out.set k (nth P k / 2) hkl
      obtain ⟨f0, f1⟩ := hcell k hkl
      rw [Nat.zero_add] at f0 f1 hset
      have hlo := half_low HPo.out hkl
      have hbd := half_bd (HPo.out _ (nth_mem hkl))
      have hb1 := HPo.out _ (nth_mem hkl)
      have Hset := Lib.hid hset
      have Hlo := Lib.hid hlo
      generalize nth P k = X at *
      have hi0 : (0 : Int) ≤ (k : Int) := by omega
      have hi1 : (k : Int) < (ln : Int) := by omega
      clear hbd
      have hX2 : X.tdiv 2 = X / 2 := Int.tdiv_eq_ediv_of_nonneg (by omega)
      have Hb6 := Lib.hid (hb5'.out.setCell (p := ⟨g9, k, none⟩) hg91 (.int .i64 (X / 2)))
      clear hcell hset hlo hF hd hv1 hkl
      go_wp2_with fail
      go_meet
      exact ⟨P.set k (X / 2), Hset.out, Hlo, Hb6.out⟩
    | false =>
      go_wp2_with fail
      go_meet
      exact ⟨P, Hown5.out, Lib.hid ⟨HPo.out, fun d => Int.le_refl _⟩, hb5'.out⟩
  case rest =>
  obtain ⟨LW, hlow, Hlo, hbc⟩ := hcut
  obtain ⟨w6, rfl⟩ : ∃ w6 : World, w6 = wc := ⟨_, rfl⟩
  have HLW := Lib.hid hlow.ints
  have HB6 := Lib.hid (HB4.out.trans (hbc.mono hsz14))
  have hsz16 : w.heap.size ≤ w6.heap.size := HB6.out.size
  have Hcx6 := Lib.hid (Hcx4.out.below hbc)
  have Hxp6 := Lib.hid (Hxp4.out.below hbc)
  have HQ6 := Lib.hid (HQ.out.below hbc)
  have hchp := fun (V W : List (Int × Int)) (x y : Bool) (hf : FoundBy kd dm ps rt sz st ru hd cap P n V x) (hg : FoundBy kd dm ps rt sz st ru hd cap LW n W y) => found_cheaper (show n ≤ 20 by omega) Hlo.out.1 HG.out Hlo.out.2 hf hg
  have hble : boundI kd dm ps rt sz st ru hd cap LW n ≤ boundI kd dm ps rt sz st ru hd cap P n := by
    obtain ⟨V, x, hf⟩ := found_ex cap P (show n ≤ 20 by omega) HG.out
    obtain ⟨W, y, hg⟩ := found_ex cap LW (show n ≤ 20 by omega) HG.out
    exact (hchp V W x y hf hg).2.1
  have hbd : decide (boundI kd dm ps rt sz st ru hd cap P n < boundI kd dm ps rt sz st ru hd cap LW n) = false := decide_eq_false (by omega)
  have HBl := Lib.hid (fun (W : World) (h : Below w6.heap.size w6 W) => bound_is kd dm (.slice xa xn xc) (.slice la ln lc) rt sz st ru hd cap n ps LW W HG.out (by omega) (Hxp6.out.below h) (HLW.out.below h) Hlo.out.1)
  have HBp := Lib.hid (fun (W : World) (h : Below w6.heap.size w6 W) => bound_is kd dm (.slice xa xn xc) (.slice qa qn qc) rt sz st ru hd cap n ps P W HG.out (by omega) (Hxp6.out.below h) (HQ6.out.below h) HPo.out)
  have Hchp := Lib.hid hchp
  generalize boundI kd dm ps rt sz st ru hd cap P n = BP at *
  generalize boundI kd dm ps rt sz st ru hd cap LW n = BL at *
  obtain ⟨c0, c1, c2, c3, c4, c5, c6, c7⟩ := Hcx6.out
  clear hlow hbc hchp hble Hown5 Hcx5 hb5' Hln HF Hcx4 Hxp4 HQ HOw HB4
  have x0 := Ext.cell c0
  have x1 := Ext.cell c1
  have x2 := Ext.cell c2
  have x3 := Ext.cell c3
  have x4 := Ext.cell c4
  have x5 := Ext.cell c5
  have x6 := Ext.cell c6
  have x7 := Ext.cell c7
  clear c0 c1 c2 c3 c4 c5 c6 c7
  go_upto_region 10 with fail
  refine wp_region_ext (by kernel_rfl) (by kernel_rfl) ?_
  repeat (go_big_quiet_step (first
    | (go_at_call_of 27 (Value.slice la ln lc); exact ext_call _ (HBl.out _ (Ext.below _)))
    | (go_at_call_of 27 (Value.slice qa qn qc); exact ext_call _ (HBp.out _ (Ext.below _)))))
  refine wpQuiet_nil ?_
  intro _ hw'
  obtain ⟨z, rfl⟩ := hw'
  have hz := z.below
  generalize z.w = w7 at hz ⊢
  have HB7 := Lib.hid (HB6.out.trans (hz.mono hsz16))
  have hsz17 : w.heap.size ≤ w7.heap.size := HB7.out.size
  have Hcx7 := Lib.hid (Hcx6.out.below hz)
  have Hxp7 := Lib.hid (Hxp6.out.below hz)
  have HQ7 := Lib.hid (HQ6.out.below hz)
  have HL7 := Lib.hid (HLW.out.below hz)
  clear x0 x1 x2 x3 x4 x5 x6 x7 z hz Hcx6 Hxp6 HQ6 HLW HB6 HBl HBp
  obtain ⟨c0, c1, c2, c3, c4, c5, c6, c7⟩ := Hcx7.out
  go_wp2_with fail
  refine (solveC_is kd dm _ _ rt sz st ru hd cap n ps P w7 HG.out (by omega) Hxp7.out HQ7.out HPo.out).mono ?_
  rintro e w8 ⟨V, x, hf, v, rfl, hv, hb8⟩
  have Hf := Lib.hid hf
  have HV := Lib.hid hv.vis
  have Hcx8 := Lib.hid (Hcx7.out.below hb8)
  have Hxp8 := Lib.hid (Hxp7.out.below hb8)
  have HQ8 := Lib.hid (HQ7.out.below hb8)
  have HL8 := Lib.hid (HL7.out.below hb8)
  have HB8 := Lib.hid (HB7.out.trans (hb8.mono hsz17))
  have hsz18 : w.heap.size ≤ w8.heap.size := HB8.out.size
  clear c0 c1 c2 c3 c4 c5 c6 c7 hf hv hb8 Hcx7 Hxp7 HQ7 HL7 HB7
  obtain ⟨c0, c1, c2, c3, c4, c5, c6, c7⟩ := Hcx8.out
  go_wp2_with fail
  refine (solveC_is kd dm _ _ rt sz st ru hd cap n ps LW w8 HG.out (by omega) Hxp8.out HL8.out Hlo.out.1).mono ?_
  rintro e w9 ⟨W, y, hg, u, rfl, hu, hb9⟩
  obtain ⟨hxy, _, hco⟩ := Hchp.out V W x y Hf.out hg
  subst hxy
  have hsV := fun hb : x = true => suits_good (show n ≤ 20 by omega) HG.out (found_suits (show n ≤ 20 by omega) HG.out Hf.out hb)
  have hsW := fun hb : x = true => suits_good (show n ≤ 20 by omega) HG.out (found_suits (show n ≤ 20 by omega) HG.out hg hb)
  have HU := Lib.hid hu.vis
  have HV9 := Lib.hid (HV.out.below hb9)
  have Hcx9 := Lib.hid (Hcx8.out.below hb9)
  have HQ9 := Lib.hid (HQ8.out.below hb9)
  have HL9 := Lib.hid (HL8.out.below hb9)
  have HB9 := Lib.hid (HB8.out.trans (hb9.mono hsz18))
  have hsz19 : w.heap.size ≤ w9.heap.size := HB9.out.size
  have HS := Lib.hid (fun (hb : x = true) (Z : World) (h : Below w9.heap.size w9 Z) => cost_is kd dm (.slice xa xn xc) (.slice qa qn qc) v rt sz st ru hd n P V Z hkc.out (by omega) (HQ9.out.below h) HPo.out.at_ (HV9.out.below h) (hsV hb).1 (hsV hb).2)
  have HT := Lib.hid (fun (hb : x = true) (Z : World) (h : Below w9.heap.size w9 Z) => cost_is kd dm (.slice xa xn xc) (.slice la ln lc) u rt sz st ru hd n LW W Z hkc.out (by omega) (HL9.out.below h) Hlo.out.1.at_ (HU.out.below h) (hsW hb).1 (hsW hb).2)
  generalize costV kd st rt sz hd P V n = kv at *
  generalize costV kd st rt sz hd LW W n = ku at *
  have hru : (ru == 2) = true ∨ ((ru == 2) = false ∧ ru ≠ 2) := by
    by_cases h : ru = 2
    · exact .inl (by simpa using h)
    · exact .inr ⟨by simpa using h, h⟩
  have Hco := Lib.hid hco
  clear c0 c1 c2 c3 c4 c5 c6 c7 hg hu hb9 Hcx8 Hxp8 HQ8 HL8 HB8 HV Hf hco hsV hsW Hchp
  obtain ⟨c0, c1, c2, c3, c4, c5, c6, c7⟩ := Hcx9.out
  cases x with
  | false =>
    have x0 := Ext.cell c0
    have x1 := Ext.cell c1
    have x2 := Ext.cell c2
    have x3 := Ext.cell c3
    have x4 := Ext.cell c4
    have x5 := Ext.cell c5
    have x6 := Ext.cell c6
    have x7 := Ext.cell c7
    clear c0 c1 c2 c3 c4 c5 c6 c7
    go_upto_region 16 with fail
    refine wp_region_ext (by kernel_rfl) (by kernel_rfl) ?_
    repeat (go_big_quiet_step (first
      | (go_at_call 14; exact ext_call _ (lives11_is _))))
    refine wpQuiet_nil ?_
    intro _ hw'
    obtain ⟨z, rfl⟩ := hw'
    go_wp2_with fail
    go_ret
    exact ⟨rfl, HB9.out.trans (z.below.mono hsz19)⟩
  | true =>
    have HS1 := Lib.hid (HS.out rfl)
    have HT1 := Lib.hid (HT.out rfl)
    rcases hru with hru | ⟨hru, hne⟩
    · clear HS HT Hco
      have x0 := Ext.cell c0
      have x1 := Ext.cell c1
      have x2 := Ext.cell c2
      have x3 := Ext.cell c3
      have x4 := Ext.cell c4
      have x5 := Ext.cell c5
      have x6 := Ext.cell c6
      have x7 := Ext.cell c7
      clear c0 c1 c2 c3 c4 c5 c6 c7
      go_upto_region 16 with fail
      refine wp_region_ext (by kernel_rfl) (by kernel_rfl) ?_
      repeat (go_big_quiet_step (first
        | (go_at_call 14; exact ext_call _ (lives11_is _))))
      refine wpQuiet_nil ?_
      intro _ hw'
      obtain ⟨z, rfl⟩ := hw'
      go_wp2_with fail
      go_ret
      exact ⟨rfl, HB9.out.trans (z.below.mono hsz19)⟩
    · have hle' : decide (ku ≤ kv) = true := decide_eq_true (Hco.out rfl hne)
      clear HS HT Hco hne
      have x0 := Ext.cell c0
      have x1 := Ext.cell c1
      have x2 := Ext.cell c2
      have x3 := Ext.cell c3
      have x4 := Ext.cell c4
      have x5 := Ext.cell c5
      have x6 := Ext.cell c6
      have x7 := Ext.cell c7
      clear c0 c1 c2 c3 c4 c5 c6 c7
      go_upto_region 16 with fail
      refine wp_region_ext (by kernel_rfl) (by kernel_rfl) ?_
      repeat (go_big_quiet_step (first
        | (go_at_call_of 16 v; exact ext_call _ (HS1.out _ (Ext.below _)))
        | (go_at_call_of 16 u; exact ext_call _ (HT1.out _ (Ext.below _)))
        | (go_at_call 14; exact ext_call _ (lives11_is _))))
      refine wpQuiet_nil ?_
      intro _ hw'
      obtain ⟨z, rfl⟩ := hw'
      go_wp2_with fail
      go_ret
      exact ⟨rfl, HB9.out.trans (z.below.mono hsz19)⟩
end Go.Proofs.Ytpelbfjhljlbkaa
