/-
  My own work: the walk of AloneVisits.
-/
import Derived.Test.YtpelbfjhljlbkaaAloneZ
import Derived.Deep.QuietTactic
import Derived.BigQuiet
import Derived.Deep.DrawnRows
namespace Go.Proofs.Ytpelbfjhljlbkaa
open Go.RowKit
set_option linter.unusedVariables false
set_option maxRecDepth 100000
attribute [local go_sem ↓] Go.wp_at_zero Go.wp_at_succ

theorem nthV_mem {V : List (Int × Int)} {k : Nat} (h : k < V.length) : nthV V k ∈ V := by rw [nthV_lt h]; exact List.getElem_mem h
theorem sortedV {V : List (Int × Int)} (h : V.Pairwise (fun a b => a.1 < b.1)) {k : Nat} (hk : k + 1 < V.length) : (nthV V k).1 < (nthV V (k + 1)).1 := by
  rw [nthV_lt hk, nthV_lt (show k < V.length by omega)]
  exact List.pairwise_iff_getElem.1 h k (k + 1) (by omega) hk (by omega)
theorem broughtV_succ {V : List (Int × Int)} {k : Nat} (h : k < V.length) : broughtV (V.take (k + 1)) = broughtV (V.take k) + (nthV V k).2 := by
  rw [takeV_succ V k h, broughtV_append]; simp [broughtV]
theorem broughtV_bd {V : List (Int × Int)} (h : ∀ p ∈ V, 1 ≤ p.2 ∧ p.2 ≤ 100) : 0 ≤ broughtV V ∧ broughtV V ≤ 100 * V.length := by
  refine ⟨?_, brought_le (fun p hp => (h p hp).2)⟩
  induction V with
  | nil => simp [broughtV]
  | cons p V ih =>
    have h1 := h p (List.mem_cons_self ..)
    have h2 := ih (fun x hx => h x (List.mem_cons_of_mem _ hx))
    have e : broughtV (p :: V) = p.2 + broughtV V := by simp [broughtV]
    omega

theorem refForced_is (n : Nat) (X : Cu) (xv : Value) (cap : Int) (w : World) (hG : GoodC n X) (hn : n ≤ 20) (hp : Words w xv X.ps) :
    Calls Try.prog 17 #[.agg #[.int .i64 X.kd, .int .i64 X.dm, xv, .int .i64 X.rt, .int .i64 X.sz, .int .i64 X.st, .int .i64 X.ru, .int .i64 X.hd], .int .i64 n, .int .i64 cap] w (CostOut w (forcedV X.kd X.ps X.rt X.st X.sz n cap)) := by
  obtain ⟨kd, dm, ps, rt, sz, st, ru, hd⟩ := X
  have hps := good_ps (show n ≤ 64 by omega) hG
  rcases good_ok hG with ⟨h, _, _, _, h1, _⟩ | ⟨h, T⟩
  · simp only at h h1 hps
    subst h
    unfold forcedV
    dsimp only
    rw [if_pos rfl]
    exact refForced1_is dm xv rt sz st ru hd cap n ps w hp hps.1 hps.2 h1
  · simp only at h T
    subst h
    unfold forcedV
    dsimp only
    rw [if_neg (by decide)]
    exact refForced2_is dm xv rt sz st ru hd cap n w T (by omega)

set_option maxHeartbeats 6400000 in
theorem aloneVisits_walk (C : Cu) (pv lv : Value) (n0 cap0 : Int) (L : List Int) (w : World) (hW : WfC C) (hp : Words w pv C.ps) (hn : (Lit.int .i64 n0).wf = true) (hL : Ints w lv L) (hLw : ∀ x ∈ L, (Lit.int .i64 x).wf = true) :
    Calls Try.prog 4 #[.agg #[.int .i64 C.kd, .int .i64 C.dm, pv, .int .i64 C.rt, .int .i64 C.sz, .int .i64 C.st, .int .i64 C.ru, .int .i64 C.hd], .int .i64 n0, .int .i64 cap0, lv] w fun e w' => e = .returned (.bool true) ∧ Below w.heap.size w w' := by
  obtain ⟨w1, ew, hb1, hsz1, hcu⟩ := box_cust w C.kd C.dm pv C.rt C.sz C.st C.ru C.hd
  obtain ⟨n, hnn⟩ := Int.eq_ofNat_of_zero_le (show 0 ≤ rnd n0 1 6 by have := rnd_bd n0 1 6 (by decide); omega)
  have hnb := rnd_bd n0 1 6 (by decide)
  rw [hnn] at hnb
  have hR := round11_is n0 6 w1 hn (by decide) (by decide)
  rw [hnn] at hR
  have HR := Lib.hid hR
  have HCu := Lib.hid (customer_is C pv n w1 hW (hp.below hb1) (by omega) (by omega))
  have HL1 := Lib.hid (hL.below hb1)
  have HLw := Lib.hid hLw
  have Hew := Lib.hid ew
  obtain ⟨c0, c1, c2, c3, c4, c5, c6, c7⟩ := hcu
  clear ew hsz1 hR hW hp hn hL hLw hnn
  go_enter Try.func4, Try.ntmps4
  go_upto_region 1 with (fail)
  rw [Hew.out]
  go_wp2_with fail
  refine HR.out.mono ?_
  rintro e w' ⟨rfl, rfl⟩
  go_wp2_with fail
  refine HCu.out.mono ?_
  rintro e w2 ⟨X, xv, rfl, hG, hxp, hb2⟩
  obtain ⟨w3, ew3, hb3, hsz3, hx⟩ := box_cust w2 X.kd X.dm xv X.rt X.sz X.st X.ru X.hd
  have hb23 := bel2 hb2 hb3
  have HB3 := Lib.hid (hb1.trans (hb23.mono hb1.size))
  have hsz13 : w.heap.size ≤ w3.heap.size := HB3.out.size
  have HL3 := Lib.hid (HL1.out.below hb23)
  have Hxp := Lib.hid (hxp.below hb3)
  have HG := Lib.hid hG
  have Hew3 := Lib.hid ew3
  have hxf := words_form hxp
  clear c0 c1 c2 c3 c4 c5 c6 c7 hG hxp hb2 hb3 ew3 hsz3 hb23
  obtain ⟨xa, xn, xc, rfl⟩ := hxf
  obtain ⟨kd, dm, ps, rt, sz, st, ru, hd⟩ := X
  simp only at HG Hew3 Hxp hx
  have Hcx := Lib.hid (show IsCust w3 w2.heap.size kd dm (.slice xa xn xc) rt sz st ru hd from hx)
  clear hx
  obtain ⟨c0, c1, c2, c3, c4, c5, c6, c7⟩ := Hcx.out
  go_upto_region 3 with fail
  rw [Hew3.out]
  generalize w2.heap.size = g at *
  obtain ⟨cap, hcap⟩ : ∃ c : Int, c = if cap0 < 0 ∨ 2147483648 < cap0 then 12 else cap0 := ⟨_, rfl⟩
  have hcb : 0 ≤ cap ∧ cap ≤ 2147483648 := by rw [hcap]; split <;> omega
  have Hcap := Lib.hid hcap
  clear hcap
  obtain ⟨B, hB⟩ : ∃ B : Bool, B = decide (cap0 < 0 ∨ 2147483648 < cap0) := ⟨_, rfl⟩
  have HB := Lib.hid hB
  clear hB
  go_cut [24] (fun s24 wx => s24 = .bool B ∧ w3 = wx)
  case first =>
    have hcase : (decide (cap0 < 0) = true ∧ Hid (B = true)) ∨ (decide (cap0 < 0) = false ∧ decide (2147483648 < cap0) = true ∧ Hid (B = true)) ∨ (decide (cap0 < 0) = false ∧ decide (2147483648 < cap0) = false ∧ Hid (B = false)) := by
      have h := HB.out
      by_cases q1 : cap0 < 0
      · exact .inl ⟨by simpa using q1, by rw [h, decide_eq_true (Or.inl q1)]; rfl⟩
      · by_cases q2 : 2147483648 < cap0
        · exact .inr (.inl ⟨by simpa using q1, by simpa using q2, by rw [h, decide_eq_true (Or.inr q2)]; rfl⟩)
        · exact .inr (.inr ⟨by simpa using q1, by simpa using q2, by rw [h, decide_eq_false (by omega)]; rfl⟩)
    rcases hcase with ⟨q1, hm⟩ | ⟨q1, q2, hm⟩ | ⟨q1, q2, hm⟩
    · go_wp2_with fail
      go_meet
      exact ⟨by rw [hm.out], rfl⟩
    · go_wp2_with fail
      go_meet
      exact ⟨by rw [hm.out], rfl⟩
    · go_wp2_with fail
      go_meet
      exact ⟨by rw [hm.out], rfl⟩
  case rest =>
  obtain ⟨rfl, rfl⟩ := hcut
  obtain ⟨w3, rfl⟩ : ∃ wq : World, wq = w3 := ⟨_, rfl⟩
  go_upto_if 24 with fail
  go_cut [2] (fun s2 wx => s2 = .int .i64 cap ∧ w3 = wx)
  case first =>
    have hB := HB.out
    cases B with
    | true =>
      have hm : Hid (cap = 12) := Lib.hid (by rw [Hcap.out, if_pos (of_decide_eq_true hB.symm)])
      go_wp2_with fail
      go_meet
      exact ⟨by rw [hm.out], rfl⟩
    | false =>
      have hm : Hid (cap = cap0) := Lib.hid (by rw [Hcap.out, if_neg (of_decide_eq_false hB.symm)])
      go_wp2_with fail
      go_meet
      exact ⟨by rw [hm.out], rfl⟩
  case rest =>
    obtain ⟨rfl, rfl⟩ := hcut
    obtain ⟨w3, rfl⟩ : ∃ wq : World, wq = w3 := ⟨_, rfl⟩
    have b0 := Below.refl w3.heap.size w3
    have HPr := Lib.hid (fun (W : World) (h : Below w3.heap.size w3 W) => prices_is lv L W (HL3.out.below h) HLw.out)
    have hPo : PriceOk (pricesL L 8) := fun x hx => by have := prices_bd L 8 x hx; omega
    generalize pricesL L 8 = P at *
    have HPo := Lib.hid hPo
    have HSo := Lib.hid (fun (W : World) (qv : Value) (h : Below w3.heap.size w3 W) (hq : Ints W qv P) => solve_is kd dm _ qv rt sz st ru hd cap n ps P W HG.out (by omega) (Hxp.out.below h) hq HPo.out)
    go_upto_region 5 with fail
    go_cut [10, 11] (fun s10 s11 wx => ∃ v V x, v = s10 ∧ s11 = .bool x ∧ FoundBy kd dm ps rt sz st ru hd cap P n V x ∧ Vis wx v V ∧ Below w3.heap.size w3 wx)
    case first =>
      clear hPo
      first
        | (go_region_held3 (fun w' => (w'.cell? ⟨g, 0, none⟩ = some (.int .i64 kd) ∧ w'.cell? ⟨g, 1, none⟩ = some (.int .i64 dm) ∧ w'.cell? ⟨g, 2, none⟩ = some (.slice xa xn xc) ∧ w'.cell? ⟨g, 3, none⟩ = some (.int .i64 rt) ∧ w'.cell? ⟨g, 4, none⟩ = some (.int .i64 sz) ∧ w'.cell? ⟨g, 5, none⟩ = some (.int .i64 st) ∧ w'.cell? ⟨g, 6, none⟩ = some (.int .i64 ru) ∧ w'.cell? ⟨g, 7, none⟩ = some (.int .i64 hd)))
            (first | go_keep | exact cust8_below b4 ⟨c0, c1, c2, c3, c4, c5, c6, c7⟩ | exact cust8_below b5 ⟨c0, c1, c2, c3, c4, c5, c6, c7⟩)
            (first
              | (go_at_call 13; refine (HPr.out _ ?_).mono ?_; (first | exact b0 | exact belDrew _); rintro e w4 ⟨qv, rfl, hown, hb4⟩; have hq := hown.ints; (first | have b4 := bel2 b0 hb4 | have b4 := bel2 (belDrew w3) hb4))
              | (go_at_call 15; refine (HSo.out _ _ ?_ ?_).mono ?_; (first | exact b4 | exact bel2 b4 (belDrew _)); (first | exact hq | exact hq.below (belDrew _)); rintro e w5 ⟨V, x, hf, v, rfl, hv, hb5⟩; (first | have b5 := bel2 b4 hb5 | have b5 := bel2 (bel2 b4 (belDrew _)) hb5)))
            )
        | fail
      all_goals
        go_wp2_with fail
        go_meet
        first
          | exact ⟨_, V, x, rfl, rfl, hf, hv.vis, b5⟩
          | exact ⟨_, V, x, rfl, rfl, hf, hv.vis.below (belDrew _), b5.drew⟩
    case rest =>
      obtain ⟨v, V, x, rfl, rfl, hf, hv, hbc⟩ := hcut
      obtain ⟨w5, rfl⟩ : ∃ w5 : World, w5 = wc := ⟨_, rfl⟩
      have hfs := fun hb => suit_facts (show n ≤ 20 by omega) (good_ok HG.out) (found_suits (show n ≤ 20 by omega) (good_ok HG.out) hf hb)
      have hnone : x = false → V = [] := fun hb => by
        rcases hf with ⟨_, h1, h2⟩ | ⟨_, _, _, ⟨_, h, _⟩ | ⟨s, S, _, _, _, _, _, h⟩⟩ | ⟨_, _, _, h1, h2⟩
        · rw [h1]
          unfold patV
          rw [hb] at h2
          unfold patOk at h2
          rw [if_pos (by simpa using h2.symm)]
        · exact h
        · rw [hb] at h; cases h
        · rw [h1]
          rw [hb] at h2
          unfold anyB at h2
          have h3 := Bool.or_eq_false_iff.1 h2.symm
          unfold anyV
          rw [h3.1, h3.2]; rfl
      obtain ⟨va, vn, vc, rfl, hvn, hvm, hvc⟩ := hv.open
      have HB5 := Lib.hid (HB3.out.trans (hbc.mono hsz13))
      have hsz15 : w.heap.size ≤ w5.heap.size := HB5.out.size
      have Hcx5 := Lib.hid (Hcx.out.below hbc)
      have HFo := Lib.hid (refForced_is n ⟨kd, dm, ps, rt, sz, st, ru, hd⟩ (.slice xa xn xc) cap w5 HG.out (by omega) (Hxp.out.below hbc))
      have Hok := Lib.hid (good_ok HG.out)
      have Hxp5 := Lib.hid (Hxp.out.below hbc)
      have Hvc := Lib.hid hvc
      have Hvn := Lib.hid hvn
      have Hfs := Lib.hid hfs
      have Hnone := Lib.hid hnone
      clear c0 c1 c2 c3 c4 c5 c6 c7 hPo hf hv hbc hfs hnone hvn hvc Hcx HB3 HL3 HLw HL1 b0 HPr HSo HCu HR Hew Hew3
      simp only at HFo Hok
      obtain ⟨c0, c1, c2, c3, c4, c5, c6, c7⟩ := Hcx5.out
      cases x with
      | false =>
        have hV0 : vn = 0 := by rw [← Hvn.out, Hnone.out rfl]; rfl
        have hV0' : ((vn : Int) == 0) = true := by subst hV0; rfl
        clear hV0
        go_wp2_with fail
        refine (lives11_is _).mono ?_
        rintro e w10 ⟨rfl, hb10⟩
        go_wp2_with fail
        go_ret
        exact ⟨rfl, HB5.out.trans (hb10.mono hsz15)⟩
      | true =>
        have HF := Lib.hid (Hfs.out rfl)
        have hvn64 : vn ≤ 64 := by rw [← Hvn.out]; exact HF.out.len
        clear Hfs Hnone
        go_wp2_with fail
        go_loopw [12, 13] (fun s i wr => ∃ (k : Nat) (Q : Int), k ≤ vn ∧ i = .int .i64 k ∧ s = .int .i64 Q ∧ Q = broughtV (V.take k) ∧ Below w5.heap.size w5 wr) (fun _ i _ => vn - (intOf i).toNat)
        case atStart => exact ⟨0, 0, Nat.zero_le _, rfl, rfl, by simp [broughtV], Below.refl _ _⟩
        case round =>
          obtain ⟨k, Q, hk, rfl, rfl, hQ, hb⟩ := hrel
          obtain ⟨wo, rfl⟩ : ∃ wo : World, wo = wr := ⟨_, rfl⟩
          have Hb := Lib.hid hb
          have hQb : 0 ≤ Q ∧ Q ≤ 6400 := by
            have h1 := broughtV_bd (V := V.take k) (fun p hp => by have := HF.out.one p (List.mem_of_mem_take hp); omega)
            have h2 := List.length_take_le k V
            rw [hQ]
            omega
          by_cases hlt : k < vn
          · have hkV : k < V.length := by rw [Hvn.out]; exact hlt
            have hst := broughtV_succ hkV
            rw [← hQ] at hst
            obtain ⟨b, o, rfl, f0, f1⟩ := Hvc.out k hlt
            have f0 := cell_below hb f0
            have f1 := cell_below hb f1
            have hone := HF.out.one _ (nthV_mem hkV)
            have hi0 : (0 : Int) ≤ (k : Int) := by omega
            have hi1 : (k : Int) < (vn : Int) := by omega
            rcases Nat.eq_zero_or_pos k with h0 | h0
            · generalize (nthV V k).1 = D at *
              generalize (nthV V k).2 = E at *
              have q5 : decide (0 < (k : Int)) = false := by simp; omega
              have q5' : decide (0 < k) = false := by simp; omega
              have q1 : decide (D < 0) = false := by simp; omega
              have q2 : decide ((n : Int) ≤ D) = false := by simp; omega
              have q3 : decide (E < 1) = false := by simp; omega
              have q4 : decide (cap < E) = false := by simp; omega
              have hw : wrap64 (Q + E) = Q + E := wrap_id (by omega) (by omega)
              have Hw := Lib.hid hw
              have Hst := Lib.hid hst
              clear hQ hb hst hone hw h0 c0 c1 c2 c3 c4 c5 c6 c7
              go_upto_region 12 with fail
              go_quiet (fail)
              go_wp2_with fail
              go_roundw
              case rel => exact ⟨k + 1, Q + E, by omega, by go_num, by first | rfl | rw [Hw.out], Hst.out.symm, below_drewN Hb.out _⟩
              case measure => simp [intOf]; omega
            · obtain ⟨j, rfl⟩ : ∃ j, k = j + 1 := ⟨k - 1, by omega⟩
              obtain ⟨b', o', hbo, g0, _⟩ := Hvc.out j (by omega)
              simp only [Option.some.injEq, Addr.mk.injEq, and_true] at hbo
              obtain ⟨rfl, rfl⟩ := hbo
              have g0 := cell_below hb g0
              have hso := sortedV HF.out.sorted hkV
              generalize (nthV V (j + 1)).1 = D at *
              generalize (nthV V (j + 1)).2 = E at *
              generalize (nthV V j).1 = D' at *
              have q1 : decide (D < 0) = false := by simp; omega
              have q2 : decide ((n : Int) ≤ D) = false := by simp; omega
              have q3 : decide (E < 1) = false := by simp; omega
              have q4 : decide (cap < E) = false := by simp; omega
              have q5 : decide (0 < ((j + 1 : Nat) : Int)) = true := by simp
              have q6 : decide (D ≤ D') = false := by simp; omega
              have hw : wrap64 (Q + E) = Q + E := wrap_id (by omega) (by omega)
              have hw1 : wrap64 (((j + 1 : Nat) : Int) - 1) = (j : Int) := by
                have e : ((j + 1 : Nat) : Int) - 1 = (j : Int) := by omega
                rw [e, wrap_id (by omega) (by omega)]
              have Hw := Lib.hid hw
              have Hst := Lib.hid hst
              clear hQ hb hst hone hw c0 c1 c2 c3 c4 c5 c6 c7
              go_upto_region 12 with fail
              go_quiet (fail)
              go_wp2_with fail
              go_roundw
              case rel => exact ⟨j + 1 + 1, Q + E, by omega, by go_num, by first | rfl | rw [Hw.out], Hst.out.symm, below_drewN Hb.out _⟩
              case measure => simp [intOf]; omega
          · have hkn : k = vn := by omega
            subst hkn
            have hw0 : forcedV kd ps rt st sz n cap ≤ (k : Int) := by have := HF.out.few; rw [Hvn.out] at this; exact this
            have hfw : decide (forcedV kd ps rt st sz n cap ≤ (k : Int)) = true := decide_eq_true hw0
            have hbr : Q = broughtV V := by rw [hQ, List.take_of_length_le (by rw [Hvn.out]; exact Nat.le_refl _)]
            have hwa := HF.out.wants
            rw [← hbr] at hwa
            have HFo2 := Lib.hid (fun (W : World) (h : Below w5.heap.size w5 W) => refForced_is n ⟨kd, dm, ps, rt, sz, st, ru, hd⟩ (.slice xa xn xc) cap W HG.out (by omega) (Hxp5.out.below h))
            simp only at HFo2
            generalize forcedV kd ps rt st sz n cap = FV at *
            obtain ⟨c0, c1, c2, c3, c4, c5, c6, c7⟩ := Hcx5.out.below hb
            have Hbw := Lib.hid (HB5.out.trans (hb.mono hsz15))
            have hszk : w.heap.size ≤ wo.heap.size := Hbw.out.size
            clear hQ hw0 hbr HFo
            rcases Hok.out with ⟨h1, _⟩ | ⟨h1, T⟩
            · subst h1
              clear hwa
              go_wp2_with fail
              refine (HFo2.out _ hb).mono ?_
              rintro e w6 ⟨rfl, hb6⟩
              obtain ⟨c0, c1, c2, c3, c4, c5, c6, c7⟩ := (IsCust.mk c0 c1 c2 c3 c4 c5 c6 c7).below hb6
              have hb56 := Hbw.out.trans (hb6.mono hszk)
              have hsz6 := hb56.size
              go_wp2_with fail
              refine (lives11_is _).mono ?_
              rintro e w10 ⟨rfl, hb10⟩
              go_wp2_with fail
              go_ret
              exact ⟨rfl, hb56.trans (hb10.mono hsz6)⟩
            · subst h1
              have hwa2 : decide (wantsI rt st n ≤ Q) = true := decide_eq_true (by rcases hwa with h | h; · exact absurd h (by decide)
                                                                                   · exact h)
              have HWa := Lib.hid (fun (W : World) => refWants_is 2 dm (.slice xa xn xc) rt sz st ru hd n W T (by omega))
              generalize wantsI rt st n = WI at *
              clear hwa T
              go_wp2_with fail
              refine (HFo2.out _ hb).mono ?_
              rintro e w6 ⟨rfl, hb6⟩
              obtain ⟨c0, c1, c2, c3, c4, c5, c6, c7⟩ := (IsCust.mk c0 c1 c2 c3 c4 c5 c6 c7).below hb6
              have hb56 := Hbw.out.trans (hb6.mono hszk)
              have hsz6 := hb56.size
              go_wp2_with fail
              refine (HWa.out _).mono ?_
              rintro e w7 ⟨rfl, hb7⟩
              have hb57 := hb56.trans (hb7.mono hsz6)
              have hsz7 := hb57.size
              go_wp2_with fail
              refine (lives11_is _).mono ?_
              rintro e w10 ⟨rfl, hb10⟩
              go_wp2_with fail
              go_ret
              exact ⟨rfl, hb57.trans (hb10.mono hsz7)⟩
end Go.Proofs.Ytpelbfjhljlbkaa
