/-
  My own work: the walk of AloneSuits.
-/
import Derived.Test.YtpelbfjhljlbkaaAloneO
import Derived.Test.YtpelbfjhljlbkaaAloneJ
namespace Go.Proofs.Ytpelbfjhljlbkaa
open Go.RowKit
set_option linter.unusedVariables false
set_option maxRecDepth 100000
attribute [local go_sem ↓] Go.wp_at_zero Go.wp_at_succ

theorem good_tank {n : Nat} {X : Cu} (h : GoodC n X) : X.kd = 1 ∨ (X.kd = 2 ∧ TankOk X.st X.rt X.sz X.ru X.hd) := by
  rcases h with ⟨h1, h2, h3, h4, h5, h6, h7, h8, h9, h10, h11, h12⟩ | h
  · exact .inr ⟨h1, h4, by omega, h6, by omega, h8, h9, h10, h11, by omega⟩
  · exact .inl h.1
theorem good_ps {n : Nat} {X : Cu} (hn : n ≤ 64) (h : GoodC n X) : (∀ p ∈ X.ps, p < 18446744073709551616) ∧ X.ps.length ≤ 1000 := by
  rcases h with ⟨_, _, h3, _⟩ | ⟨_, _, _, _, _, _, _, _, _, h10, h11⟩
  · rw [h3]; simp
  · refine ⟨fun p hp => ?_, by omega⟩
    have h1 := h11 p hp
    have h2 : 2 ^ n ≤ 2 ^ 64 := Nat.pow_le_pow_right (by decide) hn
    have h3 : (2 : Nat) ^ 64 = 18446744073709551616 := by decide
    omega
theorem Vis.take {w : World} {a : Option Addr} {n c m : Nat} {xs : List (Int × Int)} (h : Vis w (.slice a n c) xs) (hm : m ≤ n) : Vis w (.slice a m c) (xs.take m) := by
  obtain ⟨a', c', h, h1, h2, hc⟩ := h
  simp only [Value.slice.injEq] at h
  obtain ⟨rfl, rfl, rfl⟩ := h
  have hl : (xs.take m).length = m := by rw [List.length_take]; omega
  refine ⟨a, c, by rw [hl], by omega, h2, fun i hi => ?_⟩
  rw [hl] at hi
  have e : nthV (xs.take m) i = nthV xs i := by simp [nthV, hi]
  rw [e]
  exact hc i (by omega)

set_option maxHeartbeats 6400000 in
theorem aloneSuits_walk (C : Cu) (pv vv : Value) (n0 cap : Int) (V : List (Int × Int)) (w : World) (hW : WfC C) (hp : Words w pv C.ps) (hn : (Lit.int .i64 n0).wf = true) (hV : Vis w vv V) (hVf : ∀ p ∈ V, fitsI p.2 = true) :
    Calls Try.prog 5 #[.agg #[.int .i64 C.kd, .int .i64 C.dm, pv, .int .i64 C.rt, .int .i64 C.sz, .int .i64 C.st, .int .i64 C.ru, .int .i64 C.hd], .int .i64 n0, .int .i64 cap, vv] w fun e w' => e = .returned (.bool true) ∧ Below w.heap.size w w' := by
  obtain ⟨w1, ew, hb1, hsz1, hcu⟩ := box_cust w C.kd C.dm pv C.rt C.sz C.st C.ru C.hd
  obtain ⟨n, hnn⟩ := Int.eq_ofNat_of_zero_le (show 0 ≤ rnd n0 1 6 by have := rnd_bd n0 1 6 (by decide); omega)
  have hnb := rnd_bd n0 1 6 (by decide)
  rw [hnn] at hnb
  have hR := round11_is n0 6 w1 hn (by decide) (by decide)
  rw [hnn] at hR
  have HR := Lib.hid hR
  have HCu := Lib.hid (customer_is C pv n w1 hW (hp.below hb1) (by omega) (by omega))
  obtain ⟨a, m, c, rfl, hm, _, _⟩ := hV.open
  have HV1 := Lib.hid (hV.below hb1)
  have Hew := Lib.hid ew
  have HVf := Lib.hid hVf
  have Hm := Lib.hid hm
  have hmc : m ≤ c := by
    obtain ⟨a', c', h, h1, h2, _⟩ := hV
    simp only [Value.slice.injEq] at h
    omega
  obtain ⟨c0, c1, c2, c3, c4, c5, c6, c7⟩ := hcu
  clear ew hsz1 hR hW hp hn hV hVf hnn hm
  go_enter Try.func5, Try.ntmps5
  go_upto_region 1 with (fail)
  rw [Hew.out]
  go_wp2_with fail
  refine HR.out.mono ?_
  rintro e w' ⟨rfl, rfl⟩
  go_wp2_with fail
  refine HCu.out.mono ?_
  rintro e w2 ⟨X, xv, rfl, hG, hxp, hb2⟩
  obtain ⟨w3, ew3, hb3, hsz3, hx⟩ := box_cust w2 X.kd X.dm xv X.rt X.sz X.st X.ru X.hd
  have hg := good_ps (show n ≤ 64 by omega) hG
  have hk := good_tank hG
  have hb23 := bel2 hb2 hb3
  have HB3 := Lib.hid (hb1.trans (hb23.mono hb1.size))
  have hsz13 : w.heap.size ≤ w3.heap.size := HB3.out.size
  have HV3 := Lib.hid (HV1.out.below hb23)
  have HS := Lib.hid (fun (W : World) (uv : Value) (U : List (Int × Int)) (h : Below w3.heap.size w3 W) (hU : Vis W uv U) (hUl : U.length ≤ 64) (hUf : ∀ p ∈ U, fitsI p.2 = true) => suits_is X.kd X.dm xv uv X.rt X.sz X.st X.ru X.hd cap n X.ps U W hk (by omega) ((hxp.below hb3).below h) hg.1 hg.2 hU hUl hUf)
  have HT := Lib.hid (fun (W : World) (uv : Value) (U : List (Int × Int)) (h : Below w3.heap.size w3 W) (hU : Vis W uv U) (hUl : U.length ≤ 64) (hUf : ∀ p ∈ U, fitsI p.2 = true) => refSuits_is X.kd X.dm xv uv X.rt X.sz X.st X.ru X.hd cap n X.ps U W hk (by omega) ((hxp.below hb3).below h) hg.1 hg.2 hU hUl hUf)
  have Hew3 := Lib.hid ew3
  have hxf := words_form hxp
  clear c0 c1 c2 c3 c4 c5 c6 c7 hG hxp hb2 hb3 ew3 hsz3 hg hk hb23
  obtain ⟨c0, c1, c2, c3, c4, c5, c6, c7⟩ := hx
  obtain ⟨xa, xn, xc, rfl⟩ := hxf
  obtain ⟨kd, dm, ps, rt, sz, st, ru, hd⟩ := X
  simp only at HS HT Hew3 c0 c1 c2 c3 c4 c5 c6 c7
  have b0 := Below.refl w3.heap.size w3
  go_upto_if 17 with fail
  rw [Hew3.out]
  generalize w2.heap.size = g at *
  go_cut [3] (fun s3 wx => ∃ (m' : Nat), s3 = .slice a m' c ∧ m' ≤ 8 ∧ Vis w3 (.slice a m' c) (V.take m') ∧ w3 = wx)
  case first =>
    by_cases h8 : 8 < m
    · have h8' : decide (8 < (m : Int)) = true := by simp; omega
      have hi1 : (8 : Int) ≤ (c : Int) := by omega
      have hi2 : 8 ≤ c := by omega
      have HVt := Lib.hid (HV3.out.take (show 8 ≤ m by omega))
      clear h8
      rw [h8']
      go_wp2_with fail
      go_meet
      exact ⟨8, rfl, by omega, HVt.out, rfl⟩
    · have h8' : decide (8 < (m : Int)) = false := by simp; omega
      have hm8 : m ≤ 8 := by omega
      have HVt : Hid (Vis w3 (.slice a m c) (V.take m)) := Lib.hid (HV3.out.take (Nat.le_refl m))
      clear h8
      rw [h8']
      go_wp2_with fail
      go_meet
      exact ⟨m, rfl, hm8, HVt.out, rfl⟩
  case rest =>
    obtain ⟨m', rfl, hm8, hVt, rfl⟩ := hcut
    obtain ⟨w3, rfl⟩ : ∃ wq : World, wq = w3 := ⟨_, rfl⟩
    have hUl : (V.take m').length ≤ 64 := by have := List.length_take_le m' V; omega
    have hUf : ∀ p ∈ V.take m', fitsI p.2 = true := fun p hp => HVf.out p (List.mem_of_mem_take hp)
    generalize V.take m' = U at *
    have HS1 := Lib.hid (fun (W : World) (h : Below w3.heap.size w3 W) => HS.out W (.slice a m' c) U h (hVt.below h) hUl hUf)
    have HT1 := Lib.hid (fun (W : World) (h : Below w3.heap.size w3 W) => HT.out W (.slice a m' c) U h (hVt.below h) hUl hUf)
    have Hcx := Lib.hid (show IsCust w3 g kd dm (.slice xa xn xc) rt sz st ru hd from ⟨c0, c1, c2, c3, c4, c5, c6, c7⟩)
    generalize suitsV kd dm ps rt sz st ru cap U n = R at *
    clear hVt hUl hUf HS HT
    cases R with
    | true =>
      go_upto_region 5 with fail
      (first | (go_region_with (first
          | (go_at_call 19; refine (HS1.out _ ?_).mono ?_; (first | exact b0 | exact belDrew _ | exact b1 | exact bel2 b1 (belDrew _)); rintro e w6 ⟨rfl, hb6⟩; (first | have b1 := bel2 b1 hb6 | have b1 := bel2 (bel2 b1 (belDrew _)) hb6 | have b1 := bel2 b0 hb6 | have b1 := bel2 (belDrew w3) hb6); obtain ⟨q0, q1, q2, q3, q4, q5, q6, q7⟩ := Hcx.out.below b1)
          | (go_at_call 20; refine (HT1.out _ ?_).mono ?_; (first | exact b1 | exact bel2 b1 (belDrew _) | exact b0 | exact belDrew _); rintro e w7 ⟨rfl, hb7⟩; (first | have b1 := bel2 b1 hb7 | have b1 := bel2 (bel2 b1 (belDrew _)) hb7 | have b1 := bel2 b0 hb7 | have b1 := bel2 (belDrew w3) hb7); obtain ⟨q0, q1, q2, q3, q4, q5, q6, q7⟩ := Hcx.out.below b1)
          | (go_at_call 14; refine (lives11_is _).mono ?_; rintro e w8 ⟨rfl, hb8⟩; (first | have b8 := bel2 b1 hb8 | have b8 := bel2 (bel2 b1 (belDrew _)) hb8)))) | fail)
      all_goals
        have B8 := Lib.hid (HB3.out.trans (b8.mono hsz13))
        clear b8 hb8
        go_wp2_with fail
        go_ret
        exact ⟨rfl, by first | exact B8.out | exact B8.out.drew⟩
    | false =>
      go_upto_region 5 with fail
      (first | (go_region_with (first
          | (go_at_call 19; refine (HS1.out _ ?_).mono ?_; (first | exact b0 | exact belDrew _ | exact b1 | exact bel2 b1 (belDrew _)); rintro e w6 ⟨rfl, hb6⟩; (first | have b1 := bel2 b1 hb6 | have b1 := bel2 (bel2 b1 (belDrew _)) hb6 | have b1 := bel2 b0 hb6 | have b1 := bel2 (belDrew w3) hb6); obtain ⟨q0, q1, q2, q3, q4, q5, q6, q7⟩ := Hcx.out.below b1)
          | (go_at_call 20; refine (HT1.out _ ?_).mono ?_; (first | exact b1 | exact bel2 b1 (belDrew _) | exact b0 | exact belDrew _); rintro e w7 ⟨rfl, hb7⟩; (first | have b1 := bel2 b1 hb7 | have b1 := bel2 (bel2 b1 (belDrew _)) hb7 | have b1 := bel2 b0 hb7 | have b1 := bel2 (belDrew w3) hb7); obtain ⟨q0, q1, q2, q3, q4, q5, q6, q7⟩ := Hcx.out.below b1)
          | (go_at_call 14; refine (lives11_is _).mono ?_; rintro e w8 ⟨rfl, hb8⟩; (first | have b8 := bel2 b1 hb8 | have b8 := bel2 (bel2 b1 (belDrew _)) hb8)))) | fail)
      all_goals
        have B8 := Lib.hid (HB3.out.trans (b8.mono hsz13))
        clear b8 hb8
        go_wp2_with fail
        go_ret
        exact ⟨rfl, by first | exact B8.out | exact B8.out.drew⟩
end Go.Proofs.Ytpelbfjhljlbkaa
