/-
  My own work: policy.fewest, policy.Forced (of patterns), tranterref10.Wants, Forced: their contracts.
-/
import Derived.Test.YtpelbfjhljlbkaaAloneQ
namespace Go.Proofs.Ytpelbfjhljlbkaa
open Go.RowKit
set_option linter.unusedVariables false
set_option maxRecDepth 100000
attribute [local go_sem ↓] Go.wp_at_zero Go.wp_at_succ

set_option maxHeartbeats 800000 in
theorem fewest_is (pt : Value) (ps : List Nat) (w : World) (hp : Words w pt ps) (hps : ∀ p ∈ ps, p < 18446744073709551616) (hpl : ps.length ≤ 1000) :
    Calls Try.prog 81 #[pt] w fun e w' => e = .returned (.int .i64 (fewI ps)) ∧ w = w' := by
  obtain ⟨a, n, c, rfl, hn, _, _, hc⟩ := hp.open
  have Hc := Lib.hid hc
  have Hn := Lib.hid hn
  have Hps := Lib.hid hps
  have hn1000 : n ≤ 1000 := by omega
  clear hp hc hn hps hpl
  go_enter Try.func81, Try.ntmps81
  go_wp2_with fail
  go_loopw [3, 9] (fun s i wr => ∃ (k : Nat) (Q : Int), k ≤ n ∧ i = .int .i64 k ∧ s = .int .i64 Q ∧ Q = fewTo ps k ∧ wr = w) (fun _ i _ => n - (intOf i).toNat)
  case atStart => exact ⟨0, 0, Nat.zero_le _, rfl, rfl, rfl, rfl⟩
  case round =>
    obtain ⟨k, Q, hk, rfl, rfl, hQ, rfl⟩ := hrel
    have hst : fewTo ps (k + 1) = if k = 0 ∨ lenI (nthN ps k) < Q then lenI (nthN ps k) else Q := by rw [fewTo, ← hQ]
    have HQ := Lib.hid hQ
    clear hQ
    by_cases hlt : k < n
    · obtain ⟨b, o, rfl, hbl, f0⟩ := Hc.out k hlt
      have hL := len_is (nthN ps k) wr (Hps.out _ (nthN_mem (by rw [Hn.out]; exact hlt)))
      rw [show ((allUpto (nthN ps k) 0 64).length : Int) = lenI (nthN ps k) from rfl] at hL
      have HL := Lib.hid hL
      generalize lenI (nthN ps k) = X at *
      generalize nthN ps k = p at *
      have hi0 : (0 : Int) ≤ (k : Int) := by omega
      have hi1 : (k : Int) < (n : Int) := by omega
      clear hL
      by_cases h0 : k = 0
      · have h0' : ((k : Int) == 0) = true := by simp; omega
        rw [if_pos (.inl h0)] at hst
        have Hst := Lib.hid hst
        clear h0 hst
        go_wp2_with fail
        refine HL.out.mono ?_
        rintro e w3 ⟨rfl, rfl⟩
        go_wp2_with fail
        go_roundw
        case rel => exact ⟨k + 1, X, by omega, by go_num, rfl, Hst.out.symm, by first | rfl | trivial⟩
        case measure => simp [intOf]; omega
      · have h0' : ((k : Int) == 0) = false := by simp; omega
        by_cases h1 : X < Q
        · have h1' : decide (X < Q) = true := by simpa using h1
          rw [if_pos (.inr h1)] at hst
          have Hst := Lib.hid hst
          clear h0 h1 hst
          go_wp2_with fail
          refine HL.out.mono ?_
          rintro e w3 ⟨rfl, rfl⟩
          go_wp2_with fail
          go_roundw
          case rel => exact ⟨k + 1, X, by omega, by go_num, rfl, Hst.out.symm, by first | rfl | trivial⟩
          case measure => simp [intOf]; omega
        · have h1' : decide (X < Q) = false := by simpa using h1
          rw [if_neg (by omega)] at hst
          have Hst := Lib.hid hst
          clear h0 h1 hst
          go_wp2_with fail
          refine HL.out.mono ?_
          rintro e w3 ⟨rfl, rfl⟩
          go_wp2_with fail
          go_roundw
          case rel => exact ⟨k + 1, Q, by omega, by go_num, rfl, Hst.out.symm, by first | rfl | trivial⟩
          case measure => simp [intOf]; omega
    · have hkn : k = n := by omega
      have Hr : Hid (fewI ps = Q) := Lib.hid (by unfold fewI; rw [HQ.out, Hn.out, hkn])
      clear hst
      go_wp2_with fail
      go_ret
      rw [Hr.out]
      exact ⟨rfl, rfl⟩

set_option maxHeartbeats 800000 in
theorem forced1_is (dm : Int) (pt : Value) (rt sz st ru hd cap : Int) (n : Nat) (ps : List Nat) (w : World) (hp : Words w pt ps) (hps : ∀ p ∈ ps, p < 18446744073709551616) (hpl : ps.length ≤ 1000) :
    Calls Try.prog 57 #[.agg #[.int .i64 1, .int .i64 dm, pt, .int .i64 rt, .int .i64 sz, .int .i64 st, .int .i64 ru, .int .i64 hd], .int .i64 n, .int .i64 cap] w (CostOut w (fewI ps)) := by
  obtain ⟨w1, ew, hb1, hsz1, hcu⟩ := box_cust w 1 dm pt rt sz st ru hd
  have Hew := Lib.hid ew
  have H := Lib.hid (fewest_is pt ps w1 (hp.below hb1) hps hpl)
  obtain ⟨c0, c1, c2, c3, c4, c5, c6, c7⟩ := hcu
  clear ew hsz1 hp hps
  go_enter Try.func57, Try.ntmps57
  go_upto_region 1 with (fail)
  rw [Hew.out]
  go_wp2_with fail
  refine H.out.mono ?_
  rintro e w2 ⟨rfl, rfl⟩
  go_wp2_with fail
  go_ret
  exact ⟨rfl, hb1⟩

set_option maxHeartbeats 1600000 in
theorem refForced1_is (dm : Int) (pt : Value) (rt sz st ru hd cap : Int) (n : Nat) (ps : List Nat) (w : World) (hp : Words w pt ps) (hps : ∀ p ∈ ps, p < 18446744073709551616) (hpl : ps.length ≤ 1000) (hp1 : 0 < ps.length) :
    Calls Try.prog 17 #[.agg #[.int .i64 1, .int .i64 dm, pt, .int .i64 rt, .int .i64 sz, .int .i64 st, .int .i64 ru, .int .i64 hd], .int .i64 n, .int .i64 cap] w (CostOut w (fewI ps)) := by
  obtain ⟨w1, ew, hb1, hsz1, hcu⟩ := box_cust w 1 dm pt rt sz st ru hd
  obtain ⟨a, m, c, rfl, hm, _, _, hc⟩ := (hp.below hb1).open
  have Hew := Lib.hid ew
  have Hc := Lib.hid hc
  have Hm := Lib.hid hm
  have Hps := Lib.hid hps
  have hsz : w.heap.size ≤ w1.heap.size := hb1.size
  have Hsame := Lib.hid (few_same ps ps.length hp1)
  obtain ⟨c0, c1, c2, c3, c4, c5, c6, c7⟩ := hcu
  have hm1000 : m ≤ 1000 := by omega
  clear ew hsz1 hp hps hc hm hp1 hpl
  go_enter Try.func17, Try.ntmps17
  go_upto_region 1 with (fail)
  rw [Hew.out]
  go_wp2_with fail
  go_loopw [7, 8] (fun s i wr => ∃ (k : Nat) (Q : Int), k ≤ m ∧ i = .int .i64 k ∧ s = .int .i64 Q ∧ Q = fewRef ps k ∧ Below w1.heap.size w1 wr) (fun _ i _ => m - (intOf i).toNat)
  case atStart => exact ⟨0, 64, Nat.zero_le _, rfl, rfl, rfl, Below.refl _ _⟩
  case round =>
    obtain ⟨k, Q, hk, rfl, rfl, hQ, hb⟩ := hrel
    have hst : fewRef ps (k + 1) = if lenI (nthN ps k) < Q then lenI (nthN ps k) else Q := by rw [fewRef, ← hQ]
    have HQ := Lib.hid hQ
    have Hb := Lib.hid hb
    obtain ⟨d0, d1, d2, d3, d4, d5, d6, d7⟩ : IsCust wr w.heap.size 1 dm (.slice a m c) rt sz st ru hd := IsCust.below ⟨c0, c1, c2, c3, c4, c5, c6, c7⟩ hb
    clear hQ
    by_cases hlt : k < m
    · obtain ⟨b, o, rfl, hbl, f0⟩ := Hc.out k hlt
      have f0 := cell_below hb f0
      have HL := Lib.hid (refAll_is (nthN ps k) wr (Hps.out _ (nthN_mem (by rw [Hm.out]; exact hlt))))
      have hX : ((allUpto (nthN ps k) 0 64).length : Int) = lenI (nthN ps k) := rfl
      have HX := Lib.hid hX
      have hXb := lenI_bd (nthN ps k)
      generalize lenI (nthN ps k) = X at *
      generalize nthN ps k = p at *
      have hi0 : (0 : Int) ≤ (k : Int) := by omega
      have hi1 : (k : Int) < (m : Int) := by omega
      clear hX hb
      go_wp2_with fail
      refine HL.out.mono ?_
      rintro e w3 ⟨v, rfl, hown, hb3⟩
      obtain ⟨va, vn, vc, rfl, hvn, _, _⟩ := hown.ints.open
      have hvX : (vn : Int) = X := by rw [← HX.out, hvn]
      have Hb3 := Lib.hid (bel2 Hb.out hb3)
      clear hown hb3 hvn
      by_cases h1 : X < Q
      · have h1' : decide ((vn : Int) < Q) = true := by rw [hvX]; simpa using h1
        rw [if_pos h1] at hst
        have Hst := Lib.hid hst
        have HvX := Lib.hid hvX
        clear h1 hst hvX
        go_wp2_with fail
        go_roundw
        case rel => exact ⟨k + 1, X, by omega, by go_num, by rw [HvX.out], Hst.out.symm, Hb3.out⟩
        case measure => simp [intOf]; omega
      · have h1' : decide ((vn : Int) < Q) = false := by rw [hvX]; simpa using h1
        rw [if_neg h1] at hst
        have Hst := Lib.hid hst
        clear h1 hst hvX
        go_wp2_with fail
        go_roundw
        case rel => exact ⟨k + 1, Q, by omega, by go_num, rfl, Hst.out.symm, Hb3.out⟩
        case measure => simp [intOf]; omega
    · have hkm : k = m := by omega
      have Hr : Hid (fewI ps = Q) := Lib.hid (by unfold fewI; rw [← Hsame.out, HQ.out, Hm.out, hkm])
      clear hst
      go_wp2_with fail
      go_ret
      rw [Hr.out]
      exact ⟨rfl, hb1.trans (hb.mono hsz)⟩

set_option maxHeartbeats 800000 in
theorem refWants_is (kd dm : Int) (pt : Value) (rt sz st ru hd : Int) (n : Nat) (w : World) (T : TankOk st rt sz ru hd) (hn : n ≤ 64) :
    Calls Try.prog 18 #[.agg #[.int .i64 kd, .int .i64 dm, pt, .int .i64 rt, .int .i64 sz, .int .i64 st, .int .i64 ru, .int .i64 hd], .int .i64 n] w (CostOut w (wantsI rt st n)) := by
  obtain ⟨w1, ew, hb1, hsz1, hcu⟩ := box_cust w kd dm pt rt sz st ru hd
  have Hew := Lib.hid ew
  have h1 := mul_le_64 T.rt0 T.rt1 (show n ≤ 65 by omega)
  have := T.st0; have := T.st1; have := T.sz1
  obtain ⟨c0, c1, c2, c3, c4, c5, c6, c7⟩ := hcu
  obtain ⟨M, hM⟩ : ∃ M, M = rt * n := ⟨_, rfl⟩
  have hw : wrap64 (rt * n) = M := by rw [wrap_id (by omega) (by omega)]; exact hM.symm
  have hw2 : wrap64 (M - st) = M - st := wrap_id (by omega) (by omega)
  have hr : wantsI rt st n = max (M - st) 0 := by rw [hM]; rfl
  have Hr := Lib.hid hr
  clear ew hsz1 T hr h1 hM
  go_enter Try.func18, Try.ntmps18
  go_upto_region 1 with (fail)
  rw [Hew.out]
  by_cases h0 : M - st < 0
  · have h0' : decide (M - st < 0) = true := by simpa using h0
    have Hr2 : Hid (wantsI rt st n = 0) := Lib.hid (by rw [Hr.out]; omega)
    clear h0
    go_wp2_with fail
    go_ret
    rw [Hr2.out]
    exact ⟨rfl, hb1⟩
  · have h0' : decide (M - st < 0) = false := by simpa using h0
    have Hr2 : Hid (wantsI rt st n = wrap64 (M - st)) := Lib.hid (by rw [Hr.out, hw2]; omega)
    clear h0
    go_wp2_with fail
    go_ret
    rw [Hr2.out]
    exact ⟨rfl, hb1⟩

/-- As many as it takes, one by one. -/
theorem forced_by {w one : Int} {n m : Nat} (h1 : 0 ≤ one) (hm : m ≤ n) (hp : ∀ j : Nat, j < m → one * j < w) (hd : w - one * m ≤ 0 ∨ m = n) : (m : Int) = if w ≤ 0 then 0 else if one < 1 then (n : Int) else min (ceilI w one) n := by
  by_cases hw : w ≤ 0
  · rw [if_pos hw]
    rcases Nat.eq_zero_or_pos m with h | h
    · omega
    · have := hp 0 h
      simp at this
      omega
  · rw [if_neg hw]
    by_cases h0 : one < 1
    · rw [if_pos h0]
      have : one = 0 := by omega
      subst this
      rcases hd with h | h
      · simp at h; omega
      · omega
    · rw [if_neg h0]
      have hc1 : one * ((w + one - 1) / one) + (w + one - 1) % one = w + one - 1 := Int.mul_ediv_add_emod _ _
      have hc2 := Int.emod_nonneg (w + one - 1) (show one ≠ 0 by omega)
      have hc3 := Int.emod_lt_of_pos (w + one - 1) (show 0 < one by omega)
      unfold ceilI
      obtain ⟨q, hq⟩ : ∃ q, q = (w + one - 1) / one := ⟨_, rfl⟩
      rw [← hq] at hc1 ⊢
      -- one * q ≥ w and one * (q - 1) < w
      have key1 : w ≤ one * q := by omega
      have key2 : one * (q - 1) < w := by rw [Int.mul_sub, Int.mul_one]; omega
      have le1 : (m : Int) ≤ q := by
        rcases Int.lt_or_le q (m : Int) with h | h
        · have hq0 : 0 ≤ q := by
            rcases Int.lt_or_le q 0 with h' | h'
            · have := Int.mul_le_mul_of_nonneg_left (show q ≤ 0 by omega) (show 0 ≤ one by omega)
              rw [Int.mul_zero] at this; omega
            · exact h'
          have := hp q.toNat (by omega)
          rw [show ((q.toNat : Nat) : Int) = q by omega] at this
          omega
        · exact h
      rcases hd with h | h
      · have : q ≤ m := by
          rcases Int.lt_or_le (m : Int) q with h' | h'
          · have := Int.mul_le_mul_of_nonneg_left (show (m : Int) ≤ q - 1 by omega) (show 0 ≤ one by omega)
            omega
          · exact h'
        omega
      · omega

set_option maxHeartbeats 1600000 in
theorem refForced2_is (dm : Int) (pt : Value) (rt sz st ru hd cap : Int) (n : Nat) (w : World) (T : TankOk st rt sz ru hd) (hn : n ≤ 64) :
    Calls Try.prog 17 #[.agg #[.int .i64 2, .int .i64 dm, pt, .int .i64 rt, .int .i64 sz, .int .i64 st, .int .i64 ru, .int .i64 hd], .int .i64 n, .int .i64 cap] w (CostOut w (forcedI rt st sz n cap)) := by
  obtain ⟨w1, ew, hb1, hsz1, hcu⟩ := box_cust w 2 dm pt rt sz st ru hd
  have Hew := Lib.hid ew
  have HT := Lib.hid T
  have HW := Lib.hid (refWants_is 2 dm pt rt sz st ru hd n w1 T hn)
  have hsz : w.heap.size ≤ w1.heap.size := hb1.size
  obtain ⟨c0, c1, c2, c3, c4, c5, c6, c7⟩ := hcu
  have z0 := T.sz0
  have z1 := T.sz1
  have hwb : 0 ≤ wantsI rt st n ∧ wantsI rt st n ≤ 7000 := by
    have h1 := mul_le_64 T.rt0 T.rt1 (show n ≤ 65 by omega)
    have := T.st0
    unfold wantsI
    omega
  obtain ⟨one, hone⟩ : ∃ one, one = max 0 (min cap sz) := ⟨_, rfl⟩
  have hob : 0 ≤ one ∧ one ≤ 100 := by omega
  have hF : forcedI rt st sz n cap = if wantsI rt st n ≤ 0 then 0 else if one < 1 then (n : Int) else min (ceilI (wantsI rt st n) one) n := by
    unfold forcedI
    by_cases h0 : wantsI rt st n = 0
    · rw [if_pos h0, if_pos (show wantsI rt st n ≤ 0 by omega)]
    · rw [if_neg h0, if_neg (show ¬ wantsI rt st n ≤ 0 by omega)]
      by_cases h1 : min cap sz < 1
      · rw [if_pos h1, if_pos (show one < 1 by omega)]
      · rw [if_neg h1, if_neg (show ¬ one < 1 by omega), show min cap sz = one by omega]
  generalize wantsI rt st n = W at *
  have HF := Lib.hid hF
  have Hone := Lib.hid hone
  clear ew hsz1 T hF hone
  go_enter Try.func17, Try.ntmps17
  go_upto_region 1 with (fail)
  rw [Hew.out]
  go_upto_if 39 with fail
  go_cut [10] (fun s10 wx => s10 = .int .i64 (min cap sz) ∧ w1 = wx)
  case first =>
    by_cases h : cap < sz
    · have h' : decide (cap < sz) = true := by simpa using h
      have hm : Hid (min cap sz = cap) := Lib.hid (by omega)
      clear h
      rw [h']
      go_wp2_with fail
      go_meet
      exact ⟨by rw [hm.out], rfl⟩
    · have h' : decide (cap < sz) = false := by simpa using h
      have hm : Hid (min cap sz = sz) := Lib.hid (by omega)
      clear h
      rw [h']
      go_wp2_with fail
      go_meet
      exact ⟨by rw [hm.out], rfl⟩
  case rest =>
    obtain ⟨rfl, rfl⟩ := hcut
    obtain ⟨w1, rfl⟩ : ∃ wq : World, wq = w1 := ⟨_, rfl⟩
    obtain ⟨M, hM⟩ : ∃ M, min cap sz = M := ⟨_, rfl⟩
    rw [hM] at Hone ⊢
    clear hM
    go_upto_if 42 with fail
    go_cut [10] (fun s10 wx => s10 = .int .i64 one ∧ w1 = wx)
    case first =>
      by_cases h : M < 0
      · have h' : decide (M < 0) = true := by simpa using h
        have hm : Hid (one = 0) := Lib.hid (by rw [Hone.out]; omega)
        clear h
        rw [h']
        go_wp2_with fail
        go_meet
        exact ⟨by rw [hm.out], rfl⟩
      · have h' : decide (M < 0) = false := by simpa using h
        have hm : Hid (one = M) := Lib.hid (by rw [Hone.out]; omega)
        clear h
        rw [h']
        go_wp2_with fail
        go_meet
        exact ⟨by rw [hm.out], rfl⟩
    case rest =>
      obtain ⟨rfl, rfl⟩ := hcut
      obtain ⟨w1, rfl⟩ : ∃ wq : World, wq = w1 := ⟨_, rfl⟩
      go_wp2_with fail
      refine HW.out.mono ?_
      rintro e w2 ⟨rfl, hb2⟩
      have Hb2 := Lib.hid (hb1.trans (hb2.mono hsz))
      clear hb2
      go_wp2_with fail
      go_loopw [11, 12] (fun l m wr => ∃ (k : Nat) (L : Int), k ≤ n ∧ m = .int .i64 k ∧ l = .int .i64 L ∧ L = W - one * k ∧ (∀ j : Nat, j < k → one * j < W) ∧ wr = w2) (fun _ m _ => n - (intOf m).toNat)
      case atStart => exact ⟨0, W, Nat.zero_le _, rfl, rfl, by simp, fun j hj => by omega, rfl⟩
      case round =>
        obtain ⟨k, L, hk, rfl, rfl, hL, hp, rfl⟩ := hrel
        have Hp := Lib.hid hp
        have hm1 : 0 ≤ one * (k : Int) ∧ one * (k : Int) ≤ 6400 := ⟨Int.mul_nonneg hob.1 (by omega), by
          have : one * (k : Int) ≤ 100 * 64 := Int.mul_le_mul hob.2 (by omega) (by omega) (by omega)
          omega⟩
        have e2 : one * ((k + 1 : Nat) : Int) = one * k + one := by rw [Int.natCast_succ, Int.mul_add, Int.mul_one]
        have HL := Lib.hid hL
        have hLb : -6400 ≤ L ∧ L ≤ 7000 := by omega
        have hL2 : L - one = W - one * ((k + 1 : Nat) : Int) := by omega
        have HL2 := Lib.hid hL2
        have hpos : ¬ L ≤ 0 → ∀ j : Nat, j < k + 1 → one * j < W := fun h j hj => by
          rcases Nat.lt_succ_iff_lt_or_eq.1 hj with h' | rfl
          · exact hp j h'
          · omega
        have Hpos := Lib.hid hpos
        have hw : wrap64 (L - one) = L - one := wrap_id (by omega) (by omega)
        have Hw := Lib.hid hw
        clear hp hL hm1 e2 hL2 hpos
        have hcase : (decide (0 < L) = false ∧ L ≤ 0) ∨ (decide (0 < L) = true ∧ decide (k < n) = false ∧ k = n) ∨ (decide (0 < L) = true ∧ k < n ∧ ¬ L ≤ 0) := by
          by_cases h0 : 0 < L
          · by_cases h1 : k < n
            · exact .inr (.inr ⟨by simpa using h0, h1, by omega⟩)
            · exact .inr (.inl ⟨by simpa using h0, by simpa using h1, by omega⟩)
          · exact .inl ⟨by simpa using h0, by omega⟩
        rcases hcase with ⟨q1, q2⟩ | ⟨q1, q2, q3⟩ | ⟨q1, q2, q3⟩
        · have Hr : Hid (forcedI rt st sz n cap = (k : Int)) := Lib.hid (by rw [HF.out]; exact (forced_by hob.1 hk Hp.out (.inl (by rw [← HL.out]; exact q2))).symm)
          clear q2
          go_wp2_with fail
          go_ret
          rw [Hr.out]
          exact ⟨rfl, Hb2.out⟩
        · have Hr : Hid (forcedI rt st sz n cap = (k : Int)) := Lib.hid (by rw [HF.out]; exact (forced_by hob.1 hk Hp.out (.inr q3)).symm)
          clear q3
          go_wp2_with fail
          go_ret
          rw [Hr.out]
          exact ⟨rfl, Hb2.out⟩
        · have Hp2 := Lib.hid (Hpos.out q3)
          have hi1 : (k : Int) < (n : Int) := by omega
          clear q3
          go_wp2_with fail
          go_roundw
          case rel => exact ⟨k + 1, L - one, by omega, by go_num, by first | rfl | rw [Hw.out], HL2.out, Hp2.out, by first | rfl | trivial⟩
          case measure => simp [intOf]; omega
end Go.Proofs.Ytpelbfjhljlbkaa
