/-
  My own work: policy.Keeps, tranterref10.Keeps, Forced (of patterns and of tanks): their contracts.
  My own work: policy.fewest, policy.Forced (of patterns), tranterref10.Wants, Forced: their contracts.
  My own work: layer 11, plainly: the cheapest pattern, the least of all visits, the bound.
-/
import Derived.Test.YtnhcgpkcmfelkaaGreatAloneN
import Derived.Deep.QuietTactic
import Derived.BigQuiet
import Derived.Test.YtnhcgpkcmfelkaaGreatAloneU
namespace Go.Proofs.YtnhcgpkcmfelkaaGreat
section
open Go.RowKit
set_option linter.unusedVariables false
set_option maxRecDepth 100000
attribute [local go_sem ↓] Go.wp_at_zero Go.wp_at_succ

set_option maxHeartbeats 800000 in
theorem keeps_is (kd dm : Int) (pt : Value) (rt sz st ru hd : Int) (n : Nat) (w : World) (T : TankOk st rt sz ru hd) (hn : n ≤ 64) :
    Calls Tryz.prog 86 #[.agg #[.int .i64 kd, .int .i64 dm, pt, .int .i64 rt, .int .i64 sz, .int .i64 st, .int .i64 ru, .int .i64 hd], .int .i64 n] w (CostOut w (keepsI st rt hd n)) := by
  obtain ⟨w1, ew, hb1, hsz1, hcu⟩ := box_cust w kd dm pt rt sz st ru hd
  have Hew := Lib.hid ew
  have HT := Lib.hid T
  have hkb := keepsI_bd T hn
  have hw : wrap64 (keepsI st rt hd n) = keepsI st rt hd n := wrap_id (by omega) (by omega)
  have Hw : Hid (wrap64 (hd * keepsTo st rt n) = keepsI st rt hd n) := Lib.hid hw
  obtain ⟨c0, c1, c2, c3, c4, c5, c6, c7⟩ := hcu
  clear ew hsz1 T hkb hw
  go_enter Tryz.func86, Tryz.ntmps86
  go_upto_region 1 with (fail)
  rw [Hew.out]
  go_quiet (fail)
  go_wp2_with fail
  go_loopw [5, 6, 10] (fun s t i wr => ∃ k : Nat, k ≤ n ∧ i = .int .i64 k ∧ t = .int .i64 (st - rt * k) ∧ s = .int .i64 (keepsTo st rt k) ∧ Below w1.heap.size w1 wr) (fun _ _ i _ => n - (intOf i).toNat)
  case atStart => exact ⟨0, Nat.zero_le _, rfl, by simp, rfl, below_drewN (Below.refl _ _) _⟩
  case round =>
    obtain ⟨k, hk, rfl, rfl, rfl, hb⟩ := hrel
    obtain ⟨d0, d1, d2, d3, d4, d5, d6, d7⟩ : IsCust wr w.heap.size kd dm pt rt sz st ru hd := IsCust.below ⟨c0, c1, c2, c3, c4, c5, c6, c7⟩ hb
    have Hb := Lib.hid hb
    clear hb
    by_cases hlt : k < n
    · have h1 := mul_le_64 HT.out.rt0 HT.out.rt1 (show k ≤ 65 by omega)
      have h2 := mul_le_64 HT.out.rt0 HT.out.rt1 (show k + 1 ≤ 65 by omega)
      have e2 : rt * ((k + 1 : Nat) : Int) = rt * k + rt := by rw [Int.natCast_succ, Int.mul_add, Int.mul_one]
      have hkb := keeps_bd HT.out k
      have hst : keepsTo st rt (k + 1) = keepsTo st rt k + max (st - rt * ((k : Int) + 1)) 0 := rfl
      have := HT.out.st0; have := HT.out.st1; have := HT.out.sz1
      obtain ⟨X, hX⟩ : ∃ X, X = st - rt * k := ⟨_, rfl⟩
      obtain ⟨Y, hY⟩ : ∃ Y, Y = st - rt * ((k + 1 : Nat) : Int) := ⟨_, rfl⟩
      have hY2 : st - rt * ((k : Int) + 1) = Y := by rw [hY, Int.natCast_succ]
      rw [hY2] at hst
      have hw : wrap64 (X - rt) = Y := by rw [wrap_id (by omega) (by omega)]; omega
      obtain ⟨M, hM⟩ : ∃ M, max Y 0 = M := ⟨_, rfl⟩
      rw [hM] at hst
      have hMY : (if Y < 0 then (0 : Int) else Y) = M := by split <;> omega
      generalize keepsTo st rt k = Q at *
      have hw2 : wrap64 (Q + M) = Q + M := wrap_id (by omega) (by omega)
      have HMY := Lib.hid hMY
      have HW := Lib.hid hw
      have HW2 := Lib.hid hw2
      have Hst := Lib.hid hst
      have HY := Lib.hid hY
      rw [← hX]
      have hi1 : (k : Int) < (n : Int) := by omega
      clear hst hY hX hY2 h1 h2 e2
      go_wp2_with fail
      go_roundw
      case rel => exact ⟨k + 1, by omega, by go_num, by rw [← HY.out]; first | rfl | rw [HW.out], by rw [Hst.out]; first | rfl | rw [HMY.out] | rw [HMY.out, HW2.out] | rw [HW2.out], Hb.out⟩
      case measure => simp [intOf]; omega
    · have hkn : k = n := by omega
      subst hkn
      generalize keepsTo st rt k = Q at *
      go_wp2_with fail
      go_ret
      rw [← Hw.out]
      exact ⟨rfl, hb1.trans (Hb.out.mono hb1.size)⟩

set_option maxHeartbeats 800000 in
theorem refKeeps_is (kd dm : Int) (pt : Value) (rt sz st ru hd : Int) (n : Nat) (w : World) (T : TankOk st rt sz ru hd) (hn : n ≤ 64) :
    Calls Tryz.prog 63 #[.agg #[.int .i64 kd, .int .i64 dm, pt, .int .i64 rt, .int .i64 sz, .int .i64 st, .int .i64 ru, .int .i64 hd], .int .i64 n] w (CostOut w (keepsI st rt hd n)) := by
  obtain ⟨w1, ew, hb1, hsz1, hcu⟩ := box_cust w kd dm pt rt sz st ru hd
  have Hew := Lib.hid ew
  have HT := Lib.hid T
  have hkb := keepsI_bd T hn
  have hw : wrap64 (keepsI st rt hd n) = keepsI st rt hd n := wrap_id (by omega) (by omega)
  have Hw : Hid (wrap64 (hd * keepsTo st rt n) = keepsI st rt hd n) := Lib.hid hw
  have hst0 : max (st - rt * ((0 : Nat) : Int)) 0 = st := by have := T.st0; simp; omega
  obtain ⟨c0, c1, c2, c3, c4, c5, c6, c7⟩ := hcu
  have Hst0 := Lib.hid hst0
  clear ew hsz1 T hkb hw hst0
  go_enter Tryz.func63, Tryz.ntmps63
  go_upto_region 1 with (fail)
  rw [Hew.out]
  go_wp2_with fail
  go_loopw [5, 6, 7] (fun s t i wr => ∃ (k : Nat) (X : Int), k ≤ n ∧ i = .int .i64 k ∧ t = .int .i64 X ∧ X = max (st - rt * k) 0 ∧ s = .int .i64 (keepsTo st rt k) ∧ wr = w1) (fun _ _ i _ => n - (intOf i).toNat)
  case atStart => exact ⟨0, st, Nat.zero_le _, rfl, rfl, Hst0.out.symm, rfl, rfl⟩
  case round =>
    obtain ⟨k, X, hk, rfl, rfl, hX, rfl, rfl⟩ := hrel
    by_cases hlt : k < n
    · have h1 := mul_le_64 HT.out.rt0 HT.out.rt1 (show k ≤ 65 by omega)
      have h2 := mul_le_64 HT.out.rt0 HT.out.rt1 (show k + 1 ≤ 65 by omega)
      have e2 : rt * ((k + 1 : Nat) : Int) = rt * k + rt := by rw [Int.natCast_succ, Int.mul_add, Int.mul_one]
      have hkb := keeps_bd HT.out k
      have hst : keepsTo st rt (k + 1) = keepsTo st rt k + max (st - rt * ((k : Int) + 1)) 0 := rfl
      have := HT.out.st0; have := HT.out.st1; have := HT.out.sz1; have := HT.out.rt0; have := HT.out.rt1
      obtain ⟨M, hM⟩ : ∃ M, M = max (st - rt * ((k : Int) + 1)) 0 := ⟨_, rfl⟩
      have hM2 : M = max (st - rt * ((k + 1 : Nat) : Int)) 0 := by rw [hM, Int.natCast_succ]
      rw [← hM] at hst
      generalize keepsTo st rt k = Q at *
      have hX2 : 0 ≤ X ∧ X ≤ 100 := by omega
      have hMX : (X - rt < 0 ∧ M = 0) ∨ (0 ≤ X - rt ∧ M = X - rt) := by omega
      have hMb : 0 ≤ M ∧ M ≤ 100 := by omega
      have hw : wrap64 (X - rt) = X - rt := wrap_id (by omega) (by omega)
      have hw2 : wrap64 (Q + M) = Q + M := wrap_id (by omega) (by omega)
      have Hst := Lib.hid hst
      have HM2 := Lib.hid hM2
      have hi1 : (k : Int) < (n : Int) := by omega
      clear hst hX hM hM2 h1 h2 e2
      rcases hMX with ⟨q1, q2⟩ | ⟨q1, q2⟩
      · subst q2
        have q1' : decide (X - rt < 0) = true := by simpa using q1
        have hw2 : wrap64 Q = Q := wrap_id (by omega) (by omega)
        have hQ : Q + 0 = Q := by omega
        clear q1
        go_wp2_with fail
        go_roundw
        case rel => exact ⟨k + 1, _, by omega, by go_num, rfl, HM2.out, by rw [Hst.out, hQ], by first | rfl | trivial⟩
        case measure => simp [intOf]; omega
      · subst q2
        have q1' : decide (X - rt < 0) = false := by simp; omega
        go_wp2_with fail
        go_roundw
        case rel => exact ⟨k + 1, _, by omega, by go_num, rfl, HM2.out, by rw [Hst.out], by first | rfl | trivial⟩
        case measure => simp [intOf]; omega
    · have hkn : k = n := by omega
      subst hkn
      generalize keepsTo st rt k = Q at *
      go_wp2_with fail
      go_ret
      rw [← Hw.out]
      exact ⟨rfl, hb1⟩

/-- The least number of days of patterns. -/
def lenI (p : Nat) : Int := ((allUpto p 0 64).length : Int)
theorem lenI_bd (p : Nat) : 0 ≤ lenI p ∧ lenI p ≤ 64 := by
  have := allUpto_len p 0 64
  unfold lenI
  omega
def fewTo (ps : List Nat) : Nat → Int
  | 0 => 0
  | k + 1 => if k = 0 ∨ lenI (nthN ps k) < fewTo ps k then lenI (nthN ps k) else fewTo ps k
def fewI (ps : List Nat) : Int := fewTo ps ps.length
def fewRef (ps : List Nat) : Nat → Int
  | 0 => 64
  | k + 1 => if lenI (nthN ps k) < fewRef ps k then lenI (nthN ps k) else fewRef ps k
theorem few_same (ps : List Nat) (k : Nat) (hk : 0 < k) : fewRef ps k = fewTo ps k := by
  induction k with
  | zero => omega
  | succ k ih =>
    rw [fewRef, fewTo]
    rcases Nat.eq_zero_or_pos k with h | h
    · subst h
      have := lenI_bd (nthN ps 0)
      rw [if_pos (show (0 : Nat) = 0 ∨ lenI (nthN ps 0) < fewTo ps 0 from .inl rfl)]
      have e : fewRef ps 0 = 64 := rfl
      rw [e]
      split <;> omega
    · rw [ih h]
      by_cases hc : lenI (nthN ps k) < fewTo ps k
      · rw [if_pos hc, if_pos (.inr hc)]
      · rw [if_neg hc, if_neg (by omega)]
theorem few_bd (ps : List Nat) (k : Nat) : 0 ≤ fewTo ps k ∧ fewTo ps k ≤ 64 := by
  induction k with
  | zero => simp [fewTo]
  | succ k ih =>
    have := lenI_bd (nthN ps k)
    rw [fewTo]
    split <;> omega
theorem few_le (ps : List Nat) (k j : Nat) (hj : j < k) : fewTo ps k ≤ lenI (nthN ps j) := by
  induction k with
  | zero => omega
  | succ k ih =>
    rw [fewTo]
    by_cases e : j = k
    · subst e
      split <;> omega
    · have := ih (by omega)
      split <;> omega
end

section
open Go.RowKit
set_option linter.unusedVariables false
set_option maxRecDepth 100000
attribute [local go_sem ↓] Go.wp_at_zero Go.wp_at_succ

set_option maxHeartbeats 800000 in
theorem fewest_is (pt : Value) (ps : List Nat) (w : World) (hp : Words w pt ps) (hps : ∀ p ∈ ps, p < 18446744073709551616) (hpl : ps.length ≤ 1000) :
    Calls Tryz.prog 81 #[pt] w fun e w' => e = .returned (.int .i64 (fewI ps)) ∧ w = w' := by
  obtain ⟨a, n, c, rfl, hn, _, _, hc⟩ := hp.open
  have Hc := Lib.hid hc
  have Hn := Lib.hid hn
  have Hps := Lib.hid hps
  have hn1000 : n ≤ 1000 := by omega
  clear hp hc hn hps hpl
  go_enter Tryz.func81, Tryz.ntmps81
  go_wp2_with fail
  go_loopw [3, 9] (fun s i wr => ∃ (k : Nat) (Q : Int), k ≤ n ∧ i = .int .i64 k ∧ s = .int .i64 Q ∧ Q = fewTo ps k ∧ wr = w) (fun _ i _ => n - (intOf i).toNat)
  case atStart => exact ⟨0, 0, Nat.zero_le _, rfl, rfl, rfl, rfl⟩
  case round =>
    obtain ⟨k, Q, hk, rfl, rfl, hQ, rfl⟩ := hrel
    have hst : fewTo ps (k + 1) = if k = 0 ∨ lenI (nthN ps k) < Q then lenI (nthN ps k) else Q := by rw [fewTo, ← hQ]
    have HQ := Lib.hid hQ
    clear hQ
    by_cases hlt : k < n
    · obtain ⟨b, o, rfl, hbl, f0⟩ := Hc.out k hlt
      have hL := len_is (nthN ps k) wr (Hps.out _ (nthN_mem (by rw [Hn.out]; exact hlt)))
      rw [show ((allUpto (nthN ps k) 0 64).length : Int) = lenI (nthN ps k) from rfl] at hL
      have HL := Lib.hid hL
      generalize lenI (nthN ps k) = X at *
      generalize nthN ps k = p at *
      have hi0 : (0 : Int) ≤ (k : Int) := by omega
      have hi1 : (k : Int) < (n : Int) := by omega
      clear hL
      by_cases h0 : k = 0
      · have h0' : ((k : Int) == 0) = true := by simp; omega
        rw [if_pos (.inl h0)] at hst
        have Hst := Lib.hid hst
        clear h0 hst
        go_wp2_with fail
        refine HL.out.mono ?_
        rintro e w3 ⟨rfl, rfl⟩
        go_wp2_with fail
        go_roundw
        case rel => exact ⟨k + 1, X, by omega, by go_num, rfl, Hst.out.symm, by first | rfl | trivial⟩
        case measure => simp [intOf]; omega
      · have h0' : ((k : Int) == 0) = false := by simp; omega
        by_cases h1 : X < Q
        · have h1' : decide (X < Q) = true := by simpa using h1
          rw [if_pos (.inr h1)] at hst
          have Hst := Lib.hid hst
          clear h0 h1 hst
          go_wp2_with fail
          refine HL.out.mono ?_
          rintro e w3 ⟨rfl, rfl⟩
          go_wp2_with fail
          go_roundw
          case rel => exact ⟨k + 1, X, by omega, by go_num, rfl, Hst.out.symm, by first | rfl | trivial⟩
          case measure => simp [intOf]; omega
        · have h1' : decide (X < Q) = false := by simpa using h1
          rw [if_neg (by omega)] at hst
          have Hst := Lib.hid hst
          clear h0 h1 hst
          go_wp2_with fail
          refine HL.out.mono ?_
          rintro e w3 ⟨rfl, rfl⟩
          go_wp2_with fail
          go_roundw
          case rel => exact ⟨k + 1, Q, by omega, by go_num, rfl, Hst.out.symm, by first | rfl | trivial⟩
          case measure => simp [intOf]; omega
    · have hkn : k = n := by omega
      have Hr : Hid (fewI ps = Q) := Lib.hid (by unfold fewI; rw [HQ.out, Hn.out, hkn])
      clear hst
      go_wp2_with fail
      go_ret
      rw [Hr.out]
      exact ⟨rfl, rfl⟩

set_option maxHeartbeats 800000 in
theorem forced1_is (dm : Int) (pt : Value) (rt sz st ru hd cap : Int) (n : Nat) (ps : List Nat) (w : World) (hp : Words w pt ps) (hps : ∀ p ∈ ps, p < 18446744073709551616) (hpl : ps.length ≤ 1000) :
    Calls Tryz.prog 54 #[.agg #[.int .i64 1, .int .i64 dm, pt, .int .i64 rt, .int .i64 sz, .int .i64 st, .int .i64 ru, .int .i64 hd], .int .i64 n, .int .i64 cap] w (CostOut w (fewI ps)) := by
  obtain ⟨w1, ew, hb1, hsz1, hcu⟩ := box_cust w 1 dm pt rt sz st ru hd
  have Hew := Lib.hid ew
  have H := Lib.hid (fewest_is pt ps w1 (hp.below hb1) hps hpl)
  obtain ⟨c0, c1, c2, c3, c4, c5, c6, c7⟩ := hcu
  clear ew hsz1 hp hps
  go_enter Tryz.func54, Tryz.ntmps54
  go_upto_region 1 with (fail)
  rw [Hew.out]
  go_wp2_with fail
  refine H.out.mono ?_
  rintro e w2 ⟨rfl, rfl⟩
  go_wp2_with fail
  go_ret
  exact ⟨rfl, hb1⟩

set_option maxHeartbeats 1600000 in
theorem refForced1_is (dm : Int) (pt : Value) (rt sz st ru hd cap : Int) (n : Nat) (ps : List Nat) (w : World) (hp : Words w pt ps) (hps : ∀ p ∈ ps, p < 18446744073709551616) (hpl : ps.length ≤ 1000) (hp1 : 0 < ps.length) :
    Calls Tryz.prog 31 #[.agg #[.int .i64 1, .int .i64 dm, pt, .int .i64 rt, .int .i64 sz, .int .i64 st, .int .i64 ru, .int .i64 hd], .int .i64 n, .int .i64 cap] w (CostOut w (fewI ps)) := by
  obtain ⟨w1, ew, hb1, hsz1, hcu⟩ := box_cust w 1 dm pt rt sz st ru hd
  obtain ⟨a, m, c, rfl, hm, _, _, hc⟩ := (hp.below hb1).open
  have Hew := Lib.hid ew
  have Hc := Lib.hid hc
  have Hm := Lib.hid hm
  have Hps := Lib.hid hps
  have hsz : w.heap.size ≤ w1.heap.size := hb1.size
  have Hsame := Lib.hid (few_same ps ps.length hp1)
  obtain ⟨c0, c1, c2, c3, c4, c5, c6, c7⟩ := hcu
  have hm1000 : m ≤ 1000 := by omega
  clear ew hsz1 hp hps hc hm hp1 hpl
  go_enter Tryz.func31, Tryz.ntmps31
  go_upto_region 1 with (fail)
  rw [Hew.out]
  go_wp2_with fail
  go_loopw [7, 8] (fun s i wr => ∃ (k : Nat) (Q : Int), k ≤ m ∧ i = .int .i64 k ∧ s = .int .i64 Q ∧ Q = fewRef ps k ∧ Below w1.heap.size w1 wr) (fun _ i _ => m - (intOf i).toNat)
  case atStart => exact ⟨0, 64, Nat.zero_le _, rfl, rfl, rfl, Below.refl _ _⟩
  case round =>
    obtain ⟨k, Q, hk, rfl, rfl, hQ, hb⟩ := hrel
    have hst : fewRef ps (k + 1) = if lenI (nthN ps k) < Q then lenI (nthN ps k) else Q := by rw [fewRef, ← hQ]
    have HQ := Lib.hid hQ
    have Hb := Lib.hid hb
    obtain ⟨d0, d1, d2, d3, d4, d5, d6, d7⟩ : IsCust wr w.heap.size 1 dm (.slice a m c) rt sz st ru hd := IsCust.below ⟨c0, c1, c2, c3, c4, c5, c6, c7⟩ hb
    clear hQ
    by_cases hlt : k < m
    · obtain ⟨b, o, rfl, hbl, f0⟩ := Hc.out k hlt
      have f0 := cell_below hb f0
      have HL := Lib.hid (refAll_is (nthN ps k) wr (Hps.out _ (nthN_mem (by rw [Hm.out]; exact hlt))))
      have hX : ((allUpto (nthN ps k) 0 64).length : Int) = lenI (nthN ps k) := rfl
      have HX := Lib.hid hX
      have hXb := lenI_bd (nthN ps k)
      generalize lenI (nthN ps k) = X at *
      generalize nthN ps k = p at *
      have hi0 : (0 : Int) ≤ (k : Int) := by omega
      have hi1 : (k : Int) < (m : Int) := by omega
      clear hX hb
      go_wp2_with fail
      refine HL.out.mono ?_
      rintro e w3 ⟨v, rfl, hown, hb3⟩
      obtain ⟨va, vn, vc, rfl, hvn, _, _⟩ := hown.ints.open
      have hvX : (vn : Int) = X := by rw [← HX.out, hvn]
      have Hb3 := Lib.hid (bel2 Hb.out hb3)
      clear hown hb3 hvn
      by_cases h1 : X < Q
      · have h1' : decide ((vn : Int) < Q) = true := by rw [hvX]; simpa using h1
        rw [if_pos h1] at hst
        have Hst := Lib.hid hst
        have HvX := Lib.hid hvX
        clear h1 hst hvX
        go_wp2_with fail
        go_roundw
        case rel => exact ⟨k + 1, X, by omega, by go_num, by rw [HvX.out], Hst.out.symm, Hb3.out⟩
        case measure => simp [intOf]; omega
      · have h1' : decide ((vn : Int) < Q) = false := by rw [hvX]; simpa using h1
        rw [if_neg h1] at hst
        have Hst := Lib.hid hst
        clear h1 hst hvX
        go_wp2_with fail
        go_roundw
        case rel => exact ⟨k + 1, Q, by omega, by go_num, rfl, Hst.out.symm, Hb3.out⟩
        case measure => simp [intOf]; omega
    · have hkm : k = m := by omega
      have Hr : Hid (fewI ps = Q) := Lib.hid (by unfold fewI; rw [← Hsame.out, HQ.out, Hm.out, hkm])
      clear hst
      go_wp2_with fail
      go_ret
      rw [Hr.out]
      exact ⟨rfl, hb1.trans (hb.mono hsz)⟩

set_option maxHeartbeats 800000 in
theorem refWants_is (kd dm : Int) (pt : Value) (rt sz st ru hd : Int) (n : Nat) (w : World) (T : TankOk st rt sz ru hd) (hn : n ≤ 64) :
    Calls Tryz.prog 32 #[.agg #[.int .i64 kd, .int .i64 dm, pt, .int .i64 rt, .int .i64 sz, .int .i64 st, .int .i64 ru, .int .i64 hd], .int .i64 n] w (CostOut w (wantsI rt st n)) := by
  obtain ⟨w1, ew, hb1, hsz1, hcu⟩ := box_cust w kd dm pt rt sz st ru hd
  have Hew := Lib.hid ew
  have h1 := mul_le_64 T.rt0 T.rt1 (show n ≤ 65 by omega)
  have := T.st0; have := T.st1; have := T.sz1
  obtain ⟨c0, c1, c2, c3, c4, c5, c6, c7⟩ := hcu
  obtain ⟨M, hM⟩ : ∃ M, M = rt * n := ⟨_, rfl⟩
  have hw : wrap64 (rt * n) = M := by rw [wrap_id (by omega) (by omega)]; exact hM.symm
  have hw2 : wrap64 (M - st) = M - st := wrap_id (by omega) (by omega)
  have hr : wantsI rt st n = max (M - st) 0 := by rw [hM]; rfl
  have Hr := Lib.hid hr
  clear ew hsz1 T hr h1 hM
  go_enter Tryz.func32, Tryz.ntmps32
  go_upto_region 1 with (fail)
  rw [Hew.out]
  by_cases h0 : M - st < 0
  · have h0' : decide (M - st < 0) = true := by simpa using h0
    have Hr2 : Hid (wantsI rt st n = 0) := Lib.hid (by rw [Hr.out]; omega)
    clear h0
    go_wp2_with fail
    go_ret
    rw [Hr2.out]
    exact ⟨rfl, hb1⟩
  · have h0' : decide (M - st < 0) = false := by simpa using h0
    have Hr2 : Hid (wantsI rt st n = wrap64 (M - st)) := Lib.hid (by rw [Hr.out, hw2]; omega)
    clear h0
    go_wp2_with fail
    go_ret
    rw [Hr2.out]
    exact ⟨rfl, hb1⟩

/-- As many as it takes, one by one. -/
theorem forced_by {w one : Int} {n m : Nat} (h1 : 0 ≤ one) (hm : m ≤ n) (hp : ∀ j : Nat, j < m → one * j < w) (hd : w - one * m ≤ 0 ∨ m = n) : (m : Int) = if w ≤ 0 then 0 else if one < 1 then (n : Int) else min (ceilI w one) n := by
  by_cases hw : w ≤ 0
  · rw [if_pos hw]
    rcases Nat.eq_zero_or_pos m with h | h
    · omega
    · have := hp 0 h
      simp at this
      omega
  · rw [if_neg hw]
    by_cases h0 : one < 1
    · rw [if_pos h0]
      have : one = 0 := by omega
      subst this
      rcases hd with h | h
      · simp at h; omega
      · omega
    · rw [if_neg h0]
      have hc1 : one * ((w + one - 1) / one) + (w + one - 1) % one = w + one - 1 := Int.mul_ediv_add_emod _ _
      have hc2 := Int.emod_nonneg (w + one - 1) (show one ≠ 0 by omega)
      have hc3 := Int.emod_lt_of_pos (w + one - 1) (show 0 < one by omega)
      unfold ceilI
      obtain ⟨q, hq⟩ : ∃ q, q = (w + one - 1) / one := ⟨_, rfl⟩
      rw [← hq] at hc1 ⊢
      -- one * q ≥ w and one * (q - 1) < w
      have key1 : w ≤ one * q := by omega
      have key2 : one * (q - 1) < w := by rw [Int.mul_sub, Int.mul_one]; omega
      have le1 : (m : Int) ≤ q := by
        rcases Int.lt_or_le q (m : Int) with h | h
        · have hq0 : 0 ≤ q := by
            rcases Int.lt_or_le q 0 with h' | h'
            · have := Int.mul_le_mul_of_nonneg_left (show q ≤ 0 by omega) (show 0 ≤ one by omega)
              rw [Int.mul_zero] at this; omega
            · exact h'
          have := hp q.toNat (by omega)
          rw [show ((q.toNat : Nat) : Int) = q by omega] at this
          omega
        · exact h
      rcases hd with h | h
      · have : q ≤ m := by
          rcases Int.lt_or_le (m : Int) q with h' | h'
          · have := Int.mul_le_mul_of_nonneg_left (show (m : Int) ≤ q - 1 by omega) (show 0 ≤ one by omega)
            omega
          · exact h'
        omega
      · omega

set_option maxHeartbeats 1600000 in
theorem refForced2_is (dm : Int) (pt : Value) (rt sz st ru hd cap : Int) (n : Nat) (w : World) (T : TankOk st rt sz ru hd) (hn : n ≤ 64) :
    Calls Tryz.prog 31 #[.agg #[.int .i64 2, .int .i64 dm, pt, .int .i64 rt, .int .i64 sz, .int .i64 st, .int .i64 ru, .int .i64 hd], .int .i64 n, .int .i64 cap] w (CostOut w (forcedI rt st sz n cap)) := by
  obtain ⟨w1, ew, hb1, hsz1, hcu⟩ := box_cust w 2 dm pt rt sz st ru hd
  have Hew := Lib.hid ew
  have HT := Lib.hid T
  have HW := Lib.hid (refWants_is 2 dm pt rt sz st ru hd n w1 T hn)
  have hsz : w.heap.size ≤ w1.heap.size := hb1.size
  obtain ⟨c0, c1, c2, c3, c4, c5, c6, c7⟩ := hcu
  have z0 := T.sz0
  have z1 := T.sz1
  have hwb : 0 ≤ wantsI rt st n ∧ wantsI rt st n ≤ 7000 := by
    have h1 := mul_le_64 T.rt0 T.rt1 (show n ≤ 65 by omega)
    have := T.st0
    unfold wantsI
    omega
  obtain ⟨one, hone⟩ : ∃ one, one = max 0 (min cap sz) := ⟨_, rfl⟩
  have hob : 0 ≤ one ∧ one ≤ 100 := by omega
  have hF : forcedI rt st sz n cap = if wantsI rt st n ≤ 0 then 0 else if one < 1 then (n : Int) else min (ceilI (wantsI rt st n) one) n := by
    unfold forcedI
    by_cases h0 : wantsI rt st n = 0
    · rw [if_pos h0, if_pos (show wantsI rt st n ≤ 0 by omega)]
    · rw [if_neg h0, if_neg (show ¬ wantsI rt st n ≤ 0 by omega)]
      by_cases h1 : min cap sz < 1
      · rw [if_pos h1, if_pos (show one < 1 by omega)]
      · rw [if_neg h1, if_neg (show ¬ one < 1 by omega), show min cap sz = one by omega]
  generalize wantsI rt st n = W at *
  have HF := Lib.hid hF
  have Hone := Lib.hid hone
  clear ew hsz1 T hF hone
  go_enter Tryz.func31, Tryz.ntmps31
  go_upto_region 1 with (fail)
  rw [Hew.out]
  go_upto_if 39 with fail
  go_cut [10] (fun s10 wx => s10 = .int .i64 (min cap sz) ∧ w1 = wx)
  case first =>
    by_cases h : cap < sz
    · have h' : decide (cap < sz) = true := by simpa using h
      have hm : Hid (min cap sz = cap) := Lib.hid (by omega)
      clear h
      rw [h']
      go_wp2_with fail
      go_meet
      exact ⟨by rw [hm.out], rfl⟩
    · have h' : decide (cap < sz) = false := by simpa using h
      have hm : Hid (min cap sz = sz) := Lib.hid (by omega)
      clear h
      rw [h']
      go_wp2_with fail
      go_meet
      exact ⟨by rw [hm.out], rfl⟩
  case rest =>
    obtain ⟨rfl, rfl⟩ := hcut
    obtain ⟨w1, rfl⟩ : ∃ wq : World, wq = w1 := ⟨_, rfl⟩
    obtain ⟨M, hM⟩ : ∃ M, min cap sz = M := ⟨_, rfl⟩
    rw [hM] at Hone ⊢
    clear hM
    go_upto_if 42 with fail
    go_cut [10] (fun s10 wx => s10 = .int .i64 one ∧ w1 = wx)
    case first =>
      by_cases h : M < 0
      · have h' : decide (M < 0) = true := by simpa using h
        have hm : Hid (one = 0) := Lib.hid (by rw [Hone.out]; omega)
        clear h
        rw [h']
        go_wp2_with fail
        go_meet
        exact ⟨by rw [hm.out], rfl⟩
      · have h' : decide (M < 0) = false := by simpa using h
        have hm : Hid (one = M) := Lib.hid (by rw [Hone.out]; omega)
        clear h
        rw [h']
        go_wp2_with fail
        go_meet
        exact ⟨by rw [hm.out], rfl⟩
    case rest =>
      obtain ⟨rfl, rfl⟩ := hcut
      obtain ⟨w1, rfl⟩ : ∃ wq : World, wq = w1 := ⟨_, rfl⟩
      go_wp2_with fail
      refine HW.out.mono ?_
      rintro e w2 ⟨rfl, hb2⟩
      have Hb2 := Lib.hid (hb1.trans (hb2.mono hsz))
      clear hb2
      go_wp2_with fail
      go_loopw [11, 12] (fun l m wr => ∃ (k : Nat) (L : Int), k ≤ n ∧ m = .int .i64 k ∧ l = .int .i64 L ∧ L = W - one * k ∧ (∀ j : Nat, j < k → one * j < W) ∧ wr = w2) (fun _ m _ => n - (intOf m).toNat)
      case atStart => exact ⟨0, W, Nat.zero_le _, rfl, rfl, by simp, fun j hj => by omega, rfl⟩
      case round =>
        obtain ⟨k, L, hk, rfl, rfl, hL, hp, rfl⟩ := hrel
        have Hp := Lib.hid hp
        have hm1 : 0 ≤ one * (k : Int) ∧ one * (k : Int) ≤ 6400 := ⟨Int.mul_nonneg hob.1 (by omega), by
          have : one * (k : Int) ≤ 100 * 64 := Int.mul_le_mul hob.2 (by omega) (by omega) (by omega)
          omega⟩
        have e2 : one * ((k + 1 : Nat) : Int) = one * k + one := by rw [Int.natCast_succ, Int.mul_add, Int.mul_one]
        have HL := Lib.hid hL
        have hLb : -6400 ≤ L ∧ L ≤ 7000 := by omega
        have hL2 : L - one = W - one * ((k + 1 : Nat) : Int) := by omega
        have HL2 := Lib.hid hL2
        have hpos : ¬ L ≤ 0 → ∀ j : Nat, j < k + 1 → one * j < W := fun h j hj => by
          rcases Nat.lt_succ_iff_lt_or_eq.1 hj with h' | rfl
          · exact hp j h'
          · omega
        have Hpos := Lib.hid hpos
        have hw : wrap64 (L - one) = L - one := wrap_id (by omega) (by omega)
        have Hw := Lib.hid hw
        clear hp hL hm1 e2 hL2 hpos
        have hcase : (decide (0 < L) = false ∧ L ≤ 0) ∨ (decide (0 < L) = true ∧ decide (k < n) = false ∧ k = n) ∨ (decide (0 < L) = true ∧ k < n ∧ ¬ L ≤ 0) := by
          by_cases h0 : 0 < L
          · by_cases h1 : k < n
            · exact .inr (.inr ⟨by simpa using h0, h1, by omega⟩)
            · exact .inr (.inl ⟨by simpa using h0, by simpa using h1, by omega⟩)
          · exact .inl ⟨by simpa using h0, by omega⟩
        rcases hcase with ⟨q1, q2⟩ | ⟨q1, q2, q3⟩ | ⟨q1, q2, q3⟩
        · have Hr : Hid (forcedI rt st sz n cap = (k : Int)) := Lib.hid (by rw [HF.out]; exact (forced_by hob.1 hk Hp.out (.inl (by rw [← HL.out]; exact q2))).symm)
          clear q2
          go_wp2_with fail
          go_ret
          rw [Hr.out]
          exact ⟨rfl, Hb2.out⟩
        · have Hr : Hid (forcedI rt st sz n cap = (k : Int)) := Lib.hid (by rw [HF.out]; exact (forced_by hob.1 hk Hp.out (.inr q3)).symm)
          clear q3
          go_wp2_with fail
          go_ret
          rw [Hr.out]
          exact ⟨rfl, Hb2.out⟩
        · have Hp2 := Lib.hid (Hpos.out q3)
          have hi1 : (k : Int) < (n : Int) := by omega
          clear q3
          go_wp2_with fail
          go_roundw
          case rel => exact ⟨k + 1, L - one, by omega, by go_num, by first | rfl | rw [Hw.out], HL2.out, Hp2.out, by first | rfl | trivial⟩
          case measure => simp [intOf]; omega
end

section
open Go.RowKit
set_option linter.unusedVariables false
set_option maxRecDepth 100000

/-- Prices from 0 to 1000. -/
def PriceOk (P : List Int) : Prop := ∀ x ∈ P, 0 ≤ x ∧ x ≤ 1000
theorem PriceOk.at_ {P : List Int} (h : PriceOk P) : ∀ d, 0 ≤ priceAt P d ∧ priceAt P d ≤ 1000 := priceAt_bd h
theorem PriceOk.fits {P : List Int} (h : PriceOk P) : ∀ x ∈ P, fitsI x = true := fun x hx => by have := h x hx; exact fitsI_iff.2 (by omega)

theorem price_fold {P : List Int} (h : PriceOk P) (xs : List Int) (hx : ∀ x ∈ xs, 0 ≤ x) (acc : Int) (ha : 0 ≤ acc) (hl : acc + 1000 * xs.length ≤ 1000000000) : xs.foldl (priceStep P) acc = acc + (xs.map fun d => priceAt P d).sum := by
  induction xs generalizing acc with
  | nil => simp
  | cons x xs ih =>
    have h0 := hx x (List.mem_cons_self ..)
    have hb := h.at_ x
    have hs : priceStep P acc x = acc + priceAt P x := by
      unfold priceStep priceAt
      by_cases hd : x < (P.length : Int)
      · rw [if_pos hd, if_pos ⟨h0, hd⟩]
        have h1 := h _ (nth_mem (show x.toNat < P.length by omega))
        exact sat_fit (fitsI_iff.2 (by simp at hl; omega))
      · rw [if_neg hd, if_neg (by omega)]; omega
    rw [List.foldl_cons, hs, ih (fun y hy => hx y (List.mem_cons_of_mem _ hy)) _ (by omega) (by simp at hl; omega)]
    simp
    omega
theorem price_same {P : List Int} (h : PriceOk P) (dm : Int) (p : Nat) : priceI P p = priceV P (onV dm p) := by
  unfold priceI priceUpto
  have hlen := allUpto_len p 0 64
  rw [List.take_of_length_le hlen, price_fold h _ (fun x hx => (all_bd p 0 64 x hx).1) 0 (by omega) (by omega)]
  unfold priceV onV
  rw [List.map_map]
  simp
  rfl
theorem cost1 (st rt sz hd : Int) {P : List Int} (h : PriceOk P) (dm : Int) (p n : Nat) : costV 1 st rt sz hd P (onV dm p) n = priceI P p := by
  unfold costV
  rw [if_pos rfl, price_same h dm p]; omega
theorem best_min (P : List Int) (l : List Nat) (k : Nat) (hk : 0 < k) : 0 ≤ (bestUpto P l k).1 ∧ (bestUpto P l k).1 < k ∧ (bestUpto P l k).2 = priceI P (nthN l (bestUpto P l k).1.toNat) ∧ ∀ j, j < k → (bestUpto P l k).2 ≤ priceI P (nthN l j) := by
  induction k with
  | zero => omega
  | succ k ih =>
    rw [bestUpto]
    by_cases hc : (bestUpto P l k).1 < 0 ∨ priceI P (nthN l k) < (bestUpto P l k).2
    · rw [if_pos hc]
      simp only []
      refine ⟨by omega, by omega, by rw [Int.toNat_natCast], fun j hj => ?_⟩
      by_cases e : j = k
      · subst e; exact Int.le_refl _
      · have := ih (by omega)
        have h2 := this.2.2.2 j (by omega)
        rcases hc with hc | hc
        · omega
        · omega
    · rw [if_neg hc]
      have hk0 : 0 < k := by
        rcases Nat.eq_zero_or_pos k with h | h
        · subst h; exfalso; apply hc; left; simp [bestUpto]
        · exact h
      obtain ⟨h1, h2, h3, h4⟩ := ih hk0
      refine ⟨h1, by omega, h3, fun j hj => ?_⟩
      by_cases e : j = k
      · subst e; omega
      · exact h4 j (by omega)
theorem onV_len (dm : Int) {p : Nat} (hp : p < 18446744073709551616) : (onV dm p).length = 0 ↔ p = 0 := by
  unfold onV
  rw [List.length_map]
  constructor
  · intro h
    apply Nat.eq_of_testBit_eq
    intro k
    rw [Nat.zero_testBit]
    by_cases hk : k < 64
    · cases hb : p.testBit k with
      | false => rfl
      | true =>
        obtain ⟨m, hm, _⟩ := all_find p hk hb
        omega
    · exact test_over hp (by omega)
  · intro h
    subst h
    unfold allUpto
    rw [List.length_map]
    simp
theorem allP_eq (dm cap : Int) {ps : List Nat} (hps : ∀ p ∈ ps, p < 18446744073709551616) : allP dm cap ps = (carriedL dm cap ps).map (onV dm) := by
  unfold allP carriedL
  congr 1
  apply List.filter_congr
  intro p hp
  have := onV_len dm (hps p hp)
  by_cases h : p = 0
  · rw [decide_eq_true h, decide_eq_true (this.2 h)]
  · rw [decide_eq_false h, decide_eq_false (fun h' => h (this.1 h'))]
theorem patOk_iff (dm cap : Int) (ps : List Nat) (P : List Int) : patOk dm cap ps P = decide (0 < (carriedL dm cap ps).length) := by
  unfold patOk patB
  rcases Nat.eq_zero_or_pos (carriedL dm cap ps).length with h | h
  · rw [h]; simp [bestUpto]
  · have := (best_min P (carriedL dm cap ps) _ h).1
    rw [decide_eq_true h, decide_eq_false (by omega)]; rfl
/-- The cheapest pattern is the least of all. -/
theorem least_pat (st rt sz hd : Int) {P : List Int} (h : PriceOk P) (dm cap : Int) {ps : List Nat} (hps : ∀ p ∈ ps, p < 18446744073709551616) (n : Nat) (hp : 0 < (carriedL dm cap ps).length) :
    leastU (fun V => costV 1 st rt sz hd P V n) (allP dm cap ps) (allP dm cap ps).length = costV 1 st rt sz hd P (patV dm cap ps P) n ∧ ∃ p, p ∈ carriedL dm cap ps ∧ patV dm cap ps P = onV dm p := by
  obtain ⟨h1, h2, h3, h4⟩ := best_min P (carriedL dm cap ps) _ hp
  have hv : patV dm cap ps P = onV dm (nthN (carriedL dm cap ps) (bestUpto P (carriedL dm cap ps) (carriedL dm cap ps).length).1.toNat) := by
    unfold patV patB
    rw [if_neg (by omega)]
  have hm : nthN (carriedL dm cap ps) (bestUpto P (carriedL dm cap ps) (carriedL dm cap ps).length).1.toNat ∈ carriedL dm cap ps := nthN_mem (by omega)
  refine ⟨?_, _, hm, hv⟩
  refine leastU_eq (f := fun V => costV 1 st rt sz hd P V n) ?_ ?_
  · rw [allP_eq dm cap hps, hv]
    exact List.mem_map.2 ⟨_, hm, rfl⟩
  · intro U hU
    rw [allP_eq dm cap hps] at hU
    obtain ⟨q, hq, rfl⟩ := List.mem_map.1 hU
    obtain ⟨j, hj, rfl⟩ := List.getElem_of_mem hq
    rw [hv, cost1 st rt sz hd h, cost1 st rt sz hd h, ← h3, ← nthN_lt hj]
    exact h4 j hj
/-- The cheapest fills are the least of all. -/
theorem least_fill {st sz rt ru hd cap : Int} {P : List Int} {n S : Nat} {s : Int × Int} (T : TankOk st rt sz ru hd) (hn : n ≤ 20) (hs : stp st sz rt hd cap P n n = some s) (hbit : ∀ k, n ≤ k → S.testBit k = false) (hok : OkTo st sz rt cap S n) (hc : costS st sz rt hd P S n = s.1) :
    leastU (fun V => costV 2 st rt sz hd P V n) (allS st sz rt cap n (2 ^ n)) (allS st sz rt cap n (2 ^ n)).length = s.1 ∧ costV 2 st rt sz hd P (visitsOf (fillQ st sz rt S n)) n = s.1 ∧ 0 < (allS st sz rt cap n (2 ^ n)).length := by
  have h1 := costV_fill P T hn hok
  have hm : visitsOf (fillQ st sz rt S n) ∈ allS st sz rt cap n (2 ^ n) := by
    unfold allS
    refine List.mem_map.2 ⟨S, List.mem_filter.2 ⟨?_, by simpa using hok⟩, rfl⟩
    exact List.mem_range.2 (Nat.lt_pow_two_of_testBit S hbit)
  refine ⟨?_, by rw [h1, hc], List.length_pos_of_mem hm⟩
  rw [← hc, ← h1]
  refine leastU_eq (f := fun V => costV 2 st rt sz hd P V n) hm (fun U hU => ?_)
  unfold allS at hU
  obtain ⟨R, hR, rfl⟩ := List.mem_map.1 hU
  have hokR : OkTo st sz rt cap R n := by simpa using (List.mem_filter.1 hR).2
  rw [h1, hc, costV_fill P T hn hokR]
  obtain ⟨y, hy, hle⟩ := stp_le (hd := hd) (cap := cap) (P := P) T.st0 n (Nat.le_refl n) R hokR (fun h => absurd h (Nat.lt_irrefl n))
  rw [hs] at hy
  simp only [Option.some.injEq] at hy
  subst hy
  rw [if_neg (Nat.lt_irrefl n)] at hle
  omega
theorem none_fill {st sz rt ru hd cap : Int} {P : List Int} {n : Nat} (T : TankOk st rt sz ru hd) (hs : stp st sz rt hd cap P n n = none) : allS st sz rt cap n (2 ^ n) = [] ∧ ∀ S, ¬ OkTo st sz rt cap S n := by
  have key : ∀ S, ¬ OkTo st sz rt cap S n := fun S hok => by
    obtain ⟨y, hy, hle⟩ := stp_le (hd := hd) (cap := cap) (P := P) T.st0 n (Nat.le_refl n) S hok (fun h => absurd h (Nat.lt_irrefl n))
    rw [hs] at hy; simp at hy
  refine ⟨?_, key⟩
  unfold allS
  rw [List.map_eq_nil_iff, List.filter_eq_nil_iff]
  intro S _
  simp
  exact key S
theorem allS_good {st sz rt ru hd cap : Int} {n k : Nat} (T : TankOk st rt sz ru hd) (hn : n ≤ 20) : ∀ V ∈ allS st sz rt cap n k, V.length ≤ 64 ∧ ∀ p ∈ V, fitsI p.2 = true := by
  intro V hV
  unfold allS at hV
  obtain ⟨S, hS, rfl⟩ := List.mem_map.1 hV
  have hok : OkTo st sz rt cap S n := by simpa using (List.mem_filter.1 hS).2
  have h1 := visitsTo_len (fillQ st sz rt S n) n
  refine ⟨by unfold visitsOf; rw [fillQ_len]; omega, ?_⟩
  unfold visitsOf
  exact visitsTo_fits _ (fill_okQ T (by omega) (fun k hk => (hok k hk).1)) _ (Nat.le_refl _)
theorem allP_good {dm cap : Int} {ps : List Nat} (hdm : fitsI dm = true) : ∀ V ∈ allP dm cap ps, V.length ≤ 64 ∧ ∀ p ∈ V, fitsI p.2 = true := by
  intro V hV
  unfold allP at hV
  obtain ⟨p, _, rfl⟩ := List.mem_map.1 hV
  refine ⟨by unfold onV; rw [List.length_map]; exact allUpto_len _ _ _, fun x hx => ?_⟩
  unfold onV at hx
  obtain ⟨d, _, rfl⟩ := List.mem_map.1 hx
  exact hdm

/-- The least price of the first days. -/
def minTo (P : List Int) : Nat → Int
  | 0 => priceAt P 0
  | k + 1 => min (minTo P k) (priceAt P k)
theorem minTo_bd {P : List Int} (h : PriceOk P) (k : Nat) : 0 ≤ minTo P k ∧ minTo P k ≤ 1000 := by
  induction k with
  | zero => exact h.at_ 0
  | succ k ih =>
    have := h.at_ k
    rw [minTo]
    omega
theorem minTo_le (P : List Int) (k d : Nat) (hd : d < k) : minTo P k ≤ priceAt P d := by
  induction k with
  | zero => omega
  | succ k ih =>
    rw [minTo]
    by_cases e : d = k
    · subst e; omega
    · have := ih (by omega); omega
/-- What no visits cost less than, by the least price. -/
def floorI (kd : Int) (ps : List Nat) (rt sz st hd cap : Int) (P : List Int) (n : Nat) : Int :=
  if kd = 1 then fewI ps * minTo P n else forcedI rt st sz n cap * minTo P n + keepsI st rt hd n
def boundI (kd dm : Int) (ps : List Nat) (rt sz st ru hd cap : Int) (P : List Int) (n : Nat) : Int :=
  if kd = 1 then (if patOk dm cap ps P = true then costV 1 st rt sz hd P (patV dm cap ps P) n else floorI 1 ps rt sz st hd cap P n)
  else if ru = 1 then (match stp st sz rt hd cap P n n with | some s => s.1 | none => floorI 2 ps rt sz st hd cap P n)
  else floorI 2 ps rt sz st hd cap P n
end

end Go.Proofs.YtnhcgpkcmfelkaaGreat
