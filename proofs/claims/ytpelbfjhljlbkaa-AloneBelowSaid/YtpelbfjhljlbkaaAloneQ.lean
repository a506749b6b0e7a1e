/-
  My own work: policy.Keeps, tranterref10.Keeps, Forced (of patterns and of tanks): their contracts.
-/
import Derived.Test.YtpelbfjhljlbkaaAloneN
import Derived.Deep.QuietTactic
import Derived.BigQuiet
namespace Go.Proofs.Ytpelbfjhljlbkaa
open Go.RowKit
set_option linter.unusedVariables false
set_option maxRecDepth 100000
attribute [local go_sem ↓] Go.wp_at_zero Go.wp_at_succ

set_option maxHeartbeats 800000 in
theorem keeps_is (kd dm : Int) (pt : Value) (rt sz st ru hd : Int) (n : Nat) (w : World) (T : TankOk st rt sz ru hd) (hn : n ≤ 64) :
    Calls Try.prog 58 #[.agg #[.int .i64 kd, .int .i64 dm, pt, .int .i64 rt, .int .i64 sz, .int .i64 st, .int .i64 ru, .int .i64 hd], .int .i64 n] w (CostOut w (keepsI st rt hd n)) := by
  obtain ⟨w1, ew, hb1, hsz1, hcu⟩ := box_cust w kd dm pt rt sz st ru hd
  have Hew := Lib.hid ew
  have HT := Lib.hid T
  have hkb := keepsI_bd T hn
  have hw : wrap64 (keepsI st rt hd n) = keepsI st rt hd n := wrap_id (by omega) (by omega)
  have Hw : Hid (wrap64 (hd * keepsTo st rt n) = keepsI st rt hd n) := Lib.hid hw
  obtain ⟨c0, c1, c2, c3, c4, c5, c6, c7⟩ := hcu
  clear ew hsz1 T hkb hw
  go_enter Try.func58, Try.ntmps58
  go_upto_region 1 with (fail)
  rw [Hew.out]
  go_quiet (fail)
  go_wp2_with fail
  go_loopw [5, 6, 10] (fun s t i wr => ∃ k : Nat, k ≤ n ∧ i = .int .i64 k ∧ t = .int .i64 (st - rt * k) ∧ s = .int .i64 (keepsTo st rt k) ∧ Below w1.heap.size w1 wr) (fun _ _ i _ => n - (intOf i).toNat)
  case atStart => exact ⟨0, Nat.zero_le _, rfl, by simp, rfl, below_drewN (Below.refl _ _) _⟩
  case round =>
    obtain ⟨k, hk, rfl, rfl, rfl, hb⟩ := hrel
    obtain ⟨d0, d1, d2, d3, d4, d5, d6, d7⟩ : IsCust wr w.heap.size kd dm pt rt sz st ru hd := IsCust.below ⟨c0, c1, c2, c3, c4, c5, c6, c7⟩ hb
    have Hb := Lib.hid hb
    clear hb
    by_cases hlt : k < n
    · have h1 := mul_le_64 HT.out.rt0 HT.out.rt1 (show k ≤ 65 by omega)
      have h2 := mul_le_64 HT.out.rt0 HT.out.rt1 (show k + 1 ≤ 65 by omega)
      have e2 : rt * ((k + 1 : Nat) : Int) = rt * k + rt := by rw [Int.natCast_succ, Int.mul_add, Int.mul_one]
      have hkb := keeps_bd HT.out k
      have hst : keepsTo st rt (k + 1) = keepsTo st rt k + max (st - rt * ((k : Int) + 1)) 0 := rfl
      have := HT.out.st0; have := HT.out.st1; have := HT.out.sz1
      obtain ⟨X, hX⟩ : ∃ X, X = st - rt * k := ⟨_, rfl⟩
      obtain ⟨Y, hY⟩ : ∃ Y, Y = st - rt * ((k + 1 : Nat) : Int) := ⟨_, rfl⟩
      have hY2 : st - rt * ((k : Int) + 1) = Y := by rw [hY, Int.natCast_succ]
      rw [hY2] at hst
      have hw : wrap64 (X - rt) = Y := by rw [wrap_id (by omega) (by omega)]; omega
      obtain ⟨M, hM⟩ : ∃ M, max Y 0 = M := ⟨_, rfl⟩
      rw [hM] at hst
      have hMY : (if Y < 0 then (0 : Int) else Y) = M := by split <;> omega
      generalize keepsTo st rt k = Q at *
      have hw2 : wrap64 (Q + M) = Q + M := wrap_id (by omega) (by omega)
      have HMY := Lib.hid hMY
      have HW := Lib.hid hw
      have HW2 := Lib.hid hw2
      have Hst := Lib.hid hst
      have HY := Lib.hid hY
      rw [← hX]
      have hi1 : (k : Int) < (n : Int) := by omega
      clear hst hY hX hY2 h1 h2 e2
      go_wp2_with fail
      go_roundw
      case rel => exact ⟨k + 1, by omega, by go_num, by rw [← HY.out]; first | rfl | rw [HW.out], by rw [Hst.out]; first | rfl | rw [HMY.out] | rw [HMY.out, HW2.out] | rw [HW2.out], Hb.out⟩
      case measure => simp [intOf]; omega
    · have hkn : k = n := by omega
      subst hkn
      generalize keepsTo st rt k = Q at *
      go_wp2_with fail
      go_ret
      rw [← Hw.out]
      exact ⟨rfl, hb1.trans (Hb.out.mono hb1.size)⟩

set_option maxHeartbeats 800000 in
theorem refKeeps_is (kd dm : Int) (pt : Value) (rt sz st ru hd : Int) (n : Nat) (w : World) (T : TankOk st rt sz ru hd) (hn : n ≤ 64) :
    Calls Try.prog 59 #[.agg #[.int .i64 kd, .int .i64 dm, pt, .int .i64 rt, .int .i64 sz, .int .i64 st, .int .i64 ru, .int .i64 hd], .int .i64 n] w (CostOut w (keepsI st rt hd n)) := by
  obtain ⟨w1, ew, hb1, hsz1, hcu⟩ := box_cust w kd dm pt rt sz st ru hd
  have Hew := Lib.hid ew
  have HT := Lib.hid T
  have hkb := keepsI_bd T hn
  have hw : wrap64 (keepsI st rt hd n) = keepsI st rt hd n := wrap_id (by omega) (by omega)
  have Hw : Hid (wrap64 (hd * keepsTo st rt n) = keepsI st rt hd n) := Lib.hid hw
  have hst0 : max (st - rt * ((0 : Nat) : Int)) 0 = st := by have := T.st0; simp; omega
  obtain ⟨c0, c1, c2, c3, c4, c5, c6, c7⟩ := hcu
  have Hst0 := Lib.hid hst0
  clear ew hsz1 T hkb hw hst0
  go_enter Try.func59, Try.ntmps59
  go_upto_region 1 with (fail)
  rw [Hew.out]
  go_wp2_with fail
  go_loopw [5, 6, 7] (fun s t i wr => ∃ (k : Nat) (X : Int), k ≤ n ∧ i = .int .i64 k ∧ t = .int .i64 X ∧ X = max (st - rt * k) 0 ∧ s = .int .i64 (keepsTo st rt k) ∧ wr = w1) (fun _ _ i _ => n - (intOf i).toNat)
  case atStart => exact ⟨0, st, Nat.zero_le _, rfl, rfl, Hst0.out.symm, rfl, rfl⟩
  case round =>
    obtain ⟨k, X, hk, rfl, rfl, hX, rfl, rfl⟩ := hrel
    by_cases hlt : k < n
    · have h1 := mul_le_64 HT.out.rt0 HT.out.rt1 (show k ≤ 65 by omega)
      have h2 := mul_le_64 HT.out.rt0 HT.out.rt1 (show k + 1 ≤ 65 by omega)
      have e2 : rt * ((k + 1 : Nat) : Int) = rt * k + rt := by rw [Int.natCast_succ, Int.mul_add, Int.mul_one]
      have hkb := keeps_bd HT.out k
      have hst : keepsTo st rt (k + 1) = keepsTo st rt k + max (st - rt * ((k : Int) + 1)) 0 := rfl
      have := HT.out.st0; have := HT.out.st1; have := HT.out.sz1; have := HT.out.rt0; have := HT.out.rt1
      obtain ⟨M, hM⟩ : ∃ M, M = max (st - rt * ((k : Int) + 1)) 0 := ⟨_, rfl⟩
      have hM2 : M = max (st - rt * ((k + 1 : Nat) : Int)) 0 := by rw [hM, Int.natCast_succ]
      rw [← hM] at hst
      generalize keepsTo st rt k = Q at *
      have hX2 : 0 ≤ X ∧ X ≤ 100 := by omega
      have hMX : (X - rt < 0 ∧ M = 0) ∨ (0 ≤ X - rt ∧ M = X - rt) := by omega
      have hMb : 0 ≤ M ∧ M ≤ 100 := by omega
      have hw : wrap64 (X - rt) = X - rt := wrap_id (by omega) (by omega)
      have hw2 : wrap64 (Q + M) = Q + M := wrap_id (by omega) (by omega)
      have Hst := Lib.hid hst
      have HM2 := Lib.hid hM2
      have hi1 : (k : Int) < (n : Int) := by omega
      clear hst hX hM hM2 h1 h2 e2
      rcases hMX with ⟨q1, q2⟩ | ⟨q1, q2⟩
      · subst q2
        have q1' : decide (X - rt < 0) = true := by simpa using q1
        have hw2 : wrap64 Q = Q := wrap_id (by omega) (by omega)
        have hQ : Q + 0 = Q := by omega
        clear q1
        go_wp2_with fail
        go_roundw
        case rel => exact ⟨k + 1, _, by omega, by go_num, rfl, HM2.out, by rw [Hst.out, hQ], by first | rfl | trivial⟩
        case measure => simp [intOf]; omega
      · subst q2
        have q1' : decide (X - rt < 0) = false := by simp; omega
        go_wp2_with fail
        go_roundw
        case rel => exact ⟨k + 1, _, by omega, by go_num, rfl, HM2.out, by rw [Hst.out], by first | rfl | trivial⟩
        case measure => simp [intOf]; omega
    · have hkn : k = n := by omega
      subst hkn
      generalize keepsTo st rt k = Q at *
      go_wp2_with fail
      go_ret
      rw [← Hw.out]
      exact ⟨rfl, hb1⟩

/-- The least number of days of patterns. -/
def lenI (p : Nat) : Int := ((allUpto p 0 64).length : Int)
theorem lenI_bd (p : Nat) : 0 ≤ lenI p ∧ lenI p ≤ 64 := by
  have := allUpto_len p 0 64
  unfold lenI
  omega
def fewTo (ps : List Nat) : Nat → Int
  | 0 => 0
  | k + 1 => if k = 0 ∨ lenI (nthN ps k) < fewTo ps k then lenI (nthN ps k) else fewTo ps k
def fewI (ps : List Nat) : Int := fewTo ps ps.length
def fewRef (ps : List Nat) : Nat → Int
  | 0 => 64
  | k + 1 => if lenI (nthN ps k) < fewRef ps k then lenI (nthN ps k) else fewRef ps k
theorem few_same (ps : List Nat) (k : Nat) (hk : 0 < k) : fewRef ps k = fewTo ps k := by
  induction k with
  | zero => omega
  | succ k ih =>
    rw [fewRef, fewTo]
    rcases Nat.eq_zero_or_pos k with h | h
    · subst h
      have := lenI_bd (nthN ps 0)
      rw [if_pos (show (0 : Nat) = 0 ∨ lenI (nthN ps 0) < fewTo ps 0 from .inl rfl)]
      have e : fewRef ps 0 = 64 := rfl
      rw [e]
      split <;> omega
    · rw [ih h]
      by_cases hc : lenI (nthN ps k) < fewTo ps k
      · rw [if_pos hc, if_pos (.inr hc)]
      · rw [if_neg hc, if_neg (by omega)]
theorem few_bd (ps : List Nat) (k : Nat) : 0 ≤ fewTo ps k ∧ fewTo ps k ≤ 64 := by
  induction k with
  | zero => simp [fewTo]
  | succ k ih =>
    have := lenI_bd (nthN ps k)
    rw [fewTo]
    split <;> omega
theorem few_le (ps : List Nat) (k j : Nat) (hj : j < k) : fewTo ps k ≤ lenI (nthN ps j) := by
  induction k with
  | zero => omega
  | succ k ih =>
    rw [fewTo]
    by_cases e : j = k
    · subst e
      split <;> omega
    · have := ih (by omega)
      split <;> omega
end Go.Proofs.Ytpelbfjhljlbkaa
