/-
  My own work: num.Ceil: its contract.
-/
import Derived.Test.YthilfibgpobcjaaNumQuo
namespace Go.Proofs.Ythilfibgpobcjaa
open Go.RowKit
set_option linter.unusedVariables false

set_option maxHeartbeats 800000 in
theorem ceil_is (a b : Int) (w : World) (ha : fitsI a = true) :
    Calls Try.prog 61 #[.int .i64 a, .int .i64 b] w fun e w' => e = .returned (.tuple #[.int .i64 (ceilE a b).1, .bool (ceilE a b).2]) ∧ w = w' := by
  by_cases hn : noQuo a b = true
  · have he : Hid (ceilE a b = (0, false)) := by show _ = _; unfold ceilE; rw [if_pos hn]
    rcases noQuo_slots a b hn with h1 | ⟨h1, h2, h3⟩
    all_goals
      clear hn ha
      go_enter Try.func61, Try.ntmps61
      go_wp2_with fail
      go_ret2
      rw [he.out]
      exact ⟨rfl, rfl⟩
  · rw [Bool.not_eq_true] at hn
    obtain ⟨hz, hs⟩ := quo_slots a b hn
    have hb0 : ¬ b = 0 := by simpa using hz
    obtain ⟨q1, q2⟩ := quo_bd a b ha hb0 hn
    have hw : wrap64 (a.tdiv b) = a.tdiv b := wrap_id q1.1 q1.2
    cases hm : (a.tmod b != 0) with
    | false =>
      have he : Hid (ceilE a b = (wrap64 (a.tdiv b), true)) := by
        show _ = _; unfold ceilE; rw [hn, hm, hw]; simp
      clear q1 q2 hw hn ha
      rcases hs with h1 | ⟨h1, h2⟩
      all_goals
        go_enter Try.func61, Try.ntmps61
        go_wp2_with fail
        go_ret2
        rw [he.out]
        exact ⟨rfl, rfl⟩
    | true =>
      have q3 := q2 (by simpa using hm)
      cases hs2 : (decide (a < 0) == decide (b < 0)) with
      | false =>
        have he : Hid (ceilE a b = (wrap64 (a.tdiv b), true)) := by
          show _ = _; unfold ceilE; rw [hn, hm, hw, hs2]; simp
        clear q1 q2 q3 hw hn ha
        rcases hs with h1 | ⟨h1, h2⟩
        all_goals
          go_enter Try.func61, Try.ntmps61
          go_wp2_with fail
          go_ret2
          rw [he.out]
          exact ⟨rfl, rfl⟩
      | true =>
        have he : Hid (ceilE a b = (wrap64 (wrap64 (a.tdiv b) + 1), true)) := by
          show _ = _; unfold ceilE; rw [hn, hm, hw, hs2, wrap_id (by omega) (by omega)]; simp
        clear q1 q2 q3 hw hn ha
        rcases hs with h1 | ⟨h1, h2⟩
        all_goals
          go_enter Try.func61, Try.ntmps61
          go_wp2_with fail
          go_ret2
          rw [he.out]
          exact ⟨rfl, rfl⟩
end Go.Proofs.Ythilfibgpobcjaa
