/-
  My own work: num.Less, Times, Floor, Ceil: their contracts.
-/
import Derived.Test.YtodikaekpncjjaaNumB
namespace Go.Proofs.Ytodikaekpncjjaa
open Go.RowKit
set_option linter.unusedVariables false

def lessE (a b : Int) : Int × Bool := if fitsI (a - b) = true then (a - b, true) else (0, false)
theorem less_test (a b : Int) (ha : fitsI a = true) (hb : fitsI b = true) : (!(decide (a < wrap64 (a - b)) == decide (b < 0))) = !fitsI (a - b) := by
  rw [fitsI_iff] at ha hb
  by_cases h : fitsI (a - b) = true
  · rw [h]
    rw [fitsI_iff] at h
    rw [wrap_id h.1 h.2]
    by_cases hb0 : b < 0
    · simp [hb0]; omega
    · simp [hb0]; omega
  · have h' : ¬ (-9223372036854775808 ≤ a - b ∧ a - b ≤ 9223372036854775807) := fun h' => h (fitsI_iff.2 h')
    rw [Bool.not_eq_true] at h
    rw [h]
    unfold wrap64
    by_cases hb0 : b < 0
    · simp [hb0]; omega
    · simp [hb0]; omega

theorem less_is (a b : Int) (w : World) (ha : fitsI a = true) (hb : fitsI b = true) :
    Calls Try.prog 23 #[.int .i64 a, .int .i64 b] w fun e w' => e = .returned (.tuple #[.int .i64 (lessE a b).1, .bool (lessE a b).2]) ∧ w = w' := by
  have ht := less_test a b ha hb
  by_cases h : fitsI (a - b) = true
  · have he : Hid (lessE a b = (a - b, true)) := by show _ = _; unfold lessE; rw [if_pos h]
    have hw : Hid (wrap64 (a - b) = a - b) := by show _ = _; rw [fitsI_iff] at h; exact wrap_id h.1 h.2
    rw [h] at ht
    simp only [Bool.not_true] at ht
    clear ha hb h
    go_enter Try.func23, Try.ntmps23
    go_wp2_with fail
    go_ret2
    rw [he.out]
    exact ⟨by rw [hw.out]; rfl, rfl⟩
  · have he : Hid (lessE a b = (0, false)) := by show _ = _; unfold lessE; rw [if_neg h]
    rw [Bool.not_eq_true] at h
    rw [h] at ht
    simp only [Bool.not_false] at ht
    clear ha hb h
    go_enter Try.func23, Try.ntmps23
    go_wp2_with fail
    go_ret2
    rw [he.out]
    exact ⟨rfl, rfl⟩

def timesE (a b : Int) : Int × Bool := if fitsI (a * b) = true then (a * b, true) else (0, false)

theorem tdiv_facts (a b : Int) (hb : b ≠ 0) : b * a.tdiv b + a.tmod b = a ∧ (a.tmod b).natAbs < b.natAbs ∧ (0 ≤ a → 0 ≤ a.tmod b) ∧ (a ≤ 0 → a.tmod b ≤ 0) := by
  refine ⟨Int.mul_tdiv_add_tmod a b, ?_, fun h => Int.tmod_nonneg b h, fun h => ?_⟩
  · rw [Int.natAbs_tmod]
    exact Nat.mod_lt _ (by omega)
  · have := Int.tmod_nonneg b (a := -a) (by omega)
    rw [Int.neg_tmod] at this
    omega

/-- The test of num.Times. -/
theorem times_test (a b : Int) (ha : fitsI a = true) (hb : fitsI b = true) (h0 : b ≠ 0) :
    (fitsI (a * b) = true → wrap64 (a * b) = a * b ∧ wrap64 ((a * b).tdiv b) = a ∧ ¬ (a = -9223372036854775808 ∧ b = -1)) ∧
    (fitsI (a * b) = false → wrap64 ((wrap64 (a * b)).tdiv b) ≠ a ∨ (a = -9223372036854775808 ∧ b = -1)) := by
  rw [fitsI_iff] at ha hb
  constructor
  · intro h
    rw [fitsI_iff] at h
    refine ⟨wrap_id h.1 h.2, ?_, ?_⟩
    · rw [Int.mul_tdiv_cancel _ h0]
      exact wrap_id ha.1 ha.2
    · rintro ⟨rfl, rfl⟩
      omega
  · intro h
    by_cases hb1 : b = -1
    · subst hb1
      have h' : ¬ (-9223372036854775808 ≤ a * -1 ∧ a * -1 ≤ 9223372036854775807) := fun h' => by rw [fitsI_iff.2 h'] at h; cases h
      right
      exact ⟨by omega, rfl⟩
    · left
      intro he
      have h' : ¬ (-9223372036854775808 ≤ a * b ∧ a * b ≤ 9223372036854775807) := fun h' => by rw [fitsI_iff.2 h'] at h; cases h
      obtain ⟨P, hP⟩ : ∃ P, wrap64 (a * b) = P := ⟨_, rfl⟩
      have hPb : -9223372036854775808 ≤ P ∧ P ≤ 9223372036854775807 := by rw [← hP]; unfold wrap64; omega
      obtain ⟨k, hk⟩ : ∃ k : Int, a * b = P + 18446744073709551616 * k := ⟨(a * b + 9223372036854775808) / 18446744073709551616, by rw [← hP]; unfold wrap64; omega⟩
      rw [hP] at he
      obtain ⟨f1, f2, f3, f4⟩ := tdiv_facts P b h0
      have hQb : -9223372036854775808 ≤ P.tdiv b ∧ P.tdiv b ≤ 9223372036854775807 := by
        have hne : (P.tdiv b).natAbs = P.natAbs / b.natAbs := Int.natAbs_tdiv P b
        have hb2 : 2 ≤ b.natAbs ∨ b = 1 := by omega
        rcases hb2 with hb2 | rfl
        · have hn2 : (P.tdiv b).natAbs ≤ 4611686018427387904 := by
            rw [hne]
            have : P.natAbs ≤ 9223372036854775808 := by omega
            have h3 : P.natAbs / b.natAbs ≤ P.natAbs / 2 := Nat.div_le_div_left hb2 (by omega)
            omega
          omega
        · rw [Int.tdiv_one]; exact hPb
      rw [wrap_id hQb.1 hQb.2] at he
      rw [he] at f1
      have hab : b * a = a * b := Int.mul_comm _ _
      rw [hab] at f1
      have : k ≠ 0 := by
        intro hk0
        subst hk0
        omega
      omega

set_option maxHeartbeats 400000 in
theorem times_is (a b : Int) (w : World) (ha : fitsI a = true) (hb : fitsI b = true) :
    Calls Try.prog 24 #[.int .i64 a, .int .i64 b] w fun e w' => e = .returned (.tuple #[.int .i64 (timesE a b).1, .bool (timesE a b).2]) ∧ w = w' := by
  by_cases ha0 : a = 0
  · have he : Hid (timesE a b = (0, true)) := by show _ = _; unfold timesE; rw [ha0, Int.zero_mul]; rfl
    have hz : (a == 0) = true := by simpa using ha0
    clear ha hb ha0
    go_enter Try.func24, Try.ntmps24
    go_wp2_with fail
    go_ret2
    rw [he.out]
    exact ⟨rfl, rfl⟩
  by_cases hb0 : b = 0
  · have he : Hid (timesE a b = (0, true)) := by show _ = _; unfold timesE; rw [hb0, Int.mul_zero]; rfl
    have hz : (a == 0) = false := by simpa using ha0
    have hz2 : (b == 0) = true := by simpa using hb0
    clear ha hb hb0 ha0
    go_enter Try.func24, Try.ntmps24
    go_wp2_with fail
    go_ret2
    rw [he.out]
    exact ⟨rfl, rfl⟩
  obtain ⟨t1, t2⟩ := times_test a b ha hb hb0
  have hz : (a == 0) = false := by simpa using ha0
  have hz2 : (b == 0) = false := by simpa using hb0
  have hz3 : ¬ b = 0 := hb0
  by_cases h : fitsI (a * b) = true
  · have he : Hid (timesE a b = (a * b, true)) := by show _ = _; unfold timesE; rw [if_pos h]
    obtain ⟨e1, e2, e3⟩ := t1 h
    have e4 : (a == -9223372036854775808 && b == -1) = false := by
      rw [Bool.eq_false_iff]; intro hh; simp only [Bool.and_eq_true, beq_iff_eq] at hh; exact e3 hh
    have hq : wrap64 ((wrap64 (a * b)).tdiv b) = a := by rw [e1, e2]
    have He1 := Lib.hid e1
    clear t1 t2 h e1 e2 e3 hb0 ha0 ha hb
    by_cases hm : (a == -9223372036854775808) = true
    · rw [hm, Bool.true_and] at e4
      go_enter Try.func24, Try.ntmps24
      go_wp2_with fail
      go_ret2
      rw [he.out]
      exact ⟨by rw [He1.out]; rfl, rfl⟩
    · rw [Bool.not_eq_true] at hm
      clear e4
      go_enter Try.func24, Try.ntmps24
      go_wp2_with fail
      go_ret2
      rw [he.out]
      exact ⟨by rw [He1.out]; rfl, rfl⟩
  · have he : Hid (timesE a b = (0, false)) := by show _ = _; unfold timesE; rw [if_neg h]
    rw [Bool.not_eq_true] at h
    by_cases hq : wrap64 ((wrap64 (a * b)).tdiv b) = a
    · have h2 : a = -9223372036854775808 ∧ b = -1 := (t2 h).resolve_left (fun hh => hh hq)
      have hm : (a == -9223372036854775808) = true := by rw [h2.1]; rfl
      have hm2 : (b == -1) = true := by rw [h2.2]; rfl
      clear t1 t2 h h2 hb0 ha0 ha hb
      go_enter Try.func24, Try.ntmps24
      go_wp2_with fail
      go_ret2
      rw [he.out]
      exact ⟨rfl, rfl⟩
    · have hq' : (wrap64 ((wrap64 (a * b)).tdiv b) != a) = true := by simpa using hq
      clear t1 t2 h hq hb0 ha0 ha hb
      go_enter Try.func24, Try.ntmps24
      go_wp2_with fail
      go_ret2
      rw [he.out]
      exact ⟨rfl, rfl⟩

/-- There is no quotient. -/
def noQuo (a b : Int) : Bool := b == 0 || (a == -9223372036854775808 && b == -1)
def floorE (a b : Int) : Int × Bool := if noQuo a b = true then (0, false) else (a.tdiv b - (if a.tmod b != 0 && !(decide (a < 0) == decide (b < 0)) then 1 else 0), true)
def ceilE (a b : Int) : Int × Bool := if noQuo a b = true then (0, false) else (a.tdiv b + (if a.tmod b != 0 && (decide (a < 0) == decide (b < 0)) then 1 else 0), true)

theorem quo_bd (a b : Int) (ha : fitsI a = true) (hb : b ≠ 0) (hn : noQuo a b = false) : (-9223372036854775808 ≤ a.tdiv b ∧ a.tdiv b ≤ 9223372036854775807) ∧ (a.tmod b ≠ 0 → -4611686018427387904 ≤ a.tdiv b ∧ a.tdiv b ≤ 4611686018427387904) := by
  rw [fitsI_iff] at ha
  have hne : (a.tdiv b).natAbs = a.natAbs / b.natAbs := Int.natAbs_tdiv a b
  have hcase : b = 1 ∨ b = -1 ∨ 2 ≤ b.natAbs := by omega
  rcases hcase with rfl | rfl | h2
  · rw [Int.tdiv_one]
    refine ⟨ha, fun h => absurd (Int.tmod_one a) h⟩
  · have hm : a ≠ -9223372036854775808 := by
      rintro rfl
      simp [noQuo] at hn
    have hd : a.tdiv (-1) = -a := by rw [Int.tdiv_neg, Int.tdiv_one]
    rw [hd]
    refine ⟨by omega, fun h => absurd ?_ h⟩
    rw [Int.tmod_neg, Int.tmod_one]
  · have h3 : a.natAbs / b.natAbs ≤ a.natAbs / 2 := Nat.div_le_div_left h2 (by omega)
    have : (a.tdiv b).natAbs ≤ 4611686018427387904 := by rw [hne]; omega
    omega

theorem noQuo_slots (a b : Int) (h : noQuo a b = true) : (b == 0) = true ∨ ((b == 0) = false ∧ (a == -9223372036854775808) = true ∧ (b == -1) = true) := by
  unfold noQuo at h
  cases hb : (b == 0) with
  | true => exact .inl rfl
  | false =>
    rw [hb, Bool.false_or, Bool.and_eq_true] at h
    exact .inr ⟨rfl, h.1, h.2⟩
theorem quo_slots (a b : Int) (h : noQuo a b = false) : (b == 0) = false ∧ ((a == -9223372036854775808) = false ∨ ((a == -9223372036854775808) = true ∧ (b == -1) = false)) := by
  unfold noQuo at h
  rw [Bool.or_eq_false_iff, Bool.and_eq_false_iff] at h
  refine ⟨h.1, ?_⟩
  cases hm : (a == -9223372036854775808) with
  | false => exact .inl rfl
  | true =>
    rcases h.2 with h2 | h2
    · rw [hm] at h2; cases h2
    · exact .inr ⟨rfl, h2⟩

set_option maxHeartbeats 800000 in
theorem floor_is (a b : Int) (w : World) (ha : fitsI a = true) :
    Calls Try.prog 15 #[.int .i64 a, .int .i64 b] w fun e w' => e = .returned (.tuple #[.int .i64 (floorE a b).1, .bool (floorE a b).2]) ∧ w = w' := by
  by_cases hn : noQuo a b = true
  · have he : Hid (floorE a b = (0, false)) := by show _ = _; unfold floorE; rw [if_pos hn]
    rcases noQuo_slots a b hn with h1 | ⟨h1, h2, h3⟩
    all_goals
      clear hn ha
      go_enter Try.func15, Try.ntmps15
      go_wp2_with fail
      go_ret2
      rw [he.out]
      exact ⟨rfl, rfl⟩
  · rw [Bool.not_eq_true] at hn
    obtain ⟨hz, hs⟩ := quo_slots a b hn
    have hb0 : ¬ b = 0 := by simpa using hz
    obtain ⟨q1, q2⟩ := quo_bd a b ha hb0 hn
    have hw : wrap64 (a.tdiv b) = a.tdiv b := wrap_id q1.1 q1.2
    have Hw := Lib.hid hw
    cases hm : (a.tmod b != 0) with
    | false =>
      have he : Hid (floorE a b = (wrap64 (a.tdiv b), true)) := by
        show _ = _; unfold floorE; rw [hn, hm, hw]; simp
      clear q1 q2 hw hn ha
      rcases hs with h1 | ⟨h1, h2⟩
      all_goals
        go_enter Try.func15, Try.ntmps15
        go_wp2_with fail
        go_ret2
        rw [he.out]
        exact ⟨rfl, rfl⟩
    | true =>
      have q3 := q2 (by simpa using hm)
      cases hs2 : (!(decide (a < 0) == decide (b < 0))) with
      | false =>
        have he : Hid (floorE a b = (wrap64 (a.tdiv b), true)) := by
          show _ = _; unfold floorE; rw [hn, hm, hw, hs2]; simp
        clear q1 q2 q3 hw hn ha
        rcases hs with h1 | ⟨h1, h2⟩
        all_goals
          go_enter Try.func15, Try.ntmps15
          go_wp2_with fail
          go_ret2
          rw [he.out]
          exact ⟨rfl, rfl⟩
      | true =>
        have he : Hid (floorE a b = (wrap64 (wrap64 (a.tdiv b) - 1), true)) := by
          show _ = _; unfold floorE; rw [hn, hm, hw, hs2, wrap_id (by omega) (by omega)]; simp
        clear q1 q2 q3 hw hn ha
        rcases hs with h1 | ⟨h1, h2⟩
        all_goals
          go_enter Try.func15, Try.ntmps15
          go_wp2_with fail
          go_ret2
          rw [he.out]
          exact ⟨rfl, rfl⟩

set_option maxHeartbeats 800000 in
theorem ceil_is (a b : Int) (w : World) (ha : fitsI a = true) :
    Calls Try.prog 16 #[.int .i64 a, .int .i64 b] w fun e w' => e = .returned (.tuple #[.int .i64 (ceilE a b).1, .bool (ceilE a b).2]) ∧ w = w' := by
  by_cases hn : noQuo a b = true
  · have he : Hid (ceilE a b = (0, false)) := by show _ = _; unfold ceilE; rw [if_pos hn]
    rcases noQuo_slots a b hn with h1 | ⟨h1, h2, h3⟩
    all_goals
      clear hn ha
      go_enter Try.func16, Try.ntmps16
      go_wp2_with fail
      go_ret2
      rw [he.out]
      exact ⟨rfl, rfl⟩
  · rw [Bool.not_eq_true] at hn
    obtain ⟨hz, hs⟩ := quo_slots a b hn
    have hb0 : ¬ b = 0 := by simpa using hz
    obtain ⟨q1, q2⟩ := quo_bd a b ha hb0 hn
    have hw : wrap64 (a.tdiv b) = a.tdiv b := wrap_id q1.1 q1.2
    cases hm : (a.tmod b != 0) with
    | false =>
      have he : Hid (ceilE a b = (wrap64 (a.tdiv b), true)) := by
        show _ = _; unfold ceilE; rw [hn, hm, hw]; simp
      clear q1 q2 hw hn ha
      rcases hs with h1 | ⟨h1, h2⟩
      all_goals
        go_enter Try.func16, Try.ntmps16
        go_wp2_with fail
        go_ret2
        rw [he.out]
        exact ⟨rfl, rfl⟩
    | true =>
      have q3 := q2 (by simpa using hm)
      cases hs2 : (decide (a < 0) == decide (b < 0)) with
      | false =>
        have he : Hid (ceilE a b = (wrap64 (a.tdiv b), true)) := by
          show _ = _; unfold ceilE; rw [hn, hm, hw, hs2]; simp
        clear q1 q2 q3 hw hn ha
        rcases hs with h1 | ⟨h1, h2⟩
        all_goals
          go_enter Try.func16, Try.ntmps16
          go_wp2_with fail
          go_ret2
          rw [he.out]
          exact ⟨rfl, rfl⟩
      | true =>
        have he : Hid (ceilE a b = (wrap64 (wrap64 (a.tdiv b) + 1), true)) := by
          show _ = _; unfold ceilE; rw [hn, hm, hw, hs2, wrap_id (by omega) (by omega)]; simp
        clear q1 q2 q3 hw hn ha
        rcases hs with h1 | ⟨h1, h2⟩
        all_goals
          go_enter Try.func16, Try.ntmps16
          go_wp2_with fail
          go_ret2
          rw [he.out]
          exact ⟨rfl, rfl⟩
end Go.Proofs.Ytodikaekpncjjaa
