/-
  My own work: lives of layer 1; the walks of NumUndo and NumSigns.
-/
import Derived.Test.YtodikaekpncjjaaNumC
namespace Go.Proofs.Ytodikaekpncjjaa
open Go.RowKit
set_option linter.unusedVariables false

theorem Ints.three (w : World) (x y z : Int) (T : TypeId) : Ints (w.alloc (.cells #[.int .i64 x, .int .i64 y, .int .i64 z] T)) (.slice (some ⟨w.heap.size, 0, none⟩) 3 3) [x, y, z] :=
  ⟨some ⟨w.heap.size, 0, none⟩, 3, rfl, by simp, by simp, fun i hi => ⟨w.heap.size, 0, rfl, by
    match i, hi with
    | 0, _ => simp [go_sem, nth]
    | 1, _ => simp [go_sem, nth]
    | 2, _ => simp [go_sem, nth]
    | n + 3, h => simp at h; omega⟩⟩

def bigI : Int := 9223372036854775807
theorem live_add : addE 9223372036854775807 1 = (0, false) := by decide +kernel
theorem live_floor : floorE (-7) 2 = (-4, true) := by decide +kernel
theorem live_sum : sumE [9223372036854775807, 1, -1].sum = (9223372036854775807, true) := by decide +kernel

theorem lives01_is (w : World) : Calls Try.prog 14 #[] w fun e w' => e = .returned (.bool true) ∧ Below w.heap.size w w' := by
  have h1 := add_is 9223372036854775807 1 w (by decide) (by decide)
  rw [live_add] at h1
  have h2 := floor_is (-7) 2 w (by decide)
  rw [live_floor] at h2
  have h3 := sum_is _ [9223372036854775807, 1, -1] _ (Ints.three w 9223372036854775807 1 (-1) 3) (by decide) (by decide)
  rw [live_sum] at h3
  have H1 := Lib.hid h1
  have H2 := Lib.hid h2
  have H3 := Lib.hid h3
  clear h1 h2 h3
  go_enter Try.func14, Try.ntmps14
  go_wp2_with fail
  refine H1.out.mono ?_
  rintro e w' ⟨rfl, rfl⟩
  go_wp2_with fail
  refine H2.out.mono ?_
  rintro e w' ⟨rfl, rfl⟩
  go_wp2_with fail
  refine H3.out.mono ?_
  rintro e w' ⟨rfl, rfl⟩
  go_wp2_with fail
  go_ret
  exact ⟨rfl, (Below.refl _ _).alloc (Nat.le_refl _) _⟩

theorem floorE_no {a b : Int} (h : noQuo a b = true) : floorE a b = (0, false) := by unfold floorE; rw [if_pos h]
theorem ceilE_no {a b : Int} (h : noQuo a b = true) : ceilE a b = (0, false) := by unfold ceilE; rw [if_pos h]

/-- The floor and the ceiling are one number, or one apart. -/
theorem floor_ceil (a b : Int) (h : noQuo a b = false) : ∃ F C : Int, floorE a b = (F, true) ∧ ceilE a b = (C, true) ∧
    ((C = F ∧ (a.tmod b == 0) = true) ∨ (C = F + 1 ∧ (a.tmod b == 0) = false)) := by
  unfold floorE ceilE
  rw [h]
  cases hm : (a.tmod b != 0) with
  | false =>
    have : a.tmod b = 0 := by simpa using hm
    exact ⟨_, _, rfl, rfl, .inl ⟨by simp, by rw [this]; rfl⟩⟩
  | true =>
    have : a.tmod b ≠ 0 := by simpa using hm
    refine ⟨_, _, rfl, rfl, .inr ⟨?_, by simpa using this⟩⟩
    cases (decide (a < 0) == decide (b < 0)) <;> simp

theorem undo_less (a b : Int) (ha : fitsI a = true) (h : fitsI (a + b) = true) : lessE (a + b) b = (a, true) := by
  unfold lessE
  rw [show a + b - b = a by omega, if_pos ha]

set_option maxHeartbeats 1600000 in
theorem numUndo_walk (a b : Int) (w : World) (ha : fitsI a = true) (hb : fitsI b = true) :
    Calls Try.prog 8 #[.int .i64 a, .int .i64 b] w fun e w' => e = .returned (.bool true) ∧ Below w.heap.size w w' := by
  have H1 := Lib.hid (add_is a b w ha hb)
  have H2 := Lib.hid (floor_is a b w ha)
  have H3 := Lib.hid (ceil_is a b w ha)
  have hmod : (b == 0) = false → ¬ b = 0 := by intro h; simpa using h
  have Hmod := Lib.hid hmod
  clear hmod
  by_cases hf : fitsI (a + b) = true
  · have e1 : addE a b = (a + b, true) := by unfold addE; rw [if_pos hf]
    have h4 := less_is (a + b) b w hf hb
    rw [undo_less a b ha hf] at h4
    rw [e1] at H1
    have H4 := Lib.hid h4
    clear h4 e1
    obtain ⟨S, hS⟩ : ∃ S, S = a + b := ⟨_, rfl⟩
    rw [← hS] at H1 H4
    clear hS
    have hne : (a != a) = false := by simp
    cases hn : noQuo a b with
    | true =>
      rw [floorE_no hn] at H2
      rw [ceilE_no hn] at H3
      clear hn ha hb hf
      go_enter Try.func8, Try.ntmps8
      go_wp2_with fail
      refine H1.out.mono ?_
      rintro e w' ⟨rfl, rfl⟩
      go_wp2_with fail
      refine H4.out.mono ?_
      rintro e w' ⟨rfl, rfl⟩
      go_wp2_with fail
      refine H2.out.mono ?_
      rintro e w' ⟨rfl, rfl⟩
      go_wp2_with fail
      refine H3.out.mono ?_
      rintro e w' ⟨rfl, rfl⟩
      go_wp2_with fail
      refine (lives01_is w).mono ?_
      rintro e w7 ⟨rfl, hb7⟩
      go_wp2_with fail
      go_ret
      exact ⟨rfl, hb7⟩
    | false =>
      obtain ⟨hz, _⟩ := quo_slots a b hn
      have hb0 := Hmod.out hz
      obtain ⟨F, C, eF, eC, hFC⟩ := floor_ceil a b hn
      rw [eF] at H2
      rw [eC] at H3
      clear hn ha hb hf hz eF eC
      rcases hFC with ⟨rfl, hm⟩ | ⟨rfl, hm⟩
      · have hcf : (C == C) = true := by simp
        have hw : ¬ 1 < wrap64 (C - C) := by rw [Int.sub_self, wrap_id (by decide) (by decide)]; decide
        go_enter Try.func8, Try.ntmps8
        go_wp2_with fail
        refine H1.out.mono ?_
        rintro e w' ⟨rfl, rfl⟩
        go_wp2_with fail
        refine H4.out.mono ?_
        rintro e w' ⟨rfl, rfl⟩
        go_wp2_with fail
        refine H2.out.mono ?_
        rintro e w' ⟨rfl, rfl⟩
        go_wp2_with fail
        refine H3.out.mono ?_
        rintro e w' ⟨rfl, rfl⟩
        go_wp2_with fail
        refine (lives01_is w).mono ?_
        rintro e w7 ⟨rfl, hb7⟩
        go_wp2_with fail
        go_ret
        exact ⟨rfl, hb7⟩
      · have hcf : (F + 1 == F) = false := by rw [beq_eq_false_iff_ne]; omega
        obtain ⟨C, hC⟩ : ∃ C, C = F + 1 := ⟨_, rfl⟩
        rw [← hC] at hcf H3
        have hw : ¬ 1 < wrap64 (C - F) := by rw [hC, show F + 1 - F = 1 by omega, wrap_id (by decide) (by decide)]; decide
        clear hC
        go_enter Try.func8, Try.ntmps8
        go_wp2_with fail
        refine H1.out.mono ?_
        rintro e w' ⟨rfl, rfl⟩
        go_wp2_with fail
        refine H4.out.mono ?_
        rintro e w' ⟨rfl, rfl⟩
        go_wp2_with fail
        refine H2.out.mono ?_
        rintro e w' ⟨rfl, rfl⟩
        go_wp2_with fail
        refine H3.out.mono ?_
        rintro e w' ⟨rfl, rfl⟩
        go_wp2_with fail
        refine (lives01_is w).mono ?_
        rintro e w7 ⟨rfl, hb7⟩
        go_wp2_with fail
        go_ret
        exact ⟨rfl, hb7⟩
  · have e1 : addE a b = (0, false) := by unfold addE; rw [if_neg hf]
    rw [e1] at H1
    clear e1
    cases hn : noQuo a b with
    | true =>
      rw [floorE_no hn] at H2
      rw [ceilE_no hn] at H3
      clear hn ha hb hf
      go_enter Try.func8, Try.ntmps8
      go_wp2_with fail
      refine H1.out.mono ?_
      rintro e w' ⟨rfl, rfl⟩
      go_wp2_with fail
      refine H2.out.mono ?_
      rintro e w' ⟨rfl, rfl⟩
      go_wp2_with fail
      refine H3.out.mono ?_
      rintro e w' ⟨rfl, rfl⟩
      go_wp2_with fail
      refine (lives01_is w).mono ?_
      rintro e w7 ⟨rfl, hb7⟩
      go_wp2_with fail
      go_ret
      exact ⟨rfl, hb7⟩
    | false =>
      obtain ⟨hz, _⟩ := quo_slots a b hn
      have hb0 := Hmod.out hz
      obtain ⟨F, C, eF, eC, hFC⟩ := floor_ceil a b hn
      rw [eF] at H2
      rw [eC] at H3
      clear hn ha hb hf hz eF eC
      rcases hFC with ⟨rfl, hm⟩ | ⟨rfl, hm⟩
      · have hcf : (C == C) = true := by simp
        have hw : ¬ 1 < wrap64 (C - C) := by rw [Int.sub_self, wrap_id (by decide) (by decide)]; decide
        go_enter Try.func8, Try.ntmps8
        go_wp2_with fail
        refine H1.out.mono ?_
        rintro e w' ⟨rfl, rfl⟩
        go_wp2_with fail
        refine H2.out.mono ?_
        rintro e w' ⟨rfl, rfl⟩
        go_wp2_with fail
        refine H3.out.mono ?_
        rintro e w' ⟨rfl, rfl⟩
        go_wp2_with fail
        refine (lives01_is w).mono ?_
        rintro e w7 ⟨rfl, hb7⟩
        go_wp2_with fail
        go_ret
        exact ⟨rfl, hb7⟩
      · have hcf : (F + 1 == F) = false := by rw [beq_eq_false_iff_ne]; omega
        obtain ⟨C, hC⟩ : ∃ C, C = F + 1 := ⟨_, rfl⟩
        rw [← hC] at hcf H3
        have hw : ¬ 1 < wrap64 (C - F) := by rw [hC, show F + 1 - F = 1 by omega, wrap_id (by decide) (by decide)]; decide
        clear hC
        go_enter Try.func8, Try.ntmps8
        go_wp2_with fail
        refine H1.out.mono ?_
        rintro e w' ⟨rfl, rfl⟩
        go_wp2_with fail
        refine H2.out.mono ?_
        rintro e w' ⟨rfl, rfl⟩
        go_wp2_with fail
        refine H3.out.mono ?_
        rintro e w' ⟨rfl, rfl⟩
        go_wp2_with fail
        refine (lives01_is w).mono ?_
        rintro e w7 ⟨rfl, hb7⟩
        go_wp2_with fail
        go_ret
        exact ⟨rfl, hb7⟩

theorem neg_fits {b : Int} (hb : fitsI b = true) (hm : b ≠ -9223372036854775808) : fitsI (-b) = true := by
  rw [fitsI_iff] at *; omega
theorem less_add (a b : Int) : lessE a b = addE a (-b) := by
  unfold lessE addE
  rw [show a + -b = a - b by omega]


theorem times_neg (a b : Int) : timesE (-a) b = (if fitsI (-(a * b)) = true then (-(a * b), true) else (0, false)) := by
  unfold timesE
  rw [Int.neg_mul]

set_option maxHeartbeats 1600000 in
theorem numSigns_walk (a b : Int) (w : World) (ha : fitsI a = true) (hb : fitsI b = true) :
    Calls Try.prog 9 #[.int .i64 a, .int .i64 b] w fun e w' => e = .returned (.bool true) ∧ Below w.heap.size w w' := by
  by_cases ham : a = -9223372036854775808
  · have h1 : (a == -9223372036854775808) = true := by simpa using ham
    clear ham ha hb
    go_enter Try.func9, Try.ntmps9
    go_wp2_with fail
    refine (lives01_is w).mono ?_
    rintro e w7 ⟨rfl, hb7⟩
    go_wp2_with fail
    go_ret
    exact ⟨rfl, hb7⟩
  by_cases hbm : b = -9223372036854775808
  · have h1 : (a == -9223372036854775808) = false := by simpa using ham
    have h2 : (b == -9223372036854775808) = true := by simpa using hbm
    clear ham ha hb hbm
    go_enter Try.func9, Try.ntmps9
    go_wp2_with fail
    refine (lives01_is w).mono ?_
    rintro e w7 ⟨rfl, hb7⟩
    go_wp2_with fail
    go_ret
    exact ⟨rfl, hb7⟩
  have h1 : (a == -9223372036854775808) = false := by simpa using ham
  have h2 : (b == -9223372036854775808) = false := by simpa using hbm
  have na := neg_fits ha ham
  have nb := neg_fits hb hbm
  have hwa : wrap64 (-a) = -a := wrap_id (fitsI_iff.1 na).1 (fitsI_iff.1 na).2
  have hwb : wrap64 (-b) = -b := wrap_id (fitsI_iff.1 nb).1 (fitsI_iff.1 nb).2
  have g1 := less_is a b w ha hb
  have g2 := add_is a (-b) w ha nb
  rw [less_add] at g1
  obtain ⟨D, hD⟩ : ∃ D, D = addE a (-b) := ⟨_, rfl⟩
  rw [← hD] at g1 g2
  clear hD
  have g3 := times_is a b w ha hb
  have g4 := times_is (-a) b w na hb
  rw [times_neg] at g4
  obtain ⟨A, hA⟩ : ∃ A, A = -a := ⟨_, rfl⟩
  obtain ⟨B, hB⟩ : ∃ B, B = -b := ⟨_, rfl⟩
  rw [← hA] at g4
  rw [← hB] at g2
  have hwa' : wrap64 (-a) = A := by rw [hA]; exact hwa
  have hwb' : wrap64 (-b) = B := by rw [hB]; exact hwb
  clear hwa hwb
  have H1 := Lib.hid g1
  have H2 := Lib.hid g2
  obtain ⟨d1, d2⟩ := D
  have hdd : (d1 == d1) = true := by simp
  have hdd2 : (d2 == d2) = true := by simp
  clear g1 g2 hA hB na nb ha hb ham hbm
  by_cases hf : fitsI (a * b) = true
  · have e3 : timesE a b = (a * b, true) := by unfold timesE; rw [if_pos hf]
    rw [e3] at g3
    by_cases hf2 : fitsI (-(a * b)) = true
    · rw [if_pos hf2] at g4
      obtain ⟨P, hP⟩ : ∃ P, P = a * b := ⟨_, rfl⟩
      rw [← hP] at g3 g4 hf
      have hw : wrap64 (- -P) = P := by rw [Int.neg_neg]; exact wrap_id (fitsI_iff.1 hf).1 (fitsI_iff.1 hf).2
      obtain ⟨N, hN⟩ : ∃ N, N = -P := ⟨_, rfl⟩
      rw [← hN] at g4 hw
      have hpp : (P == P) = true := by simp
      have H3 := Lib.hid g3
      have H4 := Lib.hid g4
      clear g3 g4 hf hf2 e3 hP hN
      go_enter Try.func9, Try.ntmps9
      go_wp2_with fail
      refine H1.out.mono ?_
      rintro e w' ⟨rfl, rfl⟩
      go_wp2_with fail
      refine H2.out.mono ?_
      rintro e w' ⟨rfl, rfl⟩
      go_wp2_with fail
      refine H3.out.mono ?_
      rintro e w' ⟨rfl, rfl⟩
      go_wp2_with fail
      refine H4.out.mono ?_
      rintro e w' ⟨rfl, rfl⟩
      go_wp2_with fail
      refine (lives01_is w).mono ?_
      rintro e w7 ⟨rfl, hb7⟩
      go_wp2_with fail
      go_ret
      exact ⟨rfl, hb7⟩
    · rw [if_neg hf2] at g4
      obtain ⟨P, hP⟩ : ∃ P, P = a * b := ⟨_, rfl⟩
      rw [← hP] at g3
      have H3 := Lib.hid g3
      have H4 := Lib.hid g4
      clear g3 g4 hf hf2 e3 hP
      go_enter Try.func9, Try.ntmps9
      go_wp2_with fail
      refine H1.out.mono ?_
      rintro e w' ⟨rfl, rfl⟩
      go_wp2_with fail
      refine H2.out.mono ?_
      rintro e w' ⟨rfl, rfl⟩
      go_wp2_with fail
      refine H3.out.mono ?_
      rintro e w' ⟨rfl, rfl⟩
      go_wp2_with fail
      refine H4.out.mono ?_
      rintro e w' ⟨rfl, rfl⟩
      go_wp2_with fail
      refine (lives01_is w).mono ?_
      rintro e w7 ⟨rfl, hb7⟩
      go_wp2_with fail
      go_ret
      exact ⟨rfl, hb7⟩
  · have e3 : timesE a b = (0, false) := by unfold timesE; rw [if_neg hf]
    rw [e3] at g3
    obtain ⟨R, hR⟩ : ∃ R : Int × Bool, R = (if fitsI (-(a * b)) = true then (-(a * b), true) else (0, false)) := ⟨_, rfl⟩
    rw [← hR] at g4
    obtain ⟨r1, r2⟩ := R
    have H3 := Lib.hid g3
    have H4 := Lib.hid g4
    clear g3 g4 hf e3 hR
    go_enter Try.func9, Try.ntmps9
    go_wp2_with fail
    refine H1.out.mono ?_
    rintro e w' ⟨rfl, rfl⟩
    go_wp2_with fail
    refine H2.out.mono ?_
    rintro e w' ⟨rfl, rfl⟩
    go_wp2_with fail
    refine H3.out.mono ?_
    rintro e w' ⟨rfl, rfl⟩
    go_wp2_with fail
    refine H4.out.mono ?_
    rintro e w' ⟨rfl, rfl⟩
    go_wp2_with fail
    refine (lives01_is w).mono ?_
    rintro e w7 ⟨rfl, hb7⟩
    go_wp2_with fail
    go_ret
    exact ⟨rfl, hb7⟩
end Go.Proofs.Ytodikaekpncjjaa
