/-
  My own work: a customer that lies in a block of its own; the box of a Customer parameter as an opaque world.
  My own work: what fits an int.
  My own work: num.Add, Sat: their contracts.
  My own work: plain facts on quotients.
  My own work: num.Ceil: its contract.
  My own work: num.Clip: its contract.
  My own work: a number counted round, plainly.
-/
import Derived.Test.YtnhcgpkcmfelkaaGreatBase
namespace Go.Proofs.YtnhcgpkcmfelkaaGreat
section
open Go.RowKit
set_option linter.unusedVariables false
set_option maxRecDepth 100000

/-- A customer lies in block g. -/
structure IsCust (w : World) (g : Nat) (kd dm : Int) (pt : Value) (rt sz st ru hd : Int) : Prop where
  c0 : w.cell? ⟨g, 0, none⟩ = some (.int .i64 kd)
  c1 : w.cell? ⟨g, 1, none⟩ = some (.int .i64 dm)
  c2 : w.cell? ⟨g, 2, none⟩ = some pt
  c3 : w.cell? ⟨g, 3, none⟩ = some (.int .i64 rt)
  c4 : w.cell? ⟨g, 4, none⟩ = some (.int .i64 sz)
  c5 : w.cell? ⟨g, 5, none⟩ = some (.int .i64 st)
  c6 : w.cell? ⟨g, 6, none⟩ = some (.int .i64 ru)
  c7 : w.cell? ⟨g, 7, none⟩ = some (.int .i64 hd)

theorem IsCust.lt {w : World} {g : Nat} {kd dm : Int} {pt : Value} {rt sz st ru hd : Int} (h : IsCust w g kd dm pt rt sz st ru hd) : g < w.heap.size := World.block_lt_of_cell? w _ h.c0
theorem IsCust.kept {w w' : World} {g : Nat} {kd dm : Int} {pt : Value} {rt sz st ru hd : Int} {row : Option Nat} (h : IsCust w g kd dm pt rt sz st ru hd) (hg : w.grownBy w' row) (hne : some g ≠ row) : IsCust w' g kd dm pt rt sz st ru hd :=
  ⟨hg.cell h.c0 hne, hg.cell h.c1 hne, hg.cell h.c2 hne, hg.cell h.c3 hne, hg.cell h.c4 hne, hg.cell h.c5 hne, hg.cell h.c6 hne, hg.cell h.c7 hne⟩
theorem IsCust.below {w w' : World} {g : Nat} {kd dm : Int} {pt : Value} {rt sz st ru hd : Int} (h : IsCust w g kd dm pt rt sz st ru hd) (hb : Below w.heap.size w w') : IsCust w' g kd dm pt rt sz st ru hd :=
  h.kept (row := none) (grownBy_below hb) (by simp)

theorem box_cust (w : World) (kd dm : Int) (pt : Value) (rt sz st ru hd : Int) :
    ∃ w1, w.alloc (.cells #[.int .i64 kd, .int .i64 dm, pt, .int .i64 rt, .int .i64 sz, .int .i64 st, .int .i64 ru, .int .i64 hd] 53) = w1 ∧ Below w.heap.size w w1 ∧ w1.heap.size = w.heap.size + 1 ∧ IsCust w1 w.heap.size kd dm pt rt sz st ru hd :=
  ⟨_, rfl, (Below.refl _ _).alloc (Nat.le_refl _) _, by simp, ⟨by simp [go_sem], by simp [go_sem], by simp [go_sem], by simp [go_sem], by simp [go_sem], by simp [go_sem], by simp [go_sem], by simp [go_sem]⟩⟩
end

section
open Go.RowKit
set_option linter.unusedVariables false
set_option maxRecDepth 100000

/-- It fits an int. -/
def fitsI (x : Int) : Bool := decide (-9223372036854775808 ≤ x) && decide (x ≤ 9223372036854775807)
theorem fitsI_iff {x : Int} : fitsI x = true ↔ -9223372036854775808 ≤ x ∧ x ≤ 9223372036854775807 := by simp [fitsI]
theorem fitsI_of_wf {x : Int} (h : (Lit.int .i64 x).wf = true) : fitsI x = true := fitsI_iff.2 (wf_i64 h)
def addE (a b : Int) : Int × Bool := if fitsI (a + b) = true then (a + b, true) else (0, false)
def satI (a b : Int) : Int := if fitsI (a + b) = true then a + b else if b < 0 then -9223372036854775808 else 9223372036854775807

theorem satI_fits (a b : Int) : fitsI (satI a b) = true := by
  unfold satI
  split
  · assumption
  · split <;> decide

def sumE (T : Int) : Int × Bool := if fitsI T = true then (T, true) else (0, false)
end

section
open Go.RowKit
set_option linter.unusedVariables false
set_option maxRecDepth 100000

theorem add_test (a b : Int) (ha : fitsI a = true) (hb : fitsI b = true) : (!(decide (wrap64 (a + b) < a) == decide (b < 0))) = !fitsI (a + b) := by
  rw [fitsI_iff] at ha hb
  by_cases h : fitsI (a + b) = true
  · rw [h]
    rw [fitsI_iff] at h
    rw [wrap_id h.1 h.2]
    by_cases hb0 : b < 0
    · simp [hb0]; omega
    · simp [hb0]; omega
  · have h' : ¬ (-9223372036854775808 ≤ a + b ∧ a + b ≤ 9223372036854775807) := fun h' => h (fitsI_iff.2 h')
    rw [Bool.not_eq_true] at h
    rw [h]
    unfold wrap64
    by_cases hb0 : b < 0
    · simp [hb0]; omega
    · simp [hb0]; omega

theorem add_is (a b : Int) (w : World) (ha : fitsI a = true) (hb : fitsI b = true) :
    Calls Tryz.prog 57 #[.int .i64 a, .int .i64 b] w fun e w' => e = .returned (.tuple #[.int .i64 (addE a b).1, .bool (addE a b).2]) ∧ w = w' := by
  have ht := add_test a b ha hb
  by_cases h : fitsI (a + b) = true
  · have he : Hid (addE a b = (a + b, true)) := by show _ = _; unfold addE; rw [if_pos h]
    have hw : Hid (wrap64 (a + b) = a + b) := by show _ = _; rw [fitsI_iff] at h; exact wrap_id h.1 h.2
    rw [h] at ht
    simp only [Bool.not_true] at ht
    clear ha hb h
    go_enter Tryz.func57, Tryz.ntmps57
    go_wp2_with fail
    go_ret2
    rw [he.out]
    exact ⟨by rw [hw.out]; rfl, rfl⟩
  · have he : Hid (addE a b = (0, false)) := by show _ = _; unfold addE; rw [if_neg h]
    rw [Bool.not_eq_true] at h
    rw [h] at ht
    simp only [Bool.not_false] at ht
    clear ha hb h
    go_enter Tryz.func57, Tryz.ntmps57
    go_wp2_with fail
    go_ret2
    rw [he.out]
    exact ⟨rfl, rfl⟩

theorem sat_is (a b : Int) (w : World) (ha : fitsI a = true) (hb : fitsI b = true) :
    Calls Tryz.prog 34 #[.int .i64 a, .int .i64 b] w fun e w' => e = .returned (.int .i64 (satI a b)) ∧ w = w' := by
  by_cases h : fitsI (a + b) = true
  · have he : addE a b = (a + b, true) := by unfold addE; rw [if_pos h]
    have hs : Hid (satI a b = a + b) := by show _ = _; unfold satI; rw [if_pos h]
    have hc := add_is a b w ha hb
    rw [he] at hc
    have Hc := Lib.hid hc
    clear hc he ha hb h
    go_enter Tryz.func34, Tryz.ntmps34
    go_wp2_with fail
    refine Hc.out.mono ?_
    rintro e w' ⟨rfl, rfl⟩
    go_wp2_with fail
    go_ret
    rw [hs.out]
    exact ⟨rfl, rfl⟩
  · have he : addE a b = (0, false) := by unfold addE; rw [if_neg h]
    have hc := add_is a b w ha hb
    rw [he] at hc
    have Hc := Lib.hid hc
    by_cases hb0 : b < 0
    · have hs : Hid (satI a b = -9223372036854775808) := by show _ = _; unfold satI; rw [if_neg h, if_pos hb0]
      clear hc he ha hb h
      go_enter Tryz.func34, Tryz.ntmps34
      go_wp2_with fail
      refine Hc.out.mono ?_
      rintro e w' ⟨rfl, rfl⟩
      go_wp2_with fail
      go_ret
      rw [hs.out]
      exact ⟨rfl, rfl⟩
    · have hs : Hid (satI a b = 9223372036854775807) := by show _ = _; unfold satI; rw [if_neg h, if_neg hb0]
      clear hc he ha hb h
      go_enter Tryz.func34, Tryz.ntmps34
      go_wp2_with fail
      refine Hc.out.mono ?_
      rintro e w' ⟨rfl, rfl⟩
      go_wp2_with fail
      go_ret
      rw [hs.out]
      exact ⟨rfl, rfl⟩
end

section
open Go.RowKit
set_option linter.unusedVariables false
set_option maxRecDepth 100000

theorem tdiv_facts (a b : Int) (hb : b ≠ 0) : b * a.tdiv b + a.tmod b = a ∧ (a.tmod b).natAbs < b.natAbs ∧ (0 ≤ a → 0 ≤ a.tmod b) ∧ (a ≤ 0 → a.tmod b ≤ 0) := by
  refine ⟨Int.mul_tdiv_add_tmod a b, ?_, fun h => Int.tmod_nonneg b h, fun h => ?_⟩
  · rw [Int.natAbs_tmod]
    exact Nat.mod_lt _ (by omega)
  · have := Int.tmod_nonneg b (a := -a) (by omega)
    rw [Int.neg_tmod] at this
    omega

/-- There is no quotient. -/
def noQuo (a b : Int) : Bool := b == 0 || (a == -9223372036854775808 && b == -1)
def floorE (a b : Int) : Int × Bool := if noQuo a b = true then (0, false) else (a.tdiv b - (if a.tmod b != 0 && !(decide (a < 0) == decide (b < 0)) then 1 else 0), true)
def ceilE (a b : Int) : Int × Bool := if noQuo a b = true then (0, false) else (a.tdiv b + (if a.tmod b != 0 && (decide (a < 0) == decide (b < 0)) then 1 else 0), true)

theorem quo_bd (a b : Int) (ha : fitsI a = true) (hb : b ≠ 0) (hn : noQuo a b = false) : (-9223372036854775808 ≤ a.tdiv b ∧ a.tdiv b ≤ 9223372036854775807) ∧ (a.tmod b ≠ 0 → -4611686018427387904 ≤ a.tdiv b ∧ a.tdiv b ≤ 4611686018427387904) := by
  rw [fitsI_iff] at ha
  have hne : (a.tdiv b).natAbs = a.natAbs / b.natAbs := Int.natAbs_tdiv a b
  have hcase : b = 1 ∨ b = -1 ∨ 2 ≤ b.natAbs := by omega
  rcases hcase with rfl | rfl | h2
  · rw [Int.tdiv_one]
    refine ⟨ha, fun h => absurd (Int.tmod_one a) h⟩
  · have hm : a ≠ -9223372036854775808 := by
      rintro rfl
      simp [noQuo] at hn
    have hd : a.tdiv (-1) = -a := by rw [Int.tdiv_neg, Int.tdiv_one]
    rw [hd]
    refine ⟨by omega, fun h => absurd ?_ h⟩
    rw [Int.tmod_neg, Int.tmod_one]
  · have h3 : a.natAbs / b.natAbs ≤ a.natAbs / 2 := Nat.div_le_div_left h2 (by omega)
    have : (a.tdiv b).natAbs ≤ 4611686018427387904 := by rw [hne]; omega
    omega

theorem noQuo_slots (a b : Int) (h : noQuo a b = true) : (b == 0) = true ∨ ((b == 0) = false ∧ (a == -9223372036854775808) = true ∧ (b == -1) = true) := by
  unfold noQuo at h
  cases hb : (b == 0) with
  | true => exact .inl rfl
  | false =>
    rw [hb, Bool.false_or, Bool.and_eq_true] at h
    exact .inr ⟨rfl, h.1, h.2⟩
theorem quo_slots (a b : Int) (h : noQuo a b = false) : (b == 0) = false ∧ ((a == -9223372036854775808) = false ∨ ((a == -9223372036854775808) = true ∧ (b == -1) = false)) := by
  unfold noQuo at h
  rw [Bool.or_eq_false_iff, Bool.and_eq_false_iff] at h
  refine ⟨h.1, ?_⟩
  cases hm : (a == -9223372036854775808) with
  | false => exact .inl rfl
  | true =>
    rcases h.2 with h2 | h2
    · rw [hm] at h2; cases h2
    · exact .inr ⟨rfl, h2⟩
end

section
open Go.RowKit
set_option linter.unusedVariables false
set_option maxRecDepth 100000

set_option maxHeartbeats 800000 in
theorem ceil_is (a b : Int) (w : World) (ha : fitsI a = true) :
    Calls Tryz.prog 28 #[.int .i64 a, .int .i64 b] w fun e w' => e = .returned (.tuple #[.int .i64 (ceilE a b).1, .bool (ceilE a b).2]) ∧ w = w' := by
  by_cases hn : noQuo a b = true
  · have he : Hid (ceilE a b = (0, false)) := by show _ = _; unfold ceilE; rw [if_pos hn]
    rcases noQuo_slots a b hn with h1 | ⟨h1, h2, h3⟩
    all_goals
      clear hn ha
      go_enter Tryz.func28, Tryz.ntmps28
      go_wp2_with fail
      go_ret2
      rw [he.out]
      exact ⟨rfl, rfl⟩
  · rw [Bool.not_eq_true] at hn
    obtain ⟨hz, hs⟩ := quo_slots a b hn
    have hb0 : ¬ b = 0 := by simpa using hz
    obtain ⟨q1, q2⟩ := quo_bd a b ha hb0 hn
    have hw : wrap64 (a.tdiv b) = a.tdiv b := wrap_id q1.1 q1.2
    cases hm : (a.tmod b != 0) with
    | false =>
      have he : Hid (ceilE a b = (wrap64 (a.tdiv b), true)) := by
        show _ = _; unfold ceilE; rw [hn, hm, hw]; simp
      clear q1 q2 hw hn ha
      rcases hs with h1 | ⟨h1, h2⟩
      all_goals
        go_enter Tryz.func28, Tryz.ntmps28
        go_wp2_with fail
        go_ret2
        rw [he.out]
        exact ⟨rfl, rfl⟩
    | true =>
      have q3 := q2 (by simpa using hm)
      cases hs2 : (decide (a < 0) == decide (b < 0)) with
      | false =>
        have he : Hid (ceilE a b = (wrap64 (a.tdiv b), true)) := by
          show _ = _; unfold ceilE; rw [hn, hm, hw, hs2]; simp
        clear q1 q2 q3 hw hn ha
        rcases hs with h1 | ⟨h1, h2⟩
        all_goals
          go_enter Tryz.func28, Tryz.ntmps28
          go_wp2_with fail
          go_ret2
          rw [he.out]
          exact ⟨rfl, rfl⟩
      | true =>
        have he : Hid (ceilE a b = (wrap64 (wrap64 (a.tdiv b) + 1), true)) := by
          show _ = _; unfold ceilE; rw [hn, hm, hw, hs2, wrap_id (by omega) (by omega)]; simp
        clear q1 q2 q3 hw hn ha
        rcases hs with h1 | ⟨h1, h2⟩
        all_goals
          go_enter Tryz.func28, Tryz.ntmps28
          go_wp2_with fail
          go_ret2
          rw [he.out]
          exact ⟨rfl, rfl⟩
end

section
open Go.RowKit
set_option linter.unusedVariables false
set_option maxRecDepth 100000

def clipI (a l m : Int) : Int := min (max a l) m
theorem clip_is (a l m : Int) (w : World) :
    Calls Tryz.prog 49 #[.int .i64 a, .int .i64 l, .int .i64 m] w fun e w' => e = .returned (.int .i64 (clipI a l m)) ∧ w = w' := by
  by_cases h1 : a < l
  · by_cases h2 : m < l
    · have hc : Hid (clipI a l m = m) := by show _ = _; unfold clipI; omega
      go_enter Tryz.func49, Tryz.ntmps49
      go_wp2_with fail
      go_ret
      rw [hc.out]
      exact ⟨rfl, rfl⟩
    · have hc : Hid (clipI a l m = l) := by show _ = _; unfold clipI; omega
      go_enter Tryz.func49, Tryz.ntmps49
      go_wp2_with fail
      go_ret
      rw [hc.out]
      exact ⟨rfl, rfl⟩
  · by_cases h2 : m < a
    · have hc : Hid (clipI a l m = m) := by show _ = _; unfold clipI; omega
      go_enter Tryz.func49, Tryz.ntmps49
      go_wp2_with fail
      go_ret
      rw [hc.out]
      exact ⟨rfl, rfl⟩
    · have hc : Hid (clipI a l m = a) := by show _ = _; unfold clipI; omega
      go_enter Tryz.func49, Tryz.ntmps49
      go_wp2_with fail
      go_ret
      rw [hc.out]
      exact ⟨rfl, rfl⟩
end

section
open Go.RowKit
set_option linter.unusedVariables false
set_option maxRecDepth 100000

def rnd (n least most : Int) : Int := least + (if n < 0 then -(n + 1) else n) % (most - least + 1)

theorem rnd_neg (n l m : Int) (hn : (Lit.int .i64 n).wf = true) (h : n < 0) (hl : 0 ≤ l) (hlm : l ≤ m) (hm : m ≤ 1099511627776) :
    wrap64 (l + (wrap64 (-wrap64 (n + 1))).tmod (m - l + 1)) = rnd n l m := by
  have hb := wf_i64 hn
  rw [show wrap64 (n + 1) = n + 1 by unfold wrap64; omega, show wrap64 (-(n + 1)) = -(n + 1) by unfold wrap64; omega, Int.tmod_eq_emod_of_nonneg (by omega)]
  unfold rnd
  rw [if_pos h]
  have h1 := Int.emod_nonneg (-(n + 1)) (b := m - l + 1) (by omega)
  have h2 := Int.emod_lt_of_pos (-(n + 1)) (b := m - l + 1) (by omega)
  generalize -(n + 1) % (m - l + 1) = x at *
  unfold wrap64; omega
theorem rnd_pos (n l m : Int) (h : 0 ≤ n) (hl : 0 ≤ l) (hlm : l ≤ m) (hm : m ≤ 1099511627776) : wrap64 (l + n % (m - l + 1)) = rnd n l m := by
  unfold rnd
  rw [if_neg (by omega)]
  have h1 := Int.emod_nonneg n (b := m - l + 1) (by omega)
  have h2 := Int.emod_lt_of_pos n (b := m - l + 1) (by omega)
  generalize n % (m - l + 1) = x at *
  unfold wrap64; omega
theorem rnd_bd (n l m : Int) (hlm : l ≤ m) : l ≤ rnd n l m ∧ rnd n l m ≤ m := by
  unfold rnd
  have h1 := Int.emod_nonneg (if n < 0 then -(n + 1) else n) (b := m - l + 1) (by omega)
  have h2 := Int.emod_lt_of_pos (if n < 0 then -(n + 1) else n) (b := m - l + 1) (by omega)
  omega
end

end Go.Proofs.YtnhcgpkcmfelkaaGreat
