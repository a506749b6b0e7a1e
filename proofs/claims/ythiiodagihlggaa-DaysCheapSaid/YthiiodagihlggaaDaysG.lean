/-
  My own work: tranterref02.sat, Price, Best, days.Best: their contracts.
-/
import Derived.Test.YthiiodagihlggaaDaysF
import Derived.Test.YthiiodagihlggaaU64s
import Derived.Test.YthiiodagihlggaaBigF
namespace Go.Proofs.Ythiiodagihlggaa
open Go.RowKit
set_option linter.unusedVariables false

theorem sat_fit {a b : Int} (h : fitsI (a + b) = true) : satI a b = a + b := by unfold satI; rw [if_pos h]
theorem sat_not {a b : Int} (ha : fitsI a = true) (hb : fitsI b = true) (h : ¬ fitsI (a + b) = true) : satI a b = if a < 0 then -9223372036854775808 else 9223372036854775807 := by
  unfold satI
  rw [if_neg h]
  rw [fitsI_iff] at ha hb h
  split <;> split <;> omega
theorem fits_sat (a b : Int) : fitsI (satI a b) = true := by
  unfold satI
  by_cases h : fitsI (a + b) = true
  · rw [if_pos h]; exact h
  · rw [if_neg h]; split <;> decide

set_option maxHeartbeats 1600000 in
theorem refsat_is (a b : Int) (w : World) (fa : fitsI a = true) (fb : fitsI b = true) :
    Calls Try.prog 37 #[.int .i64 a, .int .i64 b] w fun e w' => e = .returned (.int .i64 (satI a b)) ∧ Below w.heap.size w w' := by
  have Fa := Lib.hid fa
  have Fb := Lib.hid fb
  clear fa fb
  go_enter Try.func37, Try.ntmps37
  go_wp2_with fail
  refine (of_is _ _ Fa.out).mono ?_
  rintro e w1 ⟨v1, rfl, hB1, hb1⟩
  go_wp2_with fail
  refine (of_is _ _ Fb.out).mono ?_
  rintro e w2 ⟨v2, rfl, hB2, hb2⟩
  have b2 := hb1.trans (hb2.mono hb1.size)
  go_wp2_with fail
  refine (bigAdd_is _ _ _ _ 4 4 _ (hB1.below hb2) hB2 (by decide) (by decide)).mono ?_
  rintro e w3 ⟨v3, rfl, hB3, hb3⟩
  have b3 := b2.trans (hb3.mono b2.size)
  go_wp2_with fail
  refine (int_is _ _ _ _ hB3).mono ?_
  rintro e w4 ⟨rfl, hb4⟩
  have b4 := b3.trans (hb4.mono b3.size)
  clear hB1 hB2 hB3 hb1 hb2 hb3 hb4 b2 b3
  by_cases hf : fitsI (a + b) = true
  · have Hs := Lib.hid (sat_fit hf)
    rw [sumE_fit hf]
    clear hf
    go_wp2_with fail
    go_ret
    rw [Hs.out]
    exact ⟨rfl, b4⟩
  · have hs := sat_not Fa.out Fb.out hf
    rw [sumE_not hf]
    clear hf
    by_cases h0 : a < 0
    · rw [if_pos h0] at hs
      have Hs := Lib.hid hs
      have h0' : decide (a < 0) = true := by simpa using h0
      clear hs h0
      go_wp2_with fail
      go_ret
      rw [Hs.out]
      exact ⟨rfl, b4⟩
    · rw [if_neg h0] at hs
      have Hs := Lib.hid hs
      have h0' : decide (a < 0) = false := by simpa using h0
      clear hs h0
      go_wp2_with fail
      go_ret
      rw [Hs.out]
      exact ⟨rfl, b4⟩

/-- A set's days' prices together. -/
def priceStep (ps : List Int) (acc d : Int) : Int := if d < (ps.length : Int) then satI acc (nth ps d.toNat) else acc
def priceUpto (ps : List Int) (s k : Nat) : Int := ((allUpto s 0 64).take k).foldl (priceStep ps) 0
def priceI (ps : List Int) (s : Nat) : Int := priceUpto ps s 64
theorem price_succ (ps : List Int) (s k : Nat) (h : k < (allUpto s 0 64).length) : priceUpto ps s (k + 1) = priceStep ps (priceUpto ps s k) (nth (allUpto s 0 64) k) := by
  unfold priceUpto
  rw [take_succ_nth _ k h, List.foldl_append]
  rfl
theorem price_end (ps : List Int) (s k : Nat) (h : (allUpto s 0 64).length ≤ k) : priceUpto ps s k = priceI ps s := by
  unfold priceI priceUpto
  rw [List.take_of_length_le h, List.take_of_length_le (allUpto_len _ _ _)]
theorem price_fits (ps : List Int) (s k : Nat) : fitsI (priceUpto ps s k) = true := by
  unfold priceUpto
  have : ∀ (xs : List Int) (a : Int), fitsI a = true → fitsI (xs.foldl (priceStep ps) a) = true := by
    intro xs
    induction xs with
    | nil => intro a h; exact h
    | cons x xs ih =>
      intro a h
      rw [List.foldl_cons]
      apply ih
      unfold priceStep
      split
      · exact fits_sat _ _
      · exact h
  exact this _ _ (by decide)

set_option maxRecDepth 100000 in
set_option maxHeartbeats 1600000 in
theorem price_is (s : Nat) (pv : Value) (ps : List Int) (w : World) (hs : s < 18446744073709551616) (hp : Ints w pv ps) (hf : ∀ x ∈ ps, fitsI x = true) :
    Calls Try.prog 25 #[.int .u64 s, pv] w fun e w' => e = .returned (.int .i64 (priceI ps s)) ∧ Below w.heap.size w w' := by
  obtain ⟨pa, m, pc, rfl, hm, hmax, hpc⟩ := hp.open
  have Hm := Lib.hid hm
  have Hf := Lib.hid hf
  have hpc' : ∀ k, k < m → ∃ b o, pa = some ⟨b, o, none⟩ ∧ b < w.heap.size ∧ w.cell? ⟨b, o + k, none⟩ = some (.int .i64 (nth ps k)) := fun k hk => by
    obtain ⟨b, o, e1, e2⟩ := hpc k hk
    exact ⟨b, o, e1, World.block_lt_of_cell? w _ e2, e2⟩
  have Hpc := Lib.hid hpc'
  clear hm hf hpc hpc' hp
  go_enter Try.func25, Try.ntmps25
  go_wp2_with fail
  refine (refAll_is s w hs).mono ?_
  rintro e w1 ⟨v, rfl, hown1, hb1⟩
  obtain ⟨a, n, c, rfl, hn, _, hcell⟩ := hown1.ints.open
  have hcell' : ∀ k, k < n → ∃ b o, a = some ⟨b, o, none⟩ ∧ b < w1.heap.size ∧ w1.cell? ⟨b, o + k, none⟩ = some (.int .i64 (nth (allUpto s 0 64) k)) := fun k hk => by
    obtain ⟨b, o, e1, e2⟩ := hcell k hk
    exact ⟨b, o, e1, World.block_lt_of_cell? w1 _ e2, e2⟩
  have Hcell := Lib.hid hcell'
  have Hl := Lib.hid hn
  have hn64 : n ≤ 64 := by rw [← hn]; exact allUpto_len _ _ _
  have Hb1 := Lib.hid hb1
  have hsz : w.heap.size ≤ w1.heap.size := hb1.size
  clear hcell hcell' hown1 hn hb1
  go_wp2_with fail
  go_loopw [6, 7] (fun x i wr => ∃ (k : Nat) (S : Int), k ≤ n ∧ i = .int .i64 k ∧ x = .int .i64 S ∧ S = priceUpto ps s k ∧ Below w1.heap.size w1 wr) (fun _ i _ => n - (intOf i).toNat)
  case atStart => exact ⟨0, 0, Nat.zero_le _, rfl, rfl, rfl, Below.refl _ _⟩
  case round =>
    obtain ⟨k, S, hk, rfl, rfl, hS, hb⟩ := hrel
    by_cases hlt : k < n
    · obtain ⟨b, o, rfl, hbl, hc0⟩ := Hcell.out k hlt
      have hc := cell_lt hb hbl hc0
      obtain ⟨hD0, hD1⟩ := all_bd s 0 64 _ (nth_mem (show k < (allUpto s 0 64).length by rw [Hl.out]; exact hlt))
      have hst := price_succ ps s k (by rw [Hl.out]; exact hlt)
      rw [← hS] at hst
      have hfS : fitsI S = true := by rw [hS]; exact price_fits _ _ _
      obtain ⟨D, hD⟩ := Int.eq_ofNat_of_zero_le hD0
      rw [hD] at hc hst hD1
      have hD64 : D < 64 := by omega
      have hi0 : (0 : Int) ≤ (k : Int) := by omega
      have hi1 : (k : Int) < (n : Int) := by omega
      unfold priceStep at hst
      rw [Hm.out, Int.toNat_natCast] at hst
      have HfS := Lib.hid hfS
      clear hc0 hS hD hD0 hD1 hfS
      by_cases hDm : D < m
      · rw [if_pos (by omega)] at hst
        obtain ⟨b', o', rfl, hbl', hc0'⟩ := Hpc.out D hDm
        have hc' := cell_lt hb (by omega) ((Hb1.out.cell (p := ⟨b', o' + D, none⟩) hbl').trans hc0')
        have hfp := Lib.hid (Hf.out _ (nth_mem (show D < ps.length by rw [Hm.out]; exact hDm)))
        have hd0 : (0 : Int) ≤ (D : Int) := by omega
        have hdm : (D : Int) < (m : Int) := by omega
        have Hst := Lib.hid hst
        clear hc0' hst
        go_wp2_with fail
        refine (refsat_is S _ _ HfS.out hfp.out).mono ?_
        rintro e w2 ⟨rfl, hb2⟩
        have b2 := hb.trans (hb2.mono hb.size)
        clear hb hb2 hc hc'
        go_wp2_with fail
        go_roundw
        case rel => exact ⟨k + 1, _, by omega, by go_num, rfl, Hst.out.symm, b2⟩
        case measure => simp [intOf]; omega
      · rw [if_neg (by omega)] at hst
        have hdm : decide ((D : Int) < (m : Int)) = false := by simp; omega
        have hdm' : decide (D < m) = false := by simpa using hDm
        have Hst := Lib.hid hst
        clear hst
        go_wp2_with fail
        go_roundw
        case rel => exact ⟨k + 1, _, by omega, by go_num, rfl, Hst.out.symm, hb⟩
        case measure => simp [intOf]; omega
    · have he := price_end ps s k (by rw [Hl.out]; omega)
      rw [← hS] at he
      have He := Lib.hid he
      clear he hS
      go_wp2_with fail
      go_ret
      rw [He.out]
      exact ⟨rfl, Hb1.out.trans (hb.mono hsz)⟩

/-- The first of k sets whose prices are the least, and its prices. -/
def bestUpto (ps : List Int) (l : List Nat) : Nat → Int × Int
  | 0 => (-1, 0)
  | k + 1 => if (bestUpto ps l k).1 < 0 ∨ priceI ps (nthN l k) < (bestUpto ps l k).2 then ((k : Int), priceI ps (nthN l k)) else bestUpto ps l k
theorem best_bd (ps : List Int) (l : List Nat) (k : Nat) : -1 ≤ (bestUpto ps l k).1 ∧ (bestUpto ps l k).1 < k ∨ k = 0 := by
  induction k with
  | zero => right; rfl
  | succ k ih =>
    left
    unfold bestUpto
    split
    · simp; omega
    · rcases ih with ih | ih
      · omega
      · subst ih; simp [bestUpto] at *

set_option maxRecDepth 100000 in
set_option maxHeartbeats 1600000 in
theorem refBest_is (lv pv : Value) (l : List Nat) (ps : List Int) (w : World) (hl : Words w lv l) (hlw : ∀ x ∈ l, x < 18446744073709551616) (hp : Ints w pv ps) (hf : ∀ x ∈ ps, fitsI x = true) (hl10 : l.length ≤ 1000) :
    Calls Try.prog 24 #[lv, pv] w fun e w' => e = .returned (.tuple #[.int .i64 (bestUpto ps l l.length).1, .int .i64 (bestUpto ps l l.length).2]) ∧ Below w.heap.size w w' := by
  obtain ⟨a, n, c, rfl, hn, _, _, hcell⟩ := hl.open
  rw [hn]
  have Hcell := Lib.hid hcell
  have Hl := Lib.hid hn
  have Hp := Lib.hid hp
  have Hf := Lib.hid hf
  have Hlw := Lib.hid hlw
  rw [hn] at hl10
  obtain ⟨pa, m, pc, rfl, _, _, _⟩ := hp.open
  clear hcell hn hp hf hlw hl
  go_enter Try.func24, Try.ntmps24
  go_wp2_with fail
  go_loopw [6, 7, 8] (fun x y i wr => ∃ (k : Nat) (A L : Int), k ≤ n ∧ i = .int .i64 k ∧ x = .int .i64 A ∧ y = .int .i64 L ∧ (A, L) = bestUpto ps l k ∧ Below w.heap.size w wr) (fun _ _ i _ => n - (intOf i).toNat)
  case atStart => exact ⟨0, -1, 0, Nat.zero_le _, rfl, rfl, rfl, rfl, Below.refl _ _⟩
  case round =>
    obtain ⟨k, A, L, hk, rfl, rfl, rfl, hAL, hb⟩ := hrel
    by_cases hlt : k < n
    · obtain ⟨b, o, rfl, hbl, hc0⟩ := Hcell.out k hlt
      have hc := cell_lt hb hbl hc0
      have hst : bestUpto ps l (k + 1) = if A < 0 ∨ priceI ps (nthN l k) < L then ((k : Int), priceI ps (nthN l k)) else (A, L) := by rw [bestUpto, ← hAL]
      have hsw := Lib.hid (Hlw.out _ (nthN_mem (show k < l.length by rw [Hl.out]; exact hlt)))
      have hi0 : (0 : Int) ≤ (k : Int) := by omega
      have hi1 : (k : Int) < (n : Int) := by omega
      have HpI := Lib.hid (Hp.out.below hb)
      generalize nthN l k = s at *
      clear hc0 hAL
      have Hst := Lib.hid hst
      clear hst
      go_wp2_with fail
      refine (price_is s _ ps _ hsw.out HpI.out Hf.out).mono ?_
      rintro e w2 ⟨rfl, hb2⟩
      have b2 := hb.trans (hb2.mono hb.size)
      clear hb hb2 hc
      generalize priceI ps s = P at *
      by_cases h1 : A < 0
      · have hs1 := Hst.out
        rw [if_pos (.inl h1)] at hs1
        have h1' : decide (A < 0) = true := by simpa using h1
        have Hs1 := Lib.hid hs1
        clear hs1 h1
        go_wp2_with fail
        go_roundw
        case rel => exact ⟨k + 1, _, _, by omega, by go_num, rfl, rfl, Hs1.out.symm, b2⟩
        case measure => simp [intOf]; omega
      · have h1' : decide (A < 0) = false := by simpa using h1
        by_cases h2 : P < L
        · have hs1 := Hst.out
          rw [if_pos (.inr h2)] at hs1
          have h2' : decide (P < L) = true := by simpa using h2
          have Hs1 := Lib.hid hs1
          clear hs1 h1 h2
          go_wp2_with fail
          go_roundw
          case rel => exact ⟨k + 1, _, _, by omega, by go_num, rfl, rfl, Hs1.out.symm, b2⟩
          case measure => simp [intOf]; omega
        · have hs1 := Hst.out
          rw [if_neg (by omega)] at hs1
          have h2' : decide (P < L) = false := by simpa using h2
          have Hs1 := Lib.hid hs1
          clear hs1 h1 h2
          go_wp2_with fail
          go_roundw
          case rel => exact ⟨k + 1, _, _, by omega, by go_num, rfl, rfl, Hs1.out.symm, b2⟩
          case measure => simp [intOf]; omega
    · have hkn : k = n := by omega
      subst hkn
      have HAL := Lib.hid hAL
      clear hAL
      go_wp2_with fail
      go_ret2
      rw [← HAL.out]
      exact ⟨rfl, hb⟩

set_option maxRecDepth 100000 in
set_option maxHeartbeats 3200000 in
theorem best_is (lv pv : Value) (l : List Nat) (ps : List Int) (w : World) (hl : Words w lv l) (hlw : ∀ x ∈ l, x < 18446744073709551616) (hp : Ints w pv ps) (hf : ∀ x ∈ ps, fitsI x = true) (hl10 : l.length ≤ 1000) :
    Calls Try.prog 23 #[lv, pv] w fun e w' => e = .returned (.tuple #[.int .i64 (bestUpto ps l l.length).1, .int .i64 (bestUpto ps l l.length).2]) ∧ Below w.heap.size w w' := by
  obtain ⟨a, n, c, rfl, hn, _, _, hcell⟩ := hl.open
  rw [hn]
  obtain ⟨pa, m, pc, rfl, hm, _, hpc⟩ := hp.open
  have hpc' : ∀ k, k < m → ∃ b o, pa = some ⟨b, o, none⟩ ∧ b < w.heap.size ∧ w.cell? ⟨b, o + k, none⟩ = some (.int .i64 (nth ps k)) := fun k hk => by
    obtain ⟨b, o, e1, e2⟩ := hpc k hk
    exact ⟨b, o, e1, World.block_lt_of_cell? w _ e2, e2⟩
  have Hpc := Lib.hid hpc'
  have Hcell := Lib.hid hcell
  have Hl := Lib.hid hn
  have Hm := Lib.hid hm
  have Hf := Lib.hid hf
  have Hlw := Lib.hid hlw
  rw [hn] at hl10
  clear hcell hn hp hf hlw hl hm hpc hpc'
  go_enter Try.func23, Try.ntmps23
  go_wp2_with fail
  go_loopw [6, 7, 15] (fun x y i wr => ∃ (k : Nat) (A L : Int), k ≤ n ∧ i = .int .i64 k ∧ x = .int .i64 A ∧ y = .int .i64 L ∧ (A, L) = bestUpto ps l k ∧ Below w.heap.size w wr) (fun _ _ i _ => n - (intOf i).toNat)
  case atStart => exact ⟨0, -1, 0, Nat.zero_le _, rfl, rfl, rfl, rfl, Below.refl _ _⟩
  case round =>
    obtain ⟨k, A, L, hk, rfl, rfl, rfl, hAL, hb⟩ := hrel
    by_cases hlt : k < n
    · obtain ⟨b, o, rfl, hbl, hc0⟩ := Hcell.out k hlt
      have hc := cell_lt hb hbl hc0
      have hst : bestUpto ps l (k + 1) = if A < 0 ∨ priceI ps (nthN l k) < L then ((k : Int), priceI ps (nthN l k)) else (A, L) := by rw [bestUpto, ← hAL]
      have hsw := Lib.hid (Hlw.out _ (nthN_mem (show k < l.length by rw [Hl.out]; exact hlt)))
      have hi0 : (0 : Int) ≤ (k : Int) := by omega
      have hi1 : (k : Int) < (n : Int) := by omega
      generalize nthN l k = s at *
      clear hc0 hAL
      have Hst := Lib.hid hst
      clear hst
      go_wp2_with fail
      refine (all_is s _ hsw.out).mono ?_
      rintro e w1 ⟨v, rfl, hown1, hb1⟩
      obtain ⟨a1, n1, c1, rfl, hn1, _, hcell1⟩ := hown1.ints.open
      have hcell1' : ∀ k, k < n1 → ∃ b o, a1 = some ⟨b, o, none⟩ ∧ b < w1.heap.size ∧ w1.cell? ⟨b, o + k, none⟩ = some (.int .i64 (nth (allUpto s 0 64) k)) := fun k hk => by
        obtain ⟨b, o, e1, e2⟩ := hcell1 k hk
        exact ⟨b, o, e1, World.block_lt_of_cell? w1 _ e2, e2⟩
      have Hcell1 := Lib.hid hcell1'
      have Hl1 := Lib.hid hn1
      have hn64 : n1 ≤ 64 := by rw [← hn1]; exact allUpto_len _ _ _
      have Hb1 := Lib.hid (hb.trans (hb1.mono hb.size))
      have hsz : w.heap.size ≤ w1.heap.size := Nat.le_trans hb.size hb1.size
      clear hcell1 hcell1' hown1 hn1 hb1 hb hc
      go_wp2_with fail
      obtain ⟨wo, hwo⟩ : ∃ wo : World, wo = wr := ⟨_, rfl⟩
      subst hwo
      go_loopw [10, 23] (fun x i wr => ∃ (k : Nat) (S : Int), k ≤ n1 ∧ i = .int .i64 k ∧ x = .int .i64 S ∧ S = priceUpto ps s k ∧ wr = w1) (fun _ i _ => n1 - (intOf i).toNat)
      case atStart => exact ⟨0, 0, Nat.zero_le _, rfl, rfl, rfl, rfl⟩
      case round =>
        obtain ⟨j, S, hj, rfl, rfl, hS, rfl⟩ := hrel
        by_cases hlt1 : j < n1
        · obtain ⟨b1, o1, rfl, hbl1, hc1⟩ := Hcell1.out j hlt1
          obtain ⟨hD0, hD1⟩ := all_bd s 0 64 _ (nth_mem (show j < (allUpto s 0 64).length by rw [Hl1.out]; exact hlt1))
          have hst := price_succ ps s j (by rw [Hl1.out]; exact hlt1)
          rw [← hS] at hst
          have hfS : fitsI S = true := by rw [hS]; exact price_fits _ _ _
          obtain ⟨D, hD⟩ := Int.eq_ofNat_of_zero_le hD0
          rw [hD] at hc1 hst hD1
          have hD64 : D < 64 := by omega
          have hj0 : (0 : Int) ≤ (j : Int) := by omega
          have hj1 : (j : Int) < (n1 : Int) := by omega
          unfold priceStep at hst
          rw [Hm.out, Int.toNat_natCast] at hst
          have HfS := Lib.hid hfS
          clear hS hD hD0 hD1 hfS
          by_cases hDm : D < m
          · rw [if_pos (by omega)] at hst
            obtain ⟨b', o', rfl, hbl', hc0'⟩ := Hpc.out D hDm
            have hc' := cell_lt Hb1.out hbl' hc0'
            have hfp := Lib.hid (Hf.out _ (nth_mem (show D < ps.length by rw [Hm.out]; exact hDm)))
            have hd0 : (0 : Int) ≤ (D : Int) := by omega
            have hdm : (D : Int) < (m : Int) := by omega
            have Hst2 := Lib.hid hst
            clear hc0' hst
            go_wp2_with fail
            refine (sat_is S _ _ HfS.out hfp.out).mono ?_
            rintro e w2 ⟨rfl, rfl⟩
            go_wp2_with fail
            go_roundw
            case rel => exact ⟨j + 1, _, by omega, by go_num, rfl, Hst2.out.symm, trivial⟩
            case measure => simp [intOf]; omega
          · rw [if_neg (by omega)] at hst
            have hdm : decide ((D : Int) < (m : Int)) = false := by simp; omega
            have hdm' : decide (D < m) = false := by simpa using hDm
            have Hst2 := Lib.hid hst
            clear hst
            go_wp2_with fail
            go_roundw
            case rel => exact ⟨j + 1, _, by omega, by go_num, rfl, Hst2.out.symm, trivial⟩
            case measure => simp [intOf]; omega
        · have hP := price_end ps s j (by rw [Hl1.out]; omega)
          rw [← hS] at hP
          have HP := Lib.hid hP
          have b2 := Hb1.out
          clear hP hS
          by_cases h1 : A < 0
          · have hs1 := Hst.out
            rw [if_pos (.inl h1), ← HP.out] at hs1
            have h1' : decide (A < 0) = true := by simpa using h1
            have Hs1 := Lib.hid hs1
            clear hs1 h1
            go_wp2_with fail
            go_roundw
            case rel => exact ⟨k + 1, _, _, by omega, by go_num, rfl, rfl, Hs1.out.symm, b2⟩
            case measure => simp [intOf]; omega
          · have h1' : decide (A < 0) = false := by simpa using h1
            by_cases h2 : S < L
            · have hs1 := Hst.out
              rw [← HP.out, if_pos (.inr h2)] at hs1
              have h2' : decide (S < L) = true := by simpa using h2
              have Hs1 := Lib.hid hs1
              clear hs1 h1 h2
              go_wp2_with fail
              go_roundw
              case rel => exact ⟨k + 1, _, _, by omega, by go_num, rfl, rfl, Hs1.out.symm, b2⟩
              case measure => simp [intOf]; omega
            · have hs1 := Hst.out
              rw [← HP.out, if_neg (by omega)] at hs1
              have h2' : decide (S < L) = false := by simpa using h2
              have Hs1 := Lib.hid hs1
              clear hs1 h1 h2
              go_wp2_with fail
              go_roundw
              case rel => exact ⟨k + 1, _, _, by omega, by go_num, rfl, rfl, Hs1.out.symm, b2⟩
              case measure => simp [intOf]; omega
    · have hkn : k = n := by omega
      subst hkn
      have HAL := Lib.hid hAL
      clear hAL
      go_wp2_with fail
      go_ret2
      rw [← HAL.out]
      exact ⟨rfl, hb⟩
end Go.Proofs.Ythiiodagihlggaa
