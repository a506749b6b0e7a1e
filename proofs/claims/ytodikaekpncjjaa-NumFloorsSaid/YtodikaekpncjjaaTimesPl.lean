/-
  My own work: plain facts behind tranterref01.Times.
-/
import Derived.Test.YtodikaekpncjjaaBigB
namespace Go.Proofs.Ytodikaekpncjjaa
open Go.RowKit
set_option linter.unusedVariables false

theorem dval_set (ds : List Int) (k : Nat) (y : Int) (h : k < ds.length) : dval (ds.set k y) = dval ds + pw k * (y - nth ds k) := by
  have h1 := dval_split ds k (by omega)
  have h2 := dval_split (ds.set k y) k (by rw [List.length_set]; omega)
  rw [dval_drop ds k h] at h1
  rw [dval_drop (ds.set k y) k (by rw [List.length_set]; exact h), nth_set h, if_pos rfl, List.drop_set_of_lt (by omega), List.take_set_of_le (Nat.le_refl _)] at h2
  rw [h1, h2, Int.mul_add, Int.mul_add, Int.mul_sub]
  omega
theorem Dg.set {ds : List Int} (h : Dg ds) (k : Nat) {y : Int} (h0 : 0 ≤ y) (h1 : y < 65536) : Dg (ds.set k y) := by
  intro d hd
  rcases List.mem_or_eq_of_mem_set hd with h' | rfl
  · exact h d h'
  · exact ⟨h0, h1⟩
theorem dval_zeros (n : Nat) : dval (List.replicate n 0) = 0 := by
  induction n with
  | zero => rfl
  | succ n ih => rw [List.replicate_succ]; simp [dval, ih]
theorem Dg.zeros (n : Nat) : Dg (List.replicate n 0) := by
  intro d hd
  rw [List.eq_of_mem_replicate hd]
  decide

/-- The inner loop's state. -/
structure TIn (A B out : List Int) (i k : Nat) (c : Int) : Prop where
  dg : Dg out
  len : out.length = A.length + B.length + 1
  c0 : 0 ≤ c
  c1 : c ≤ 65535
  val : dval out + pw (i + k) * c = dval (A.take i) * dval B + pw i * (nth A i * dval (B.take k))

theorem TIn.carry {A B out : List Int} {i k : Nat} {c : Int} (h : TIn A B out i k c) (hA : Dg A) (hB : Dg B) (hi : i < A.length) (hc : 0 < c) : k ≤ B.length := by
  obtain ⟨h1, h2, h3, h4, h5⟩ := h
  have e1 := (dval_bd h1).1
  have e2 := dval_bd (hA.take (i + 1))
  rw [dval_take_succ, List.length_take, Nat.min_eq_left (by omega)] at e2
  have e3 := dval_bd hB
  have e4 := nth_dg hA i
  have e5 := dval_bd (hB.take k)
  have e6 : dval (B.take k) ≤ dval B := by
    by_cases hk : k ≤ B.length
    · have := dval_split B k hk
      have h6 := (dval_bd (hB.drop k)).1
      have h7 : 0 ≤ pw k * dval (B.drop k) := Int.mul_nonneg (by have := pw_pos k; omega) h6
      omega
    · rw [List.take_of_length_le (by omega)]; exact Int.le_refl _
  by_cases hk : k ≤ B.length
  · exact hk
  · exfalso
    have hp : pw (i + 1 + B.length) ≤ pw (i + k) := pw_le (by omega)
    have hp0 := pw_pos (i + k)
    have f1 : pw (i + k) * 1 ≤ pw (i + k) * c := Int.mul_le_mul_of_nonneg_left (by omega) (by omega)
    have f2 : pw i * (nth A i * dval (B.take k)) ≤ pw i * (nth A i * dval B) := Int.mul_le_mul_of_nonneg_left (Int.mul_le_mul_of_nonneg_left e6 e4.1) (by have := pw_pos i; omega)
    have f3 : dval (A.take i) * dval B + pw i * (nth A i * dval B) = (dval (A.take i) + pw i * nth A i) * dval B := by rw [Int.add_mul, Int.mul_assoc]
    have f4 : (dval (A.take i) + pw i * nth A i) * dval B ≤ (pw (i + 1) - 1) * dval B := Int.mul_le_mul_of_nonneg_right (by omega) e3.1
    have f5 : (pw (i + 1) - 1) * dval B ≤ (pw (i + 1) - 1) * (pw B.length - 1) := Int.mul_le_mul_of_nonneg_left (by omega) (by have := pw_pos (i + 1); omega)
    have f6 : (pw (i + 1) - 1) * (pw B.length - 1) < pw (i + 1) * pw B.length := by
      have := pw_pos (i + 1); have := pw_pos B.length
      rw [Int.sub_mul, Int.mul_sub]
      omega
    rw [← pw_add] at f6
    omega

theorem TIn.step {A B out : List Int} {i k : Nat} {c v : Int} (h : TIn A B out i k c) (hA : Dg A) (hB : Dg B) (hi : i < A.length) (hk : k ≤ B.length) (hv : v = nth out (i + k) + c + nth A i * nth B k) :
    0 ≤ v ∧ v ≤ 4294967295 ∧ TIn A B (out.set (i + k) (v % 65536)) i (k + 1) (v / 65536) := by
  have e1 := nth_dg hA i
  have e2 := nth_dg hB k
  have e3 := nth_dg h.dg (i + k)
  have h0 := h.c0
  have h1 := h.c1
  have m0 : 0 ≤ nth A i * nth B k := Int.mul_nonneg e1.1 e2.1
  have m1 : nth A i * nth B k ≤ 65535 * 65535 := Int.le_trans (Int.mul_le_mul_of_nonneg_right (show nth A i ≤ 65535 by omega) e2.1) (Int.mul_le_mul_of_nonneg_left (by omega) (by decide))
  have hv0 : 0 ≤ v := by omega
  have hv1 : v ≤ 4294836225 + 65535 * 2 := by omega
  refine ⟨hv0, by omega, h.dg.set _ (by omega) (by omega), by rw [List.length_set]; exact h.len, by omega, by omega, ?_⟩
  rw [dval_set _ _ _ (by rw [h.len]; omega), show i + (k + 1) = (i + k) + 1 by omega, pw_add (i + k) 1, show pw 1 = 65536 by decide, dval_take_succ, Int.mul_add, Int.mul_add, ← Int.add_assoc, ← h.val]
  have e : pw i * (nth A i * (pw k * nth B k)) = pw (i + k) * (nth A i * nth B k) := by
    rw [pw_add, Int.mul_assoc]
    congr 1
    rw [← Int.mul_assoc, ← Int.mul_assoc, Int.mul_comm (nth A i) (pw k)]
  rw [e]
  have d : v = v % 65536 + 65536 * (v / 65536) := by omega
  have e7 : pw (i + k) * (v % 65536 - nth out (i + k)) + pw (i + k) * 65536 * (v / 65536) = pw (i + k) * (c + nth A i * nth B k) := by
    rw [Int.mul_assoc, ← Int.mul_add]
    congr 1
    omega
  rw [Int.mul_add] at e7
  omega

theorem TIn.start {A B out : List Int} {i : Nat} (hd : Dg out) (hl : out.length = A.length + B.length + 1) (hv : dval out = dval (A.take i) * dval B) : TIn A B out i 0 0 :=
  ⟨hd, hl, by omega, by omega, by rw [hv]; simp [dval]⟩
theorem TIn.fin {A B out : List Int} {i k : Nat} (h : TIn A B out i k 0) (hk : B.length ≤ k) : dval out = dval (A.take (i + 1)) * dval B := by
  have := h.val
  rw [List.take_of_length_le hk, Int.mul_zero, Int.add_zero] at this
  rw [this, dval_take_succ, Int.add_mul, Int.mul_assoc]
theorem sg_mul (x y : Int) : sg (decide (x < 0) != decide (y < 0)) ((x.natAbs : Int) * y.natAbs) = x * y := by
  by_cases h1 : x < 0 <;> by_cases h2 : y < 0
  · rw [decide_eq_true h1, decide_eq_true h2, show (x.natAbs : Int) = -x by omega, show (y.natAbs : Int) = -y by omega]; simp [sg, Int.neg_mul_neg]
  · rw [decide_eq_true h1, decide_eq_false h2, show (x.natAbs : Int) = -x by omega, show (y.natAbs : Int) = y by omega]; simp [sg, Int.neg_mul]
  · rw [decide_eq_false h1, decide_eq_true h2, show (x.natAbs : Int) = x by omega, show (y.natAbs : Int) = -y by omega]; simp [sg, Int.mul_neg]
  · rw [decide_eq_false h1, decide_eq_false h2, show (x.natAbs : Int) = x by omega, show (y.natAbs : Int) = y by omega]; simp [sg]
end Go.Proofs.Ytodikaekpncjjaa
