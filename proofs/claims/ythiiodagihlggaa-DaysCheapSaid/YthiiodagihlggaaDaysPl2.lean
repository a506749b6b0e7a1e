/-
  My own work: plain facts behind the laws of sets of days.
-/
import Derived.Test.YthiiodagihlggaaDaysE
namespace Go.Proofs.Ythiiodagihlggaa
open Go.RowKit
set_option linter.unusedVariables false

theorem test_over {s k : Nat} (hs : s < 18446744073709551616) (hk : 64 ≤ k) : s.testBit k = false :=
  Nat.testBit_lt_two_pow (Nat.lt_of_lt_of_le (show s < 2 ^ 64 by simpa using hs) (Nat.pow_le_pow_right (by decide) hk))
theorem set_ext {s t : Nat} (hs : s < 18446744073709551616) (ht : t < 18446744073709551616) (h : ∀ k, k < 64 → s.testBit k = t.testBit k) : s = t := by
  apply Nat.eq_of_testBit_eq
  intro k
  by_cases hk : k < 64
  · exact h k hk
  · rw [test_over hs (by omega), test_over ht (by omega)]
theorem test_with' (s : Nat) (d : Int) (k : Nat) (hk : k < 64) : (withN s d).testBit k = (s.testBit k || decide (d = (k : Int))) := by
  cases ht : thereB d with
  | true =>
    obtain ⟨h0, h1⟩ := there_yes ht
    obtain ⟨n, rfl⟩ := Int.eq_ofNat_of_zero_le h0
    rw [test_with s n k (by omega)]
    congr 1
    rw [decide_eq_decide]
    omega
  | false =>
    have := there_no ht
    unfold withN
    rw [ht, if_neg (by simp), decide_eq_false (by omega), Bool.or_false]
theorem test_without' (s : Nat) (d : Int) (k : Nat) (hs : s < 18446744073709551616) (hk : k < 64) : (withoutN s d).testBit k = (s.testBit k && !decide (d = (k : Int))) := by
  cases ht : thereB d with
  | true =>
    obtain ⟨h0, h1⟩ := there_yes ht
    obtain ⟨n, rfl⟩ := Int.eq_ofNat_of_zero_le h0
    rw [test_without s n k hs (by omega)]
    congr 2
    rw [decide_eq_decide]
    omega
  | false =>
    have := there_no ht
    unfold withoutN
    rw [ht, if_neg (by simp), decide_eq_false (by omega)]
    simp
theorem foldl_with_test (xs : List Int) (k : Nat) (hk : k < 64) : ∀ s, (xs.foldl withN s).testBit k = (s.testBit k || decide ((k : Int) ∈ xs)) := by
  induction xs with
  | nil => intro s; simp
  | cons x xs ih =>
    intro s
    rw [List.foldl_cons, ih, test_with' s x k hk]
    by_cases h1 : x = (k : Int)
    · subst h1; simp
    · by_cases h2 : (k : Int) ∈ xs
      · simp [h2]
      · have h3 : (k : Int) ≠ x := fun e => h1 e.symm
        simp [h1, h2, h3]
theorem mem_all (s m d k : Nat) (hk : k < d) : (k : Int) ∈ allUpto s m d ↔ m ≤ k ∧ s.testBit k = true := by
  unfold allUpto
  rw [List.mem_map]
  constructor
  · rintro ⟨j, hj, he⟩
    have : j = k := by have : (j : Int) = (k : Int) := he; omega
    subst this
    simp at hj
    exact hj.2
  · rintro ⟨h1, h2⟩
    exact ⟨k, by simp [hk, h1, h2], rfl⟩
/-- A set is the set of its days. -/
theorem of_all (s : Nat) (hs : s < 18446744073709551616) : ofUpto (allUpto s 0 64) (allUpto s 0 64).length = s := by
  apply set_ext (ofUpto_lt _ _) hs
  intro k hk
  unfold ofUpto
  rw [List.take_length, foldl_with_test _ k hk]
  have := mem_all s 0 64 k hk
  cases h : s.testBit k with
  | true => rw [decide_eq_true (this.2 ⟨Nat.zero_le _, h⟩)]; simp
  | false =>
    rw [decide_eq_false (fun hm => by have := (this.1 hm).2; rw [h] at this; cases this)]
    simp

theorem has_test (s : Nat) (d : Int) (n : Nat) (hd : d = (n : Int)) (hn : n < 64) : hasB s d = s.testBit n := by
  subst hd
  unfold hasB thereB
  rw [decide_eq_true (by omega), decide_eq_true (by omega)]
  simp
theorem with_twice (s : Nat) (d : Int) (hs : s < 18446744073709551616) : withN (withN s d) d = withN s d := by
  apply set_ext (with_lt d (with_lt d hs)) (with_lt d hs)
  intro k hk
  rw [test_with' _ d k hk, test_with' _ d k hk, Bool.or_assoc, Bool.or_self]
theorem without_twice (s : Nat) (d : Int) (hs : s < 18446744073709551616) : withoutN (withoutN s d) d = withoutN s d := by
  apply set_ext (without_lt d (without_lt d hs)) (without_lt d hs)
  intro k hk
  rw [test_without' _ d k (without_lt d hs) hk, test_without' _ d k hs hk, Bool.and_assoc, Bool.and_self]
theorem without_with (s : Nat) (d : Int) (hs : s < 18446744073709551616) : withoutN (withN s d) d = withoutN s d := by
  apply set_ext (without_lt d (with_lt d hs)) (without_lt d hs)
  intro k hk
  rw [test_without' _ d k (with_lt d hs) hk, test_with' _ d k hk, test_without' _ d k hs hk]
  cases s.testBit k <;> cases decide (d = (k : Int)) <;> rfl
theorem has_without (s : Nat) (d : Int) (hs : s < 18446744073709551616) : hasB (withoutN s d) d = false := by
  cases ht : thereB d with
  | false => unfold hasB; rw [ht]; rfl
  | true =>
    obtain ⟨h0, h1⟩ := there_yes ht
    obtain ⟨n, rfl⟩ := Int.eq_ofNat_of_zero_le h0
    rw [has_test _ _ n rfl (by omega), test_without' s _ n hs (by omega)]
    simp
theorem has_with (s : Nat) (d : Int) (ht : thereB d = true) : hasB (withN s d) d = true := by
  obtain ⟨h0, h1⟩ := there_yes ht
  obtain ⟨n, rfl⟩ := Int.eq_ofNat_of_zero_le h0
  rw [has_test _ _ n rfl (by omega), test_with' s _ n (by omega)]
  simp
theorem with_no (s : Nat) (d : Int) (ht : thereB d = false) : withN s d = s ∧ withoutN s d = s := by
  unfold withN withoutN
  rw [ht]
  exact ⟨rfl, rfl⟩
theorem cnt_succ (s n : Nat) : cnt s (n + 1) = cnt s n + (if s.testBit n = true then 1 else 0) := by
  unfold cnt
  rw [List.range_succ, List.filter_append, List.length_append]
  cases h : s.testBit n <;> simp [h]
theorem cnt_with (s d : Nat) (hs : s < 18446744073709551616) (hd : d < 64) : ∀ n, n ≤ 64 → cnt (withN s (d : Int)) n = cnt (withoutN s (d : Int)) n + (if d < n then 1 else 0) := by
  intro n
  induction n with
  | zero => intro _; simp [cnt_zero]
  | succ n ih =>
    intro hn
    rw [cnt_succ, cnt_succ, ih (by omega), test_with s d n hd, test_without s d n hs hd]
    by_cases h : d = n
    · subst h; simp
    · by_cases h2 : d < n
      · rw [if_pos h2, if_pos (show d < n + 1 by omega)]
        simp [h]; omega
      · rw [if_neg h2, if_neg (show ¬ d < n + 1 by omega)]
        simp [h]
theorem len_with (s : Nat) (d : Int) (hs : s < 18446744073709551616) (ht : thereB d = true) : (allUpto (withN s d) 0 64).length = (allUpto (withoutN s d) 0 64).length + 1 := by
  obtain ⟨h0, h1⟩ := there_yes ht
  obtain ⟨n, rfl⟩ := Int.eq_ofNat_of_zero_le h0
  have := cnt_with s n hs (by omega) 64 (by decide)
  rw [cnt_all, cnt_all, if_pos (by omega)] at this
  exact this

theorem all_sorted (s m d : Nat) : (allUpto s m d).Pairwise (· < ·) := by
  unfold allUpto
  rw [List.pairwise_map]
  exact (List.pairwise_lt_range.filter _).imp (fun h => by have := h; simp; exact this)
theorem all_bd (s m d : Nat) : ∀ x ∈ allUpto s m d, 0 ≤ x ∧ x < d := by
  intro x hx
  unfold allUpto at hx
  rw [List.mem_map] at hx
  obtain ⟨k, hk, rfl⟩ := hx
  simp at hk
  exact ⟨Int.natCast_nonneg _, by have := hk.1; simp; exact this⟩
theorem sorted_filter (xs : List Int) (h : xs.Pairwise (· < ·)) (k : Nat) (hk : k < xs.length) : xs.filter (fun x => decide (nth xs k + 1 ≤ x)) = xs.drop (k + 1) := by
  have e : xs = xs.take k ++ nth xs k :: xs.drop (k + 1) := by
    rw [nth_lt hk, ← List.drop_eq_getElem_cons hk, List.take_append_drop]
  generalize hx : nth xs k = y at *
  generalize xs.take k = a at *
  generalize hb : xs.drop (k + 1) = b at *
  clear hx hb
  subst e
  rw [List.pairwise_append] at h
  obtain ⟨_, h2, h3⟩ := h
  rw [List.pairwise_cons] at h2
  rw [List.filter_append, List.filter_cons]
  have e1 : a.filter (fun x => decide (y + 1 ≤ x)) = [] := by
    rw [List.filter_eq_nil_iff]
    intro x hx
    have := h3 x hx y (List.mem_cons_self ..)
    simp; omega
  have e2 : b.filter (fun x => decide (y + 1 ≤ x)) = b := by
    rw [List.filter_eq_self]
    intro x hx
    have := h2.1 x hx
    simp; omega
  rw [e1, e2, if_neg (by simp; omega)]
  rfl
theorem next_after (s k : Nat) (hk : k < (allUpto s 0 64).length) : nextI s (nth (allUpto s 0 64) k + 1) = ((allUpto s 0 64).drop (k + 1)).headD (-1) := by
  unfold nextI
  rw [allUpto_filter, sorted_filter _ (all_sorted s 0 64) k hk]
theorem next_first (s : Nat) : nextI s 0 = ((allUpto s 0 64).drop 0).headD (-1) := rfl
theorem drop_head (xs : List Int) (k : Nat) (hk : k < xs.length) : (xs.drop k).headD (-1) = nth xs k := by
  rw [nth_lt hk, List.drop_eq_getElem_cons hk]; rfl
theorem drop_none (xs : List Int) (k : Nat) (hk : xs.length ≤ k) : (xs.drop k).headD (-1) = -1 := by
  rw [List.drop_of_length_le hk]; rfl
theorem has_all (s k : Nat) (hk : k < (allUpto s 0 64).length) : hasB s (nth (allUpto s 0 64) k) = true := by
  have hm := nth_mem hk
  obtain ⟨h0, h1⟩ := all_bd s 0 64 _ hm
  obtain ⟨n, hn⟩ := Int.eq_ofNat_of_zero_le h0
  rw [hn] at hm h1
  rw [has_test s _ n hn (by omega)]
  exact ((mem_all s 0 64 n (by omega)).1 hm).2
end Go.Proofs.Ythiiodagihlggaa
