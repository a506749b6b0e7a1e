/-
  My own work: plain facts on nightsE.
-/
import Derived.Test.YthilfibgpobcjaaStock
namespace Go.Proofs.Ythilfibgpobcjaa
open Go.RowKit
set_option linter.unusedVariables false

theorem nightsE_cases (st rt sz : Int) (q : List Int) : nightsE st rt sz q = (1, []) ∧ q.all okQ = false ∨ nightsE st rt sz q = (8, []) ∧ q.all okQ = true ∨
    (nightsE st rt sz q = (0, nightL st rt q q.length) ∧ q.all okQ = true ∧ ∀ k, k < q.length → okDay st rt sz q k = true) := by
  unfold nightsE
  by_cases h1 : q.all okQ = true
  · rw [if_pos h1]
    by_cases h2 : (List.range q.length).all (okDay st rt sz q) = true
    · rw [if_pos h2]
      exact .inr (.inr ⟨rfl, h1, fun k hk => List.all_eq_true.1 h2 k (by simpa using hk)⟩)
    · rw [if_neg h2]
      exact .inr (.inl ⟨rfl, h1⟩)
  · rw [if_neg h1]
    exact .inl ⟨rfl, by simpa using h1⟩
theorem nth_nightL (st rt : Int) (q : List Int) (n k : Nat) (h : k < n) : nth (nightL st rt q n) k = morn st rt q (k + 1) := by
  unfold nightL; rw [nth_map_range _ _ _ h]
theorem nightL_take (st rt : Int) (q : List Int) (n m k : Nat) (h : k ≤ m) (hm : m ≤ n) : nightL st rt (q.take m) k = (nightL st rt q n).take k := by
  apply ext_nth
  · rw [nightL_len, List.length_take, nightL_len]; omega
  · intro j hj
    rw [nightL_len] at hj
    rw [nth_nightL _ _ _ _ _ hj, nth_take hj, nth_nightL _ _ _ _ _ (by omega)]
    unfold morn
    rw [List.take_take, Nat.min_eq_left (by omega)]
theorem okDay_bd {st rt sz : Int} {q : List Int} {k : Nat} (h : okDay st rt sz q k = true) : noon st rt q k ≤ sz ∧ rt ≤ noon st rt q k := by
  simpa [okDay] using h
/-- Where all days are well the mornings are not below 0. -/
theorem morn_nonneg {st rt sz : Int} {q : List Int} (h0 : 0 ≤ st) (h : ∀ k, k < q.length → okDay st rt sz q k = true) (k : Nat) (hk : k ≤ q.length) : 0 ≤ morn st rt q k := by
  cases k with
  | zero => simp [morn]; exact h0
  | succ k =>
    rw [morn_succ _ _ _ _ (by omega)]
    have := okDay_bd (h k (by omega))
    omega
theorem take_sum_set (q : List Int) (d : Nat) (y : Int) (hd : d < q.length) (k : Nat) : ((q.set d y).take k).sum = (q.take k).sum + (if d < k then y - nth q d else 0) := by
  induction q generalizing d k with
  | nil => simp at hd
  | cons x q ih =>
    cases k with
    | zero => simp
    | succ k =>
      cases d with
      | zero => simp [nth]; omega
      | succ d =>
        simp only [List.set_cons_succ, List.take_succ_cons, List.sum_cons]
        rw [ih d (by simpa using hd) k]
        have : nth (x :: q) (d + 1) = nth q d := rfl
        rw [this]
        by_cases h : d < k
        · rw [if_pos h, if_pos (by omega)]; omega
        · rw [if_neg h, if_neg (by omega)]; omega
theorem morn_set (st rt : Int) (q : List Int) (d : Nat) (y : Int) (hd : d < q.length) (k : Nat) : morn st rt (q.set d y) k = morn st rt q k + (if d < k then y - nth q d else 0) := by
  unfold morn; rw [take_sum_set q d y hd k]; omega
theorem okQ_set {q : List Int} {d : Nat} {y : Int} (h : q.all okQ = true) (hy : okQ y = true) : (q.set d y).all okQ = true := by
  rw [List.all_eq_true] at h ⊢
  intro x hx
  rcases List.mem_or_eq_of_mem_set hx with h' | rfl
  · exact h x h'
  · exact hy
theorem morn_take (st rt : Int) (q : List Int) (n k : Nat) (h : k ≤ n) : morn st rt (q.take n) k = morn st rt q k := by
  unfold morn; rw [List.take_take, Nat.min_eq_left h]
theorem nightsE_take {st rt sz : Int} {q : List Int} (hok : q.all okQ = true) (hd : ∀ k, k < q.length → okDay st rt sz q k = true) (m : Nat) (hm : m ≤ q.length) :
    nightsE st rt sz (q.take m) = (0, (nightL st rt q q.length).take m) := by
  have hl : (q.take m).length = m := by rw [List.length_take]; omega
  have h1 : (q.take m).all okQ = true := by
    rw [List.all_eq_true] at hok ⊢
    intro x hx
    exact hok x (List.mem_of_mem_take hx)
  rw [nightsE_ok h1, hl, nightL_take st rt q q.length m m (Nat.le_refl _) hm]
  intro j hj
  rw [hl] at hj
  have := hd j (by omega)
  unfold okDay noon at this ⊢
  rw [morn_take _ _ _ _ _ (by omega), nth_take hj]
  exact this
theorem sum_take_le {l : List Int} (h : ∀ x ∈ l, 0 ≤ x) (k : Nat) : 0 ≤ (l.take k).sum ∧ (l.take k).sum ≤ l.sum := by
  induction l generalizing k with
  | nil => simp
  | cons x l ih =>
    have hx := h x (List.mem_cons_self ..)
    cases k with
    | zero =>
      have := ih (fun y hy => h y (List.mem_cons_of_mem _ hy)) l.length
      rw [List.take_length] at this
      simp; omega
    | succ k =>
      have := ih (fun y hy => h y (List.mem_cons_of_mem _ hy)) k
      simp only [List.take_succ_cons, List.sum_cons]; omega
end Go.Proofs.Ythilfibgpobcjaa
