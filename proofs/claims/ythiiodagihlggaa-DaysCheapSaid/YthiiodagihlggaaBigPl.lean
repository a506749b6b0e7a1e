/-
  My own work: plain facts on digits of 65536.
-/
import Derived.Test.YthiiodagihlggaaNum
namespace Go.Proofs.Ythiiodagihlggaa
open Go.RowKit
set_option linter.unusedVariables false

/-- 65536 to the k. -/
def pw : Nat → Int
  | 0 => 1
  | k + 1 => 65536 * pw k
theorem pw_pos (k : Nat) : 0 < pw k := by
  induction k with
  | zero => simp [pw]
  | succ k ih => simp only [pw]; omega
theorem pw_add (i j : Nat) : pw (i + j) = pw i * pw j := by
  induction i with
  | zero => simp [pw]
  | succ i ih => rw [Nat.succ_add]; simp only [pw]; rw [ih, Int.mul_assoc]
theorem pw_le {i j : Nat} (h : i ≤ j) : pw i ≤ pw j := by
  obtain ⟨k, rfl⟩ := Nat.exists_eq_add_of_le h
  rw [pw_add]
  have h1 := pw_pos i
  have h2 := pw_pos k
  have : pw i * 1 ≤ pw i * pw k := Int.mul_le_mul_of_nonneg_left (by omega) (by omega)
  omega

def dval : List Int → Int
  | [] => 0
  | d :: ds => d + 65536 * dval ds
def Dg (ds : List Int) : Prop := ∀ d ∈ ds, 0 ≤ d ∧ d < 65536
/-- No nought at the end. -/
def Nm (ds : List Int) : Prop := 0 < ds.length → nth ds (ds.length - 1) ≠ 0

theorem dval_append (xs ys : List Int) : dval (xs ++ ys) = dval xs + pw xs.length * dval ys := by
  induction xs with
  | nil => simp [dval, pw]
  | cons x xs ih =>
    simp only [List.cons_append, dval, List.length_cons, pw, ih, Int.mul_add, Int.mul_assoc]
    omega
theorem dval_snoc (xs : List Int) (y : Int) : dval (xs ++ [y]) = dval xs + pw xs.length * y := by rw [dval_append]; simp [dval]
theorem dval_bd {ds : List Int} (h : Dg ds) : 0 ≤ dval ds ∧ dval ds < pw ds.length := by
  induction ds with
  | nil => simp [dval, pw]
  | cons d ds ih =>
    have h1 := h d (List.mem_cons_self ..)
    have h2 := ih (fun x hx => h x (List.mem_cons_of_mem _ hx))
    simp only [dval, List.length_cons, pw]
    omega
theorem nth_dg {ds : List Int} (h : Dg ds) (k : Nat) : 0 ≤ nth ds k ∧ nth ds k < 65536 := by
  by_cases hk : k < ds.length
  · exact h _ (nth_mem hk)
  · have : nth ds k = 0 := by unfold nth; simp; rw [List.getElem?_eq_none (by omega)]; rfl
    omega
theorem nth_over {ds : List Int} {k : Nat} (h : ds.length ≤ k) : nth ds k = 0 := by unfold nth; simp; rw [List.getElem?_eq_none (by omega)]; rfl
theorem dval_take_succ (ds : List Int) (k : Nat) : dval (ds.take (k + 1)) = dval (ds.take k) + pw k * nth ds k := by
  by_cases hk : k < ds.length
  · rw [take_succ_nth ds k hk, dval_snoc]
    congr 2
    rw [List.length_take]; congr 1; omega
  · rw [List.take_of_length_le (by omega), List.take_of_length_le (by omega), nth_over (by omega), Int.mul_zero, Int.add_zero]
theorem Dg.snoc {ds : List Int} (h : Dg ds) {y : Int} (h0 : 0 ≤ y) (h1 : y < 65536) : Dg (ds ++ [y]) := by
  intro x hx
  rcases List.mem_append.1 hx with hx | hx
  · exact h x hx
  · simp at hx; subst hx; exact ⟨h0, h1⟩
theorem Dg.take {ds : List Int} (h : Dg ds) (k : Nat) : Dg (ds.take k) := fun x hx => h x (List.mem_of_mem_take hx)
theorem Dg.drop {ds : List Int} (h : Dg ds) (k : Nat) : Dg (ds.drop k) := fun x hx => h x (List.mem_of_mem_drop hx)
theorem Dg.nil : Dg [] := fun x hx => by simp at hx

/-- A number cut in two at digit k. -/
theorem dval_split (ds : List Int) (k : Nat) (h : k ≤ ds.length) : dval ds = dval (ds.take k) + pw k * dval (ds.drop k) := by
  have := dval_append (ds.take k) (ds.drop k)
  rw [List.take_append_drop, List.length_take, Nat.min_eq_left h] at this
  exact this
theorem drop_nth (ds : List Int) (k : Nat) (h : k < ds.length) : ds.drop k = nth ds k :: ds.drop (k + 1) := by
  rw [nth_lt h]; exact List.drop_eq_getElem_cons h
theorem dval_drop (ds : List Int) (k : Nat) (h : k < ds.length) : dval (ds.drop k) = nth ds k + 65536 * dval (ds.drop (k + 1)) := by
  rw [drop_nth ds k h]; rfl
theorem norm_ge {ds : List Int} (h : Dg ds) (hn : Nm ds) (hp : 0 < ds.length) : pw (ds.length - 1) ≤ dval ds := by
  rw [dval_split ds (ds.length - 1) (by omega), dval_drop ds _ (by omega)]
  have h1 := dval_bd (h.take (ds.length - 1))
  have h2 := nth_dg h (ds.length - 1)
  have h3 := hn hp
  have h4 := dval_bd (h.drop (ds.length - 1 + 1))
  have h5 := pw_pos (ds.length - 1)
  have : pw (ds.length - 1) * 1 ≤ pw (ds.length - 1) * (nth ds (ds.length - 1) + 65536 * dval (ds.drop (ds.length - 1 + 1))) :=
    Int.mul_le_mul_of_nonneg_left (by omega) (by omega)
  omega
theorem shorter_lt {xs ys : List Int} (ha : Dg xs) (hb : Dg ys) (hn : Nm ys) (h : xs.length < ys.length) : dval xs < dval ys := by
  have h1 := dval_bd ha
  have h2 := norm_ge hb hn (by omega)
  have h3 := pw_le (show xs.length ≤ ys.length - 1 by omega)
  omega
/-- The first digit from above that parts two numbers decides. -/
theorem digit_lt {xs ys : List Int} (ha : Dg xs) (hb : Dg ys) (hl : xs.length = ys.length) (k : Nat) (hk : k < xs.length) (hd : xs.drop (k + 1) = ys.drop (k + 1)) (h : nth xs k < nth ys k) : dval xs < dval ys := by
  rw [dval_split xs k (by omega), dval_split ys k (by omega), dval_drop xs k hk, dval_drop ys k (by omega), hd]
  have h1 := dval_bd (ha.take k)
  have h2 := dval_bd (hb.take k)
  rw [List.length_take, Nat.min_eq_left (by omega)] at h1
  have h5 := pw_pos k
  have : pw k * (nth xs k + 65536 * dval (ys.drop (k + 1)) + 1) ≤ pw k * (nth ys k + 65536 * dval (ys.drop (k + 1))) :=
    Int.mul_le_mul_of_nonneg_left (by omega) (by omega)
  rw [Int.mul_add, Int.mul_one] at this
  omega
end Go.Proofs.Ythiiodagihlggaa
