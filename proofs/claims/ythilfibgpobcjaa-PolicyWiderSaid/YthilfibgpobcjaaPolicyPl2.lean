/-
  My own work: plain facts behind layer 10: a greater capacity.
-/
import Derived.Test.YthilfibgpobcjaaPolicyPl
import Derived.Test.YthilfibgpobcjaaDaysPl1
namespace Go.Proofs.Ythilfibgpobcjaa
open Go.RowKit
set_option linter.unusedVariables false

/-- With a greater capacity the daily way has no less there, and may be where it could. -/
theorem daily_wider (sz rt a b st : Int) (n : Nat) (ha : 0 ≤ a) (hab : a ≤ b) (h0 : 0 ≤ st) (h1 : st ≤ sz) (hr : 0 ≤ rt) (hok : ∀ k, k < n → okDay st rt sz (wayQ false sz 2 rt a st n) k = true) :
    ∀ k, k ≤ n → 0 ≤ wayT false sz 2 rt a st k ∧ wayT false sz 2 rt a st k ≤ wayT false sz 2 rt b st k ∧ wayT false sz 2 rt b st k ≤ sz ∧
      (k < n → okDay st rt sz (wayQ false sz 2 rt b st n) k = true) := by
  have hday : ∀ k, k < n → wayT false sz 2 rt a st k + bringI false sz 2 rt a (wayT false sz 2 rt a st k) ≤ sz ∧ rt ≤ wayT false sz 2 rt a st k + bringI false sz 2 rt a (wayT false sz 2 rt a st k) := by
    intro k hk
    have := okDay_bd (hok k hk)
    unfold noon at this
    rw [nth_wayQ k n hk, ← wayT_morn k n (by omega)] at this
    exact this
  have hstep : ∀ k, k < n → 0 ≤ wayT false sz 2 rt a st k → wayT false sz 2 rt a st k ≤ wayT false sz 2 rt b st k → wayT false sz 2 rt b st k ≤ sz →
      wayT false sz 2 rt a st k + bringI false sz 2 rt a (wayT false sz 2 rt a st k) ≤ wayT false sz 2 rt b st k + bringI false sz 2 rt b (wayT false sz 2 rt b st k) ∧
      wayT false sz 2 rt b st k + bringI false sz 2 rt b (wayT false sz 2 rt b st k) ≤ sz := by
    intro k hk
    generalize wayT false sz 2 rt a st k = x
    generalize wayT false sz 2 rt b st k = y
    intro hx hxy hys
    unfold bringI mostI
    rw [if_neg (show ¬ (false = true ∧ rt ≤ x) by simp), if_neg (show ¬ (false = true ∧ rt ≤ y) by simp), show max x 0 = x by omega, show max y 0 = y by omega]
    split <;> split <;> (try split) <;> (try split) <;> (try split) <;> simp at * <;> omega
  intro k
  induction k with
  | zero =>
    intro _
    refine ⟨h0, Int.le_refl _, h1, fun hk => ?_⟩
    have s := hstep 0 hk h0 (Int.le_refl _) h1
    have d := hday 0 hk
    unfold okDay noon
    rw [nth_wayQ 0 n hk, ← wayT_morn 0 n (by omega)]
    simp
    omega
  | succ k ih =>
    intro hk
    obtain ⟨i1, i2, i3, _⟩ := ih (by omega)
    have s := hstep k (by omega) i1 i2 i3
    have d := hday k (by omega)
    have g0 : 0 ≤ wayT false sz 2 rt a st (k + 1) := by rw [wayT_succ]; omega
    have g1 : wayT false sz 2 rt a st (k + 1) ≤ wayT false sz 2 rt b st (k + 1) := by rw [wayT_succ, wayT_succ]; omega
    have g2 : wayT false sz 2 rt b st (k + 1) ≤ sz := by rw [wayT_succ]; omega
    refine ⟨g0, g1, g2, fun hk1 => ?_⟩
    have s := hstep (k + 1) hk1 g0 g1 g2
    have d := hday (k + 1) hk1
    unfold okDay noon
    rw [nth_wayQ (k + 1) n hk1, ← wayT_morn (k + 1) n (by omega)]
    simp
    omega

/-! ### A row of fills -/
/-- What is there on the morning of day d behind a fill on the day last (below 0: none). -/
def thereI (st sz rt : Int) (d : Nat) (last : Int) : Int := if 0 ≤ last then sz - rt * (d - last) else st - rt * d
/-- A fill on the day last may come ahead of day d. -/
def okLast (st sz rt : Int) (S d : Nat) (last : Int) : Bool := decide (0 ≤ thereI st sz rt d last) && (decide (last < 0) || S.testBit last.toNat)
def fillLast (st sz ru rt cap : Int) (S d : Nat) (last : Int) : Bool := okLast st sz rt S d last && decide (0 < mostI sz ru (thereI st sz rt d last) cap)
def fillNow (st sz ru rt cap : Int) (S d j : Nat) : Bool := (List.range j).any fun i => fillLast st sz ru rt cap S d ((i : Int) - 1)
def fillSet (st sz ru rt cap : Int) : Nat → Nat
  | 0 => 0
  | d + 1 => if fillNow st sz ru rt cap (fillSet st sz ru rt cap d) d (d + 1) = true then withN (fillSet st sz ru rt cap d) d else fillSet st sz ru rt cap d
def endNow (st sz rt : Int) (S n j : Nat) : Bool := (List.range j).any fun i => okLast st sz rt S n ((i : Int) - 1)
def fillsB (st sz ru rt cap : Int) (n : Nat) : Bool := endNow st sz rt (fillSet st sz ru rt cap n) n (n + 1)
theorem fillSet_lt (st sz ru rt cap : Int) (d : Nat) : fillSet st sz ru rt cap d < 18446744073709551616 := by
  induction d with
  | zero => exact (by decide : (0 : Nat) < 18446744073709551616)
  | succ d ih =>
    unfold fillSet
    split
    · exact with_lt _ ih
    · exact ih
theorem any_succ (f : Nat → Bool) (j : Nat) : (List.range (j + 1)).any f = ((List.range j).any f || f j) := by
  rw [List.range_succ, List.any_append]
  simp
theorem most_wider (sz ru there a b : Int) (hab : a ≤ b) (ha : 0 ≤ a) (h : 0 < mostI sz 1 there a) : 0 < mostI sz 1 there b := by
  unfold mostI at *
  split at h
  · omega
  · rw [if_neg (by omega)]
    split at h
    · rw [if_pos (by omega)]; exact h
    · simp at h
theorem okLast_mono (st sz rt : Int) (S T d : Nat) (last : Int) (hST : ∀ k, S.testBit k = true → T.testBit k = true) (h : okLast st sz rt S d last = true) : okLast st sz rt T d last = true := by
  unfold okLast at *
  rw [Bool.and_eq_true, Bool.or_eq_true] at *
  exact ⟨h.1, h.2.imp id (hST _)⟩
theorem fillSet_mono (st sz rt a b : Int) (ha : 0 ≤ a) (hab : a ≤ b) : ∀ d, d ≤ 64 → ∀ k, (fillSet st sz 1 rt a d).testBit k = true → (fillSet st sz 1 rt b d).testBit k = true := by
  intro d
  induction d with
  | zero => intro _ k h; simp [fillSet] at h
  | succ d ih =>
    intro hd k h
    have ih' := ih (by omega)
    by_cases hk : k < 64
    · unfold fillSet at h ⊢
      by_cases hb : fillNow st sz 1 rt b (fillSet st sz 1 rt b d) d (d + 1) = true
      · rw [if_pos hb, test_with' _ _ k hk, Bool.or_eq_true]
        split at h
        · rw [test_with' _ _ k hk, Bool.or_eq_true] at h
          exact h.imp (ih' k) id
        · exact .inl (ih' k h)
      · rw [if_neg hb]
        split at h
        · rename_i hfa
          exfalso
          apply hb
          unfold fillNow at hfa ⊢
          rw [List.any_eq_true] at hfa ⊢
          obtain ⟨i, hi, hf⟩ := hfa
          refine ⟨i, hi, ?_⟩
          unfold fillLast at hf ⊢
          rw [Bool.and_eq_true, decide_eq_true_eq] at hf ⊢
          exact ⟨okLast_mono _ _ _ _ _ _ _ ih' hf.1, most_wider _ 1 _ _ _ hab ha hf.2⟩
        · exact ih' k h
    · rw [test_over (fillSet_lt _ _ _ _ _ _) (by omega)] at h
      cases h
theorem fillsB_mono (st sz rt a b : Int) (n : Nat) (hn : n ≤ 64) (ha : 0 ≤ a) (hab : a ≤ b) (h : fillsB st sz 1 rt a n = true) : fillsB st sz 1 rt b n = true := by
  unfold fillsB endNow at *
  rw [List.any_eq_true] at *
  obtain ⟨i, hi, hf⟩ := h
  exact ⟨i, hi, okLast_mono _ _ _ _ _ _ _ (fillSet_mono st sz rt a b ha hab n hn) hf⟩

/-! ### How many visits there must be -/
def wantsI (rt st : Int) (n : Nat) : Int := max (rt * n - st) 0
def ceilI (w m : Int) : Int := (w + m - 1) / m
def forcedI (rt st sz : Int) (n : Nat) (cap : Int) : Int := if wantsI rt st n = 0 then 0 else if min cap sz < 1 then n else min (ceilI (wantsI rt st n) (min cap sz)) n
theorem ceil_mono (w a b : Int) (hw : 0 ≤ w) (ha : 0 < a) (hab : a ≤ b) : ceilI w b ≤ ceilI w a := by
  unfold ceilI
  have h1 : w ≤ a * ((w + a - 1) / a) := by
    have := Int.mul_ediv_add_emod (w + a - 1) a
    have := Int.emod_lt_of_pos (w + a - 1) ha
    omega
  have h0 : 0 ≤ (w + a - 1) / a := Int.ediv_nonneg (by omega) (by omega)
  have h2 : a * ((w + a - 1) / a) ≤ b * ((w + a - 1) / a) := Int.mul_le_mul_of_nonneg_right hab h0
  generalize (w + a - 1) / a = x at *
  have h3 : w + b - 1 < b * (x + 1) := by rw [Int.mul_add]; omega
  have := Int.ediv_lt_of_lt_mul (a := w + b - 1) (b := x + 1) (c := b) (by omega) (by rw [Int.mul_comm]; exact h3)
  omega
theorem forced_wider (rt st sz : Int) (n : Nat) (a b : Int) (hab : a ≤ b) : forcedI rt st sz n b ≤ forcedI rt st sz n a := by
  unfold forcedI
  by_cases hw : wantsI rt st n = 0
  · rw [if_pos hw, if_pos hw]; exact Int.le_refl _
  · rw [if_neg hw, if_neg hw]
    by_cases h1 : min a sz < 1
    · rw [if_pos h1]
      split <;> omega
    · rw [if_neg h1, if_neg (by omega)]
      have := ceil_mono (wantsI rt st n) (min a sz) (min b sz) (by unfold wantsI; omega) (by omega) (by omega)
      omega
end Go.Proofs.Ythilfibgpobcjaa
