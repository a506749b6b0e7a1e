/-
  My own work: plain facts behind layer 10: what a visit may bring, the late way and the daily one.
-/
import Derived.Test.YthilfibgpobcjaaHolds
namespace Go.Proofs.Ythilfibgpobcjaa
open Go.RowKit
set_option linter.unusedVariables false

/-- The most that a visit brings. -/
def mostI (sz ru there cap : Int) : Int := if sz - there < 1 ∨ cap < 0 then 0 else if sz - there ≤ cap then sz - there else if ru = 1 then 0 else cap
theorem most_bd (sz ru there cap : Int) (h : there ≤ sz) : 0 ≤ mostI sz ru there cap ∧ mostI sz ru there cap ≤ sz - there := by
  unfold mostI
  split
  · omega
  · split
    · omega
    · split <;> omega
/-- What is brought on a day, by what is there. -/
def bringI (late : Bool) (sz ru rt cap there : Int) : Int := if late = true ∧ rt ≤ there then 0 else mostI sz ru (max there 0) cap
/-- A way's bringings of k days, and what is there then. -/
def wayS (late : Bool) (sz ru rt cap st : Int) : Nat → List Int × Int
  | 0 => ([], st)
  | k + 1 => ((wayS late sz ru rt cap st k).1 ++ [bringI late sz ru rt cap (wayS late sz ru rt cap st k).2], (wayS late sz ru rt cap st k).2 + bringI late sz ru rt cap (wayS late sz ru rt cap st k).2 - rt)
def wayQ (late : Bool) (sz ru rt cap st : Int) (n : Nat) : List Int := (wayS late sz ru rt cap st n).1
def wayT (late : Bool) (sz ru rt cap st : Int) (n : Nat) : Int := (wayS late sz ru rt cap st n).2

section
variable {late : Bool} {sz ru rt cap st : Int}
theorem wayQ_succ (k : Nat) : wayQ late sz ru rt cap st (k + 1) = wayQ late sz ru rt cap st k ++ [bringI late sz ru rt cap (wayT late sz ru rt cap st k)] := rfl
theorem wayT_succ (k : Nat) : wayT late sz ru rt cap st (k + 1) = wayT late sz ru rt cap st k + bringI late sz ru rt cap (wayT late sz ru rt cap st k) - rt := rfl
theorem wayQ_len (k : Nat) : (wayQ late sz ru rt cap st k).length = k := by
  induction k with
  | zero => rfl
  | succ k ih => rw [wayQ_succ, List.length_append, ih]; rfl
theorem wayQ_take (k n : Nat) (h : k ≤ n) : (wayQ late sz ru rt cap st n).take k = wayQ late sz ru rt cap st k := by
  induction n with
  | zero => rw [show k = 0 by omega]; rfl
  | succ n ih =>
    by_cases e : k = n + 1
    · subst e
      rw [List.take_of_length_le (by rw [wayQ_len]; exact Nat.le_refl _)]
    · rw [wayQ_succ, List.take_append_of_le_length (by rw [wayQ_len]; omega)]
      exact ih (by omega)
theorem nth_wayQ (k n : Nat) (h : k < n) : nth (wayQ late sz ru rt cap st n) k = bringI late sz ru rt cap (wayT late sz ru rt cap st k) := by
  rw [← nth_take (n := k + 1) (by omega), wayQ_take (k + 1) n (by omega), wayQ_succ]
  have := nth_append_here (xs := wayQ late sz ru rt cap st k) (y := bringI late sz ru rt cap (wayT late sz ru rt cap st k))
  rwa [wayQ_len] at this
theorem wayT_morn (k n : Nat) (h : k ≤ n) : wayT late sz ru rt cap st k = morn st rt (wayQ late sz ru rt cap st n) k := by
  induction k with
  | zero => simp [wayT, wayS, morn]
  | succ k ih =>
    rw [wayT_succ, morn_succ _ _ _ _ (by rw [wayQ_len]; omega)]
    unfold noon
    rw [nth_wayQ k n (by omega), ← ih (by omega)]
theorem bring_bd (there : Int) (h : 0 ≤ sz) : 0 ≤ bringI late sz ru rt cap there ∧ bringI late sz ru rt cap there ≤ sz := by
  unfold bringI
  split
  · omega
  · by_cases hs : max there 0 ≤ sz
    · have := most_bd sz ru (max there 0) cap hs
      omega
    · unfold mostI
      rw [if_pos (by omega)]
      omega
theorem wayT_bd (h : 0 ≤ sz) (hr : 0 ≤ rt) (k : Nat) : st - rt * k ≤ wayT late sz ru rt cap st k ∧ wayT late sz ru rt cap st k ≤ st + sz * k := by
  induction k with
  | zero => simp [wayT, wayS]
  | succ k ih =>
    have := bring_bd (late := late) (ru := ru) (rt := rt) (cap := cap) (wayT late sz ru rt cap st k) h
    rw [wayT_succ]
    rw [show ((k + 1 : Nat) : Int) = (k : Int) + 1 by omega, Int.mul_add, Int.mul_add]
    omega
theorem way_okQ (h : 0 ≤ sz) (h2 : sz ≤ 2147483648) (n : Nat) : (wayQ late sz ru rt cap st n).all okQ = true := by
  apply all_okQ
  intro j hj
  rw [wayQ_len] at hj
  rw [nth_wayQ j n hj]
  have := bring_bd (late := late) (ru := ru) (rt := rt) (cap := cap) (wayT late sz ru rt cap st j) h
  simp [okQ]
  omega
end

theorem holdsE_zero {st rt sz : Int} {q : List Int} : holdsE st rt sz 2 q = 0 ↔ (nightsE st rt sz q).1 = 0 := by
  unfold holdsE
  constructor
  · intro h
    by_cases h0 : (nightsE st rt sz q).1 = 0
    · exact h0
    · rw [if_neg h0] at h; exact h
  · intro h
    rw [if_pos h, if_neg (by decide)]
theorem nightsE_zero {st rt sz : Int} {q : List Int} (h : (nightsE st rt sz q).1 = 0) : ∀ k, k < q.length → okDay st rt sz q k = true := by
  unfold nightsE at h
  split at h
  · split at h
    · rename_i h2
      intro k hk
      exact List.all_eq_true.1 h2 k (by simpa using hk)
    · simp at h
  · simp at h

/-- Where the late way may be by AnyUp, the daily one has no less there, and may be. -/
theorem late_daily (sz rt cap st : Int) (n : Nat) (h0 : 0 ≤ st) (h1 : st ≤ sz) (hr : 0 ≤ rt) (hok : ∀ k, k < n → okDay st rt sz (wayQ true sz 2 rt cap st n) k = true) :
    ∀ k, k ≤ n → 0 ≤ wayT true sz 2 rt cap st k ∧ wayT true sz 2 rt cap st k ≤ wayT false sz 2 rt cap st k ∧ wayT false sz 2 rt cap st k ≤ sz ∧
      (k < n → okDay st rt sz (wayQ false sz 2 rt cap st n) k = true) := by
  have hday : ∀ k, k < n → wayT true sz 2 rt cap st k + bringI true sz 2 rt cap (wayT true sz 2 rt cap st k) ≤ sz ∧ rt ≤ wayT true sz 2 rt cap st k + bringI true sz 2 rt cap (wayT true sz 2 rt cap st k) := by
    intro k hk
    have := okDay_bd (hok k hk)
    unfold noon at this
    rw [nth_wayQ k n hk, ← wayT_morn k n (by omega)] at this
    exact this
  have hstep : ∀ k, k < n → 0 ≤ wayT true sz 2 rt cap st k → wayT true sz 2 rt cap st k ≤ wayT false sz 2 rt cap st k → wayT false sz 2 rt cap st k ≤ sz →
      wayT true sz 2 rt cap st k + bringI true sz 2 rt cap (wayT true sz 2 rt cap st k) ≤ wayT false sz 2 rt cap st k + bringI false sz 2 rt cap (wayT false sz 2 rt cap st k) ∧
      wayT false sz 2 rt cap st k + bringI false sz 2 rt cap (wayT false sz 2 rt cap st k) ≤ sz := by
    intro k hk
    generalize wayT true sz 2 rt cap st k = a
    generalize wayT false sz 2 rt cap st k = b
    intro ha hab hbs
    unfold bringI mostI
    rw [if_neg (show ¬ (false = true ∧ rt ≤ b) by simp), show max b 0 = b by omega, show max a 0 = a by omega]
    split <;> split <;> (try split) <;> (try split) <;> (try split) <;> simp at * <;> omega
  intro k
  induction k with
  | zero =>
    intro _
    refine ⟨h0, Int.le_refl _, h1, fun hk => ?_⟩
    have s := hstep 0 hk h0 (Int.le_refl _) h1
    have d := hday 0 hk
    unfold okDay noon
    rw [nth_wayQ 0 n hk, ← wayT_morn 0 n (by omega)]
    simp
    omega
  | succ k ih =>
    intro hk
    obtain ⟨i1, i2, i3, _⟩ := ih (by omega)
    have s := hstep k (by omega) i1 i2 i3
    have d := hday k (by omega)
    have g0 : 0 ≤ wayT true sz 2 rt cap st (k + 1) := by rw [wayT_succ]; omega
    have g1 : wayT true sz 2 rt cap st (k + 1) ≤ wayT false sz 2 rt cap st (k + 1) := by rw [wayT_succ, wayT_succ]; omega
    have g2 : wayT false sz 2 rt cap st (k + 1) ≤ sz := by rw [wayT_succ]; omega
    refine ⟨g0, g1, g2, fun hk1 => ?_⟩
    have s := hstep (k + 1) hk1 g0 g1 g2
    have d := hday (k + 1) hk1
    unfold okDay noon
    rw [nth_wayQ (k + 1) n hk1, ← wayT_morn (k + 1) n (by omega)]
    simp
    omega
end Go.Proofs.Ythilfibgpobcjaa
