/-
  My own work: layer 17, plainly: the least of some numbers, prices that fit, whether prices may be.
-/
import Derived.Test.YthilfibgpobcjaaGood3
import Derived.Test.YthilfibgpobcjaaNumClip
namespace Go.Proofs.Ythilfibgpobcjaa
open Go.RowKit
set_option linter.unusedVariables false

/-- The least of the first k numbers but that of a place; whether there is one. -/
def lup (place : Nat) (f : Nat → Int) : Nat → Int × Bool
  | 0 => (0, false)
  | k + 1 => if k = place then lup place f k else if (lup place f k).2 = false ∨ f k < (lup place f k).1 then (f k, true) else lup place f k
def leastI (n place : Nat) (f : Nat → Int) : Int := (lup place f n).1

theorem lup_here (place : Nat) (f : Nat → Int) (k : Nat) (h : k = place) : lup place f (k + 1) = lup place f k := by rw [lup, if_pos h]
theorem lup_step (place : Nat) (f : Nat → Int) (k : Nat) (h : ¬ k = place) : lup place f (k + 1) = if (lup place f k).2 = false ∨ f k < (lup place f k).1 then (f k, true) else lup place f k := by rw [lup, if_neg h]
theorem lup_none (place : Nat) (f : Nat → Int) (n : Nat) (h : (lup place f n).2 = false) : (lup place f n).1 = 0 ∧ ∀ k, k < n → k = place := by
  induction n with
  | zero => exact ⟨rfl, fun k hk => by omega⟩
  | succ n ih =>
    by_cases e : n = place
    · rw [lup_here _ _ _ e] at h ⊢
      obtain ⟨h1, h2⟩ := ih h
      exact ⟨h1, fun k hk => by rcases Nat.lt_succ_iff_lt_or_eq.1 hk with h' | rfl; exact h2 k h'; exact e⟩
    · rw [lup_step _ _ _ e] at h
      split at h
      · cases h
      · rename_i hh
        exact absurd (.inl h) hh
theorem lup_some (place : Nat) (f : Nat → Int) (n : Nat) (h : (lup place f n).2 = true) : (∃ k, k < n ∧ k ≠ place ∧ f k = (lup place f n).1) ∧ ∀ k, k < n → k ≠ place → (lup place f n).1 ≤ f k := by
  induction n with
  | zero => cases h
  | succ n ih =>
    by_cases e : n = place
    · rw [lup_here _ _ _ e] at h ⊢
      obtain ⟨⟨k, h1, h2, h3⟩, h4⟩ := ih h
      exact ⟨⟨k, by omega, h2, h3⟩, fun j hj hne => h4 j (by omega) hne⟩
    · rw [lup_step _ _ _ e] at h ⊢
      split
      · rename_i hh
        refine ⟨⟨n, by omega, e, rfl⟩, fun j hj hne => ?_⟩
        show f n ≤ f j
        rcases Nat.lt_succ_iff_lt_or_eq.1 hj with h' | rfl
        · rcases hh with hh | hh
          · exact absurd ((lup_none place f n hh).2 j h') hne
          · cases h2 : (lup place f n).2 with
            | false => exact absurd ((lup_none place f n h2).2 j h') hne
            | true => have := (ih h2).2 j h' hne; omega
        · omega
      · rename_i hh
        have h2 : (lup place f n).2 = true := by
          cases h2 : (lup place f n).2 with
          | true => rfl
          | false => exact absurd (.inl h2) hh
        obtain ⟨⟨k, h1, h3, h4⟩, h5⟩ := ih h2
        refine ⟨⟨k, by omega, h3, h4⟩, fun j hj hne => ?_⟩
        rcases Nat.lt_succ_iff_lt_or_eq.1 hj with h' | rfl
        · exact h5 j h' hne
        · have : ¬ f j < (lup place f j).1 := fun h' => hh (.inr h')
          omega
theorem lup_has {place : Nat} {f : Nat → Int} {n k : Nat} (hk : k < n) (hne : k ≠ place) : (lup place f n).2 = true := by
  cases h : (lup place f n).2 with
  | true => rfl
  | false => exact absurd ((lup_none place f n h).2 k hk) hne
theorem lup_congr {place : Nat} {f g : Nat → Int} {n : Nat} (h : ∀ k, k < n → k ≠ place → f k = g k) : lup place f n = lup place g n := by
  induction n with
  | zero => rfl
  | succ n ih =>
    have ih' := ih (fun k hk => h k (by omega))
    by_cases e : n = place
    · rw [lup_here _ _ _ e, lup_here _ _ _ e, ih']
    · rw [lup_step _ _ _ e, lup_step _ _ _ e, ih', h n (by omega) e]
theorem least_bd {n place : Nat} {f : Nat → Int} {lo hi : Int} (h0 : lo ≤ 0) (h1 : 0 ≤ hi) (h : ∀ k, k < n → k ≠ place → lo ≤ f k ∧ f k ≤ hi) : lo ≤ leastI n place f ∧ leastI n place f ≤ hi := by
  unfold leastI
  cases h2 : (lup place f n).2 with
  | false => rw [(lup_none place f n h2).1]; exact ⟨h0, h1⟩
  | true =>
    obtain ⟨⟨k, hk, hne, e⟩, _⟩ := lup_some place f n h2
    rw [← e]
    exact h k hk hne
theorem lup_bd {n place : Nat} {f : Nat → Int} {lo hi : Int} (h0 : lo ≤ 0) (h1 : 0 ≤ hi) (h : ∀ k, k < n → k ≠ place → lo ≤ f k ∧ f k ≤ hi) : lo ≤ (lup place f n).1 ∧ (lup place f n).1 ≤ hi := least_bd h0 h1 h
theorem least_le {n place k : Nat} {f : Nat → Int} (hk : k < n) (hne : k ≠ place) : leastI n place f ≤ f k := (lup_some place f n (lup_has hk hne)).2 k hk hne
theorem least_at {n place k : Nat} {f : Nat → Int} (hk : k < n) (hne : k ≠ place) : ∃ j, j < n ∧ j ≠ place ∧ f j = leastI n place f := (lup_some place f n (lup_has hk hne)).1
theorem least_none {n place : Nat} {f : Nat → Int} (h : ∀ k, k < n → k = place) : leastI n place f = 0 := by
  unfold leastI
  cases h2 : (lup place f n).2 with
  | false => exact (lup_none place f n h2).1
  | true =>
    obtain ⟨⟨k, hk, hne, _⟩, _⟩ := lup_some place f n h2
    exact absurd (h k hk) hne

/-- Distances so small that nothing wraps. -/
def ArcBd (D : List (List Int)) : Prop := ∀ a b : Int, 0 ≤ arcI D a b ∧ arcI D a b ≤ 60
theorem arcBd_of {N : Nat} {D : List (List Int)} (h : GoodRows N D) (hD : D.length = N + 1) : ArcBd D := by
  intro a b
  unfold arcI
  split
  · by_cases h1 : a.toNat < D.length
    · obtain ⟨h2, h3⟩ := h a.toNat h1
      by_cases h4 : b.toNat ≤ N
      · have := h3 b.toNat h4; omega
      · rw [nth_ge (by omega)]; omega
    · rw [nthL_ge (by omega), nth_ge (by simp)]; omega
  · omega

/-! ### prices that fit -/
def inI (D : List (List Int)) (n : Nat) (l : List Int) (b : Nat) : Int := clipI (nth l b) 0 (leastI n b (fun a => arcI D a b))
def inL (D : List (List Int)) (n : Nat) (l : List Int) : List Int := (List.range n).map (inI D n l)
def outI (D : List (List Int)) (n : Nat) (q : List Int) (a : Nat) : Int := leastI n a (fun b => arcI D a b - nth q b)
def outL (D : List (List Int)) (n : Nat) (q : List Int) : List Int := (List.range n).map (outI D n q)
theorem inL_len (D : List (List Int)) (n : Nat) (l : List Int) : (inL D n l).length = n := by simp [inL]
theorem outL_len (D : List (List Int)) (n : Nat) (l : List Int) : (outL D n l).length = n := by simp [outL]
theorem nth_inL (D : List (List Int)) (n : Nat) (l : List Int) (b : Nat) (h : b < n) : nth (inL D n l) b = inI D n l b := nth_map_range _ _ _ h
theorem nth_outL (D : List (List Int)) (n : Nat) (q : List Int) (a : Nat) (h : a < n) : nth (outL D n q) a = outI D n q a := nth_map_range _ _ _ h
theorem inI_bd {D : List (List Int)} (hD : ArcBd D) (n : Nat) (l : List Int) (b : Nat) : 0 ≤ inI D n l b ∧ inI D n l b ≤ 60 := by
  have := least_bd (n := n) (place := b) (f := fun a => arcI D a b) (lo := 0) (hi := 60) (by omega) (by omega) (fun k _ _ => hD k b)
  unfold inI clipI
  omega
theorem inI_le {D : List (List Int)} (hD : ArcBd D) {n : Nat} (l : List Int) {a b : Nat} (ha : a < n) (hab : a ≠ b) : inI D n l b ≤ arcI D a b := by
  have := least_le (n := n) (place := b) (k := a) (f := fun a => arcI D a b) ha hab
  have h2 := hD a b
  (try simp only at this)
  unfold inI clipI
  omega
theorem nth_in_bd {D : List (List Int)} (hD : ArcBd D) (n : Nat) (l : List Int) (b : Nat) : 0 ≤ nth (inL D n l) b ∧ nth (inL D n l) b ≤ 60 := by
  by_cases h : b < n
  · rw [nth_inL _ _ _ _ h]; exact inI_bd hD n l b
  · rw [nth_ge (by rw [inL_len]; omega)]; omega
theorem out_bd {D : List (List Int)} (hD : ArcBd D) (n : Nat) (l : List Int) (a : Nat) : 0 ≤ outI D n (inL D n l) a ∧ outI D n (inL D n l) a ≤ 60 ∨ (n ≤ a) := by
  by_cases h : a < n
  · left
    refine least_bd (by omega) (by omega) (fun b hb hne => ?_)
    have h1 := hD a b
    have h2 := inI_bd hD n l b
    have h3 := inI_le hD l h (Ne.symm hne)
    rw [nth_inL _ _ _ _ hb]
    omega
  · right; omega
theorem nth_out_bd {D : List (List Int)} (hD : ArcBd D) (n : Nat) (l : List Int) (a : Nat) : 0 ≤ nth (outL D n (inL D n l)) a ∧ nth (outL D n (inL D n l)) a ≤ 60 := by
  by_cases h : a < n
  · rw [nth_outL _ _ _ _ h]
    rcases out_bd hD n l a with h' | h'
    · exact h'
    · omega
  · rw [nth_ge (by rw [outL_len]; omega)]; omega

/-! ### whether prices may be -/
def mayP (D : List (List Int)) (n : Nat) (o i : List Int) : Prop :=
  o.length = n ∧ i.length = n ∧ (∀ a, a < n → 0 ≤ nth o a ∧ nth o a ≤ 2147483648 ∧ 0 ≤ nth i a ∧ nth i a ≤ 2147483648) ∧ ∀ a, a < n → ∀ b, b < n → a ≠ b → nth o a + nth i b ≤ arcI D a b
instance (D : List (List Int)) (n : Nat) (o i : List Int) : Decidable (mayP D n o i) := by unfold mayP; infer_instance
def mayB (D : List (List Int)) (n : Nat) (o i : List Int) : Bool := decide (mayP D n o i)
def mayE (D : List (List Int)) (n : Nat) (o i : List Int) : Int := if mayB D n o i = true then 0 else 16
theorem may_fit {D : List (List Int)} (hD : ArcBd D) (n : Nat) (l : List Int) : mayP D n (outL D n (inL D n l)) (inL D n l) := by
  refine ⟨outL_len _ _ _, inL_len _ _ _, fun a ha => ?_, fun a ha b hb hab => ?_⟩
  · have h1 := nth_out_bd hD n l a
    have h2 := nth_in_bd hD n l a
    omega
  · rw [nth_outL _ _ _ _ ha]
    have := least_le (n := n) (place := a) (k := b) (f := fun b => arcI D a b - nth (inL D n l) b) hb (Ne.symm hab)
    unfold outI
    (try simp only at this)
    omega
theorem may_zero {D : List (List Int)} (hD : ArcBd D) (n : Nat) : mayP D n (List.replicate n 0) (List.replicate n 0) := by
  have hz : ∀ a, nth (List.replicate n (0 : Int)) a = 0 := fun a => by
    by_cases h : a < n
    · rw [nth_lt (by simpa using h)]; simp
    · rw [nth_ge (by simp; omega)]
  refine ⟨by simp, by simp, fun a ha => by rw [hz]; omega, fun a ha b hb hab => ?_⟩
  rw [hz, hz]
  have := hD a b
  omega

/-- Prices that fit fit as they are. -/
theorem fit_same {D : List (List Int)} (hD : ArcBd D) (n : Nat) (l : List Int) : inL D n (inL D n l) = inL D n l := by
  apply ext_nth (by rw [inL_len, inL_len])
  intro k hk
  rw [inL_len] at hk
  rw [nth_inL _ _ _ _ hk, nth_inL _ _ _ _ hk]
  have h0 := least_bd (n := n) (place := k) (f := fun a => arcI D a k) (lo := 0) (hi := 60) (by omega) (by omega) (fun j _ _ => hD j k)
  unfold inI
  rw [nth_inL _ _ _ _ hk]
  unfold inI clipI
  omega

/-- The reference's least: v, or what is less. -/
def vup (b : Nat) (f : Nat → Int) (v : Int) : Nat → Int
  | 0 => v
  | k + 1 => if k ≠ b ∧ f k < vup b f v k then f k else vup b f v k
theorem vup_succ (b : Nat) (f : Nat → Int) (v : Int) (k : Nat) : vup b f v (k + 1) = if k ≠ b ∧ f k < vup b f v k then f k else vup b f v k := rfl
theorem vup_is (b : Nat) (f : Nat → Int) (v : Int) (n : Nat) : vup b f v n ≤ v ∧ (∀ k, k < n → k ≠ b → vup b f v n ≤ f k) ∧ (vup b f v n = v ∨ ∃ k, k < n ∧ k ≠ b ∧ vup b f v n = f k) := by
  induction n with
  | zero => exact ⟨Int.le_refl _, fun k hk => by omega, .inl rfl⟩
  | succ n ih =>
    obtain ⟨h1, h2, h3⟩ := ih
    rw [vup_succ]
    split
    · rename_i h
      refine ⟨by omega, fun k hk hne => ?_, .inr ⟨n, by omega, h.1, rfl⟩⟩
      rcases Nat.lt_succ_iff_lt_or_eq.1 hk with h' | rfl
      · have := h2 k h' hne; omega
      · omega
    · rename_i h
      refine ⟨h1, fun k hk hne => ?_, ?_⟩
      · rcases Nat.lt_succ_iff_lt_or_eq.1 hk with h' | rfl
        · exact h2 k h' hne
        · have : ¬ f k < vup b f v k := fun h' => h ⟨hne, h'⟩
          omega
      · rcases h3 with h3 | ⟨k, hk, hne, e⟩
        · exact .inl h3
        · exact .inr ⟨k, by omega, hne, e⟩
/-- What the reference begins with. -/
def vat (n : Nat) (x : Int) : Int := if n = 1 then 0 else max x 0
theorem vup_fit {D : List (List Int)} (hD : ArcBd D) {n b : Nat} (hb : b < n) (l : List Int) : vup b (fun a => arcI D a b) (vat n (nth l b)) n = inI D n l b := by
  obtain ⟨h1, h2, h3⟩ := vup_is b (fun a => arcI D a b) (vat n (nth l b)) n
  unfold inI clipI
  by_cases hn : n = 1
  · have h0 : leastI n b (fun a => arcI D a b) = 0 := least_none (fun k hk => by omega)
    rw [h0]
    unfold vat at *
    rw [if_pos hn] at *
    rcases h3 with h3 | ⟨k, hk, hne, e⟩
    · rw [h3]; omega
    · omega
  · have hk : ∃ k, k < n ∧ k ≠ b := by
      by_cases h : b = 0
      · exact ⟨1, by omega, by omega⟩
      · exact ⟨0, by omega, by omega⟩
    obtain ⟨k, hk, hne⟩ := hk
    obtain ⟨j, hj, hjne, e⟩ := least_at (f := fun a : Nat => arcI D a b) hk hne
    have h4 := h2 j hj hjne
    have h5 := hD j b
    (try simp only at e h4)
    unfold vat at *
    rw [if_neg hn] at *
    rcases h3 with h3 | ⟨k', hk', hne', e'⟩
    · omega
    · have := least_le (f := fun a : Nat => arcI D a b) hk' hne'
      (try simp only at this e')
      omega
end Go.Proofs.Ythilfibgpobcjaa
