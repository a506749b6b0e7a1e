/-
  My own work: layer 11, plainly: fills of a tank by a set of days, what they cost, and the cheapest ones.
  My own work: days of a set, plainly; days.Best: its contract.
  My own work: layer 11, plainly: the bringings of fills, their visits, what they cost and whether they suit.
  My own work: layer 11, plainly: a set's days one by one; what fills bring as visits.
-/
import Derived.Test.YtnhcgpkcmfelkaaGreatMVis
import Derived.Test.YtnhcgpkcmfelkaaGreatMStock
import Derived.Test.YtnhcgpkcmfelkaaGreatMDays
import Derived.Test.YtnhcgpkcmfelkaaGreatMOwn
import Derived.Test.YtnhcgpkcmfelkaaGreatMNum
namespace Go.Proofs.YtnhcgpkcmfelkaaGreat
section
open Go.RowKit
set_option linter.unusedVariables false
set_option maxRecDepth 100000

/-- The price of a day; 0, where there is none. -/
def priceAt (P : List Int) (d : Int) : Int := if 0 ≤ d ∧ d < (P.length : Int) then nth P d.toNat else 0

/-- A tank's numbers that may be. -/
structure TankOk (st rt sz ru hd : Int) : Prop where
  rt0 : 0 ≤ rt
  rt1 : rt ≤ 100
  sz0 : 1 ≤ sz
  sz1 : sz ≤ 100
  st0 : 0 ≤ st
  st1 : st ≤ sz
  ru : ru = 1 ∨ ru = 2
  hd0 : 0 ≤ hd
  hd1 : hd ≤ 100

/-- What is there in the morning of day k, if the tank is filled on the days of S. -/
def tS (st sz rt : Int) (S : Nat) : Nat → Int
  | 0 => st
  | k + 1 => (if S.testBit k = true then sz else tS st sz rt S k) - rt
def qS (st sz rt : Int) (S k : Nat) : Int := if S.testBit k = true then sz - tS st sz rt S k else 0
def fillQ (st sz rt : Int) (S n : Nat) : List Int := (List.range n).map (qS st sz rt S)
/-- The last fill ahead of day k; -1: none. -/
def lastOf (S : Nat) : Nat → Int
  | 0 => -1
  | k + 1 => if S.testBit k = true then (k : Int) else lastOf S k
def fitF (st sz rt cap : Int) (S k : Nat) : Prop := 1 ≤ sz - tS st sz rt S k ∧ sz - tS st sz rt S k ≤ cap
/-- The fills of S may be, up to day n. -/
def OkTo (st sz rt cap : Int) (S n : Nat) : Prop := ∀ k, k < n → (S.testBit k = true → fitF st sz rt cap S k) ∧ 0 ≤ tS st sz rt S (k + 1)

section
variable {st sz rt : Int} {S T : Nat}
theorem tS_yes {k : Nat} (h : S.testBit k = true) : tS st sz rt S (k + 1) = sz - rt := by rw [tS, if_pos h]
theorem tS_no {k : Nat} (h : S.testBit k = false) : tS st sz rt S (k + 1) = tS st sz rt S k - rt := by rw [tS, if_neg (by simp [h])]
theorem tS_le (h1 : st ≤ sz) (hr : 0 ≤ rt) (k : Nat) : tS st sz rt S k ≤ sz := by
  induction k with
  | zero => exact h1
  | succ k ih =>
    rw [tS]
    split <;> omega
theorem tS_ge (h0 : 0 ≤ st) (hs : 0 ≤ sz) (hr : 0 ≤ rt) (k : Nat) : -(rt * k) ≤ tS st sz rt S k := by
  induction k with
  | zero => simp [tS]; exact h0
  | succ k ih =>
    have e : rt * ((k + 1 : Nat) : Int) = rt * k + rt := by rw [Int.natCast_succ, Int.mul_add, Int.mul_one]
    have := Int.mul_nonneg hr (show (0 : Int) ≤ (k : Int) by omega)
    rw [tS]
    split <;> omega
theorem tS_congr (k : Nat) (h : ∀ j, j < k → S.testBit j = T.testBit j) : tS st sz rt S k = tS st sz rt T k := by
  induction k with
  | zero => rfl
  | succ k ih =>
    rw [tS, tS, h k (by omega), ih (fun j hj => h j (by omega))]
theorem lastOf_bd (S k : Nat) : -1 ≤ lastOf S k ∧ lastOf S k < k := by
  induction k with
  | zero => simp [lastOf]
  | succ k ih =>
    rw [lastOf]
    split <;> omega
theorem lastOf_bit (S k : Nat) (h : 0 ≤ lastOf S k) : S.testBit (lastOf S k).toNat = true := by
  induction k with
  | zero => simp [lastOf] at h
  | succ k ih =>
    rw [lastOf] at h ⊢
    split
    · rename_i hb
      simpa using hb
    · rename_i hb
      rw [if_neg hb] at h
      exact ih h
theorem lastOf_gap (S k j : Nat) (h1 : lastOf S k < j) (h2 : j < k) : S.testBit j = false := by
  induction k with
  | zero => omega
  | succ k ih =>
    rw [lastOf] at h1
    split at h1
    · omega
    · rename_i hb
      by_cases e : j = k
      · subst e; simpa using hb
      · exact ih h1 (by omega)
theorem lastOf_eq (S k l : Nat) (hb : S.testBit l = true) (hl : l < k) (hg : ∀ j, l < j → j < k → S.testBit j = false) : lastOf S k = l := by
  have h1 := lastOf_bd S k
  by_cases h : lastOf S k < (l : Int)
  · have := lastOf_gap S k l h hl
    rw [this] at hb; simp at hb
  · by_cases h' : lastOf S k = (l : Int)
    · exact h'
    · have h2 := lastOf_bit S k (by omega)
      have := hg (lastOf S k).toNat (by omega) (by omega)
      rw [this] at h2; simp at h2
theorem lastOf_none (S k : Nat) (hg : ∀ j, j < k → S.testBit j = false) : lastOf S k = -1 := by
  have h1 := lastOf_bd S k
  by_cases h : 0 ≤ lastOf S k
  · have h2 := lastOf_bit S k h
    rw [hg _ (by omega)] at h2; simp at h2
  · omega
theorem lastOf_congr (k : Nat) (h : ∀ j, j < k → S.testBit j = T.testBit j) : lastOf S k = lastOf T k := by
  induction k with
  | zero => rfl
  | succ k ih => rw [lastOf, lastOf, h k (by omega), ih (fun j hj => h j (by omega))]

theorem there_next (d : Nat) (l : Int) (h : l < d) : thereI st sz rt (d + 1) l = thereI st sz rt d l - rt := by
  unfold thereI
  split
  · rw [show (((d + 1 : Nat) : Int) - l) = ((d : Int) - l) + 1 by omega, Int.mul_add, Int.mul_one]; omega
  · rw [Int.natCast_succ, Int.mul_add, Int.mul_one]; omega
theorem there_one (d : Nat) : thereI st sz rt (d + 1) (d : Int) = sz - rt := by
  unfold thereI
  rw [if_pos (by omega), show (((d + 1 : Nat) : Int) - (d : Int)) = 1 by omega, Int.mul_one]
theorem tS_there (k : Nat) : tS st sz rt S k = thereI st sz rt k (lastOf S k) := by
  induction k with
  | zero => simp [tS, lastOf, thereI]
  | succ k ih =>
    cases hb : S.testBit k with
    | true => rw [tS_yes hb, lastOf, if_pos hb, there_one]
    | false => rw [tS_no hb, lastOf, if_neg (by simp [hb]), there_next k _ (lastOf_bd S k).2, ih]
theorem there_mono (hr : 0 ≤ rt) (l : Int) (d e : Nat) (h : d ≤ e) : thereI st sz rt e l ≤ thereI st sz rt d l := by
  unfold thereI
  split
  · have := Int.mul_le_mul_of_nonneg_left (show (d : Int) - l ≤ (e : Int) - l by omega) hr
    omega
  · have := Int.mul_le_mul_of_nonneg_left (show (d : Int) ≤ (e : Int) by omega) hr
    omega
end

/-- What the nights cost from a morning on. -/
def heldTo (base rt : Int) : Nat → Int
  | 0 => 0
  | j + 1 => heldTo base rt j + (base - rt * ((j : Int) + 1))
def heldI (st sz rt hd : Int) (d : Nat) (last : Int) : Int := hd * (if 0 ≤ last then heldTo sz rt (d - last.toNat) else heldTo st rt d)
/-- What the fills of S cost, up to the morning of day k. -/
def costS (st sz rt hd : Int) (P : List Int) (S : Nat) : Nat → Int
  | 0 => 0
  | k + 1 => costS st sz rt hd P S k + (if S.testBit k = true then priceAt P k else 0) + hd * tS st sz rt S (k + 1)
def costL (st sz rt hd : Int) (P : List Int) (S : Nat) (l : Int) : Int := if 0 ≤ l then costS st sz rt hd P S l.toNat + priceAt P l else 0

section
variable {st sz rt hd : Int} {P : List Int} {S T : Nat}
theorem held_next (d : Nat) (l : Int) (h : l < d) (h1 : -1 ≤ l) : heldI st sz rt hd (d + 1) l = heldI st sz rt hd d l + hd * thereI st sz rt (d + 1) l := by
  unfold heldI thereI
  split
  · rename_i hl
    rw [show d + 1 - l.toNat = (d - l.toNat) + 1 by omega, heldTo, Int.mul_add, show (((d - l.toNat : Nat) : Int) + 1) = ((d + 1 : Nat) : Int) - l by omega]
  · rw [heldTo, Int.mul_add, Int.natCast_succ]
theorem held_one (d : Nat) : heldI st sz rt hd (d + 1) (d : Int) = hd * (sz - rt) := by
  unfold heldI
  rw [if_pos (by omega), show d + 1 - ((d : Int)).toNat = 1 by omega]
  simp [heldTo]
theorem costS_split (k : Nat) : costS st sz rt hd P S k = costL st sz rt hd P S (lastOf S k) + heldI st sz rt hd k (lastOf S k) := by
  induction k with
  | zero => simp [costS, costL, lastOf, heldI, heldTo]
  | succ k ih =>
    cases hb : S.testBit k with
    | true =>
      rw [costS, if_pos hb, lastOf, if_pos hb, held_one, tS_yes hb]
      unfold costL
      rw [if_pos (by omega), Int.toNat_natCast]
    | false =>
      have h1 := lastOf_bd S k
      rw [costS, if_neg (by simp [hb]), lastOf, if_neg (by simp [hb]), held_next k _ h1.2 h1.1, ih]
      have e : tS st sz rt S (k + 1) = thereI st sz rt (k + 1) (lastOf S k) := by
        rw [tS_there, lastOf, if_neg (by simp [hb])]
      rw [e]
      omega
theorem costS_congr (k : Nat) (h : ∀ j, j < k → S.testBit j = T.testBit j) : costS st sz rt hd P S k = costS st sz rt hd P T k := by
  induction k with
  | zero => rfl
  | succ k ih =>
    rw [costS, costS, h k (by omega), ih (fun j hj => h j (by omega)), tS_congr (k + 1) h]
end

theorem most_fill (sz t cap : Int) : mostI sz 1 t cap = 0 ↔ ¬ (1 ≤ sz - t ∧ sz - t ≤ cap) := by
  unfold mostI
  split
  · omega
  · split
    · omega
    · simp; omega

/-- The cheapest row of fills up to a day (its cost, and the last fill ahead of that day), if there is one. -/
def stepPut (s c : Option (Int × Int)) : Option (Int × Int) :=
  match c with
  | none => s
  | some x => match s with
    | none => some x
    | some y => if x.1 < y.1 then some x else some y
def candE (st sz rt hd cap : Int) (P : List Int) (n : Nat) (f : Nat → Option (Int × Int)) (d : Nat) (last : Int) : Option (Int × Int) :=
  if 0 ≤ last ∧ f last.toNat = none then none
  else if thereI st sz rt d last < 0 ∨ (d < n ∧ mostI sz 1 (thereI st sz rt d last) cap = 0) then none
  else some (heldI st sz rt hd d last + (if 0 ≤ last then ((f last.toNat).getD (0, 0)).1 else 0) + (if d < n then priceAt P d else 0), last)
def stepUpto (st sz rt hd cap : Int) (P : List Int) (n : Nat) (f : Nat → Option (Int × Int)) (d : Nat) : Nat → Option (Int × Int)
  | 0 => none
  | j + 1 => stepPut (stepUpto st sz rt hd cap P n f d j) (candE st sz rt hd cap P n f d ((j : Int) - 1))
def stepsL (st sz rt hd cap : Int) (P : List Int) (n : Nat) : Nat → List (Option (Int × Int))
  | 0 => []
  | d + 1 => stepsL st sz rt hd cap P n d ++ [stepUpto st sz rt hd cap P n (fun i => (stepsL st sz rt hd cap P n d).getD i none) d (d + 1)]
def stp (st sz rt hd cap : Int) (P : List Int) (n d : Nat) : Option (Int × Int) := (stepsL st sz rt hd cap P n (d + 1)).getD d none

section
variable {st sz rt hd cap : Int} {P : List Int} {n : Nat}
theorem stepsL_len (d : Nat) : (stepsL st sz rt hd cap P n d).length = d := by
  induction d with
  | zero => rfl
  | succ d ih => rw [stepsL, List.length_append, ih]; rfl
theorem stepsL_get (i d : Nat) (h : i < d) : (stepsL st sz rt hd cap P n d).getD i none = stp st sz rt hd cap P n i := by
  induction d with
  | zero => omega
  | succ d ih =>
    by_cases e : i = d
    · subst e; rfl
    · rw [← ih (by omega), stepsL, List.getD_eq_getElem?_getD, List.getElem?_append_left (by rw [stepsL_len]; omega), List.getD_eq_getElem?_getD]
theorem candE_congr {f g : Nat → Option (Int × Int)} (d : Nat) (last : Int) (hl : last < d) (h : ∀ i, i < d → f i = g i) : candE st sz rt hd cap P n f d last = candE st sz rt hd cap P n g d last := by
  unfold candE
  by_cases h0 : 0 ≤ last
  · rw [h last.toNat (by omega)]
  · simp [h0]
theorem stepUpto_congr {f g : Nat → Option (Int × Int)} (d j : Nat) (hj : j ≤ d + 1) (h : ∀ i, i < d → f i = g i) : stepUpto st sz rt hd cap P n f d j = stepUpto st sz rt hd cap P n g d j := by
  induction j with
  | zero => rfl
  | succ j ih => rw [stepUpto, stepUpto, ih (by omega), candE_congr d _ (by omega) h]
theorem stp_eq (d : Nat) : stp st sz rt hd cap P n d = stepUpto st sz rt hd cap P n (stp st sz rt hd cap P n) d (d + 1) := by
  have h : stp st sz rt hd cap P n d = stepUpto st sz rt hd cap P n (fun i => (stepsL st sz rt hd cap P n d).getD i none) d (d + 1) := by
    unfold stp
    rw [stepsL, List.getD_eq_getElem?_getD, List.getElem?_append_right (by rw [stepsL_len]; omega), stepsL_len, Nat.sub_self]
    rfl
  rw [h]
  exact stepUpto_congr d (d + 1) (by omega) (fun i hi => stepsL_get i d hi)
theorem stepUpto_le {f : Nat → Option (Int × Int)} {d : Nat} {x : Int × Int} {j m : Nat} (hj : j < m) (h : candE st sz rt hd cap P n f d ((j : Int) - 1) = some x) : ∃ s, stepUpto st sz rt hd cap P n f d m = some s ∧ s.1 ≤ x.1 := by
  induction m with
  | zero => omega
  | succ m ih =>
    rw [stepUpto]
    by_cases e : j = m
    · subst e
      rw [h]
      cases hs : stepUpto st sz rt hd cap P n f d j with
      | none => exact ⟨x, rfl, Int.le_refl _⟩
      | some y =>
        unfold stepPut
        simp only []
        split
        · exact ⟨x, rfl, Int.le_refl _⟩
        · exact ⟨y, rfl, by omega⟩
    · obtain ⟨s, hs, hle⟩ := ih (by omega)
      rw [hs]
      cases hc : candE st sz rt hd cap P n f d ((m : Int) - 1) with
      | none => exact ⟨s, rfl, hle⟩
      | some y =>
        unfold stepPut
        simp only []
        split
        · exact ⟨y, rfl, by omega⟩
        · exact ⟨s, rfl, hle⟩
theorem stepUpto_mem {f : Nat → Option (Int × Int)} {d : Nat} {s : Int × Int} {m : Nat} (h : stepUpto st sz rt hd cap P n f d m = some s) : ∃ j, j < m ∧ candE st sz rt hd cap P n f d ((j : Int) - 1) = some s := by
  induction m with
  | zero => simp [stepUpto] at h
  | succ m ih =>
    rw [stepUpto] at h
    cases hc : candE st sz rt hd cap P n f d ((m : Int) - 1) with
    | none =>
      rw [hc] at h
      obtain ⟨j, hj, he⟩ := ih h
      exact ⟨j, by omega, he⟩
    | some y =>
      rw [hc] at h
      cases hs : stepUpto st sz rt hd cap P n f d m with
      | none =>
        rw [hs] at h
        exact ⟨m, by omega, by rw [hc]; exact h⟩
      | some z =>
        rw [hs] at h
        unfold stepPut at h
        simp only [] at h
        split at h
        · exact ⟨m, by omega, by rw [hc]; exact h⟩
        · obtain ⟨j, hj, he⟩ := ih (by rw [hs]; exact h)
          exact ⟨j, by omega, he⟩

/-- No fills cost less than the step says. -/
theorem stp_le (h0 : 0 ≤ st) : ∀ d, d ≤ n → ∀ S, OkTo st sz rt cap S d → (d < n → fitF st sz rt cap S d) →
    ∃ s, stp st sz rt hd cap P n d = some s ∧ s.1 ≤ costS st sz rt hd P S d + (if d < n then priceAt P d else 0) := by
  intro d
  induction d using Nat.strongRecOn with
  | _ d ih =>
    intro hdn S hok hfit
    have hl := lastOf_bd S d
    have ht := tS_there (st := st) (sz := sz) (rt := rt) (S := S) d
    have ht0 : 0 ≤ tS st sz rt S d := by
      cases d with
      | zero => exact h0
      | succ d => exact (hok d (by omega)).2
    have hcs := costS_split (st := st) (sz := sz) (rt := rt) (hd := hd) (P := P) (S := S) d
    rw [stp_eq]
    have hc2 : ¬ (thereI st sz rt d (lastOf S d) < 0 ∨ (d < n ∧ mostI sz 1 (thereI st sz rt d (lastOf S d)) cap = 0)) := by
      rw [← ht, most_fill]
      rintro (h | ⟨h1, h2⟩)
      · omega
      · exact h2 (hfit h1)
    by_cases hneg : lastOf S d < 0
    · have e1 : lastOf S d = ((0 : Nat) : Int) - 1 := by omega
      have hc : candE st sz rt hd cap P n (stp st sz rt hd cap P n) d (((0 : Nat) : Int) - 1) = some (heldI st sz rt hd d (lastOf S d) + 0 + (if d < n then priceAt P d else 0), lastOf S d) := by
        rw [← e1]
        unfold candE
        rw [if_neg (by omega), if_neg hc2, if_neg (by omega)]
      obtain ⟨s, hs, hle⟩ := stepUpto_le (m := d + 1) (by omega) hc
      refine ⟨s, hs, Int.le_trans hle ?_⟩
      rw [hcs]
      unfold costL
      rw [if_neg (show ¬ (0 : Int) ≤ lastOf S d by omega)]
      simp only []
      generalize (if d < n then priceAt P (d : Int) else 0) = z
      omega
    · obtain ⟨l, hll⟩ : ∃ l : Nat, lastOf S d = (l : Int) := ⟨(lastOf S d).toNat, by omega⟩
      have hbl : S.testBit l = true := by
        have := lastOf_bit S d (by omega)
        rw [hll, Int.toNat_natCast] at this
        exact this
      have hld : l < d := by omega
      obtain ⟨x, hx, hxle⟩ := ih l hld (by omega) S (fun k hk => hok k (by omega)) (fun _ => (hok l hld).1 hbl)
      rw [if_pos (by omega)] at hxle
      have hc : candE st sz rt hd cap P n (stp st sz rt hd cap P n) d (((l + 1 : Nat) : Int) - 1) = some (heldI st sz rt hd d (lastOf S d) + x.1 + (if d < n then priceAt P d else 0), lastOf S d) := by
        rw [show ((l + 1 : Nat) : Int) - 1 = lastOf S d by omega]
        unfold candE
        rw [hll, Int.toNat_natCast, hx, if_neg (by simp), ← hll, if_neg hc2, if_pos (by omega)]
        rfl
      obtain ⟨s, hs, hle⟩ := stepUpto_le (m := d + 1) (by omega) hc
      refine ⟨s, hs, Int.le_trans hle ?_⟩
      rw [hcs]
      unfold costL
      rw [if_pos (show (0 : Int) ≤ lastOf S d by omega), hll, Int.toNat_natCast]
      simp only []
      generalize (if d < n then priceAt P (d : Int) else 0) = z
      omega

/-- What the step says is reached: by fills S. -/
theorem stp_at (h0 : 0 ≤ st) (hsz : 0 ≤ sz) (hr : 0 ≤ rt) (hn : n ≤ 64) : ∀ d, d ≤ n → ∀ s, stp st sz rt hd cap P n d = some s →
    ∃ S, (∀ k, d ≤ k → S.testBit k = false) ∧ OkTo st sz rt cap S d ∧ (d < n → fitF st sz rt cap S d) ∧ costS st sz rt hd P S d + (if d < n then priceAt P d else 0) = s.1 ∧ lastOf S d = s.2 ∧
      ∀ k, S.testBit k = true → ∃ c, stp st sz rt hd cap P n k = some (c, lastOf S k) := by
  intro d
  induction d using Nat.strongRecOn with
  | _ d ih =>
    intro hdn s hs
    rw [stp_eq] at hs
    obtain ⟨j, hj, hc⟩ := stepUpto_mem hs
    unfold candE at hc
    split at hc
    · simp at hc
    · rename_i hc1
      split at hc
      · simp at hc
      · rename_i hc2
        simp only [Option.some.injEq] at hc
        have ht0 : 0 ≤ thereI st sz rt d ((j : Int) - 1) := by
          rcases Int.lt_or_le (thereI st sz rt d ((j : Int) - 1)) 0 with h | h
          · exact absurd (Or.inl h) hc2
          · exact h
        have hfit0 : d < n → 1 ≤ sz - thereI st sz rt d ((j : Int) - 1) ∧ sz - thereI st sz rt d ((j : Int) - 1) ≤ cap := by
          intro hd'
          by_cases hm : mostI sz 1 (thereI st sz rt d ((j : Int) - 1)) cap = 0
          · exact absurd (Or.inr ⟨hd', hm⟩) hc2
          · rw [most_fill] at hm
            exact Classical.not_not.1 hm
        cases j with
        | zero =>
          have hz : ∀ k, (0 : Nat).testBit k = false := fun k => Nat.zero_testBit k
          have hlast : ∀ k, lastOf 0 k = -1 := fun k => lastOf_none 0 k (fun j _ => hz j)
          have e : (((0 : Nat) : Int) - 1) = -1 := rfl
          rw [e] at ht0 hfit0 hc
          have htS : ∀ k, tS st sz rt 0 k = thereI st sz rt k (-1) := fun k => by rw [tS_there, hlast]
          refine ⟨0, fun k _ => hz k, fun k hk => ⟨fun h => by rw [hz] at h; simp at h, ?_⟩, fun hd' => ?_, ?_, ?_, fun k h => by rw [hz] at h; simp at h⟩
          · rw [htS]
            exact Int.le_trans ht0 (there_mono hr (-1) (k + 1) d (by omega))
          · unfold fitF
            rw [htS]
            exact hfit0 hd'
          · rw [costS_split, hlast, ← hc]
            unfold costL
            rw [if_neg (show ¬ (0 : Int) ≤ -1 by decide)]
            simp only []
            generalize (if d < n then priceAt P (d : Int) else 0) = z
            omega
          · rw [hlast, ← hc]
        | succ l =>
          have e : (((l + 1 : Nat) : Int) - 1) = (l : Int) := by omega
          rw [e] at ht0 hfit0 hc hc1
          have hld : l < d := by omega
          obtain ⟨x, hx⟩ : ∃ x, stp st sz rt hd cap P n l = some x := by
            cases hx : stp st sz rt hd cap P n l with
            | none => exact absurd ⟨by omega, by rw [Int.toNat_natCast]; exact hx⟩ hc1
            | some x => exact ⟨x, rfl⟩
          obtain ⟨S0, hb0, hok0, hfit1, hcost0, hlast0, hch0⟩ := ih l hld (by omega) x hx
          rw [if_pos (by omega : l < n)] at hcost0
          have hl64 : l < 64 := by omega
          obtain ⟨S, hS⟩ : ∃ S, S = withN S0 (l : Int) := ⟨_, rfl⟩
          have hbit : ∀ k, S.testBit k = (S0.testBit k || decide (l = k)) := fun k => by rw [hS]; exact test_with S0 l k hl64
          have hlo : ∀ k, k < l → S.testBit k = S0.testBit k := fun k hk => by rw [hbit, decide_eq_false (by omega), Bool.or_false]
          have hat : S.testBit l = true := by rw [hbit]; simp
          have hhi : ∀ k, l < k → S.testBit k = false := fun k hk => by rw [hbit, hb0 k (by omega), decide_eq_false (by omega)]; rfl
          have hlast : ∀ k, l < k → lastOf S k = l := fun k hk => lastOf_eq S k l hat hk (fun j h1 _ => hhi j h1)
          have htl : ∀ k, k ≤ l → tS st sz rt S k = tS st sz rt S0 k := fun k hk => tS_congr k (fun j hj => hlo j (by omega))
          have hth : ∀ k, l < k → tS st sz rt S k = thereI st sz rt k (l : Int) := fun k hk => by rw [tS_there, hlast k hk]
          refine ⟨S, fun k hk => hhi k (by omega), fun k hk => ?_, fun hd' => ?_, ?_, ?_, fun k hk => ?_⟩
          · by_cases hkl : k < l
            · refine ⟨fun h => ?_, ?_⟩
              · unfold fitF
                rw [htl k (by omega)]
                exact (hok0 k hkl).1 (by rw [← hlo k hkl]; exact h)
              · rw [htl (k + 1) (by omega)]
                exact (hok0 k hkl).2
            · refine ⟨fun h => ?_, ?_⟩
              · have : k = l := by
                  rcases Nat.lt_or_ge l k with h' | h'
                  · rw [hhi k h'] at h; simp at h
                  · omega
                subst this
                unfold fitF
                rw [htl k (Nat.le_refl _)]
                exact hfit1 (by omega)
              · rw [hth (k + 1) (by omega)]
                exact Int.le_trans ht0 (there_mono hr _ (k + 1) d (by omega))
          · unfold fitF
            rw [hth d hld]
            exact hfit0 hd'
          · rw [costS_split, hlast d hld, ← hc]
            unfold costL
            rw [if_pos (show (0 : Int) ≤ (l : Int) by omega), Int.toNat_natCast, hx, costS_congr l hlo]
            simp only [Option.getD_some]
            generalize (if d < n then priceAt P (d : Int) else 0) = z
            omega
          · rw [hlast d hld, ← hc]
          · by_cases hkl : k < l
            · obtain ⟨c, hc'⟩ := hch0 k (by rw [← hlo k hkl]; exact hk)
              exact ⟨c, by rw [hc', lastOf_congr k (fun j hj => hlo j (by omega))]⟩
            · have : k = l := by
                rcases Nat.lt_or_ge l k with h' | h'
                · rw [hhi k h'] at hk; simp at hk
                · omega
              subst this
              exact ⟨x.1, by rw [hx, lastOf_congr k hlo, hlast0]⟩
end
end

section
open Go.RowKit
set_option linter.unusedVariables false
set_option maxRecDepth 100000

theorem mem_all (s m d k : Nat) (hk : k < d) : (k : Int) ∈ allUpto s m d ↔ m ≤ k ∧ s.testBit k = true := by
  unfold allUpto
  rw [List.mem_map]
  constructor
  · rintro ⟨j, hj, he⟩
    have : j = k := by have : (j : Int) = (k : Int) := he; omega
    subst this
    simp at hj
    exact hj.2
  · rintro ⟨h1, h2⟩
    exact ⟨k, by simp [hk, h1, h2], rfl⟩
/-- A set is the set of its days. -/
theorem all_sorted (s m d : Nat) : (allUpto s m d).Pairwise (· < ·) := by
  unfold allUpto
  rw [List.pairwise_map]
  exact (List.pairwise_lt_range.filter _).imp (fun h => by have := h; simp; exact this)
theorem all_bd (s m d : Nat) : ∀ x ∈ allUpto s m d, 0 ≤ x ∧ x < d := by
  intro x hx
  unfold allUpto at hx
  rw [List.mem_map] at hx
  obtain ⟨k, hk, rfl⟩ := hx
  simp at hk
  exact ⟨Int.natCast_nonneg _, by have := hk.1; simp; exact this⟩
theorem sat_fit {a b : Int} (h : fitsI (a + b) = true) : satI a b = a + b := by unfold satI; rw [if_pos h]
theorem sat_not {a b : Int} (ha : fitsI a = true) (hb : fitsI b = true) (h : ¬ fitsI (a + b) = true) : satI a b = if a < 0 then -9223372036854775808 else 9223372036854775807 := by
  unfold satI
  rw [if_neg h]
  rw [fitsI_iff] at ha hb h
  split <;> split <;> omega
theorem fits_sat (a b : Int) : fitsI (satI a b) = true := by
  unfold satI
  by_cases h : fitsI (a + b) = true
  · rw [if_pos h]; exact h
  · rw [if_neg h]; split <;> decide

/-- A set's days' prices together. -/
def priceStep (ps : List Int) (acc d : Int) : Int := if d < (ps.length : Int) then satI acc (nth ps d.toNat) else acc
def priceUpto (ps : List Int) (s k : Nat) : Int := ((allUpto s 0 64).take k).foldl (priceStep ps) 0
def priceI (ps : List Int) (s : Nat) : Int := priceUpto ps s 64
theorem price_succ (ps : List Int) (s k : Nat) (h : k < (allUpto s 0 64).length) : priceUpto ps s (k + 1) = priceStep ps (priceUpto ps s k) (nth (allUpto s 0 64) k) := by
  unfold priceUpto
  rw [take_succ_nth _ k h, List.foldl_append]
  rfl
theorem price_end (ps : List Int) (s k : Nat) (h : (allUpto s 0 64).length ≤ k) : priceUpto ps s k = priceI ps s := by
  unfold priceI priceUpto
  rw [List.take_of_length_le h, List.take_of_length_le (allUpto_len _ _ _)]
theorem price_fits (ps : List Int) (s k : Nat) : fitsI (priceUpto ps s k) = true := by
  unfold priceUpto
  have : ∀ (xs : List Int) (a : Int), fitsI a = true → fitsI (xs.foldl (priceStep ps) a) = true := by
    intro xs
    induction xs with
    | nil => intro a h; exact h
    | cons x xs ih =>
      intro a h
      rw [List.foldl_cons]
      apply ih
      unfold priceStep
      split
      · exact fits_sat _ _
      · exact h
  exact this _ _ (by decide)

set_option maxRecDepth 100000 in
/-- The first of k sets whose prices are the least, and its prices. -/
def bestUpto (ps : List Int) (l : List Nat) : Nat → Int × Int
  | 0 => (-1, 0)
  | k + 1 => if (bestUpto ps l k).1 < 0 ∨ priceI ps (nthN l k) < (bestUpto ps l k).2 then ((k : Int), priceI ps (nthN l k)) else bestUpto ps l k
theorem best_bd (ps : List Int) (l : List Nat) (k : Nat) : -1 ≤ (bestUpto ps l k).1 ∧ (bestUpto ps l k).1 < k ∨ k = 0 := by
  induction k with
  | zero => right; rfl
  | succ k ih =>
    left
    unfold bestUpto
    split
    · simp; omega
    · rcases ih with ih | ih
      · omega
      · subst ih; simp [bestUpto] at *

set_option maxRecDepth 100000 in
set_option maxHeartbeats 3200000 in
theorem best_is (lv pv : Value) (l : List Nat) (ps : List Int) (w : World) (hl : Words w lv l) (hlw : ∀ x ∈ l, x < 18446744073709551616) (hp : Ints w pv ps) (hf : ∀ x ∈ ps, fitsI x = true) (hl10 : l.length ≤ 1000) :
    Calls Tryz.prog 114 #[lv, pv] w fun e w' => e = .returned (.tuple #[.int .i64 (bestUpto ps l l.length).1, .int .i64 (bestUpto ps l l.length).2]) ∧ Below w.heap.size w w' := by
  obtain ⟨a, n, c, rfl, hn, _, _, hcell⟩ := hl.open
  rw [hn]
  obtain ⟨pa, m, pc, rfl, hm, _, hpc⟩ := hp.open
  have hpc' : ∀ k, k < m → ∃ b o, pa = some ⟨b, o, none⟩ ∧ b < w.heap.size ∧ w.cell? ⟨b, o + k, none⟩ = some (.int .i64 (nth ps k)) := fun k hk => by
    obtain ⟨b, o, e1, e2⟩ := hpc k hk
    exact ⟨b, o, e1, World.block_lt_of_cell? w _ e2, e2⟩
  have Hpc := Lib.hid hpc'
  have Hcell := Lib.hid hcell
  have Hl := Lib.hid hn
  have Hm := Lib.hid hm
  have Hf := Lib.hid hf
  have Hlw := Lib.hid hlw
  rw [hn] at hl10
  clear hcell hn hp hf hlw hl hm hpc hpc'
  go_enter Tryz.func114, Tryz.ntmps114
  go_wp2_with fail
  go_loopw [6, 7, 15] (fun x y i wr => ∃ (k : Nat) (A L : Int), k ≤ n ∧ i = .int .i64 k ∧ x = .int .i64 A ∧ y = .int .i64 L ∧ (A, L) = bestUpto ps l k ∧ Below w.heap.size w wr) (fun _ _ i _ => n - (intOf i).toNat)
  case atStart => exact ⟨0, -1, 0, Nat.zero_le _, rfl, rfl, rfl, rfl, Below.refl _ _⟩
  case round =>
    obtain ⟨k, A, L, hk, rfl, rfl, rfl, hAL, hb⟩ := hrel
    by_cases hlt : k < n
    · obtain ⟨b, o, rfl, hbl, hc0⟩ := Hcell.out k hlt
      have hc := cell_lt hb hbl hc0
      have hst : bestUpto ps l (k + 1) = if A < 0 ∨ priceI ps (nthN l k) < L then ((k : Int), priceI ps (nthN l k)) else (A, L) := by rw [bestUpto, ← hAL]
      have hsw := Lib.hid (Hlw.out _ (nthN_mem (show k < l.length by rw [Hl.out]; exact hlt)))
      have hi0 : (0 : Int) ≤ (k : Int) := by omega
      have hi1 : (k : Int) < (n : Int) := by omega
      generalize nthN l k = s at *
      clear hc0 hAL
      have Hst := Lib.hid hst
      clear hst
      go_wp2_with fail
      refine (all_is s _ hsw.out).mono ?_
      rintro e w1 ⟨v, rfl, hown1, hb1⟩
      obtain ⟨a1, n1, c1, rfl, hn1, _, hcell1⟩ := hown1.ints.open
      have hcell1' : ∀ k, k < n1 → ∃ b o, a1 = some ⟨b, o, none⟩ ∧ b < w1.heap.size ∧ w1.cell? ⟨b, o + k, none⟩ = some (.int .i64 (nth (allUpto s 0 64) k)) := fun k hk => by
        obtain ⟨b, o, e1, e2⟩ := hcell1 k hk
        exact ⟨b, o, e1, World.block_lt_of_cell? w1 _ e2, e2⟩
      have Hcell1 := Lib.hid hcell1'
      have Hl1 := Lib.hid hn1
      have hn64 : n1 ≤ 64 := by rw [← hn1]; exact allUpto_len _ _ _
      have Hb1 := Lib.hid (hb.trans (hb1.mono hb.size))
      have hsz : w.heap.size ≤ w1.heap.size := Nat.le_trans hb.size hb1.size
      clear hcell1 hcell1' hown1 hn1 hb1 hb hc
      go_wp2_with fail
      obtain ⟨wo, hwo⟩ : ∃ wo : World, wo = wr := ⟨_, rfl⟩
      subst hwo
      go_loopw [10, 23] (fun x i wr => ∃ (k : Nat) (S : Int), k ≤ n1 ∧ i = .int .i64 k ∧ x = .int .i64 S ∧ S = priceUpto ps s k ∧ wr = w1) (fun _ i _ => n1 - (intOf i).toNat)
      case atStart => exact ⟨0, 0, Nat.zero_le _, rfl, rfl, rfl, rfl⟩
      case round =>
        obtain ⟨j, S, hj, rfl, rfl, hS, rfl⟩ := hrel
        by_cases hlt1 : j < n1
        · obtain ⟨b1, o1, rfl, hbl1, hc1⟩ := Hcell1.out j hlt1
          obtain ⟨hD0, hD1⟩ := all_bd s 0 64 _ (nth_mem (show j < (allUpto s 0 64).length by rw [Hl1.out]; exact hlt1))
          have hst := price_succ ps s j (by rw [Hl1.out]; exact hlt1)
          rw [← hS] at hst
          have hfS : fitsI S = true := by rw [hS]; exact price_fits _ _ _
          obtain ⟨D, hD⟩ := Int.eq_ofNat_of_zero_le hD0
          rw [hD] at hc1 hst hD1
          have hD64 : D < 64 := by omega
          have hj0 : (0 : Int) ≤ (j : Int) := by omega
          have hj1 : (j : Int) < (n1 : Int) := by omega
          unfold priceStep at hst
          rw [Hm.out, Int.toNat_natCast] at hst
          have HfS := Lib.hid hfS
          clear hS hD hD0 hD1 hfS
          by_cases hDm : D < m
          · rw [if_pos (by omega)] at hst
            obtain ⟨b', o', rfl, hbl', hc0'⟩ := Hpc.out D hDm
            have hc' := cell_lt Hb1.out hbl' hc0'
            have hfp := Lib.hid (Hf.out _ (nth_mem (show D < ps.length by rw [Hm.out]; exact hDm)))
            have hd0 : (0 : Int) ≤ (D : Int) := by omega
            have hdm : (D : Int) < (m : Int) := by omega
            have Hst2 := Lib.hid hst
            clear hc0' hst
            go_wp2_with fail
            refine (sat_is S _ _ HfS.out hfp.out).mono ?_
            rintro e w2 ⟨rfl, rfl⟩
            go_wp2_with fail
            go_roundw
            case rel => exact ⟨j + 1, _, by omega, by go_num, rfl, Hst2.out.symm, trivial⟩
            case measure => simp [intOf]; omega
          · rw [if_neg (by omega)] at hst
            have hdm : decide ((D : Int) < (m : Int)) = false := by simp; omega
            have hdm' : decide (D < m) = false := by simpa using hDm
            have Hst2 := Lib.hid hst
            clear hst
            go_wp2_with fail
            go_roundw
            case rel => exact ⟨j + 1, _, by omega, by go_num, rfl, Hst2.out.symm, trivial⟩
            case measure => simp [intOf]; omega
        · have hP := price_end ps s j (by rw [Hl1.out]; omega)
          rw [← hS] at hP
          have HP := Lib.hid hP
          have b2 := Hb1.out
          clear hP hS
          by_cases h1 : A < 0
          · have hs1 := Hst.out
            rw [if_pos (.inl h1), ← HP.out] at hs1
            have h1' : decide (A < 0) = true := by simpa using h1
            have Hs1 := Lib.hid hs1
            clear hs1 h1
            go_wp2_with fail
            go_roundw
            case rel => exact ⟨k + 1, _, _, by omega, by go_num, rfl, rfl, Hs1.out.symm, b2⟩
            case measure => simp [intOf]; omega
          · have h1' : decide (A < 0) = false := by simpa using h1
            by_cases h2 : S < L
            · have hs1 := Hst.out
              rw [← HP.out, if_pos (.inr h2)] at hs1
              have h2' : decide (S < L) = true := by simpa using h2
              have Hs1 := Lib.hid hs1
              clear hs1 h1 h2
              go_wp2_with fail
              go_roundw
              case rel => exact ⟨k + 1, _, _, by omega, by go_num, rfl, rfl, Hs1.out.symm, b2⟩
              case measure => simp [intOf]; omega
            · have hs1 := Hst.out
              rw [← HP.out, if_neg (by omega)] at hs1
              have h2' : decide (S < L) = false := by simpa using h2
              have Hs1 := Lib.hid hs1
              clear hs1 h1 h2
              go_wp2_with fail
              go_roundw
              case rel => exact ⟨k + 1, _, _, by omega, by go_num, rfl, rfl, Hs1.out.symm, b2⟩
              case measure => simp [intOf]; omega
    · have hkn : k = n := by omega
      subst hkn
      have HAL := Lib.hid hAL
      clear hAL
      go_wp2_with fail
      go_ret2
      rw [← HAL.out]
      exact ⟨rfl, hb⟩
end

section
open Go.RowKit
set_option linter.unusedVariables false
set_option maxRecDepth 100000

instance (st sz rt cap : Int) (S k : Nat) : Decidable (fitF st sz rt cap S k) := by unfold fitF; infer_instance
instance (st sz rt cap : Int) (S n : Nat) : Decidable (OkTo st sz rt cap S n) := by unfold OkTo; infer_instance
/-- What visits cost in prices. -/
def priceV (P : List Int) (v : List (Int × Int)) : Int := (v.map fun p => priceAt P p.1).sum
def costV (kd st rt sz hd : Int) (P : List Int) (v : List (Int × Int)) (n : Nat) : Int := priceV P v + (if kd = 1 then 0 else hd * (nightsE st rt sz (bringsOf v n)).2.sum)
/-- A pattern's visits. -/
def onV (dm : Int) (s : Nat) : List (Int × Int) := (allUpto s 0 64).map fun d => (d, dm)
def fitsV (cap : Int) (v : List (Int × Int)) : Bool := v.all fun p => decide (p.2 ≤ cap)
def suitsV (kd dm : Int) (ps : List Nat) (rt sz st ru cap : Int) (v : List (Int × Int)) (n : Nat) : Bool :=
  fitsV cap v && (if kd = 1 then ps.any (fun p => decide (onV dm p = v)) else decide (visitsOf (bringsOf v n) = v) && (holdsE st rt sz ru (bringsOf v n) == 0))

section
variable {st sz rt ru hd cap : Int} {S n : Nat}
theorem fillQ_len : (fillQ st sz rt S n).length = n := by simp [fillQ]
theorem nth_fillQ {k : Nat} (h : k < n) : nth (fillQ st sz rt S n) k = qS st sz rt S k := nth_map_range _ _ _ h
theorem q_next (k : Nat) : tS st sz rt S k + qS st sz rt S k = tS st sz rt S (k + 1) + rt := by
  cases hb : S.testBit k with
  | true => rw [tS_yes hb, qS, if_pos hb]; omega
  | false => rw [tS_no hb, qS, if_neg (by simp [hb])]; omega
theorem morn_fill {k : Nat} (h : k ≤ n) : morn st rt (fillQ st sz rt S n) k = tS st sz rt S k := by
  induction k with
  | zero => simp [morn, tS]
  | succ k ih =>
    rw [morn_succ _ _ _ _ (by rw [fillQ_len]; omega)]
    unfold noon
    rw [ih (by omega), nth_fillQ (by omega), q_next]
    omega
theorem noon_fill {k : Nat} (h : k < n) : noon st rt (fillQ st sz rt S n) k = tS st sz rt S (k + 1) + rt := by
  unfold noon
  rw [morn_fill (by omega), nth_fillQ h, q_next]
theorem fill_okQ (T : TankOk st rt sz ru hd) (hn : n ≤ 64) (hf : ∀ k, k < n → S.testBit k = true → fitF st sz rt cap S k) : (fillQ st sz rt S n).all okQ = true := by
  apply all_okQ
  intro j hj
  rw [fillQ_len] at hj
  rw [nth_fillQ hj]
  have h1 := tS_ge (st := st) (sz := sz) (rt := rt) (S := S) T.st0 (by have := T.sz0; omega) T.rt0 j
  have h2 : rt * (j : Int) ≤ 100 * 64 := Int.mul_le_mul T.rt1 (by omega) (by omega) (by omega)
  have h3 := T.sz1
  unfold qS
  split
  · rename_i hb
    have := (hf j hj hb).1
    simp [okQ]
    omega
  · decide
theorem fill_days (T : TankOk st rt sz ru hd) (h : ∀ k, k < n → 0 ≤ tS st sz rt S (k + 1)) {k : Nat} (hk : k < n) : okDay st rt sz (fillQ st sz rt S n) k = true := by
  have h1 := noon_fill (st := st) (sz := sz) (rt := rt) (S := S) hk
  have h2 := h k hk
  have h3 : tS st sz rt S (k + 1) + rt ≤ sz := by
    have := tS_le (S := S) T.st1 T.rt0 k
    rw [tS]
    split <;> omega
  simp [okDay]
  omega
theorem holds_fill (T : TankOk st rt sz ru hd) (hn : n ≤ 64) (hf : ∀ k, k < n → S.testBit k = true → fitF st sz rt cap S k) : holdsE st rt sz ru (fillQ st sz rt S n) = 0 ↔ ∀ k, k < n → 0 ≤ tS st sz rt S (k + 1) := by
  have hq := fill_okQ T hn hf
  constructor
  · intro h k hk
    have h0 : (nightsE st rt sz (fillQ st sz rt S n)).1 = 0 := by
      by_cases h0 : (nightsE st rt sz (fillQ st sz rt S n)).1 = 0
      · exact h0
      · rw [holdsE_err h0] at h; exact h
    have := okDay_bd (nightsE_zero h0 k (by rw [fillQ_len]; exact hk))
    rw [noon_fill hk] at this
    omega
  · intro h
    have hd : ∀ j, j < (fillQ st sz rt S n).length → okDay st rt sz (fillQ st sz rt S n) j = true := fun j hj => fill_days T h (by rw [fillQ_len] at hj; exact hj)
    have h0 : (nightsE st rt sz (fillQ st sz rt S n)).1 = 0 := by rw [nightsE_ok hq hd]
    by_cases hr : ru = 1
    · apply holdsE_ok h0 hr
      intro k hk
      rw [fillQ_len] at hk
      unfold fillsUp
      rw [nth_fillQ hk, noon_fill hk]
      cases hb : S.testBit k with
      | true => rw [tS_yes hb]; simp
      | false => rw [qS, if_neg (by simp [hb])]; simp
    · exact holdsE_any h0 hr
theorem nights_fill (T : TankOk st rt sz ru hd) (hn : n ≤ 64) (h : OkTo st sz rt cap S n) : nightsE st rt sz (fillQ st sz rt S n) = (0, nightL st rt (fillQ st sz rt S n) n) := by
  have := nightsE_ok (st := st) (rt := rt) (sz := sz) (fill_okQ T hn (fun k hk => (h k hk).1)) (fun j hj => fill_days T (fun k hk => (h k hk).2) (by rw [fillQ_len] at hj; exact hj))
  rw [fillQ_len] at this
  exact this
theorem q_pos {k : Nat} (hk : k < n) (hf : ∀ k, k < n → S.testBit k = true → fitF st sz rt cap S k) : 0 < qS st sz rt S k ↔ S.testBit k = true := by
  unfold qS
  split
  · rename_i hb
    have := (hf k hk hb).1
    simp [hb]; omega
  · rename_i hb
    simp [hb]
theorem visits_fill {k : Nat} (hk : k < n) (hf : ∀ k, k < n → S.testBit k = true → fitF st sz rt cap S k) :
    visitsTo (fillQ st sz rt S n) (k + 1) = if S.testBit k = true then visitsTo (fillQ st sz rt S n) k ++ [((k : Int), sz - tS st sz rt S k)] else visitsTo (fillQ st sz rt S n) k := by
  rw [visitsTo, nth_fillQ hk]
  have h := q_pos hk hf
  by_cases hb : S.testBit k = true
  · rw [if_pos (h.2 hb), if_pos hb, qS, if_pos hb]
  · rw [if_neg (fun h' => hb (h.1 h')), if_neg hb]
theorem priceV_append (P : List Int) (v u : List (Int × Int)) : priceV P (v ++ u) = priceV P v + priceV P u := by simp [priceV]
theorem cost_fill (P : List Int) (hf : ∀ k, k < n → S.testBit k = true → fitF st sz rt cap S k) {k : Nat} (hk : k ≤ n) :
    costS st sz rt hd P S k = priceV P (visitsTo (fillQ st sz rt S n) k) + hd * (nightL st rt (fillQ st sz rt S n) k).sum := by
  induction k with
  | zero => simp [costS, priceV, visitsTo, nightL]
  | succ k ih =>
    rw [costS, ih (by omega), visits_fill (by omega) hf, nightL_succ, List.sum_append, morn_fill (by omega)]
    have e : hd * ((nightL st rt (fillQ st sz rt S n) k).sum + [tS st sz rt S (k + 1)].sum) = hd * (nightL st rt (fillQ st sz rt S n) k).sum + hd * tS st sz rt S (k + 1) := by
      rw [Int.mul_add]; simp
    rw [e]
    split
    · rw [priceV_append]
      simp [priceV]
      omega
    · omega
theorem brings_fill (T : TankOk st rt sz ru hd) (hn : n ≤ 20) (h : OkTo st sz rt cap S n) : bringsOf (visitsOf (fillQ st sz rt S n)) n = fillQ st sz rt S n := by
  have hq := fill_okQ T (by omega) (fun k hk => (h k hk).1)
  have := brings_visits _ hq (by rw [fillQ_len]; exact hn)
  rw [fillQ_len, show (clipI (n : Int) 0 64).toNat = n by unfold clipI; omega] at this
  exact this
theorem costV_fill (P : List Int) (T : TankOk st rt sz ru hd) (hn : n ≤ 20) (h : OkTo st sz rt cap S n) : costV 2 st rt sz hd P (visitsOf (fillQ st sz rt S n)) n = costS st sz rt hd P S n := by
  unfold costV
  rw [if_neg (by decide), brings_fill T hn h, nights_fill T (by omega) h, cost_fill P (fun k hk => (h k hk).1) (Nat.le_refl n)]
  unfold visitsOf
  rw [fillQ_len]
theorem fitsV_fill (h : OkTo st sz rt cap S n) : fitsV cap (visitsOf (fillQ st sz rt S n)) = true := by
  unfold visitsOf
  rw [fillQ_len]
  have key : ∀ k, k ≤ n → fitsV cap (visitsTo (fillQ st sz rt S n) k) = true := by
    intro k
    induction k with
    | zero => intro _; rfl
    | succ k ih =>
      intro hk
      rw [visits_fill (by omega) (fun j hj => (h j hj).1)]
      have ih := ih (by omega)
      split
      · rename_i hb
        unfold fitsV at *
        rw [List.all_append, ih]
        have := ((h k (by omega)).1 hb).2
        simpa using this
      · exact ih
  exact key n (Nat.le_refl n)
theorem suits_fill (dm : Int) (ps : List Nat) (T : TankOk st rt sz ru hd) (hn : n ≤ 20) (h : OkTo st sz rt cap S n) : suitsV 2 dm ps rt sz st ru cap (visitsOf (fillQ st sz rt S n)) n = true := by
  unfold suitsV
  rw [fitsV_fill h, if_neg (by decide), brings_fill T hn h, (holds_fill T (by omega) (fun k hk => (h k hk).1)).2 (fun k hk => (h k hk).2)]
  simp
end
end

section
open Go.RowKit
set_option linter.unusedVariables false
set_option maxRecDepth 100000

theorem all_lt (S : Nat) {i j : Nat} (h : i < j) (hj : j < (allUpto S 0 64).length) : nth (allUpto S 0 64) i < nth (allUpto S 0 64) j := by
  rw [nth_lt (by omega), nth_lt hj]
  exact List.pairwise_iff_getElem.1 (all_sorted S 0 64) i j (by omega) hj h
theorem all_bit (S : Nat) {i : Nat} (h : i < (allUpto S 0 64).length) : S.testBit (nth (allUpto S 0 64) i).toNat = true ∧ 0 ≤ nth (allUpto S 0 64) i ∧ nth (allUpto S 0 64) i < 64 := by
  have hm := nth_mem h
  obtain ⟨h0, h1⟩ := all_bd S 0 64 _ hm
  refine ⟨?_, h0, h1⟩
  have := (mem_all S 0 64 (nth (allUpto S 0 64) i).toNat (by omega)).1 (by rw [show (((nth (allUpto S 0 64) i).toNat : Nat) : Int) = nth (allUpto S 0 64) i by omega]; exact hm)
  exact this.2
theorem all_find (S : Nat) {j : Nat} (hj : j < 64) (hb : S.testBit j = true) : ∃ m, m < (allUpto S 0 64).length ∧ nth (allUpto S 0 64) m = (j : Int) := by
  have hm := (mem_all S 0 64 j hj).2 ⟨Nat.zero_le _, hb⟩
  obtain ⟨m, hm1, hm2⟩ := List.mem_iff_getElem.1 hm
  exact ⟨m, hm1, by rw [nth_lt hm1]; exact hm2⟩
/-- The day ahead of a set's k-th day. -/
def prevI (S k : Nat) : Int := if k = 0 then -1 else nth (allUpto S 0 64) (k - 1)
theorem prev_zero (S : Nat) : prevI S 0 = -1 := rfl
theorem prev_succ (S k : Nat) : prevI S (k + 1) = nth (allUpto S 0 64) k := by unfold prevI; rw [if_neg (by omega), Nat.add_sub_cancel]
theorem prev_last (S : Nat) {k : Nat} (hk : k < (allUpto S 0 64).length) : lastOf S (nth (allUpto S 0 64) k).toNat = prevI S k := by
  obtain ⟨hb, h0, h64⟩ := all_bit S hk
  cases k with
  | zero =>
    rw [prev_zero]
    apply lastOf_none
    intro j hj
    cases hbj : S.testBit j with
    | false => rfl
    | true =>
      obtain ⟨m, hm, he⟩ := all_find S (show j < 64 by omega) hbj
      rcases Nat.eq_zero_or_pos m with h | h
      · subst h; omega
      · have := all_lt S h hm; omega
  | succ k =>
    rw [prev_succ]
    obtain ⟨hb1, h01, h641⟩ := all_bit S (show k < (allUpto S 0 64).length by omega)
    have hlt := all_lt S (show k < k + 1 by omega) hk
    have := lastOf_eq S (nth (allUpto S 0 64) (k + 1)).toNat (nth (allUpto S 0 64) k).toNat hb1 (by omega) (fun j h1 h2 => by
      cases hbj : S.testBit j with
      | false => rfl
      | true =>
        obtain ⟨m, hm, he⟩ := all_find S (show j < 64 by omega) hbj
        exfalso
        rcases Nat.lt_or_ge m (k + 1) with h | h
        · rcases Nat.lt_or_ge m k with h' | h'
          · have := all_lt S h' (by omega); omega
          · have : m = k := by omega
            subst this; omega
        · rcases Nat.lt_or_ge (k + 1) m with h' | h'
          · have := all_lt S h' hm; omega
          · have : m = k + 1 := by omega
            subst this; omega)
    rw [this]
    omega
theorem prev_bd (S : Nat) {k : Nat} (hk : k < (allUpto S 0 64).length) : -1 ≤ prevI S k ∧ prevI S k < nth (allUpto S 0 64) k := by
  rw [← prev_last S hk]
  have h1 := lastOf_bd S (nth (allUpto S 0 64) k).toNat
  obtain ⟨_, h0, _⟩ := all_bit S hk
  omega
/-- What the fills of S bring, as visits. -/
def fillV (st sz rt : Int) (S : Nat) : List (Int × Int) := (allUpto S 0 64).map fun d => (d, sz - tS st sz rt S d.toNat)
theorem allUpto_stop (S n m : Nat) (hS : ∀ k, n ≤ k → S.testBit k = false) : n ≤ m → allUpto S 0 m = allUpto S 0 n := by
  intro h
  induction m with
  | zero => rw [show n = 0 by omega]
  | succ m ih =>
    by_cases e : n = m + 1
    · rw [e]
    · rw [allUpto_no S 0 m (hS m (by omega)), ih (by omega)]
theorem fillV_eq {st sz rt cap : Int} {S n : Nat} (hn : n ≤ 64) (hS : ∀ k, n ≤ k → S.testBit k = false) (hf : ∀ k, k < n → S.testBit k = true → fitF st sz rt cap S k) : visitsOf (fillQ st sz rt S n) = fillV st sz rt S := by
  have key : ∀ k, k ≤ n → visitsTo (fillQ st sz rt S n) k = (allUpto S 0 k).map fun d => (d, sz - tS st sz rt S d.toNat) := by
    intro k
    induction k with
    | zero => intro _; simp [visitsTo, allUpto]
    | succ k ih =>
      intro hk
      rw [visits_fill (by omega) hf, ih (by omega)]
      cases hb : S.testBit k with
      | true => rw [allUpto_yes S 0 k (by omega) hb, List.map_append, if_pos rfl]; simp
      | false => rw [allUpto_no S 0 k hb, if_neg (by simp)]
  unfold visitsOf fillV
  rw [fillQ_len, key n (Nat.le_refl n), allUpto_stop S n 64 hS hn]
theorem fillV_step (st sz rt : Int) (S k : Nat) (h : k < (allUpto S 0 64).length) : (((allUpto S 0 64).take (k + 1)).map fun d => (d, sz - tS st sz rt S d.toNat)) =
    (((allUpto S 0 64).take k).map fun d => (d, sz - tS st sz rt S d.toNat)) ++ [(nth (allUpto S 0 64) k, sz - thereI st sz rt (nth (allUpto S 0 64) k).toNat (prevI S k))] := by
  rw [take_succ_nth _ k h, List.map_append, ← prev_last S h, ← tS_there]
  rfl
end

end Go.Proofs.YtnhcgpkcmfelkaaGreat
