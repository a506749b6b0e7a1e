/-
  My own work: tranterref09.sat, Brings, tranterref11.Cost: their contracts.
-/
import Derived.Test.YtnhcgpkcmfelkaaAloneF
import Derived.Test.YtnhcgpkcmfelkaaMBig
namespace Go.Proofs.Ytnhcgpkcmfelkaa
open Go.RowKit
set_option linter.unusedVariables false
set_option maxRecDepth 100000
attribute [local go_sem ↓] Go.wp_at_zero Go.wp_at_succ

/-- What the first k visits bring on day d. -/
def dayQ (V : List (Int × Int)) (d : Int) : Nat → Int
  | 0 => 0
  | k + 1 => if (nthV V k).1 = d then satI (dayQ V d k) (nthV V k).2 else dayQ V d k
theorem dayQ_fits (V : List (Int × Int)) (d : Int) (k : Nat) : fitsI (dayQ V d k) = true := by
  induction k with
  | zero => exact (by decide : fitsI 0 = true)
  | succ k ih =>
    rw [dayQ]
    split
    · exact satI_fits _ _
    · exact ih
theorem nth_bring {acc : List Int} {p : Int × Int} {d : Nat} (hd : d < acc.length) : nth (bring acc p) d = if p.1 = (d : Int) then satI (nth acc d) p.2 else nth acc d := by
  unfold bring
  by_cases h : 0 ≤ p.1 ∧ p.1 < acc.length
  · rw [if_pos h, nth_set (by omega)]
    by_cases e : p.1 = (d : Int)
    · have : p.1.toNat = d := by omega
      rw [if_pos e, if_pos this, this]
    · rw [if_neg e, if_neg (by omega)]
  · rw [if_neg h, if_neg (by omega)]
theorem dayQ_brings (V : List (Int × Int)) (n d : Nat) (hd : d < n) (k : Nat) (hk : k ≤ V.length) : nth (bringsTo V n k) d = dayQ V d k := by
  induction k with
  | zero =>
    unfold bringsTo
    simp [dayQ, nth, hd]
  | succ k ih =>
    rw [bringsTo_succ V n k (by omega), nth_bring (by rw [bringsTo_len]; exact hd), ih (by omega), dayQ]
theorem brings_day (V : List (Int × Int)) (n : Nat) : bringsOf V n = (List.range n).map fun d : Nat => dayQ V (d : Int) V.length := by
  apply ext_nth
  · rw [brings_len]; simp
  · intro k hk
    rw [brings_len] at hk
    rw [nth_map_range _ _ _ hk]
    have := dayQ_brings V n k hk V.length (Nat.le_refl _)
    unfold bringsTo at this
    rw [List.take_length] at this
    exact this
def daysQ (V : List (Int × Int)) (n : Nat) : List Int := (List.range n).map fun d : Nat => dayQ V (d : Int) V.length
theorem daysQ_succ (V : List (Int × Int)) (n : Nat) : daysQ V (n + 1) = daysQ V n ++ [dayQ V (n : Int) V.length] := by unfold daysQ; rw [List.range_succ, List.map_append]; rfl

end Go.Proofs.Ytnhcgpkcmfelkaa
