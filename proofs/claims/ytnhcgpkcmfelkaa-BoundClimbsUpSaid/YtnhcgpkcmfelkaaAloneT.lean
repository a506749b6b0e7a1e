/-
  My own work: tranterref11.All: its contract.
-/
import Derived.Test.YtnhcgpkcmfelkaaOwnU
import Derived.Test.YtnhcgpkcmfelkaaAloneS
import Derived.Test.YtnhcgpkcmfelkaaMAl
namespace Go.Proofs.Ytnhcgpkcmfelkaa
open Go.RowKit
set_option linter.unusedVariables false
set_option maxRecDepth 100000
attribute [local go_sem ↓] Go.wp_at_zero Go.wp_at_succ

/-- The visits of the patterns that may be carried. -/
def allP (dm cap : Int) (ps : List Nat) : List (List (Int × Int)) := (ps.filter fun p => decide ((onV dm p).length = 0) || decide (dm ≤ cap)).map (onV dm)
theorem allP_yes {dm cap : Int} {ps : List Nat} {k : Nat} (h : k < ps.length) (hc : (onV dm (nthN ps k)).length = 0 ∨ dm ≤ cap) : allP dm cap (ps.take (k + 1)) = allP dm cap (ps.take k) ++ [onV dm (nthN ps k)] := by
  unfold allP
  rw [List.take_succ_eq_append_getElem h, List.filter_append, nthN_lt h, List.map_append]
  rw [nthN_lt h] at hc
  have : ([ps[k]].filter fun p => decide ((onV dm p).length = 0) || decide (dm ≤ cap)) = [ps[k]] := by
    rw [List.filter_cons, if_pos (by simpa using hc)]; rfl
  rw [this]; rfl
theorem allP_no {dm cap : Int} {ps : List Nat} {k : Nat} (h : k < ps.length) (hc : ¬ ((onV dm (nthN ps k)).length = 0 ∨ dm ≤ cap)) : allP dm cap (ps.take (k + 1)) = allP dm cap (ps.take k) := by
  unfold allP
  rw [List.take_succ_eq_append_getElem h, List.filter_append, List.map_append]
  rw [nthN_lt h] at hc
  have : ([ps[k]].filter fun p => decide ((onV dm p).length = 0) || decide (dm ≤ cap)) = [] := by
    rw [List.filter_cons, if_neg (by simpa using hc)]; rfl
  rw [this]; simp
theorem allP_len (dm cap : Int) (ps : List Nat) : (allP dm cap ps).length ≤ ps.length := by
  unfold allP
  rw [List.length_map]
  exact List.length_filter_le _ _
/-- The visits of all fills that may be, of the first k sets. -/
def allS (st sz rt cap : Int) (n k : Nat) : List (List (Int × Int)) := ((List.range k).filter fun S => decide (OkTo st sz rt cap S n)).map fun S => visitsOf (fillQ st sz rt S n)
theorem allS_yes {st sz rt cap : Int} {n k : Nat} (h : OkTo st sz rt cap k n) : allS st sz rt cap n (k + 1) = allS st sz rt cap n k ++ [visitsOf (fillQ st sz rt k n)] := by
  unfold allS
  rw [List.range_succ, List.filter_append, List.map_append]
  have : ([k].filter fun S => decide (OkTo st sz rt cap S n)) = [k] := by rw [List.filter_cons, if_pos (by simpa using h)]; rfl
  rw [this]; rfl
theorem allS_no {st sz rt cap : Int} {n k : Nat} (h : ¬ OkTo st sz rt cap k n) : allS st sz rt cap n (k + 1) = allS st sz rt cap n k := by
  unfold allS
  rw [List.range_succ, List.filter_append, List.map_append]
  have : ([k].filter fun S => decide (OkTo st sz rt cap S n)) = [] := by rw [List.filter_cons, if_neg (by simpa using h)]; rfl
  rw [this]; simp
theorem allS_len (st sz rt cap : Int) (n k : Nat) : (allS st sz rt cap n k).length ≤ k := by
  unfold allS
  rw [List.length_map]
  have := List.length_filter_le (fun S => decide (OkTo st sz rt cap S n)) (List.range k)
  rwa [List.length_range] at this
def AllOut (w : World) (L : List (List (Int × Int))) (e : Ending) (w' : World) : Prop := ∃ v, e = .returned v ∧ OwnU w' w.heap.size v L ∧ Below w.heap.size w w'

theorem two_mul_wrap {k : Nat} (h : k ≤ 40) : IntKind.u64.wrap (2 * ((2 ^ k : Nat) : Int)) = ((2 ^ (k + 1) : Nat) : Int) := by
  have h1 : 2 ^ (k + 1) ≤ 2 ^ 41 := Nat.pow_le_pow_right (by decide) (by omega)
  have h2 : (2 : Nat) ^ 41 = 2199023255552 := by decide
  have h3 : 2 ^ (k + 1) = 2 ^ k * 2 := Nat.pow_succ ..
  rw [IntWalk.u64_in _ (by omega)]
  omega

end Go.Proofs.Ytnhcgpkcmfelkaa
