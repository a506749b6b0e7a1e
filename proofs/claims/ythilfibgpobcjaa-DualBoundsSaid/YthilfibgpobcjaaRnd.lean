/-
  My own work: a number counted round, plainly.
-/
import Derived.Test.YthilfibgpobcjaaBase
namespace Go.Proofs.Ythilfibgpobcjaa
open Go.RowKit
set_option linter.unusedVariables false

def rnd (n least most : Int) : Int := least + (if n < 0 then -(n + 1) else n) % (most - least + 1)

theorem rnd_neg (n l m : Int) (hn : (Lit.int .i64 n).wf = true) (h : n < 0) (hl : 0 ≤ l) (hlm : l ≤ m) (hm : m ≤ 1099511627776) :
    wrap64 (l + (wrap64 (-wrap64 (n + 1))).tmod (m - l + 1)) = rnd n l m := by
  have hb := wf_i64 hn
  rw [show wrap64 (n + 1) = n + 1 by unfold wrap64; omega, show wrap64 (-(n + 1)) = -(n + 1) by unfold wrap64; omega, Int.tmod_eq_emod_of_nonneg (by omega)]
  unfold rnd
  rw [if_pos h]
  have h1 := Int.emod_nonneg (-(n + 1)) (b := m - l + 1) (by omega)
  have h2 := Int.emod_lt_of_pos (-(n + 1)) (b := m - l + 1) (by omega)
  generalize -(n + 1) % (m - l + 1) = x at *
  unfold wrap64; omega
theorem rnd_pos (n l m : Int) (h : 0 ≤ n) (hl : 0 ≤ l) (hlm : l ≤ m) (hm : m ≤ 1099511627776) : wrap64 (l + n % (m - l + 1)) = rnd n l m := by
  unfold rnd
  rw [if_neg (by omega)]
  have h1 := Int.emod_nonneg n (b := m - l + 1) (by omega)
  have h2 := Int.emod_lt_of_pos n (b := m - l + 1) (by omega)
  generalize n % (m - l + 1) = x at *
  unfold wrap64; omega
theorem rnd_bd (n l m : Int) (hlm : l ≤ m) : l ≤ rnd n l m ∧ rnd n l m ≤ m := by
  unfold rnd
  have h1 := Int.emod_nonneg (if n < 0 then -(n + 1) else n) (b := m - l + 1) (by omega)
  have h2 := Int.emod_lt_of_pos (if n < 0 then -(n + 1) else n) (b := m - l + 1) (by omega)
  omega
end Go.Proofs.Ythilfibgpobcjaa
