/-
  My own work: the walk of AloneSuits.
-/
import Derived.Test.YtnhcgpkcmfelkaaGreatAloneO
import Derived.Test.YtnhcgpkcmfelkaaGreatAloneJ
namespace Go.Proofs.YtnhcgpkcmfelkaaGreat
open Go.RowKit
set_option linter.unusedVariables false
set_option maxRecDepth 100000
attribute [local go_sem ↓] Go.wp_at_zero Go.wp_at_succ

theorem good_tank {n : Nat} {X : Cu} (h : GoodC n X) : X.kd = 1 ∨ (X.kd = 2 ∧ TankOk X.st X.rt X.sz X.ru X.hd) := by
  rcases h with ⟨h1, h2, h3, h4, h5, h6, h7, h8, h9, h10, h11, h12⟩ | h
  · exact .inr ⟨h1, h4, by omega, h6, by omega, h8, h9, h10, h11, by omega⟩
  · exact .inl h.1
theorem good_ps {n : Nat} {X : Cu} (hn : n ≤ 64) (h : GoodC n X) : (∀ p ∈ X.ps, p < 18446744073709551616) ∧ X.ps.length ≤ 1000 := by
  rcases h with ⟨_, _, h3, _⟩ | ⟨_, _, _, _, _, _, _, _, _, h10, h11⟩
  · rw [h3]; simp
  · refine ⟨fun p hp => ?_, by omega⟩
    have h1 := h11 p hp
    have h2 : 2 ^ n ≤ 2 ^ 64 := Nat.pow_le_pow_right (by decide) hn
    have h3 : (2 : Nat) ^ 64 = 18446744073709551616 := by decide
    omega
theorem Vis.take {w : World} {a : Option Addr} {n c m : Nat} {xs : List (Int × Int)} (h : Vis w (.slice a n c) xs) (hm : m ≤ n) : Vis w (.slice a m c) (xs.take m) := by
  obtain ⟨a', c', h, h1, h2, hc⟩ := h
  simp only [Value.slice.injEq] at h
  obtain ⟨rfl, rfl, rfl⟩ := h
  have hl : (xs.take m).length = m := by rw [List.length_take]; omega
  refine ⟨a, c, by rw [hl], by omega, h2, fun i hi => ?_⟩
  rw [hl] at hi
  have e : nthV (xs.take m) i = nthV xs i := by simp [nthV, hi]
  rw [e]
  exact hc i (by omega)

end Go.Proofs.YtnhcgpkcmfelkaaGreat
