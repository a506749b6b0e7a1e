/-
  My own work: tranterref11.Bound, tranterref10.Can: their contracts.
-/
import Derived.Test.YtnhcgpkcmfelkaaAloneAB
import Derived.Test.YtnhcgpkcmfelkaaPolicyF
namespace Go.Proofs.Ytnhcgpkcmfelkaa
open Go.RowKit
set_option linter.unusedVariables false
set_option maxRecDepth 100000
attribute [local go_sem ↓] Go.wp_at_zero Go.wp_at_succ

theorem found_ex {n : Nat} {kd dm : Int} {ps : List Nat} {rt sz st ru hd : Int} (cap : Int) (P : List Int) (hn : n ≤ 20) (hC : CuOk n kd dm ps rt sz st ru hd) : ∃ V b, FoundBy kd dm ps rt sz st ru hd cap P n V b := by
  rcases ok_kd hC with rfl | ⟨rfl, T⟩
  · exact ⟨_, _, .inl ⟨rfl, rfl, rfl⟩⟩
  · rcases T.ru with rfl | rfl
    · cases hs : stp st sz rt hd cap P n n with
      | none => exact ⟨_, _, .inr (.inl ⟨rfl, rfl, T, .inl ⟨hs, rfl, rfl⟩⟩)⟩
      | some s =>
        obtain ⟨S, h1, h2, _, h3, _⟩ := stp_at T.st0 (by have := T.sz0; omega) T.rt0 (show n ≤ 64 by omega) n (Nat.le_refl n) s hs
        rw [if_neg (Nat.lt_irrefl n)] at h3
        exact ⟨_, _, .inr (.inl ⟨rfl, rfl, T, .inr ⟨s, S, hs, h1, h2, by omega, rfl, rfl⟩⟩)⟩
    · exact ⟨_, _, .inr (.inr ⟨rfl, rfl, T, rfl, rfl⟩)⟩
theorem least_bound {n : Nat} {kd dm : Int} {ps : List Nat} {rt sz st ru hd cap : Int} {P : List Int} (hn : n ≤ 20) (hP : PriceOk P) (hC : CuOk n kd dm ps rt sz st ru hd) (hru : ru ≠ 2) :
    (0 < (allV kd dm ps rt sz st cap n).length → leastU (fun U => costV kd st rt sz hd P U n) (allV kd dm ps rt sz st cap n) (allV kd dm ps rt sz st cap n).length = boundI kd dm ps rt sz st ru hd cap P n) ∧
    (¬ 0 < (allV kd dm ps rt sz st cap n).length → floorI kd ps rt sz st hd cap P n = boundI kd dm ps rt sz st ru hd cap P n) := by
  obtain ⟨V, b, h⟩ := found_ex cap P hn hC
  obtain ⟨h1, h2⟩ := found_least hn hP hC h hru
  obtain ⟨h3, h4⟩ := found_bound hn h hru
  refine ⟨fun hp => ?_, fun hp => ?_⟩
  · have hb : b = true := by rw [h1]; exact decide_eq_true hp
    rw [h2 hb, h3 hb]
  · have hb : b = false := by rw [h1]; exact decide_eq_false hp
    exact h4 hb

/-- Whether a row of fills may be, by all sets. -/
theorem canB_fill {st sz rt hd cap : Int} {n : Nat} (T : TankOk st rt sz 1 hd) (hn : n ≤ 20) : canB st sz 1 rt cap n = true ↔ ∃ S, S < 2 ^ n ∧ OkTo st sz rt cap S n := by
  unfold canB
  rw [if_pos rfl, fillsB_stp hd [] (by omega)]
  constructor
  · intro h
    obtain ⟨s, hs⟩ := Option.isSome_iff_exists.1 h
    obtain ⟨S, h1, h2, _⟩ := stp_at T.st0 (by have := T.sz0; omega) T.rt0 (show n ≤ 64 by omega) n (Nat.le_refl n) s hs
    exact ⟨S, Nat.lt_pow_two_of_testBit S h1, h2⟩
  · rintro ⟨S, _, h⟩
    obtain ⟨z, hz, _⟩ := stp_le (hd := hd) (cap := cap) (P := []) T.st0 n (Nat.le_refl n) S h (fun h => absurd h (Nat.lt_irrefl n))
    rw [hz]; rfl

end Go.Proofs.Ytnhcgpkcmfelkaa
