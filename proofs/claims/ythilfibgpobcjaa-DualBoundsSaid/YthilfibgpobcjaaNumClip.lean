/-
  My own work: num.Clip: its contract.
-/
import Derived.Test.YthilfibgpobcjaaNumFit
namespace Go.Proofs.Ythilfibgpobcjaa
open Go.RowKit
set_option linter.unusedVariables false

def clipI (a l m : Int) : Int := min (max a l) m
theorem clip_is (a l m : Int) (w : World) :
    Calls Try.prog 47 #[.int .i64 a, .int .i64 l, .int .i64 m] w fun e w' => e = .returned (.int .i64 (clipI a l m)) ∧ w = w' := by
  by_cases h1 : a < l
  · by_cases h2 : m < l
    · have hc : Hid (clipI a l m = m) := by show _ = _; unfold clipI; omega
      go_enter Try.func47, Try.ntmps47
      go_wp2_with fail
      go_ret
      rw [hc.out]
      exact ⟨rfl, rfl⟩
    · have hc : Hid (clipI a l m = l) := by show _ = _; unfold clipI; omega
      go_enter Try.func47, Try.ntmps47
      go_wp2_with fail
      go_ret
      rw [hc.out]
      exact ⟨rfl, rfl⟩
  · by_cases h2 : m < a
    · have hc : Hid (clipI a l m = m) := by show _ = _; unfold clipI; omega
      go_enter Try.func47, Try.ntmps47
      go_wp2_with fail
      go_ret
      rw [hc.out]
      exact ⟨rfl, rfl⟩
    · have hc : Hid (clipI a l m = a) := by show _ = _; unfold clipI; omega
      go_enter Try.func47, Try.ntmps47
      go_wp2_with fail
      go_ret
      rw [hc.out]
      exact ⟨rfl, rfl⟩
end Go.Proofs.Ythilfibgpobcjaa
