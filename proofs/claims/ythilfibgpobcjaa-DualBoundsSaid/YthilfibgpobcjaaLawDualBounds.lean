/-
  By prices that may be no tour costs less than Out and In of all its places together, the depot among them: any instance (made of any), any numbers (within 2^40), any stops (made of any), cut in tours anywhere.
  Conditions: none. The law answers true for every input, and each argument reads behind the call as it read before.
-/
import Derived.Test.YthilfibgpobcjaaFrame
import Derived.Test.YthilfibgpobcjaaOpenInst
import Derived.Test.YthilfibgpobcjaaOpenStops
import Derived.Test.YthilfibgpobcjaaDualP
namespace Go.Proofs.Ythilfibgpobcjaa
open Go.ChangeShapes Go.WideShapes Go.ChangeAt Go.RowKit
set_option linter.unusedVariables false

set_option maxRecDepth 100000 in
theorem dualBounds_lifted (os : Os) (started : os.Started) (H : Type) (enc : TypeId × Value → H) :
    ReturnsInHanded {} Try.checked os 3 .any (Rows.dualBoundsSpec.pre6 enc Try.prog Try.f3 Rows.dualBoundsRow.domain false) (Rows.dualBoundsSpec.post enc Try.prog Try.f3 false true false false) := by
  refine returnsInHanded_of_change (C := Try.checked) own started (by kernel_rfl) Try.func3
    (ChangeSpec.witness6 (enc := enc) (C := Try.checked) false ⟨#[], #[.agg #[.int .i64 0, .int .i64 0, .int .i64 0, .int .i64 0, .slice none 0 0, .slice none 0 0],.slice none 0 0,.slice none 0 0,.slice none 0 0], []⟩ 8 (by kernel_rfl) (by kernel_rfl) (by kernel_rfl) (by kernel_rfl)) ?_
  intro W base args ds gs before hval0 hW hcnd hreach
  have hval : ∀ (j : Nat) t v, Try.f3.params[j]? = some t → args[j]? = some v → Value.okWide Try.prog W .any base t v := hval0
  have hW' := hW
  obtain ⟨p, q, hA0, hV, rfl, hfz, hnd⟩ := hW
  have hA : DataW.TrodAll enc Try.prog W 0 (fun _ => true) true Try.f3.params.toList args.toList ds p := hA0
  have hAk := hA
  obtain ⟨rfl, rfl⟩ := trodVars_none hV
  simp only [List.append_nil] at hW'
  have hlen : ds.length = 4 := by have := trodAll_len hAk; rw [this]; rfl
  have fin : ∀ (e : Ending) W', (e = .returned (.bool true) ∧ Below W.heap.size W W') → ∃ v, e = .returned v ∧ Rows.dualBoundsSpec.post enc Try.prog Try.f3 false true false false W args v W' := fun e W' ⟨he, bel⟩ =>
    ⟨_, he, law_post hW' hAk (by decide +kernel) rfl (by match ds, hlen with | [d0, d1, d2, d3], _ => rfl) rfl bel⟩
  rw [Try.params3] at hA hval
  clear hA0 hval0 hAk hW'
  obtain ⟨v0, v1, v2, v3, d0, d1, d2, d3, p0, p1, p2, p3, rfl, rfl, rfl, h0, h1, h2, h3⟩ := trodAll_four hA
  obtain ⟨i0, i1, i2, i3, cv, dv, L, D, rfl, w0, w1, w2, w3, hC, hL, hG, hD⟩ := open_inst (hval 0 25 v0 rfl rfl) h0
  obtain ⟨l, hl, hlw⟩ := open_sliceInts (hval 1 26 v1 rfl rfl) h1
  obtain ⟨sl, hsl, hslm⟩ := open_stops (hval 2 27 v2 rfl rfl) h2
  obtain ⟨bs, hbs⟩ := open_boolsArg (hval 3 28 v3 rfl rfl) h3
  exact (dualBounds_walk i0 i1 i2 i3 cv dv L D v1 l v2 v3 sl bs W w0 w1 w2 w3 hC hL hG hD hl hsl hbs hslm).mono fin

theorem dualBounds_holds : Rows.DualBoundsSaid :=
  OpenClaim.holds_of_wide 3 Try.f3 rfl rfl rfl rfl rfl rfl rfl ⟨rfl, rfl, rfl, rfl, rfl⟩ rfl rfl rfl rfl rfl (by kernel_rfl) Try.func3 (by kernel_rfl)
    (of_decide_eq_true (by kernel_rfl)) (by unfold Func.isWrapper; first | (rw [if_pos (by decide +kernel)]; kernel_rfl) | (rw [if_neg (by decide +kernel)]; exact ⟨rfl, rfl⟩))
    (fun os started H enc _ => dualBounds_lifted os started H enc)
#print axioms dualBounds_holds
end Go.Proofs.Ythilfibgpobcjaa
