/-
  The set whose prices are the least, the first of them, and its prices together, are the documents: any sets (the first 10), any prices (the first 70).
  Conditions: none. The law answers true for every input, and each argument reads behind the call as it read before.
-/
import Derived.Test.YthiiodagihlggaaFrame
import Derived.Test.YthiiodagihlggaaDaysLaws3
namespace Go.Proofs.Ythiiodagihlggaa
open Go.ChangeShapes Go.WideShapes Go.ChangeAt Go.RowKit
set_option linter.unusedVariables false

set_option maxRecDepth 100000 in
theorem daysBest_lifted (os : Os) (started : os.Started) (H : Type) (enc : TypeId × Value → H) :
    ReturnsInHanded {} Try.checked os 7 .any (Rows.daysBestSpec.pre6 enc Try.prog Try.f7 Rows.daysBestRow.domain false) (Rows.daysBestSpec.post enc Try.prog Try.f7 false true false false) := by
  refine returnsInHanded_of_change (C := Try.checked) own started (by kernel_rfl) Try.func7
    (ChangeSpec.witness6 (enc := enc) (C := Try.checked) false ⟨#[], #[.slice none 0 0, .slice none 0 0], []⟩ 8 (by kernel_rfl) (by kernel_rfl) (by kernel_rfl) (by kernel_rfl)) ?_
  intro W base args ds gs before hval0 hW hcnd hreach
  have hval : ∀ (j : Nat) t v, Try.f7.params[j]? = some t → args[j]? = some v → Value.okWide Try.prog W .any base t v := hval0
  have hW' := hW
  obtain ⟨p, q, hA0, hV, rfl, hfz, hnd⟩ := hW
  have hA : DataW.TrodAll enc Try.prog W 0 (fun _ => true) true Try.f7.params.toList args.toList ds p := hA0
  have hAk := hA
  obtain ⟨rfl, rfl⟩ := trodVars_none hV
  simp only [List.append_nil] at hW'
  have hlen : ds.length = 2 := by have := trodAll_len hAk; rw [this]; rfl
  have fin : ∀ (e : Ending) W', (e = .returned (.bool true) ∧ Below W.heap.size W W') → ∃ v, e = .returned v ∧ Rows.daysBestSpec.post enc Try.prog Try.f7 false true false false W args v W' := fun e W' ⟨he, bel⟩ =>
    ⟨_, he, law_post hW' hAk (by decide +kernel) rfl (by match ds, hlen with | [d0, d1], _ => rfl) rfl bel⟩
  rw [Try.params7] at hA hval
  clear hA0 hval0 hAk hW'
  obtain ⟨v0, v1, d0, d1, p0, p1, rfl, rfl, rfl, h0, h1⟩ := trodAll_two hA
  obtain ⟨l, hl, hlw⟩ := open_sliceWords (hval 0 43 v0 rfl rfl) h0
  obtain ⟨q, hq, hqw⟩ := open_sliceInts (hval 1 22 v1 rfl rfl) h1
  exact (daysBest_walk v0 v1 l q W hl hlw hq (fun x hx => fitsI_of_wf (hqw x hx))).mono fin

theorem daysBest_holds : Rows.DaysBestSaid :=
  OpenClaim.holds_of_wide 7 Try.f7 rfl rfl rfl rfl rfl rfl rfl ⟨rfl, rfl, rfl, rfl, rfl⟩ rfl rfl rfl rfl rfl (by kernel_rfl) Try.func7 (by kernel_rfl)
    (of_decide_eq_true (by kernel_rfl)) (by unfold Func.isWrapper; first | (rw [if_pos (by decide +kernel)]; kernel_rfl) | (rw [if_neg (by decide +kernel)]; exact ⟨rfl, rfl⟩))
    (fun os started H enc _ => daysBest_lifted os started H enc)
#print axioms daysBest_holds
end Go.Proofs.Ythiiodagihlggaa
