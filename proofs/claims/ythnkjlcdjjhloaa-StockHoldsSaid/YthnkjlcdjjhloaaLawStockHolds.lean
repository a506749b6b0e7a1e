/-
  Whether bringings may be, and what it costs to hold, is told as the document says.
  Conditions: none. The law answers true for every input, and each argument reads behind the call as it read before.
-/
import Derived.Test.YthnkjlcdjjhloaaFrame
import Derived.Test.YthnkjlcdjjhloaaOpenCust
import Derived.Test.YthnkjlcdjjhloaaHoldsLaw
namespace Go.Proofs.Ythnkjlcdjjhloaa
open Go.ChangeShapes Go.WideShapes Go.ChangeAt Go.RowKit
set_option linter.unusedVariables false

set_option maxRecDepth 100000 in
theorem stockHolds_lifted (os : Os) (started : os.Started) (H : Type) (enc : TypeId × Value → H) :
    ReturnsInHanded {} Try.checked os 10 .any (Rows.stockHoldsSpec.pre6 enc Try.prog Try.f10 Rows.stockHoldsRow.domain false) (Rows.stockHoldsSpec.post enc Try.prog Try.f10 false true false false) := by
  refine returnsInHanded_of_change (C := Try.checked) own started (by kernel_rfl) Try.func10
    (ChangeSpec.witness6 (enc := enc) (C := Try.checked) false ⟨#[], #[.agg #[.int .i64 0, .int .i64 0, .slice none 0 0, .int .i64 0, .int .i64 0, .int .i64 0, .int .i64 0, .int .i64 0], .slice none 0 0, .slice none 0 0], []⟩ 8 (by kernel_rfl) (by kernel_rfl) (by kernel_rfl) (by kernel_rfl)) ?_
  intro W base args ds gs before hval0 hW hcnd hreach
  have hval : ∀ (j : Nat) t v, Try.f10.params[j]? = some t → args[j]? = some v → Value.okWide Try.prog W .any base t v := hval0
  have hW' := hW
  obtain ⟨p, q, hA0, hV, rfl, hfz, hnd⟩ := hW
  have hA : DataW.TrodAll enc Try.prog W 0 (fun _ => true) true Try.f10.params.toList args.toList ds p := hA0
  have hAk := hA
  obtain ⟨rfl, rfl⟩ := trodVars_none hV
  simp only [List.append_nil] at hW'
  have hlen : ds.length = 3 := by have := trodAll_len hAk; rw [this]; rfl
  have fin : ∀ (e : Ending) W', (e = .returned (.bool true) ∧ Below W.heap.size W W') → ∃ v, e = .returned v ∧ Rows.stockHoldsSpec.post enc Try.prog Try.f10 false true false false W args v W' := fun e W' ⟨he, bel⟩ =>
    ⟨_, he, law_post hW' hAk (by decide +kernel) rfl (by match ds, hlen with | [d0, d1, d2], _ => rfl) rfl bel⟩
  rw [Try.params10] at hA hval
  clear hA0 hval0 hAk hW'
  obtain ⟨v0, v1, v2, d0, d1, d2, p0, p1, p2, rfl, rfl, rfl, h0, h1, h2⟩ := trodAll_three hA
  obtain ⟨kd, dm, pt, rt, sz, st, ru, hd, rfl, _, _, w3, w4, w5, w6, w7, _⟩ := open_cust (hval 0 31 v0 rfl rfl) h0
  obtain ⟨q, hq, hqw⟩ := open_sliceInts (hval 1 32 v1 rfl rfl) h1
  obtain ⟨ms, hms, _⟩ := open_sliceInts (hval 2 32 v2 rfl rfl) h2
  exact (stockHolds_walk kd dm pt rt sz st ru hd v1 q v2 ms W hq hms w3 w4 w5 w6 w7).mono fin

theorem stockHolds_holds : Rows.StockHoldsSaid :=
  OpenClaim.holds_of_wide 10 Try.f10 rfl rfl rfl rfl rfl rfl rfl ⟨rfl, rfl, rfl, rfl, rfl⟩ rfl rfl rfl rfl rfl (by kernel_rfl) Try.func10 (by kernel_rfl)
    (of_decide_eq_true (by kernel_rfl)) (by unfold Func.isWrapper; first | (rw [if_pos (by decide +kernel)]; kernel_rfl) | (rw [if_neg (by decide +kernel)]; exact ⟨rfl, rfl⟩))
    (fun os started H enc _ => stockHolds_lifted os started H enc)
#print axioms stockHolds_holds
end Go.Proofs.Ythnkjlcdjjhloaa
