/-
  A larger budget climbs no lower, and never below Best: any instance (made of any), any seed, any budget.
  Conditions: none. The law answers true for every input, and each argument reads behind the call as it read before.
-/
import Derived.Test.YtnhcgpkcmfelkaaMOwn
import Derived.Test.YtnhcgpkcmfelkaaOpenInst
import Derived.Test.YtnhcgpkcmfelkaaBdN
namespace Go.Proofs.Ytnhcgpkcmfelkaa
open Go.ChangeShapes Go.WideShapes Go.ChangeAt Go.RowKit
set_option linter.unusedVariables false
set_option maxRecDepth 100000

set_option maxRecDepth 100000 in
theorem boundClimbsUp_lifted (os : Os) (started : os.Started) (H : Type) (enc : TypeId × Value → H) :
    ReturnsInHanded {} Try.checked os 3 .any (Rows.boundClimbsUpSpec.pre6 enc Try.prog Try.f3 Rows.boundClimbsUpRow.domain false) (Rows.boundClimbsUpSpec.post enc Try.prog Try.f3 false true false false) := by
  refine returnsInHanded_of_change (C := Try.checked) own started (by kernel_rfl) Try.func3
    (ChangeSpec.witness6 (enc := enc) (C := Try.checked) false ⟨#[], #[.agg #[.int .i64 0, .int .i64 0, .int .i64 0, .int .i64 0, .slice none 0 0, .slice none 0 0],.int .i64 0,.int .i64 0], []⟩ 8 (by kernel_rfl) (by kernel_rfl) (by kernel_rfl) (by kernel_rfl)) ?_
  intro W base args ds gs before hval0 hW hcnd hreach
  have hval : ∀ (j : Nat) t v, Try.f3.params[j]? = some t → args[j]? = some v → Value.okWide Try.prog W .any base t v := hval0
  have hW' := hW
  obtain ⟨p, q, hA0, hV, rfl, hfz, hnd⟩ := hW
  have hA : DataW.TrodAll enc Try.prog W 0 (fun _ => true) true Try.f3.params.toList args.toList ds p := hA0
  have hAk := hA
  obtain ⟨rfl, rfl⟩ := trodVars_none hV
  simp only [List.append_nil] at hW'
  have hlen : ds.length = 3 := by have := trodAll_len hAk; rw [this]; rfl
  have fin : ∀ (e : Ending) W', (e = .returned (.bool true) ∧ Below W.heap.size W W') → ∃ v, e = .returned v ∧ Rows.boundClimbsUpSpec.post enc Try.prog Try.f3 false true false false W args v W' := fun e W' ⟨he, bel⟩ =>
    ⟨_, he, law_post hW' hAk (by decide +kernel) rfl (by match ds, hlen with | [d0, d1, d2], _ => rfl) rfl bel⟩
  rw [Try.params3] at hA hval
  clear hA0 hval0 hAk hW'
  obtain ⟨v0, v1, v2, d0, d1, d2, p0, p1, p2, rfl, rfl, rfl, h0, h1, h2⟩ := trodAll_three hA
  obtain ⟨i0, i1, i2, i3, cv, dv, L, D, rfl, w0, w1, w2, w3, hC, hL, hG, hD⟩ := open_inst (hval 0 25 v0 rfl rfl) h0
  obtain ⟨seed, rfl, rfl, rfl, wsd⟩ := open_int Try.underlying3 (hval 1 3 v1 rfl rfl) h1
  obtain ⟨bud, rfl, rfl, rfl, wbud⟩ := open_int Try.underlying3 (hval 2 3 v2 rfl rfl) h2
  exact (boundClimbsUp_walk i0 i1 i2 i3 cv dv L D seed bud W w0 w1 w2 w3 hC hL hG hD wbud).mono fin

theorem boundClimbsUp_holds : Rows.BoundClimbsUpSaid :=
  OpenClaim.holds_of_wide 3 Try.f3 rfl rfl rfl rfl rfl rfl rfl ⟨rfl, rfl, rfl, rfl, rfl⟩ rfl rfl rfl rfl rfl (by kernel_rfl) Try.func3 (by kernel_rfl)
    (of_decide_eq_true (by kernel_rfl)) (by unfold Func.isWrapper; first | (rw [if_pos (by decide +kernel)]; kernel_rfl) | (rw [if_neg (by decide +kernel)]; exact ⟨rfl, rfl⟩))
    (fun os started H enc _ => boundClimbsUp_lifted os started H enc)
#print axioms boundClimbsUp_holds
end Go.Proofs.Ytnhcgpkcmfelkaa
