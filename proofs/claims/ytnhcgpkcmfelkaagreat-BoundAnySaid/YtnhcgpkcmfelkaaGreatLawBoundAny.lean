/-
  No plan that may be costs less than what is found: any instance (made of any), any plan (few of all), any seed, any budget.
  Conditions: none. The law answers true for every input, and each argument reads behind the call as it read before.
-/
import Derived.Test.YtnhcgpkcmfelkaaGreatMOwn
import Derived.Test.YtnhcgpkcmfelkaaGreatMOpen
import Derived.Test.YtnhcgpkcmfelkaaGreatPnP
namespace Go.Proofs.YtnhcgpkcmfelkaaGreat
open Go.ChangeShapes Go.WideShapes Go.ChangeAt Go.RowKit
set_option linter.unusedVariables false
set_option maxRecDepth 100000

set_option maxRecDepth 100000 in
theorem boundAny_lifted (os : Os) (started : os.Started) (H : Type) (enc : TypeId × Value → H) :
    ReturnsInHanded {} Tryz.checked os 5 .any (Rows.boundAnySpec.pre6 enc Tryz.prog Tryz.f5 Rows.boundAnyRow.domain false) (Rows.boundAnySpec.post enc Tryz.prog Tryz.f5 false true false false) := by
  refine returnsInHanded_of_change (C := Tryz.checked) own started (by kernel_rfl) Tryz.func5
    (ChangeSpec.witness6 (enc := enc) (C := Tryz.checked) false ⟨#[], #[.agg #[.int .i64 0, .int .i64 0, .int .i64 0, .int .i64 0, .slice none 0 0, .slice none 0 0],.slice none 0 0,.slice none 0 0,.int .i64 0,.int .i64 0], []⟩ 8 (by kernel_rfl) (by kernel_rfl) (by kernel_rfl) (by kernel_rfl)) ?_
  intro W base args ds gs before hval0 hW hcnd hreach
  have hval : ∀ (j : Nat) t v, Tryz.f5.params[j]? = some t → args[j]? = some v → Value.okWide Tryz.prog W .any base t v := hval0
  have hW' := hW
  obtain ⟨p, q, hA0, hV, rfl, hfz, hnd⟩ := hW
  have hA : DataW.TrodAll enc Tryz.prog W 0 (fun _ => true) true Tryz.f5.params.toList args.toList ds p := hA0
  have hAk := hA
  obtain ⟨rfl, rfl⟩ := trodVars_none hV
  simp only [List.append_nil] at hW'
  have hlen : ds.length = 5 := by have := trodAll_len hAk; rw [this]; rfl
  have fin : ∀ (e : Ending) W', (e = .returned (.bool true) ∧ Below W.heap.size W W') → ∃ v, e = .returned v ∧ Rows.boundAnySpec.post enc Tryz.prog Tryz.f5 false true false false W args v W' := fun e W' ⟨he, bel⟩ =>
    ⟨_, he, law_post hW' hAk (by decide +kernel) rfl (by match ds, hlen with | [d0, d1, d2, d3, d4], _ => rfl) rfl bel⟩
  rw [Tryz.params5] at hA hval
  clear hA0 hval0 hAk hW'
  obtain ⟨v0, v1, v2, v3, v4, d0, d1, d2, d3, d4, p0, p1, p2, p3, p4, rfl, rfl, rfl, h0, h1, h2, h3, h4⟩ := trodAll_five hA
  obtain ⟨i0, i1, i2, i3, cv, dv, L, D, rfl, w0, w1, w2, w3, hC, hL, hG, hD⟩ := open_inst (hval 0 25 v0 rfl rfl) h0
  obtain ⟨xs, hx, hxw⟩ := open_sliceInts (hval 1 26 v1 rfl rfl) h1
  obtain ⟨bs, hbs, hbl⟩ := open_boolsLen (hval 2 37 v2 rfl rfl) h2
  obtain ⟨seed, rfl, rfl, rfl, wsd⟩ := open_int Tryz.underlying3 (hval 3 3 v3 rfl rfl) h3
  obtain ⟨bud, rfl, rfl, rfl, wbud⟩ := open_int Tryz.underlying3 (hval 4 3 v4 rfl rfl) h4
  exact (boundAny_walk i0 i1 i2 i3 cv dv v1 v2 L D xs bs seed bud W w0 w1 w2 w3 hC hL hG hD hx hxw hbs hbl wbud).mono fin

theorem boundAny_holds : Rows.BoundAnySaid :=
  OpenClaim.holds_of_wide 5 Tryz.f5 rfl rfl rfl rfl rfl rfl rfl ⟨rfl, rfl, rfl, rfl, rfl⟩ rfl rfl rfl rfl rfl (by kernel_rfl) Tryz.func5 (by kernel_rfl)
    (of_decide_eq_true (by kernel_rfl)) (by unfold Func.isWrapper; first | (rw [if_pos (by decide +kernel)]; kernel_rfl) | (rw [if_neg (by decide +kernel)]; exact ⟨rfl, rfl⟩))
    (fun os started H enc _ => boundAny_lifted os started H enc)
#print axioms boundAny_holds
end Go.Proofs.YtnhcgpkcmfelkaaGreat
