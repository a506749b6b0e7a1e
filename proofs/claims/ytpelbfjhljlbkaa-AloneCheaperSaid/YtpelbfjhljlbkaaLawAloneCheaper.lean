/-
  With lower prices what is found (of Kind Periodic, by FillUp) costs no more, and Bound is no greater: any customer, any number of days, any capacity from 0 to 2^31, any prices (made of any), one of which is lower.
  Conditions: none. The law answers true for every input, and each argument reads behind the call as it read before.
-/
import Derived.Test.YtpelbfjhljlbkaaMOwn
import Derived.Test.YtpelbfjhljlbkaaOpenVis
import Derived.Test.YtpelbfjhljlbkaaFive
import Derived.Test.YtpelbfjhljlbkaaAloneCh
namespace Go.Proofs.Ytpelbfjhljlbkaa
open Go.ChangeShapes Go.WideShapes Go.ChangeAt Go.RowKit
set_option linter.unusedVariables false
set_option maxRecDepth 100000

set_option maxRecDepth 100000 in
theorem aloneCheaper_lifted (os : Os) (started : os.Started) (H : Type) (enc : TypeId × Value → H) :
    ReturnsInHanded {} Try.checked os 9 .any (Rows.aloneCheaperSpec.pre6 enc Try.prog Try.f9 Rows.aloneCheaperRow.domain false) (Rows.aloneCheaperSpec.post enc Try.prog Try.f9 false true false false) := by
  refine returnsInHanded_of_change (C := Try.checked) own started (by kernel_rfl) Try.func9
    (ChangeSpec.witness6 (enc := enc) (C := Try.checked) false ⟨#[], #[.agg #[.int .i64 0, .int .i64 0, .slice none 0 0, .int .i64 0, .int .i64 0, .int .i64 0, .int .i64 0, .int .i64 0],.int .i64 0,.int .i64 0,.slice none 0 0,.int .i64 0], []⟩ 8 (by kernel_rfl) (by kernel_rfl) (by kernel_rfl) (by kernel_rfl)) ?_
  intro W base args ds gs before hval0 hW hcnd hreach
  have hval : ∀ (j : Nat) t v, Try.f9.params[j]? = some t → args[j]? = some v → Value.okWide Try.prog W .any base t v := hval0
  have hW' := hW
  obtain ⟨p, q, hA0, hV, rfl, hfz, hnd⟩ := hW
  have hA : DataW.TrodAll enc Try.prog W 0 (fun _ => true) true Try.f9.params.toList args.toList ds p := hA0
  have hAk := hA
  obtain ⟨rfl, rfl⟩ := trodVars_none hV
  simp only [List.append_nil] at hW'
  have hlen : ds.length = 5 := by have := trodAll_len hAk; rw [this]; rfl
  have fin : ∀ (e : Ending) W', (e = .returned (.bool true) ∧ Below W.heap.size W W') → ∃ v, e = .returned v ∧ Rows.aloneCheaperSpec.post enc Try.prog Try.f9 false true false false W args v W' := fun e W' ⟨he, bel⟩ =>
    ⟨_, he, law_post hW' hAk (by decide +kernel) rfl (by match ds, hlen with | [d0, d1, d2, d3, d4], _ => rfl) rfl bel⟩
  rw [Try.params9] at hA hval
  clear hA0 hval0 hAk hW'
  obtain ⟨v0, v1, v2, v3, v4, d0, d1, d2, d3, d4, p0, p1, p2, p3, p4, rfl, rfl, rfl, h0, h1, h2, h3, h4⟩ := trodAll_five hA
  obtain ⟨C, pv, rfl, hC, hps⟩ := open_cu (hval 0 24 v0 rfl rfl) h0
  obtain ⟨n0, rfl, rfl, rfl, wn⟩ := open_int Try.underlying3 (hval 1 3 v1 rfl rfl) h1
  obtain ⟨a, rfl, rfl, rfl, wa⟩ := open_int Try.underlying3 (hval 2 3 v2 rfl rfl) h2
  obtain ⟨l, hl, hlw⟩ := open_sliceInts (hval 3 25 v3 rfl rfl) h3
  obtain ⟨dy, rfl, rfl, rfl, wd⟩ := open_int Try.underlying3 (hval 4 3 v4 rfl rfl) h4
  exact (aloneCheaper_walk C pv v3 n0 a dy l W hC hps wn hl hlw).mono fin

theorem aloneCheaper_holds : Rows.AloneCheaperSaid :=
  OpenClaim.holds_of_wide 9 Try.f9 rfl rfl rfl rfl rfl rfl rfl ⟨rfl, rfl, rfl, rfl, rfl⟩ rfl rfl rfl rfl rfl (by kernel_rfl) Try.func9 (by kernel_rfl)
    (of_decide_eq_true (by kernel_rfl)) (by unfold Func.isWrapper; first | (rw [if_pos (by decide +kernel)]; kernel_rfl) | (rw [if_neg (by decide +kernel)]; exact ⟨rfl, rfl⟩))
    (fun os started H enc _ => aloneCheaper_lifted os started H enc)
#print axioms aloneCheaper_holds
end Go.Proofs.Ytpelbfjhljlbkaa
