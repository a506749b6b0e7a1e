/-
  My own work: layer 18: what a good instance gives the bounds; a contract with a number handed back, at a region that only grows the heap.
-/
import Derived.Test.YtnhcgpkcmfelkaaGreatMBd
import Derived.Test.YtnhcgpkcmfelkaaGreatMGood
import Derived.Test.YtnhcgpkcmfelkaaGreatMDual
namespace Go.Proofs.YtnhcgpkcmfelkaaGreat
open Go.RowKit
set_option linter.unusedVariables false
set_option maxRecDepth 100000

theorem ext_cost {f : FuncId} {args : Array Value} {w : World} {k : Int} (z : Ext w) (h : Calls Tryz.prog f args z.w (CostOut z.w k)) : Calls Tryz.prog f args z.w fun e w'' => e = .returned (.int .i64 k) ∧ ∃ z' : Ext w, w'' = z'.w :=
  h.mono fun _ w' ⟨he, hb⟩ => ⟨he, ⟨w', bel2 z.below hb⟩, rfl⟩
theorem good_okI {days : Nat} {ve cp ln : Int} {L : List Cu} {D : List (List Int)} (h : GoodI days ve cp ln L D) : OkI days L :=
  ⟨by have := h.n6; omega, fun C hC => good_ok (h.good C hC), h.d1, h.d7⟩
/-- What a list of numbers reads, cell by cell. -/
theorem own_cells {w : World} {g n c : Nat} {xs : List Int} (h : Ints w (.slice (some ⟨g, 0, none⟩) n c) xs) : (∀ k, k < n → w.cell? ⟨g, k, none⟩ = some (.int .i64 (nth xs k))) ∧ xs.length = n := by
  obtain ⟨a, m, c', hv, hm, _, hcell⟩ := h.open
  simp only [Value.slice.injEq] at hv
  obtain ⟨rfl, rfl, rfl⟩ := hv
  refine ⟨fun k hk => ?_, hm⟩
  obtain ⟨b, o, hb, hc⟩ := hcell k hk
  simp only [Option.some.injEq, Addr.mk.injEq, and_true] at hb
  obtain ⟨rfl, rfl⟩ := hb
  rwa [Nat.zero_add] at hc
end Go.Proofs.YtnhcgpkcmfelkaaGreat
