/-
  My own work: a drawn region whose calls make memory but hand back values that do not hang on it: one walk, in the order of the text (the kit's Quiet.lean at the class of all worlds that only grew).
-/
import Derived.Test.YtnhcgpkcmfelkaaGreatMOwn
import Derived.Deep.QuietTactic
import Derived.BigQuiet
namespace Go.Proofs.YtnhcgpkcmfelkaaGreat
open Go.RowKit
set_option linter.unusedVariables false
set_option maxRecDepth 100000

/-- A world that has grown out of w0. -/
structure Ext (w0 : World) where
  w : World
  below : Below w0.heap.size w0 w
instance (w0 : World) : Nonempty (Ext w0) := ⟨⟨w0, Below.refl _ _⟩⟩
theorem Ext.cell {w0 : World} {p : Addr} {v : Value} (h : w0.cell? p = some v) (z : Ext w0) : z.w.cell? p = some v := cell_below z.below h
theorem wp_region_ext {P : Program} {id : Nat} {Q : Exit → Act → World → Prop} {a : Act} {w : World} {l : List Oper} (hm : P.follows .mixedOrders = true) (hB : Region.lexB .any l.toArray = true)
    (h : wpQuiet P l.toArray (fun w' => ∃ z : Ext w, w' = z.w) (fun a' => ∀ w', (∃ z : Ext w, w' = z.w) → Q .normal a' w') l a) : (Code.region id l.toArray true).wp P Q a w :=
  wp_region_quiet (C := fun w' => ∃ z : Ext w, w' = z.w) hm hB ⟨⟨_, belDrew w⟩, rfl⟩ (by simpa using h)
theorem ext_call {P : Program} {f : FuncId} {args : Array Value} {w : World} {v : Value} (z : Ext w) (h : Calls P f args z.w fun e w' => e = .returned v ∧ Below z.w.heap.size z.w w') :
    Calls P f args z.w fun e w'' => e = .returned v ∧ ∃ z' : Ext w, w'' = z'.w :=
  h.mono fun _ w' ⟨he, hb⟩ => ⟨he, ⟨w', bel2 z.below hb⟩, rfl⟩
theorem ext_same {P : Program} {f : FuncId} {args : Array Value} {w : World} {v : Value} (z : Ext w) (h : Calls P f args z.w fun e w' => e = .returned v ∧ z.w = w') :
    Calls P f args z.w fun e w'' => e = .returned v ∧ ∃ z' : Ext w, w'' = z'.w :=
  h.mono fun _ w' ⟨he, hb⟩ => ⟨he, z, hb.symm⟩
theorem own_slice {w : World} {B : Nat} {v : Value} {xs : List Int} (h : Own w B v xs) : ∃ a n c, v = .slice a n c := by
  obtain ⟨a, c, rfl, _⟩ := h.ints
  exact ⟨_, _, _, rfl⟩
end Go.Proofs.YtnhcgpkcmfelkaaGreat
