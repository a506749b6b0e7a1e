/-
  My own work: numbers, moved from world to world.
-/
import Derived.Test.YthiiodagihlggaaBigB
import Derived.Deep.RegionHeld3
namespace Go.Proofs.Ythiiodagihlggaa
open Go.RowKit
set_option linter.unusedVariables false

theorem drew_below (w : World) : Below w.heap.size w w.drew := below_drewN (Below.refl _ w) 1
theorem IsBig.move {w w2 : World} {a : Option Addr} {m n c : Nat} {neg : Bool} {x : Int} {L : Nat} {cs : List Int} (h : IsBig w (.agg #[.slice a m c, .bool neg]) x L) (hm : m ≤ n) (h1 : Ints w (.slice a n c) cs) (h2 : Ints w2 (.slice a n c) cs) :
    IsBig w2 (.agg #[.slice a m c, .bool neg]) x L := by
  obtain ⟨dv, ds, hv, hd, hr⟩ := h
  simp only [Value.agg.injEq, Array.mk.injEq, List.cons.injEq, Value.bool.injEq, and_true] at hv
  obtain ⟨rfl, rfl⟩ := hv
  refine ⟨_, ds, rfl, ?_, hr⟩
  obtain ⟨a', c', he, h3, h4, h5⟩ := hd
  simp only [Value.slice.injEq] at he
  obtain ⟨rfl, rfl, rfl⟩ := he
  obtain ⟨a', c', he, k3, k4, k5⟩ := h1
  simp only [Value.slice.injEq] at he
  obtain ⟨rfl, rfl, rfl⟩ := he
  obtain ⟨a', c', he, l3, l4, l5⟩ := h2
  simp only [Value.slice.injEq] at he
  obtain ⟨rfl, _, rfl⟩ := he
  refine ⟨_, _, rfl, h3, h4, fun i hi => ?_⟩
  obtain ⟨b, o, ha, hc⟩ := h5 i hi
  obtain ⟨b2, o2, ha2, hc2⟩ := k5 i (by omega)
  obtain ⟨b3, o3, ha3, hc3⟩ := l5 i (by omega)
  rw [ha] at ha2 ha3
  simp only [Option.some.injEq, Addr.mk.injEq, and_true] at ha2 ha3
  obtain ⟨rfl, rfl⟩ := ha2
  obtain ⟨rfl, rfl⟩ := ha3
  rw [hc] at hc2
  simp only [Option.some.injEq, Value.int.injEq, true_and] at hc2
  exact ⟨b, o, ha, by rw [hc3, hc2]⟩
theorem sg_not (x : Int) : sg (!decide (x < 0)) (x.natAbs : Int) = -x := by
  by_cases h : x < 0
  · rw [decide_eq_true h]; simp [sg]; omega
  · rw [decide_eq_false h]; simp [sg]; omega
theorem sg_same (x : Int) : sg (decide (x < 0)) (x.natAbs : Int) = x := by
  by_cases h : x < 0
  · rw [decide_eq_true h]; simp [sg]; omega
  · rw [decide_eq_false h]; simp [sg]; omega

end Go.Proofs.Ythiiodagihlggaa
