/-
  My own work: tranterref01.Neg, Add: their contracts.
-/
import Derived.Test.YtodikaekpncjjaaBigB
import Derived.Deep.RegionHeld3
namespace Go.Proofs.Ytodikaekpncjjaa
open Go.RowKit
set_option linter.unusedVariables false

theorem drew_below (w : World) : Below w.heap.size w w.drew := below_drewN (Below.refl _ w) 1
theorem IsBig.move {w w2 : World} {a : Option Addr} {m n c : Nat} {neg : Bool} {x : Int} {L : Nat} {cs : List Int} (h : IsBig w (.agg #[.slice a m c, .bool neg]) x L) (hm : m ≤ n) (h1 : Ints w (.slice a n c) cs) (h2 : Ints w2 (.slice a n c) cs) :
    IsBig w2 (.agg #[.slice a m c, .bool neg]) x L := by
  obtain ⟨dv, ds, hv, hd, hr⟩ := h
  simp only [Value.agg.injEq, Array.mk.injEq, List.cons.injEq, Value.bool.injEq, and_true] at hv
  obtain ⟨rfl, rfl⟩ := hv
  refine ⟨_, ds, rfl, ?_, hr⟩
  obtain ⟨a', c', he, h3, h4, h5⟩ := hd
  simp only [Value.slice.injEq] at he
  obtain ⟨rfl, rfl, rfl⟩ := he
  obtain ⟨a', c', he, k3, k4, k5⟩ := h1
  simp only [Value.slice.injEq] at he
  obtain ⟨rfl, rfl, rfl⟩ := he
  obtain ⟨a', c', he, l3, l4, l5⟩ := h2
  simp only [Value.slice.injEq] at he
  obtain ⟨rfl, _, rfl⟩ := he
  refine ⟨_, _, rfl, h3, h4, fun i hi => ?_⟩
  obtain ⟨b, o, ha, hc⟩ := h5 i hi
  obtain ⟨b2, o2, ha2, hc2⟩ := k5 i (by omega)
  obtain ⟨b3, o3, ha3, hc3⟩ := l5 i (by omega)
  rw [ha] at ha2 ha3
  simp only [Option.some.injEq, Addr.mk.injEq, and_true] at ha2 ha3
  obtain ⟨rfl, rfl⟩ := ha2
  obtain ⟨rfl, rfl⟩ := ha3
  rw [hc] at hc2
  simp only [Option.some.injEq, Value.int.injEq, true_and] at hc2
  exact ⟨b, o, ha, by rw [hc3, hc2]⟩
theorem sg_not (x : Int) : sg (!decide (x < 0)) (x.natAbs : Int) = -x := by
  by_cases h : x < 0
  · rw [decide_eq_true h]; simp [sg]; omega
  · rw [decide_eq_false h]; simp [sg]; omega
theorem sg_same (x : Int) : sg (decide (x < 0)) (x.natAbs : Int) = x := by
  by_cases h : x < 0
  · rw [decide_eq_true h]; simp [sg]; omega
  · rw [decide_eq_false h]; simp [sg]; omega

set_option maxHeartbeats 1600000 in
theorem neg_is (va : Value) (x : Int) (L : Nat) (w : World) (ha : IsBig w va x L) :
    Calls Try.prog 17 #[va] w fun e w' => ∃ v, e = .returned v ∧ IsBig w' v (-x) L ∧ Below w.heap.size w w' := by
  obtain ⟨dv, ds, rfl, hd, hdg, hnm, hv, hl⟩ := ha
  obtain ⟨a, n, c, rfl, _, _, _⟩ := hd.open
  obtain ⟨w1, ew, hb1, hs1, c0, c1, f0, f1⟩ := box_two w (.slice a n c) (.bool (decide (x < 0))) 24
  have Hew := Lib.hid ew
  have Hd := Lib.hid (hd.below hb1)
  have Hd0 := Lib.hid hd
  have Hdg := Lib.hid hdg
  have Hv := Lib.hid hv
  have Hl := Lib.hid hl
  have Hx := Lib.hid (sg_not x)
  have hl0 : w.heap.size < w1.heap.size := by omega
  generalize decide (x < 0) = neg at *
  clear ew hd hdg hnm hv hl
  go_enter Try.func17, Try.ntmps17
  go_wp2_with fail
  rw [Hew.out]
  obtain ⟨w2, ew2, hb2, hs2, e0, e1, k0, k1⟩ := box_two w1 (.slice none 0 0) (.bool false) 24
  rw [ew2]
  have d0 := cell_below hb2 c0
  have d1 := cell_below hb2 c1
  have hbw2 := hb1.trans (hb2.mono hb1.size)
  have Hd2 := Lib.hid (Hd.out.below hb2)
  clear ew2 c0 c1
  generalize eg : w.heap.size = g at *
  have Heg := Lib.hid eg
  clear eg
  go_wp2_with fail
  refine (trim_is a n c ds (!neg) w2 Hd2.out Hdg.out).mono ?_
  rintro e w3 ⟨m, neg', rfl, hm, hB, hb3⟩
  rw [Hv.out, Hx.out] at hB
  have HB := Lib.hid (hB.mono Hl.out)
  have hbw3 := hbw2.trans (hb3.mono (by have := hb2.size; omega))
  rw [hs1] at e0 e1 k0 k1
  have hg2 : g + 1 < w2.heap.size := by omega
  have e0' := cell_below hb3 e0
  have e1' := cell_below hb3 e1
  have k0' := (hb3.frozen (p := ⟨g + 1, 0, none⟩) hg2).trans k0
  have k1' := (hb3.frozen (p := ⟨g + 1, 1, none⟩) hg2).trans k1
  have hsz3 := World.block_lt_of_cell? w3 _ e0'
  obtain ⟨q0, q1⟩ := two_set w3 (g + 1) (.slice a m c) (.bool neg') _ _ e0' e1'
  have Hb := Lib.hid ((hbw3.setCell (p := ⟨g + 1, 0, none⟩) (Nat.le_succ _) (.slice a m c)).setCell (p := ⟨g + 1, 1, none⟩) (Nat.le_succ _) (.bool neg'))
  clear e0 e1 k0 k1 hb1 hb2 hb3 hbw2 hbw3 d0 d1 f0 f1
  go_wp2_with fail
  have hD := Hd0.out.below (by rw [Heg.out]; exact Hb.out)
  exact bodyPost_ret (v := .agg #[.slice a m c, .bool neg']) (by simp [results, Try.results17, go_sem, q0, q1]) rfl ⟨_, rfl, HB.out.move hm Hd2.out hD, by rw [Heg.out]; exact Hb.out⟩
end Go.Proofs.Ytodikaekpncjjaa
