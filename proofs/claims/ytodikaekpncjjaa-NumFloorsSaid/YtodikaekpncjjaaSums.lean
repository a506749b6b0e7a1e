/-
  My own work: the walk of NumSums.
-/
import Derived.Test.YtodikaekpncjjaaNumLaws
import Derived.Test.YtodikaekpncjjaaBigF
import Derived.Test.YtodikaekpncjjaaTimes
import Derived.Test.YtodikaekpncjjaaBelow
namespace Go.Proofs.Ytodikaekpncjjaa
open Go.RowKit
set_option linter.unusedVariables false

theorem addE_sum (a b : Int) : addE a b = sumE (a + b) := rfl
theorem lessE_sum (a b : Int) : lessE a b = sumE (a + -b) := by unfold lessE sumE; rw [← Int.sub_eq_add_neg]
theorem timesE_sum (a b : Int) : timesE a b = sumE (a * b) := rfl

theorem add_keep3 {w0 w w' : World} {g g' : Nat} {v0 v1 v2 v3 : Value}
    (h : w.cell? ⟨g, 0, none⟩ = some v0 ∧ w.cell? ⟨g, 1, none⟩ = some v1 ∧ w.cell? ⟨g', 0, none⟩ = some v2 ∧ w.cell? ⟨g', 1, none⟩ = some v3 ∧ Below w0.heap.size w0 w) (hb : Below w.heap.size w w') :
    w'.cell? ⟨g, 0, none⟩ = some v0 ∧ w'.cell? ⟨g, 1, none⟩ = some v1 ∧ w'.cell? ⟨g', 0, none⟩ = some v2 ∧ w'.cell? ⟨g', 1, none⟩ = some v3 ∧ Below w0.heap.size w0 w' := by
  obtain ⟨h0, h1, h2, h3, h5⟩ := h
  exact ⟨cell_below hb h0, cell_below hb h1, cell_below hb h2, cell_below hb h3, h5.trans (hb.mono h5.size)⟩

set_option maxHeartbeats 3200000 in
theorem numSums_walk (a b : Int) (w : World) (fa : fitsI a = true) (fb : fitsI b = true) :
    Calls Try.prog 7 #[.int .i64 a, .int .i64 b] w fun e w' => e = .returned (.bool true) ∧ Below w.heap.size w w' := by
  have Fa := Lib.hid fa
  have Fb := Lib.hid fb
  clear fa fb
  go_enter Try.func7, Try.ntmps7
  go_wp2_with fail
  refine (of_is _ _ Fa.out).mono ?_
  rintro e w1 ⟨v1, rfl, hB1, hb1⟩
  obtain ⟨dv1, ds1, rfl, hd1, hr1⟩ := hB1
  obtain ⟨a1, n1, c1, rfl, _, _, _⟩ := hd1.open
  obtain ⟨w2, ew2, hb2, hs2, d0, d1, _, _⟩ := box_two w1 (.slice a1 n1 c1) (.bool (decide (a < 0))) 24
  have HB1 : Hid (IsBig w2 (.agg #[.slice a1 n1 c1, .bool (decide (a < 0))]) a 4) := Lib.hid ⟨_, ds1, rfl, hd1.below hb2, hr1⟩
  have b2 := below_two hb1 hb2
  have Hew2 := Lib.hid ew2
  clear hd1 hr1 hb1 hb2 ew2
  go_wp2_with fail
  rw [Hew2.out]
  refine (of_is _ _ Fb.out).mono ?_
  rintro e w3 ⟨v3, rfl, hB3, hb3⟩
  obtain ⟨dv3, ds3, rfl, hd3, hr3⟩ := hB3
  obtain ⟨a3, n3, c3, rfl, _, _, _⟩ := hd3.open
  obtain ⟨w4, ew4, hb4, hs4, e0, e1, _, _⟩ := box_two w3 (.slice a3 n3 c3) (.bool (decide (b < 0))) 24
  have HB3 : Hid (IsBig w4 (.agg #[.slice a3 n3 c3, .bool (decide (b < 0))]) b 4) := Lib.hid ⟨_, ds3, rfl, hd3.below hb4, hr3⟩
  have HB1' := Lib.hid (HB1.out.below (below_two hb3 hb4))
  have b4 := below_two b2 (below_two hb3 hb4)
  have d0' := cell_below (below_two hb3 hb4) d0
  have d1' := cell_below (below_two hb3 hb4) d1
  have hl1 : w1.heap.size < w4.heap.size := World.block_lt_of_cell? w4 _ d0'
  have hl3 : w3.heap.size < w4.heap.size := World.block_lt_of_cell? w4 _ e0
  have Hew4 := Lib.hid ew4
  clear hd3 hr3 hb3 hb4 b2 d0 d1 hs2 hs4 ew4
  generalize decide (a < 0) = sa at *
  generalize decide (b < 0) = sb at *
  generalize w1.heap.size = g1 at *
  go_wp2_with fail
  rw [Hew4.out]
  generalize w3.heap.size = g3 at *
  refine (add_is a b w4 Fa.out Fb.out).mono ?_
  rintro e w' ⟨rfl, rfl⟩
  rw [addE_sum]
  have HbX := Lib.hid b4
  clear b4
  go_wp2_with fail
  refine (bigAdd_is _ _ a b 4 4 _ HB1'.out HB3.out (by decide) (by decide)).mono ?_
  rintro e w5 ⟨v5, rfl, hB5, hb5⟩
  go_wp2_with fail
  refine (int_is _ _ _ _ hB5).mono ?_
  rintro e w6 ⟨rfl, hb6⟩
  have b6 := below_two hb5 hb6
  have f0 := cell_below b6 d0'
  have f1 := cell_below b6 d1'
  have f2 := cell_below b6 e0
  have f3 := cell_below b6 e1
  have HX6 := Lib.hid (HB1'.out.below b6)
  have HY6 := Lib.hid (HB3.out.below b6)
  have Hb6 := Lib.hid (HbX.out.trans (b6.mono HbX.out.size))
  clear hB5 hb5 hb6 d0' d1' e0 e1 b6 hl1 hl3
  generalize (sumE (a + b)).1 = S1 at *
  generalize (sumE (a + b)).2 = S2 at *
  go_wp2_with fail
  refine (less_is a b w6 Fa.out Fb.out).mono ?_
  rintro e w' ⟨rfl, rfl⟩
  rw [lessE_sum]
  go_wp2_with fail
  have hd9 := And.intro f0 (And.intro f1 (And.intro f2 (And.intro f3 (Below.refl w6.heap.size w6))))
  clear f0 f1 f2 f3
  go_region_held3 (fun w' => w'.cell? ⟨g1, 0, none⟩ = some (.slice a1 n1 c1) ∧ w'.cell? ⟨g1, 1, none⟩ = some (.bool sa) ∧ w'.cell? ⟨g3, 0, none⟩ = some (.slice a3 n3 c3) ∧ w'.cell? ⟨g3, 1, none⟩ = some (.bool sb) ∧ Below w6.heap.size w6 w')
      (first | exact add_keep3 (by assumption) (by assumption) | exact add_keep3 (by assumption) (drew_below _))
      (first
        | (go_at_call 17; refine (neg_is _ b 4 _ ?_).mono ?_; exact HY6.out.below (drew_below _); rintro e w7 ⟨v7, rfl, hB7, hb7⟩)
        | (go_at_call 10; refine (bigAdd_is _ _ a (-b) 4 4 _ ?_ hB7 (by decide) (by decide)).mono ?_; exact HX6.out.below (below_two (drew_below _) hb7); rintro e w8 ⟨v8, rfl, hB8, hb8⟩)
        | (go_at_call 13; refine (int_is _ _ _ _ hB8).mono ?_; rintro e w9 ⟨rfl, hb9⟩))
  have b9 := below_two (below_two (below_two (drew_below _) hb7) hb8) hb9
  obtain ⟨f0, f1, f2, f3, _⟩ := add_keep3 hd9 b9
  have HX9 := Lib.hid (HX6.out.below b9)
  have HY9 := Lib.hid (HY6.out.below b9)
  have Hb9 := Lib.hid (Hb6.out.trans (b9.mono Hb6.out.size))
  clear hd9 hB7 hb7 hB8 hb8 hb9 b9
  generalize (sumE (a + -b)).1 = T1 at *
  generalize (sumE (a + -b)).2 = T2 at *
  go_wp2_with fail
  refine (times_is a b w9 Fa.out Fb.out).mono ?_
  rintro e w' ⟨rfl, rfl⟩
  rw [timesE_sum]
  go_wp2_with fail
  refine (bigTimes_is _ _ a b 4 4 _ HX9.out HY9.out (by decide) (by decide)).mono ?_
  rintro e w10 ⟨v10, rfl, hB10, hb10⟩
  go_wp2_with fail
  refine (int_is _ _ _ _ hB10).mono ?_
  rintro e w11 ⟨rfl, hb11⟩
  have b11 := Lib.hid (Hb9.out.trans ((below_two hb10 hb11).mono Hb9.out.size))
  clear hB10 hb10 hb11
  generalize (sumE (a * b)).1 = U1 at *
  generalize (sumE (a * b)).2 = U2 at *
  have q1 : (S1 == S1) = true := by simp
  have q2 : (S2 == S2) = true := by simp
  have q3 : (T1 == T1) = true := by simp
  have q4 : (T2 == T2) = true := by simp
  have q5 : (U1 == U1) = true := by simp
  have q6 : (U2 == U2) = true := by simp
  go_wp2_with fail
  refine (lives01_is _).mono ?_
  rintro e w12 ⟨rfl, hb12⟩
  go_wp2_with fail
  go_ret
  exact ⟨rfl, b11.out.trans (hb12.mono b11.out.size)⟩
end Go.Proofs.Ytodikaekpncjjaa
