/-
  My own work: the walk of NumClips.
-/
import Derived.Test.YtodikaekpncjjaaNumLaws
import Derived.Test.YtodikaekpncjjaaBigF
namespace Go.Proofs.Ytodikaekpncjjaa
open Go.RowKit
set_option linter.unusedVariables false

theorem sat_fit {a b : Int} (h : fitsI (a + b) = true) : satI a b = a + b := by unfold satI; rw [if_pos h]
theorem sat_not {a b : Int} (ha : fitsI a = true) (hb : fitsI b = true) (h : ¬ fitsI (a + b) = true) : satI a b = if a < 0 then -9223372036854775808 else 9223372036854775807 := by
  unfold satI
  rw [if_neg h]
  rw [fitsI_iff] at ha hb h
  split <;> split <;> omega

set_option maxHeartbeats 3200000 in
theorem numClips_walk (a l m : Int) (w : World) (fa : fitsI a = true) (fl : fitsI l = true) :
    Calls Try.prog 6 #[.int .i64 a, .int .i64 l, .int .i64 m] w fun e w' => e = .returned (.bool true) ∧ Below w.heap.size w w' := by
  have Fa := Lib.hid fa
  have Fl := Lib.hid fl
  clear fa fl
  have H : ∃ x y, (if a < l then l else a) = x ∧ (if m < x then m else x) = y ∧ clipI a l m = y := ⟨_, _, rfl, rfl, by unfold clipI; split <;> split <;> omega⟩
  obtain ⟨x, y, hx, hy, hc⟩ := H
  have Hc := Lib.hid hc
  clear hc
  by_cases h1 : a < l
  · rw [if_pos h1] at hx
    subst hx
    have h1' : decide (a < l) = true := by simpa using h1
    clear h1
    by_cases h2 : m < l
    · rw [if_pos h2] at hy
      subst hy
      have h2' : decide (m < l) = true := by simpa using h2
      clear h2
      go_enter Try.func6, Try.ntmps6
      go_wp2_with fail
      refine (clip_is _ _ _ _).mono ?_
      rintro e w' ⟨rfl, rfl⟩
      rw [Hc.out]
      go_wp2_with fail
      refine (sat_is _ _ _ Fa.out Fl.out).mono ?_
      rintro e w' ⟨rfl, rfl⟩
      go_wp2_with fail
      refine (of_is _ _ Fa.out).mono ?_
      rintro e w1 ⟨v1, rfl, hB1, hb1⟩
      go_wp2_with fail
      refine (of_is _ _ Fl.out).mono ?_
      rintro e w2 ⟨v2, rfl, hB2, hb2⟩
      have b2 := hb1.trans (hb2.mono hb1.size)
      go_wp2_with fail
      refine (bigAdd_is _ _ _ _ 4 4 _ (hB1.below hb2) hB2 (by decide) (by decide)).mono ?_
      rintro e w3 ⟨v3, rfl, hB3, hb3⟩
      have b3 := b2.trans (hb3.mono b2.size)
      go_wp2_with fail
      refine (int_is _ _ _ _ hB3).mono ?_
      rintro e w4 ⟨rfl, hb4⟩
      have b4 := b3.trans (hb4.mono b3.size)
      clear hB1 hB2 hB3 hb1 hb2 hb3 hb4 b2 b3
      by_cases hf : fitsI (a + l) = true
      rotate_left
      · rw [sumE_not hf, sat_not Fa.out Fl.out hf]
        clear hf
        by_cases h0 : a < 0
        · rw [if_pos h0]
          go_wp2_with fail
          refine (lives01_is _).mono ?_
          rintro e w7 ⟨rfl, hb7⟩
          go_wp2_with fail
          go_ret
          exact ⟨rfl, b4.trans (hb7.mono b4.size)⟩
        · rw [if_neg h0]
          go_wp2_with fail
          refine (lives01_is _).mono ?_
          rintro e w7 ⟨rfl, hb7⟩
          go_wp2_with fail
          go_ret
          exact ⟨rfl, b4.trans (hb7.mono b4.size)⟩
      · rw [sumE_fit hf, sat_fit hf]
        clear hf
        generalize a + l = S at *
        go_wp2_with fail
        refine (lives01_is _).mono ?_
        rintro e w7 ⟨rfl, hb7⟩
        go_wp2_with fail
        go_ret
        exact ⟨rfl, b4.trans (hb7.mono b4.size)⟩
    · rw [if_neg h2] at hy
      subst hy
      have h2' : decide (m < l) = false := by simpa using h2
      clear h2
      go_enter Try.func6, Try.ntmps6
      go_wp2_with fail
      refine (clip_is _ _ _ _).mono ?_
      rintro e w' ⟨rfl, rfl⟩
      rw [Hc.out]
      go_wp2_with fail
      refine (sat_is _ _ _ Fa.out Fl.out).mono ?_
      rintro e w' ⟨rfl, rfl⟩
      go_wp2_with fail
      refine (of_is _ _ Fa.out).mono ?_
      rintro e w1 ⟨v1, rfl, hB1, hb1⟩
      go_wp2_with fail
      refine (of_is _ _ Fl.out).mono ?_
      rintro e w2 ⟨v2, rfl, hB2, hb2⟩
      have b2 := hb1.trans (hb2.mono hb1.size)
      go_wp2_with fail
      refine (bigAdd_is _ _ _ _ 4 4 _ (hB1.below hb2) hB2 (by decide) (by decide)).mono ?_
      rintro e w3 ⟨v3, rfl, hB3, hb3⟩
      have b3 := b2.trans (hb3.mono b2.size)
      go_wp2_with fail
      refine (int_is _ _ _ _ hB3).mono ?_
      rintro e w4 ⟨rfl, hb4⟩
      have b4 := b3.trans (hb4.mono b3.size)
      clear hB1 hB2 hB3 hb1 hb2 hb3 hb4 b2 b3
      by_cases hf : fitsI (a + l) = true
      rotate_left
      · rw [sumE_not hf, sat_not Fa.out Fl.out hf]
        clear hf
        by_cases h0 : a < 0
        · rw [if_pos h0]
          go_wp2_with fail
          refine (lives01_is _).mono ?_
          rintro e w7 ⟨rfl, hb7⟩
          go_wp2_with fail
          go_ret
          exact ⟨rfl, b4.trans (hb7.mono b4.size)⟩
        · rw [if_neg h0]
          go_wp2_with fail
          refine (lives01_is _).mono ?_
          rintro e w7 ⟨rfl, hb7⟩
          go_wp2_with fail
          go_ret
          exact ⟨rfl, b4.trans (hb7.mono b4.size)⟩
      · rw [sumE_fit hf, sat_fit hf]
        clear hf
        generalize a + l = S at *
        go_wp2_with fail
        refine (lives01_is _).mono ?_
        rintro e w7 ⟨rfl, hb7⟩
        go_wp2_with fail
        go_ret
        exact ⟨rfl, b4.trans (hb7.mono b4.size)⟩
  · rw [if_neg h1] at hx
    subst hx
    have h1' : decide (a < l) = false := by simpa using h1
    clear h1
    by_cases h2 : m < a
    · rw [if_pos h2] at hy
      subst hy
      have h2' : decide (m < a) = true := by simpa using h2
      clear h2
      go_enter Try.func6, Try.ntmps6
      go_wp2_with fail
      refine (clip_is _ _ _ _).mono ?_
      rintro e w' ⟨rfl, rfl⟩
      rw [Hc.out]
      go_wp2_with fail
      refine (sat_is _ _ _ Fa.out Fl.out).mono ?_
      rintro e w' ⟨rfl, rfl⟩
      go_wp2_with fail
      refine (of_is _ _ Fa.out).mono ?_
      rintro e w1 ⟨v1, rfl, hB1, hb1⟩
      go_wp2_with fail
      refine (of_is _ _ Fl.out).mono ?_
      rintro e w2 ⟨v2, rfl, hB2, hb2⟩
      have b2 := hb1.trans (hb2.mono hb1.size)
      go_wp2_with fail
      refine (bigAdd_is _ _ _ _ 4 4 _ (hB1.below hb2) hB2 (by decide) (by decide)).mono ?_
      rintro e w3 ⟨v3, rfl, hB3, hb3⟩
      have b3 := b2.trans (hb3.mono b2.size)
      go_wp2_with fail
      refine (int_is _ _ _ _ hB3).mono ?_
      rintro e w4 ⟨rfl, hb4⟩
      have b4 := b3.trans (hb4.mono b3.size)
      clear hB1 hB2 hB3 hb1 hb2 hb3 hb4 b2 b3
      by_cases hf : fitsI (a + l) = true
      rotate_left
      · rw [sumE_not hf, sat_not Fa.out Fl.out hf]
        clear hf
        by_cases h0 : a < 0
        · rw [if_pos h0]
          go_wp2_with fail
          refine (lives01_is _).mono ?_
          rintro e w7 ⟨rfl, hb7⟩
          go_wp2_with fail
          go_ret
          exact ⟨rfl, b4.trans (hb7.mono b4.size)⟩
        · rw [if_neg h0]
          go_wp2_with fail
          refine (lives01_is _).mono ?_
          rintro e w7 ⟨rfl, hb7⟩
          go_wp2_with fail
          go_ret
          exact ⟨rfl, b4.trans (hb7.mono b4.size)⟩
      · rw [sumE_fit hf, sat_fit hf]
        clear hf
        generalize a + l = S at *
        go_wp2_with fail
        refine (lives01_is _).mono ?_
        rintro e w7 ⟨rfl, hb7⟩
        go_wp2_with fail
        go_ret
        exact ⟨rfl, b4.trans (hb7.mono b4.size)⟩
    · rw [if_neg h2] at hy
      subst hy
      have h2' : decide (m < a) = false := by simpa using h2
      clear h2
      go_enter Try.func6, Try.ntmps6
      go_wp2_with fail
      refine (clip_is _ _ _ _).mono ?_
      rintro e w' ⟨rfl, rfl⟩
      rw [Hc.out]
      go_wp2_with fail
      refine (sat_is _ _ _ Fa.out Fl.out).mono ?_
      rintro e w' ⟨rfl, rfl⟩
      go_wp2_with fail
      refine (of_is _ _ Fa.out).mono ?_
      rintro e w1 ⟨v1, rfl, hB1, hb1⟩
      go_wp2_with fail
      refine (of_is _ _ Fl.out).mono ?_
      rintro e w2 ⟨v2, rfl, hB2, hb2⟩
      have b2 := hb1.trans (hb2.mono hb1.size)
      go_wp2_with fail
      refine (bigAdd_is _ _ _ _ 4 4 _ (hB1.below hb2) hB2 (by decide) (by decide)).mono ?_
      rintro e w3 ⟨v3, rfl, hB3, hb3⟩
      have b3 := b2.trans (hb3.mono b2.size)
      go_wp2_with fail
      refine (int_is _ _ _ _ hB3).mono ?_
      rintro e w4 ⟨rfl, hb4⟩
      have b4 := b3.trans (hb4.mono b3.size)
      clear hB1 hB2 hB3 hb1 hb2 hb3 hb4 b2 b3
      by_cases hf : fitsI (a + l) = true
      rotate_left
      · rw [sumE_not hf, sat_not Fa.out Fl.out hf]
        clear hf
        by_cases h0 : a < 0
        · rw [if_pos h0]
          go_wp2_with fail
          refine (lives01_is _).mono ?_
          rintro e w7 ⟨rfl, hb7⟩
          go_wp2_with fail
          go_ret
          exact ⟨rfl, b4.trans (hb7.mono b4.size)⟩
        · rw [if_neg h0]
          go_wp2_with fail
          refine (lives01_is _).mono ?_
          rintro e w7 ⟨rfl, hb7⟩
          go_wp2_with fail
          go_ret
          exact ⟨rfl, b4.trans (hb7.mono b4.size)⟩
      · rw [sumE_fit hf, sat_fit hf]
        clear hf
        generalize a + l = S at *
        go_wp2_with fail
        refine (lives01_is _).mono ?_
        rintro e w7 ⟨rfl, hb7⟩
        go_wp2_with fail
        go_ret
        exact ⟨rfl, b4.trans (hb7.mono b4.size)⟩
end Go.Proofs.Ytodikaekpncjjaa
