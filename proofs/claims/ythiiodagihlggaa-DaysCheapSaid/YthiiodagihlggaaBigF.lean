/-
  My own work: tranterref01.Int: its contract.
-/
import Derived.Test.YthiiodagihlggaaBigE
namespace Go.Proofs.Ythiiodagihlggaa
open Go.RowKit
set_option linter.unusedVariables false

theorem dval_drop_bd {ds : List Int} (h : Dg ds) (k : Nat) (hk : k ≤ ds.length) : 0 ≤ dval (ds.drop k) ∧ dval (ds.drop k) ≤ dval ds := by
  have h1 := dval_split ds k hk
  have h2 := (dval_bd (h.take k)).1
  have h3 := (dval_bd (h.drop k)).1
  have h4 := pw_pos k
  have : 1 * dval (ds.drop k) ≤ pw k * dval (ds.drop k) := Int.mul_le_mul_of_nonneg_right (by omega) h3
  exact ⟨h3, by omega⟩
theorem sumE_fit {x : Int} (h : fitsI x = true) : sumE x = (x, true) := by unfold sumE; rw [if_pos h]
theorem sumE_not {x : Int} (h : ¬ fitsI x = true) : sumE x = (0, false) := by unfold sumE; rw [if_neg h]

def IntOut (w : World) (x : Int) (e : Ending) (w' : World) : Prop := e = .returned (.tuple #[.int .i64 (sumE x).1, .bool (sumE x).2]) ∧ Below w.heap.size w w'

set_option maxHeartbeats 3200000 in
theorem int_is (va : Value) (x : Int) (L : Nat) (w : World) (ha : IsBig w va x L) :
    Calls Try.prog 39 #[va] w (IntOut w x) := by
  obtain ⟨dv, ds, rfl, hd, hdg, hnm, hv, hl⟩ := ha
  obtain ⟨a, n, c, rfl, hn, hmax, _⟩ := hd.open
  obtain ⟨w1, ew, hb1, hs1, c0, c1, _, _⟩ := box_two w (.slice a n c) (.bool (decide (x < 0))) 63
  have Hew := Lib.hid ew
  have Hd := Lib.hid (hd.below hb1)
  have Hdg := Lib.hid hdg
  have Hnm := Lib.hid hnm
  have Hv := Lib.hid hv
  have Hn := Lib.hid hn
  obtain ⟨neg, hneg⟩ : ∃ neg, decide (x < 0) = neg := ⟨_, rfl⟩
  rw [hneg] at c1 Hew
  have Hneg := Lib.hid hneg
  clear ew hd hdg hnm hv hn
  go_enter Try.func39, Try.ntmps39
  go_wp2_with fail
  rw [Hew.out]
  refine (of_is 9223372036854775807 w1 (by decide)).mono ?_
  rintro e w3 ⟨v3, rfl, hB3, hb3⟩
  obtain ⟨dv3, ds3, rfl, hd3, hdg3, hnm3, hv3, hl3⟩ := hB3
  obtain ⟨a3, n3, cc3, rfl, _, _, _⟩ := hd3.open
  generalize decide ((9223372036854775807 : Int) < 0) = neg3 at *
  go_wp2_with fail
  obtain ⟨w4, ew4, hb4, hs4, p0, p1, _, _⟩ := box_two w3 (.slice a3 n3 cc3) (.bool neg3) 63
  rw [ew4]
  refine (of_is (-9223372036854775808) w4 (by decide)).mono ?_
  rintro e w5 ⟨v5, rfl, hB5, hb5⟩
  obtain ⟨dv5, ds5, rfl, hd5, hdg5, hnm5, hv5, hl5⟩ := hB5
  obtain ⟨a5, n5, cc5, rfl, _, _, _⟩ := hd5.open
  generalize decide ((-9223372036854775808 : Int) < 0) = neg5 at *
  have b3 := hb1.trans (hb3.mono hb1.size)
  have b4 := b3.trans (hb4.mono b3.size)
  have b5 := b4.trans (hb5.mono b4.size)
  have c0' := cell_below hb5 (cell_below hb4 (cell_below hb3 c0))
  have c1' := cell_below hb5 (cell_below hb4 (cell_below hb3 c1))
  have p0' := cell_below hb5 p0
  have l0 : w.heap.size < w5.heap.size := World.block_lt_of_cell? w5 _ c0'
  have l1 : w3.heap.size < w5.heap.size := World.block_lt_of_cell? w5 _ p0'
  have Hd5 := Lib.hid hd5
  have H5 := Lib.hid (And.intro hdg5 (And.intro hnm5 hv5))
  have Hd3 := Lib.hid (hd3.below (hb4.trans (hb5.mono hb4.size)))
  have H3 := Lib.hid (And.intro hdg3 (And.intro hnm3 hv3))
  have Hdw := Lib.hid (Hd.out.below (hb3.trans ((hb4.mono hb3.size).trans (hb5.mono (Nat.le_trans hb3.size hb4.size)))))
  clear hd3 hd5 hdg3 hnm3 hv3 hl3 hdg5 hnm5 hv5 hl5 hb1 hb3 hb4 hb5 hs1 hs4 b3 b4 c0 c1 p0 p1 ew4 Hd hneg hl
  generalize eg : w.heap.size = g at *
  have Heg := Lib.hid eg
  generalize w3.heap.size = g3 at *
  clear eg
  obtain ⟨w6, ew6, hb6, hs6, r0, r1, _, _⟩ := box_two w5 (.slice a5 n5 cc5) (.bool neg5) 63
  have Hew6 := Lib.hid ew6
  have b6 := b5.trans (hb6.mono (by omega))
  have c0 := cell_below hb6 c0'
  have c1 := cell_below hb6 c1'
  have p0 := cell_below hb6 p0'
  have Hd6 := Lib.hid (Hdw.out.below hb6)
  have Hd36 := Lib.hid (Hd3.out.below hb6)
  have Hd56 := Lib.hid (Hd5.out.below hb6)
  cases neg
  · have hx0 : Hid (0 ≤ x) := Lib.hid (by have := Hneg.out; simp at this; omega)
    go_wp2_with fail
    refine (size_is (.slice a n c) (.slice a3 n3 cc3) ds ds3 w6 Hd6.out Hd36.out Hdg.out H3.out.1 Hnm.out H3.out.2.1).mono ?_
    rintro e w7 ⟨rfl, hb7⟩
    have c0'' := cell_below hb7 c0
    have c1'' := cell_below hb7 c1
    have b7 := b6.trans (hb7.mono (by omega))
    have Hd7 := Lib.hid (Hd6.out.below hb7)
    have Hcm : Hid (cmpI (dval ds) (dval ds3) = cmpI (dval ds) 9223372036854775807) := Lib.hid (by rw [H3.out.2.2]; rfl)
    rw [Hcm.out]
    clear c0 c1 p0 r0 r1 c0' c1' p0' b6 hb7 hb6 ew6 hs6 l0 l1 b5
    by_cases hfit : dval ds ≤ 9223372036854775807
    rotate_left
    · have hgt : decide (0 < cmpI (dval ds) 9223372036854775807) = true := by rw [cmpI_gt (by omega)]; rfl
      have Hno : Hid (sumE x = (0, false)) := Lib.hid (sumE_not (by rw [fitsI_iff]; have := Hv.out; have := hx0.out; omega))
      clear hfit Hcm
      generalize cmpI (dval ds) 9223372036854775807 = cm at *
      go_wp2_with fail
      exact bodyPost_ret (v := .tuple #[.int .i64 0, .bool false]) (by simp [results, Try.results39, go_sem]) rfl ⟨by rw [Hno.out], by rw [Heg.out]; exact b7⟩
    · have hgt : decide (0 < cmpI (dval ds) 9223372036854775807) = false := by
        by_cases h : dval ds = 9223372036854775807
        · rw [cmpI_eq h]; rfl
        · rw [cmpI_lt (by omega)]; rfl
      have Hyes : Hid (sumE x = (x, true)) := Lib.hid (sumE_fit (by rw [fitsI_iff]; have := Hv.out; have := hx0.out; omega))
      have Hfit := Lib.hid hfit
      clear hfit Hcm
      generalize cmpI (dval ds) 9223372036854775807 = cm at *
      go_wp2_with fail
      go_loopw [6, 7] (fun s i wr => ∃ (k : Nat) (s0 : Int), k ≤ n ∧ s = .int .i64 s0 ∧ i = .int .i64 ((k : Int) - 1) ∧ s0 = dval (ds.drop k) ∧ wr = w7) (fun _ i _ => (intOf i + 1).toNat)
      case atStart => exact ⟨n, 0, Nat.le_refl _, rfl, rfl, by rw [List.drop_of_length_le (by rw [Hn.out]; omega)]; rfl, rfl⟩
      case round =>
        obtain ⟨k, s0, hk, rfl, rfl, hs0, rfl⟩ := hrel
        have Hs0 := Lib.hid hs0
        clear hs0
        by_cases hk0 : 1 ≤ k
        · obtain ⟨i, rfl⟩ : ∃ i, k = i + 1 := ⟨k - 1, by omega⟩
          rw [show ((i + 1 : Nat) : Int) - 1 = (i : Int) by omega]
          obtain ⟨a', n', c', he, _, _, hcell⟩ := Hd7.out.open
          simp only [Value.slice.injEq] at he
          obtain ⟨rfl, h2, rfl⟩ := he
          rw [← h2] at hcell
          obtain ⟨b, o, rfl, hc⟩ := hcell i (by omega)
          have hi0 : (0 : Int) ≤ (i : Int) := by omega
          have hi1 : (i : Int) < (n : Int) := by omega
          have hdr := dval_drop ds i (by rw [Hn.out]; omega)
          have hbd := dval_drop_bd Hdg.out i (by rw [Hn.out]; omega)
          have hbd1 := dval_drop_bd Hdg.out (i + 1) (by rw [Hn.out]; omega)
          have hdd := nth_dg Hdg.out i
          have hff := Hfit.out
          have hss := Hs0.out
          obtain ⟨M, hM, hM'⟩ : ∃ M, wrap64 (s0 * 65536) = M ∧ M = s0 * 65536 := ⟨_, rfl, wrap_id (by omega) (by omega)⟩
          have hN : wrap64 (M + nth ds i) = dval (ds.drop i) := by rw [wrap_id (by omega) (by omega)]; omega
          obtain ⟨N, hN1⟩ : ∃ N, N = dval (ds.drop i) := ⟨_, rfl⟩
          rw [← hN1] at hN
          have HN1 := Lib.hid hN1
          clear hcell h2 hdr hbd hbd1 hdd hff hss hM' hk0 hN1
          go_wp2_with fail
          go_roundw
          case rel => exact ⟨i, N, by omega, by rw [hN], by go_num, HN1.out, by first | rfl | trivial⟩
          case measure => simp [intOf]
        · have hk' : k = 0 := by omega
          subst hk'
          have hs : s0 = x := by rw [Hs0.out, List.drop_zero, Hv.out]; have := hx0.out; omega
          subst hs
          clear hk0
          go_wp2_with fail
          exact bodyPost_ret (v := .tuple #[.int .i64 s0, .bool true]) (by simp [results, Try.results39, go_sem]) rfl ⟨by rw [Hyes.out], by rw [Heg.out]; exact b7⟩
  · have hx0 : Hid (x < 0) := Lib.hid (by have := Hneg.out; simp at this; omega)
    go_wp2_with fail
    refine (size_is (.slice a n c) (.slice a5 n5 cc5) ds ds5 w6 Hd6.out Hd56.out Hdg.out H5.out.1 Hnm.out H5.out.2.1).mono ?_
    rintro e w7 ⟨rfl, hb7⟩
    have c0'' := cell_below hb7 c0
    have c1'' := cell_below hb7 c1
    have b7 := b6.trans (hb7.mono (by omega))
    have Hd7 := Lib.hid (Hd6.out.below hb7)
    have Hcm : Hid (cmpI (dval ds) (dval ds5) = cmpI (dval ds) 9223372036854775808) := Lib.hid (by rw [H5.out.2.2]; rfl)
    rw [Hcm.out]
    clear c0 c1 p0 r0 r1 c0' c1' p0' b6 hb7 hb6 ew6 hs6 l0 l1 b5
    by_cases hfit : dval ds ≤ 9223372036854775808
    rotate_left
    · have hgt : decide (0 < cmpI (dval ds) 9223372036854775808) = true := by rw [cmpI_gt (by omega)]; rfl
      have Hno : Hid (sumE x = (0, false)) := Lib.hid (sumE_not (by rw [fitsI_iff]; have := Hv.out; have := hx0.out; omega))
      clear hfit Hcm
      generalize cmpI (dval ds) 9223372036854775808 = cm at *
      go_wp2_with fail
      exact bodyPost_ret (v := .tuple #[.int .i64 0, .bool false]) (by simp [results, Try.results39, go_sem]) rfl ⟨by rw [Hno.out], by rw [Heg.out]; exact b7⟩
    · have hgt : decide (0 < cmpI (dval ds) 9223372036854775808) = false := by
        by_cases h : dval ds = 9223372036854775808
        · rw [cmpI_eq h]; rfl
        · rw [cmpI_lt (by omega)]; rfl
      have Hyes : Hid (sumE x = (x, true)) := Lib.hid (sumE_fit (by rw [fitsI_iff]; have := Hv.out; have := hx0.out; omega))
      have Hfit := Lib.hid hfit
      clear hfit Hcm
      generalize cmpI (dval ds) 9223372036854775808 = cm at *
      go_wp2_with fail
      go_loopw [6, 7] (fun s i wr => ∃ (k : Nat) (s0 : Int), k ≤ n ∧ s = .int .i64 s0 ∧ i = .int .i64 ((k : Int) - 1) ∧ s0 = -dval (ds.drop k) ∧ wr = w7) (fun _ i _ => (intOf i + 1).toNat)
      case atStart => exact ⟨n, 0, Nat.le_refl _, rfl, rfl, by rw [List.drop_of_length_le (by rw [Hn.out]; omega)]; rfl, rfl⟩
      case round =>
        obtain ⟨k, s0, hk, rfl, rfl, hs0, rfl⟩ := hrel
        have Hs0 := Lib.hid hs0
        clear hs0
        by_cases hk0 : 1 ≤ k
        · obtain ⟨i, rfl⟩ : ∃ i, k = i + 1 := ⟨k - 1, by omega⟩
          rw [show ((i + 1 : Nat) : Int) - 1 = (i : Int) by omega]
          obtain ⟨a', n', c', he, _, _, hcell⟩ := Hd7.out.open
          simp only [Value.slice.injEq] at he
          obtain ⟨rfl, h2, rfl⟩ := he
          rw [← h2] at hcell
          obtain ⟨b, o, rfl, hc⟩ := hcell i (by omega)
          have hi0 : (0 : Int) ≤ (i : Int) := by omega
          have hi1 : (i : Int) < (n : Int) := by omega
          have hdr := dval_drop ds i (by rw [Hn.out]; omega)
          have hbd := dval_drop_bd Hdg.out i (by rw [Hn.out]; omega)
          have hbd1 := dval_drop_bd Hdg.out (i + 1) (by rw [Hn.out]; omega)
          have hdd := nth_dg Hdg.out i
          have hff := Hfit.out
          have hss := Hs0.out
          obtain ⟨M, hM, hM'⟩ : ∃ M, wrap64 (s0 * 65536) = M ∧ M = s0 * 65536 := ⟨_, rfl, wrap_id (by omega) (by omega)⟩
          have hN : wrap64 (M - nth ds i) = -dval (ds.drop i) := by rw [wrap_id (by omega) (by omega)]; omega
          obtain ⟨N, hN1⟩ : ∃ N, N = -dval (ds.drop i) := ⟨_, rfl⟩
          rw [← hN1] at hN
          have HN1 := Lib.hid hN1
          clear hcell h2 hdr hbd hbd1 hdd hff hss hM' hk0 hN1
          go_wp2_with fail
          go_roundw
          case rel => exact ⟨i, N, by omega, by rw [hN], by go_num, HN1.out, by first | rfl | trivial⟩
          case measure => simp [intOf]
        · have hk' : k = 0 := by omega
          subst hk'
          have hs : s0 = x := by rw [Hs0.out, List.drop_zero, Hv.out]; have := hx0.out; omega
          subst hs
          clear hk0
          go_wp2_with fail
          exact bodyPost_ret (v := .tuple #[.int .i64 s0, .bool true]) (by simp [results, Try.results39, go_sem]) rfl ⟨by rw [Hyes.out], by rw [Heg.out]; exact b7⟩
end Go.Proofs.Ythiiodagihlggaa
