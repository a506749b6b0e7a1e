/-
  My own work: lives of layer 9, and the walk of StockNights.
-/
import Derived.Test.YthnkjlcdjjhloaaStock3
import Derived.Test.YthnkjlcdjjhloaaTank
namespace Go.Proofs.Ythnkjlcdjjhloaa
open Go.RowKit
set_option linter.unusedVariables false

theorem Ints.lit3 (w : World) (x y z : Int) (T : TypeId) : Ints (w.alloc (.cells #[.int .i64 x, .int .i64 y, .int .i64 z] T)) (.slice (some ⟨w.heap.size, 0, none⟩) 3 3) [x, y, z] :=
  ⟨some ⟨w.heap.size, 0, none⟩, 3, rfl, by simp, by simp, fun i hi => ⟨w.heap.size, 0, rfl, by
    match i, hi with
    | 0, _ => simp [go_sem, nth]
    | 1, _ => simp [go_sem, nth]
    | 2, _ => simp [go_sem, nth]
    | n + 3, h => simp at h; omega⟩⟩

theorem lives_nights : nightsE 3 2 6 [0, 5, 0] = (0, [1, 4, 2]) := by decide +kernel

theorem lives09_is (w : World) : Calls Try.prog 22 #[] w fun e w' => e = .returned (.bool true) ∧ Below w.heap.size w w' := by
  go_enter Try.func22, Try.ntmps22
  go_wp2_with fail
  have hl := Ints.lit3 (w.alloc (.cells #[.int .i64 2, .int .i64 0, .slice none 0 0, .int .i64 2, .int .i64 6, .int .i64 3, .int .i64 2, .int .i64 0] 31)) 0 5 0 3
  have hb1 : Below w.heap.size w ((w.alloc (.cells #[.int .i64 2, .int .i64 0, .slice none 0 0, .int .i64 2, .int .i64 6, .int .i64 3, .int .i64 2, .int .i64 0] 31)).alloc (.cells #[.int .i64 0, .int .i64 5, .int .i64 0] 3)) :=
    ((Below.refl _ _).alloc (Nat.le_refl _) _).alloc (by simp) _
  simp only [World.size_alloc] at hl
  refine (nights_is 2 0 (.slice none 0 0) 2 6 3 2 0 _ [0, 5, 0] _ hl ⟨by decide, by decide, by decide, by decide, by decide⟩).mono ?_
  rintro e w2 ⟨v, rfl, hv, hb2⟩
  rw [lives_nights] at hv ⊢
  replace hv := hv.ints
  have hbel := hb1.trans (hb2.mono hb1.size)
  clear hl hb1 hb2
  obtain ⟨a, c, rfl, _, _, hcc⟩ := hv
  obtain ⟨b, o, rfl, _⟩ := hcc 0 (by decide)
  have hc : ∀ i, i < 3 → w2.cell? ⟨b, o + i, none⟩ = some (.int .i64 (nth [1, 4, 2] i)) := fun i hi => by
    obtain ⟨b', o', h1, h2⟩ := hcc i hi
    simp only [Option.some.injEq, Addr.mk.injEq, and_true] at h1
    obtain ⟨rfl, rfl⟩ := h1
    exact h2
  clear hcc
  have c0 := hc 0 (by decide)
  have c1 := hc 1 (by decide)
  have c2 := hc 2 (by decide)
  simp only [nth, List.getD_cons_zero, List.getD_cons_succ, Nat.add_zero] at c0 c1 c2
  clear hc
  go_wp2_with fail
  go_ret
  exact ⟨rfl, hbel⟩

/-- What a drawn region over a customer's block keeps: its eight cells, and that nothing old has turned. -/
theorem cust_keep {w0 w w' : World} {g : Nat} {v0 v1 v2 v3 v4 v5 v6 v7 : Value}
    (h : w.cell? ⟨g, 0, none⟩ = some v0 ∧ w.cell? ⟨g, 1, none⟩ = some v1 ∧ w.cell? ⟨g, 2, none⟩ = some v2 ∧ w.cell? ⟨g, 3, none⟩ = some v3 ∧ w.cell? ⟨g, 4, none⟩ = some v4 ∧ w.cell? ⟨g, 5, none⟩ = some v5 ∧ w.cell? ⟨g, 6, none⟩ = some v6 ∧ w.cell? ⟨g, 7, none⟩ = some v7 ∧ Below w0.heap.size w0 w)
    (hb : Below w.heap.size w w') :
    w'.cell? ⟨g, 0, none⟩ = some v0 ∧ w'.cell? ⟨g, 1, none⟩ = some v1 ∧ w'.cell? ⟨g, 2, none⟩ = some v2 ∧ w'.cell? ⟨g, 3, none⟩ = some v3 ∧ w'.cell? ⟨g, 4, none⟩ = some v4 ∧ w'.cell? ⟨g, 5, none⟩ = some v5 ∧ w'.cell? ⟨g, 6, none⟩ = some v6 ∧ w'.cell? ⟨g, 7, none⟩ = some v7 ∧ Below w0.heap.size w0 w' := by
  obtain ⟨h0, h1, h2, h3, h4, h5, h6, h7, h8⟩ := h
  exact ⟨cell_below hb h0, cell_below hb h1, cell_below hb h2, cell_below hb h3, cell_below hb h4, cell_below hb h5, cell_below hb h6, cell_below hb h7, h8.trans (hb.mono h8.size)⟩
theorem cust_below {w0 w : World} {g : Nat} {v0 v1 v2 v3 v4 v5 v6 v7 : Value}
    (h : w.cell? ⟨g, 0, none⟩ = some v0 ∧ w.cell? ⟨g, 1, none⟩ = some v1 ∧ w.cell? ⟨g, 2, none⟩ = some v2 ∧ w.cell? ⟨g, 3, none⟩ = some v3 ∧ w.cell? ⟨g, 4, none⟩ = some v4 ∧ w.cell? ⟨g, 5, none⟩ = some v5 ∧ w.cell? ⟨g, 6, none⟩ = some v6 ∧ w.cell? ⟨g, 7, none⟩ = some v7 ∧ Below w0.heap.size w0 w) : Below w0.heap.size w0 w := h.2.2.2.2.2.2.2.2
theorem drew_below (w : World) : Below w.heap.size w w.drew := (Below.refl _ _).drew

theorem small_tank (rt sz st : Int) (q : List Int) (hq : q.length ≤ 20) : Small (rnd st 0 (rnd sz 1 40)) (rnd rt 0 12) (rnd sz 1 40) q := by
  have h1 := rnd_bd sz 1 40 (by decide)
  have h2 := rnd_bd st 0 (rnd sz 1 40) (by omega)
  have h3 := rnd_bd rt 0 12 (by decide)
  exact ⟨by omega, by omega, by omega, by omega, by omega⟩

set_option maxHeartbeats 800000 in
theorem stockNights_walk (kd dm : Int) (pt : Value) (rt sz st ru hd : Int) (qv : Value) (q : List Int) (w : World) (hq : Ints w qv q)
    (h3 : (Lit.int .i64 rt).wf = true) (h4 : (Lit.int .i64 sz).wf = true) (h5 : (Lit.int .i64 st).wf = true) (h6 : (Lit.int .i64 ru).wf = true) (h7 : (Lit.int .i64 hd).wf = true) :
    Calls Try.prog 5 #[.agg #[.int .i64 kd, .int .i64 dm, pt, .int .i64 rt, .int .i64 sz, .int .i64 st, .int .i64 ru, .int .i64 hd], qv] w fun e w' => e = .returned (.bool true) ∧ Below w.heap.size w w' := by
  obtain ⟨w1, ew, hb1, hsz1, hcu⟩ := box_cust w kd dm pt rt sz st ru hd
  have hq1 := hq.below hb1
  have Hew := Lib.hid ew
  have hl0 := hcu.lt
  obtain ⟨c0, c1, c2, c3, c4, c5, c6, c7⟩ := hcu
  clear ew hsz1
  go_enter Try.func5, Try.ntmps5
  go_wp2_with fail
  rw [Hew.out]
  refine (tank_is kd dm pt rt sz st ru hd w1 h3 h4 h5 h6 h7).mono ?_
  rintro e w2 ⟨rfl, hb2⟩
  have hq2 := hq1.below hb2
  have hbw2 := hb1.trans (hb2.mono hb1.size)
  clear c0 c1 c2 c3 c4 c5 c6 c7 hb1 hb2 hq hq1
  have Hsm : Hid (Small (rnd st 0 (rnd sz 1 40)) (rnd rt 0 12) (rnd sz 1 40) (q.take 20)) := small_tank rt sz st (q.take 20) (by simp; omega)
  generalize rnd st 0 (rnd sz 1 40) = st' at *
  generalize rnd rt 0 12 = rt' at *
  generalize rnd sz 1 40 = sz' at *
  generalize rnd ru 1 2 = ru' at *
  generalize rnd hd 0 9 = hd' at *
  go_wp2_with fail
  obtain ⟨w3, ew3, hb3, hsz3, hcu3⟩ := box_cust w2 2 0 (.slice none 0 0) rt' sz' st' ru' hd'
  rw [ew3]
  clear ew3 hsz3
  have hq3 := hq2.below hb3
  have hbw3 := hbw2.trans (hb3.mono hbw2.size)
  refine (few_is qv q w3 hq3).mono ?_
  rintro e w3' ⟨qv', rfl, rfl, hq4⟩
  obtain ⟨c0, c1, c2, c3, c4, c5, c6, c7⟩ := hcu3
  clear hb3 hq3 hq2 hbw2
  go_wp2_with fail
  refine (nights_is 2 0 (.slice none 0 0) rt' sz' st' ru' hd' qv' (q.take 20) w3 hq4 Hsm.out).mono ?_
  rintro e w4 ⟨va, rfl, ha, hb4⟩
  replace ha := ha.ints
  have hq5 := hq4.below hb4
  have hbw4 := hbw3.trans (hb4.mono hbw3.size)
  have c0' := cell_below hb4 c0
  have c1' := cell_below hb4 c1
  have c2' := cell_below hb4 c2
  have c3' := cell_below hb4 c3
  have c4' := cell_below hb4 c4
  have c5' := cell_below hb4 c5
  have c6' := cell_below hb4 c6
  have c7' := cell_below hb4 c7
  clear c0 c1 c2 c3 c4 c5 c6 c7 hb4 hq4 hbw3
  generalize hr : nightsE st' rt' sz' (q.take 20) = r at *
  have Hr := Lib.hid hr
  clear hr
  go_wp2_with fail
  refine (refNights_is 2 0 (.slice none 0 0) rt' sz' st' ru' hd' qv' (q.take 20) w4 hq5 Hsm.out).mono ?_
  rintro e w5 ⟨vb, rfl, hb, hb5⟩
  replace hb := hb.ints
  rw [Hr.out] at hb ⊢
  have ha5 := ha.below hb5
  have hbw5 := hbw4.trans (hb5.mono hbw4.size)
  clear c0' c1' c2' c3' c4' c5' c6' c7' hb5 hq5 hbw4 ha
  go_wp2_with fail
  refine (same_is va vb r.2 r.2 w5 ha5 hb).mono ?_
  rintro e w6 ⟨rfl, hb6⟩
  have hbw6 := hbw5.trans (hb6.mono hbw5.size)
  clear hb6 hbw5 ha5 hb
  rw [show decide (r.2 = r.2) = true by simp]
  go_wp2_with fail
  refine (lives09_is w6).mono ?_
  rintro e w7 ⟨rfl, hb7⟩
  have hbw7 := hbw6.trans (hb7.mono hbw6.size)
  clear hb7 hbw6
  go_wp2_with fail
  go_ret
  exact ⟨rfl, hbw7⟩
end Go.Proofs.Ythnkjlcdjjhloaa
