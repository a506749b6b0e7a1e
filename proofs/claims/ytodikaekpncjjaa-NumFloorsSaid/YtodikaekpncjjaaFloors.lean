/-
  My own work: the walk of NumFloors.
-/
import Derived.Test.YtodikaekpncjjaaFloorsPl
import Derived.Test.YtodikaekpncjjaaSums
import Derived.Test.YtodikaekpncjjaaMany
import Derived.Deep.DeepCutAuto
namespace Go.Proofs.Ytodikaekpncjjaa
open Go.RowKit
set_option linter.unusedVariables false

theorem Var.below {w w' : World} {g : Nat} {x : Int} {L : Nat} (h : Var w g x L) (hb : Below w.heap.size w w') : Var w' g x L := by
  obtain ⟨a, n, c, s, h0, h1, h2, h3, hB⟩ := h
  obtain ⟨k0, k1, k2, k3⟩ := res_keep ⟨h0, h1, h2, h3⟩ hb
  exact ⟨a, n, c, s, k0, k1, k2, k3, hB.below hb⟩
theorem Var.lt {w : World} {g : Nat} {x : Int} {L : Nat} (h : Var w g x L) : g < w.heap.size := by
  obtain ⟨a, n, c, s, h0, _⟩ := h
  exact World.block_lt_of_cell? w _ h0
theorem Var.put {w : World} {g : Nat} {x y : Int} {L K : Nat} {a : Option Addr} {n c : Nat} {s : Bool} (h : Var w g x L) (hy : IsBig w (.agg #[.slice a n c, .bool s]) y K) :
    Var ((w.setCell ⟨g, 0, none⟩ (.slice a n c)).setCell ⟨g, 1, none⟩ (.bool s)) g y K := by
  obtain ⟨a', n', c', s', h0, h1, h2, h3, hB⟩ := h
  obtain ⟨y0, y1, y2, y3⟩ := cells_set2 (u' := .slice a n c) (v' := .bool s) ⟨h0, h1, h2, h3⟩
  exact ⟨a, n, c, s, y0, y1, y2, y3, hy.set2 h0 h1 _ _⟩
theorem Var.far {w : World} {g g' : Nat} {x y : Int} {L K : Nat} (h : Var w g x L) (h' : Var w g' y K) (hne : g ≠ g') (u u' : Value) :
    Var ((w.setCell ⟨g', 0, none⟩ u).setCell ⟨g', 1, none⟩ u') g x L := by
  obtain ⟨a', n', c', s', h0, h1, h2, h3, hB⟩ := h'
  obtain ⟨a, n, c, s, k0, k1, k2, k3, kB⟩ := h
  refine ⟨a, n, c, s, ?_, ?_, by rw [World.frozen?_setCell, World.frozen?_setCell]; exact k2, by rw [World.frozen?_setCell, World.frozen?_setCell]; exact k3, kB.set2 h0 h1 _ _⟩ <;>
    (rw [World.cell?_setCell_other _ _ _ _ (by simp <;> omega), World.cell?_setCell_other _ _ _ _ (by simp <;> omega)]; assumption)
theorem IsBig.form {w : World} {v : Value} {x : Int} {L : Nat} (h : IsBig w v x L) : ∃ a n c s, v = .agg #[.slice a n c, .bool s] ∧ IsBig w (.agg #[.slice a n c, .bool s]) x L := by
  obtain ⟨dv, ds, rfl, hd, hr⟩ := h
  obtain ⟨a, n, c, rfl, _, _, _⟩ := hd.open
  exact ⟨a, n, c, _, rfl, _, ds, rfl, hd, hr⟩

theorem isBig_zero (w : World) : IsBig w (.agg #[.slice none 0 0, .bool false]) 0 0 := ⟨_, [], by simp, Ints.nil _, Dg.nil, nm_nil, by simp [dval], by simp⟩

/-- A variable that is a number, made behind w0. -/
def NumVar (w0 w : World) (g : Nat) (x : Int) (L : Nat) : Prop :=
  w0.heap.size ≤ g ∧ Below w0.heap.size w0 w ∧ Var w g x L

theorem numVar_alloc {w0 w : World} {ds : List Int} {a : Option Addr} {n c : Nat} {x : Int} {L K : Nat} (h : Ints w (.slice a n c) ds ∧ Dg ds ∧ Nm ds ∧ dval ds = (x.natAbs : Int) ∧ ds.length ≤ L) (b : Below w0.heap.size w0 w) (hK : L ≤ K) (T : TypeId) :
    NumVar w0 (w.alloc (.cells #[.slice a n c, .bool (decide (x < 0))] T)) w.heap.size x K := by
  obtain ⟨w1, rfl, hb, _, c0, c1, f0, f1⟩ := box_two w (.slice a n c) (.bool (decide (x < 0))) T
  obtain ⟨h1, h2⟩ := h
  exact ⟨b.size, b.trans (hb.mono b.size), a, n, c, _, c0, c1, f0, f1, IsBig.mono ⟨_, ds, rfl, h1.below hb, h2⟩ hK⟩

theorem numVar_store {w0 w : World} {ds : List Int} {a : Option Addr} {n c g : Nat} {x : Int} {L K : Nat} (h : Ints w (.slice a n c) ds ∧ Dg ds ∧ Nm ds ∧ dval ds = (x.natAbs : Int) ∧ ds.length ≤ L) (b : Below w0.heap.size w0 w) (hK : L ≤ K) (hg : w0.heap.size ≤ g)
    {a0 : Option Addr} {n0 k0 : Nat} {b0 : Bool} (e : w.cell? ⟨g, 0, none⟩ = some (.slice a0 n0 k0) ∧ w.cell? ⟨g, 1, none⟩ = some (.bool b0) ∧ w.frozen? ⟨g, 0, none⟩ = false ∧ w.frozen? ⟨g, 1, none⟩ = false) :
    NumVar w0 ((w.setCell ⟨g, 0, none⟩ (.slice a n c)).setCell ⟨g, 1, none⟩ (.bool (decide (x < 0)))) g x K := by
  obtain ⟨y0, y1, y2, y3⟩ := cells_set2 (u' := .slice a n c) (v' := .bool (decide (x < 0))) e
  obtain ⟨h1, h2⟩ := h
  exact ⟨hg, (b.setCell (p := ⟨g, 0, none⟩) hg _).setCell (p := ⟨g, 1, none⟩) hg _, a, n, c, _, y0, y1, y2, y3, IsBig.mono ⟨_, ds, rfl, h1.set2 e.1 e.2.1 _ _, h2⟩ hK⟩

theorem add_alloc3 {w0 w : World} {g g' : Nat} {v0 v1 v2 v3 : Value} {o o' : Obj}
    (h : (w.alloc o).cell? ⟨g, 0, none⟩ = some v0 ∧ (w.alloc o).cell? ⟨g, 1, none⟩ = some v1 ∧ (w.alloc o).cell? ⟨g', 0, none⟩ = some v2 ∧ (w.alloc o).cell? ⟨g', 1, none⟩ = some v3 ∧ Below w0.heap.size w0 (w.alloc o))
    (hg : g < w0.heap.size) (hg' : g' < w0.heap.size) (hs : w0.heap.size ≤ w.heap.size) :
    (w.alloc o').cell? ⟨g, 0, none⟩ = some v0 ∧ (w.alloc o').cell? ⟨g, 1, none⟩ = some v1 ∧ (w.alloc o').cell? ⟨g', 0, none⟩ = some v2 ∧ (w.alloc o').cell? ⟨g', 1, none⟩ = some v3 ∧ Below w0.heap.size w0 (w.alloc o') := by
  obtain ⟨h0, h1, h2, h3, h5⟩ := h
  have k : ∀ b o1, b < w.heap.size → (w.alloc o').cell? ⟨b, o1, none⟩ = (w.alloc o).cell? ⟨b, o1, none⟩ := fun b o1 hb => by
    rw [World.cell?_alloc_lt w o ⟨b, o1, none⟩ hb, World.cell?_alloc_lt w o' ⟨b, o1, none⟩ hb]
  refine ⟨by rw [k _ _ (by omega)]; exact h0, by rw [k _ _ (by omega)]; exact h1, by rw [k _ _ (by omega)]; exact h2, by rw [k _ _ (by omega)]; exact h3, ?_⟩
  exact ⟨h5.os, h5.tape, h5.output, by simp; omega, fun i hi => by
    have := h5.block i hi
    rw [Below.heap_alloc w o i (by omega)] at this
    rw [Below.heap_alloc w o' i (by omega)]
    exact this⟩
theorem add_store3 {w0 w : World} {g g' B : Nat} {v0 v1 v2 v3 u v : Value}
    (h : w.cell? ⟨g, 0, none⟩ = some v0 ∧ w.cell? ⟨g, 1, none⟩ = some v1 ∧ w.cell? ⟨g', 0, none⟩ = some v2 ∧ w.cell? ⟨g', 1, none⟩ = some v3 ∧ Below w0.heap.size w0 w) (hg : g < w0.heap.size) (hg' : g' < w0.heap.size) (hB : w0.heap.size ≤ B) :
    ((w.setCell ⟨B, 0, none⟩ u).setCell ⟨B, 1, none⟩ v).cell? ⟨g, 0, none⟩ = some v0 ∧ ((w.setCell ⟨B, 0, none⟩ u).setCell ⟨B, 1, none⟩ v).cell? ⟨g, 1, none⟩ = some v1 ∧
      ((w.setCell ⟨B, 0, none⟩ u).setCell ⟨B, 1, none⟩ v).cell? ⟨g', 0, none⟩ = some v2 ∧ ((w.setCell ⟨B, 0, none⟩ u).setCell ⟨B, 1, none⟩ v).cell? ⟨g', 1, none⟩ = some v3 ∧
      Below w0.heap.size w0 ((w.setCell ⟨B, 0, none⟩ u).setCell ⟨B, 1, none⟩ v) := by
  obtain ⟨h0, h1, h2, h3, h5⟩ := h
  refine ⟨?_, ?_, ?_, ?_, (h5.setCell (p := ⟨B, 0, none⟩) hB u).setCell (p := ⟨B, 1, none⟩) hB v⟩ <;>
    (rw [World.cell?_setCell_other _ _ _ _ (by simp <;> omega), World.cell?_setCell_other _ _ _ _ (by simp <;> omega)]; assumption)

set_option maxHeartbeats 800000 in
theorem numFloors_no (a b : Int) (w : World) (fa : fitsI a = true) (hn : noQuo a b = true) :
    Calls Try.prog 4 #[.int .i64 a, .int .i64 b] w fun e w' => e = .returned (.bool true) ∧ Below w.heap.size w w' := by
  have H2 := Lib.hid (floor_is a b w fa)
  have H3 := Lib.hid (ceil_is a b w fa)
  rw [floorE_no hn] at H2
  rw [ceilE_no hn] at H3
  have hcase : ((b == 0) = true ∧ (a == -9223372036854775808) = false) ∨ ((b == 0) = true ∧ (a == -9223372036854775808) = true ∧ (b == -1) = false) ∨ ((b == 0) = false ∧ (a == -9223372036854775808) = true ∧ (b == -1) = true) := by
    rcases noQuo_slots a b hn with h1 | ⟨h1, h2, h3⟩
    · have : b = 0 := by simpa using h1
      subst this
      cases (a == -9223372036854775808)
      · exact .inl ⟨rfl, rfl⟩
      · exact .inr (.inl ⟨rfl, rfl, rfl⟩)
    · exact .inr (.inr ⟨h1, h2, h3⟩)
  clear hn fa
  rcases hcase with ⟨h1, h2⟩ | ⟨h1, h2, h3⟩ | ⟨h1, h2, h3⟩
  all_goals
    go_enter Try.func4, Try.ntmps4
    go_wp2_with fail
    refine H2.out.mono ?_
    rintro e w' ⟨rfl, rfl⟩
    go_wp2_with fail
    refine H3.out.mono ?_
    rintro e w' ⟨rfl, rfl⟩
    go_wp2_with fail
    refine (lives01_is _).mono ?_
    rintro e w7 ⟨rfl, hb7⟩
    go_wp2_with fail
    go_ret
    exact ⟨rfl, hb7⟩

set_option maxRecDepth 100000 in
set_option maxHeartbeats 6400000 in
theorem numFloors_yes (a b : Int) (w : World) (fa : fitsI a = true) (fb : fitsI b = true) (hn : noQuo a b = false) :
    Calls Try.prog 4 #[.int .i64 a, .int .i64 b] w fun e w' => e = .returned (.bool true) ∧ Below w.heap.size w w' := by
  have H2 := Lib.hid (floor_is a b w fa)
  have H3 := Lib.hid (ceil_is a b w fa)
  obtain ⟨hz, hs⟩ := quo_slots a b hn
  have hb0 : b ≠ 0 := by simpa using hz
  have Hb0 := Lib.hid hb0
  clear hb0
  obtain ⟨F, C, e1, e2, fF, fC, hp, hm⟩ := floor_law a b fa hn
  rw [e1] at H2
  rw [e2] at H3
  have Fa := Lib.hid fa
  have Fb := Lib.hid fb
  have FF := Lib.hid fF
  have FC := Lib.hid fC
  have Hp := Lib.hid hp
  have Hm := Lib.hid hm
  clear fa fb hn e1 e2 fF fC hp hm
  go_enter Try.func4, Try.ntmps4
  go_wp2_with fail
  refine H2.out.mono ?_
  rintro e w' ⟨rfl, rfl⟩
  go_wp2_with fail
  refine H3.out.mono ?_
  rintro e w' ⟨rfl, rfl⟩
  go_upto_region 3 with fail
  go_cut [9] (fun s9 wx => s9 = .bool false ∧ w = wx)
  case first =>
    rcases hs with h1 | ⟨h1, h2⟩
    all_goals
      go_wp2_with fail
      go_meet
      exact ⟨rfl, rfl⟩
  case rest =>
    obtain ⟨rfl, rfl⟩ := hcut
    clear hs
    go_wp2_with fail
    refine (of_is _ _ Fa.out).mono ?_
    rintro e w1 ⟨v1, rfl, hB1, hb1⟩
    obtain ⟨dv1, ds1, rfl, hd1, hr1⟩ := hB1
    obtain ⟨a1, n1, c1, rfl, _, _, _⟩ := hd1.open
    obtain ⟨w2, ew2, hb2, hs2, d0, d1, _, _⟩ := box_two w1 (.slice a1 n1 c1) (.bool (decide (a < 0))) 24
    have HB1 : Hid (IsBig w2 (.agg #[.slice a1 n1 c1, .bool (decide (a < 0))]) a 4) := Lib.hid ⟨_, ds1, rfl, hd1.below hb2, hr1⟩
    have b2 := below_two hb1 hb2
    have Hew2 := Lib.hid ew2
    clear hd1 hr1 hb1 hb2 ew2
    go_wp2_with fail
    rw [Hew2.out]
    refine (of_is _ _ Fb.out).mono ?_
    rintro e w3 ⟨v3, rfl, hB3, hb3⟩
    obtain ⟨dv3, ds3, rfl, hd3, hr3⟩ := hB3
    obtain ⟨a3, n3, c3, rfl, _, _, _⟩ := hd3.open
    obtain ⟨w4, ew4, hb4, hs4, e0, e1, k0, k1⟩ := box_two w3 (.slice a3 n3 c3) (.bool (decide (b < 0))) 24
    have HB3 : Hid (IsBig w4 (.agg #[.slice a3 n3 c3, .bool (decide (b < 0))]) b 4) := Lib.hid ⟨_, ds3, rfl, hd3.below hb4, hr3⟩
    have HB1' := Lib.hid (HB1.out.below (below_two hb3 hb4))
    have b4 := below_two b2 (below_two hb3 hb4)
    have d0' := cell_below (below_two hb3 hb4) d0
    have d1' := cell_below (below_two hb3 hb4) d1
    have hl1 : w1.heap.size < w4.heap.size := World.block_lt_of_cell? w4 _ d0'
    have hl3 : w3.heap.size < w4.heap.size := World.block_lt_of_cell? w4 _ e0
    have hl0 : w.heap.size ≤ w3.heap.size := (below_two b2 hb3).size
    have hl2 : w1.heap.size < w3.heap.size := by have := hb3.size; omega
    have Hew4 := Lib.hid ew4
    clear hd3 hr3 hb3 hb4 b2 d0 d1 hs2 hs4 ew4
    generalize hsa : decide (a < 0) = sa at *
    generalize hsb : decide (b < 0) = sb at *
    generalize w1.heap.size = g1 at *
    have Hsb := Lib.hid hsb
    clear hsa hsb
    go_wp2_with fail
    rw [Hew4.out]
    generalize w3.heap.size = g3 at *
    have Hb4 := Lib.hid b4
    clear b4
    go_upto_region 8 with fail
    go_cut [12] (fun s12 wx => ∃ g5, s12 = .pointer (some ⟨g5, 0, none⟩) ∧ NumVar w4 wx g5 (a + -(F * b)) 20)
    case first =>
      have hd9 := And.intro d0' (And.intro d1' (And.intro e0 (And.intro e1 (Below.refl w4.heap.size w4))))
      have b0 := Below.refl w4.heap.size w4
      have hlA := hl1
      have hlB := hl3
      clear d0' d1' e0 e1
      go_region_held3 (fun w' => w'.cell? ⟨g1, 0, none⟩ = some (.slice a1 n1 c1) ∧ w'.cell? ⟨g1, 1, none⟩ = some (.bool sa) ∧ w'.cell? ⟨g3, 0, none⟩ = some (.slice a3 n3 c3) ∧ w'.cell? ⟨g3, 1, none⟩ = some (.bool sb) ∧ Below w4.heap.size w4 w')
        (first | exact add_keep3 (by assumption) (by assumption) | exact add_keep3 (by assumption) (drew_below _) | exact add_keep3 (by assumption) (alloc_below _ _) | exact add_alloc3 (by assumption) hlA hlB (by have h1 := b8.size; exact h1) | exact add_store3 (by assumption) hlA hlB (by first | exact Nat.le_refl _ | exact b5.size | exact b6.size | exact b7.size))
        (first
          | (go_at_call 11; refine (of_is _ _ FF.out).mono ?_; rintro e w5 ⟨v5, rfl, hB5, hb5⟩; (first | have b5 := below_two b0 hb5 | have b5 := below_two (below_two b0 (alloc_below _ _)) hb5 | have b5 := below_two (below_two b0 (drew_below _)) hb5 | have b5 := below_two (below_two b0 (below_two (alloc_below _ _) (drew_below _))) hb5); (first | have e9 := res_keep e9 hb5 | have e9 := new_two hb5 | have e9 := new_two' hb5 | skip))
          | (go_at_call 18; refine (bigTimes_is _ _ F b 4 4 _ ?_ ?_ (by decide) (by decide)).mono ?_; (first | exact hB5 | exact hB5.below (alloc_below _ _) | exact hB5.below (drew_below _) | exact hB5.below (below_two (alloc_below _ _) (drew_below _))); refine HB3.out.below ?_; (first | exact b5 | exact below_two b5 (drew_below _) | exact below_two b5 (alloc_below _ _) | exact below_two b5 (below_two (alloc_below _ _) (drew_below _))); rintro e w6 ⟨v6, rfl, hB6, hb6⟩; (first | have b6 := below_two b5 hb6 | have b6 := below_two (below_two b5 (alloc_below _ _)) hb6 | have b6 := below_two (below_two b5 (drew_below _)) hb6 | have b6 := below_two (below_two b5 (below_two (alloc_below _ _) (drew_below _))) hb6); (first | have e9 := res_keep e9 hb6 | have e9 := new_two hb6 | have e9 := new_two' hb6 | skip))
          | (go_at_call 17; refine (neg_is _ (F * b) 9 _ ?_).mono ?_; (first | exact hB6 | exact hB6.below (alloc_below _ _) | exact hB6.below (drew_below _) | exact hB6.below (below_two (alloc_below _ _) (drew_below _))); rintro e w7 ⟨v7, rfl, hB7, hb7⟩; (first | have b7 := below_two b6 hb7 | have b7 := below_two (below_two b6 (alloc_below _ _)) hb7 | have b7 := below_two (below_two b6 (drew_below _)) hb7 | have b7 := below_two (below_two b6 (below_two (alloc_below _ _) (drew_below _))) hb7); (first | have e9 := res_keep e9 hb7 | have e9 := new_two hb7 | have e9 := new_two' hb7 | skip))
          | (go_at_call 10; refine (bigAdd_is _ _ a (-(F * b)) 4 9 _ ?_ ?_ (by decide) (by decide)).mono ?_; refine HB1'.out.below ?_; (first | exact b7 | exact below_two b7 (drew_below _) | exact below_two b7 (alloc_below _ _) | exact below_two b7 (below_two (alloc_below _ _) (drew_below _))); (first | exact hB7 | exact hB7.below (alloc_below _ _) | exact hB7.below (drew_below _) | exact hB7.below (below_two (alloc_below _ _) (drew_below _))); rintro e w8 ⟨v8, rfl, hB8, hb8⟩; obtain ⟨dv8, ds8, rfl, hd8, hr8⟩ := hB8; obtain ⟨a8, n8, c8, rfl, _, _, _⟩ := hd8.open; have HB8 := Lib.hid (And.intro hd8 hr8); clear hd8 hr8; (first | have b8 := below_two b7 hb8 | have b8 := below_two (below_two b7 (alloc_below _ _)) hb8 | have b8 := below_two (below_two b7 (drew_below _)) hb8 | have b8 := below_two (below_two b7 (below_two (alloc_below _ _) (drew_below _))) hb8); (first | have e9 := res_keep e9 hb8 | have e9 := new_two hb8 | have e9 := new_two' hb8 | skip)))
      all_goals
        go_wp2_with fail
        go_meet
        first
          | exact ⟨_, rfl, numVar_alloc HB8.out b8 (by decide) _⟩
          | exact ⟨_, rfl, numVar_store HB8.out b8 (by decide) (by first | exact Nat.le_refl _ | exact b5.size | exact b6.size | exact b7.size) e9⟩
    case rest =>
      clear hz
      obtain ⟨g5, rfl, hg5, hbx, hv5⟩ := hcut
      obtain ⟨w9, hw9⟩ : ∃ w9 : World, w9 = wc := ⟨_, rfl⟩
      subst hw9
      have d0 := cell_below hbx d0'
      have d1 := cell_below hbx d1'
      have f0 := cell_below hbx e0
      have f1 := cell_below hbx e1
      have kk0 := (hbx.frozen (p := ⟨g3, 0, none⟩) hl3).trans k0
      have kk1 := (hbx.frozen (p := ⟨g3, 1, none⟩) hl3).trans k1
      have HX9 := Lib.hid (HB1'.out.below hbx)
      have HY9 := Lib.hid (HB3.out.below hbx)
      have Hb9 := Lib.hid (Hb4.out.trans (hbx.mono Hb4.out.size))
      have Hv5 := Lib.hid hv5
      have hl1' : g1 < w9.heap.size := by have := hbx.size; omega
      have hl3' : g3 < w9.heap.size := by have := hbx.size; omega
      clear d0' d1' e0 e1 k0 k1 hbx hv5
      go_upto_region 9 with fail
      go_cut [13] (fun s13 wx => ∃ g6, s13 = .pointer (some ⟨g6, 0, none⟩) ∧ NumVar w9 wx g6 (C * b + -a) 20)
      case first =>
        have hd9 := And.intro d0 (And.intro d1 (And.intro f0 (And.intro f1 (Below.refl w9.heap.size w9))))
        have b0 := Below.refl w9.heap.size w9
        have hlA := hl1'
        have hlB := hl3'
        clear d0 d1 f0 f1
        go_region_held3 (fun w' => w'.cell? ⟨g1, 0, none⟩ = some (.slice a1 n1 c1) ∧ w'.cell? ⟨g1, 1, none⟩ = some (.bool sa) ∧ w'.cell? ⟨g3, 0, none⟩ = some (.slice a3 n3 c3) ∧ w'.cell? ⟨g3, 1, none⟩ = some (.bool sb) ∧ Below w9.heap.size w9 w')
          (first | exact add_keep3 (by assumption) (by assumption) | exact add_keep3 (by assumption) (drew_below _) | exact add_keep3 (by assumption) (alloc_below _ _) | exact add_alloc3 (by assumption) hlA hlB (by have h1 := b8.size; exact h1) | exact add_store3 (by assumption) hlA hlB (by first | exact Nat.le_refl _ | exact b5.size | exact b6.size | exact b7.size))
          (first
            | (go_at_call 11; refine (of_is _ _ FC.out).mono ?_; rintro e w5 ⟨v5, rfl, hB5, hb5⟩; (first | have b5 := below_two b0 hb5 | have b5 := below_two (below_two b0 (alloc_below _ _)) hb5 | have b5 := below_two (below_two b0 (drew_below _)) hb5 | have b5 := below_two (below_two b0 (below_two (alloc_below _ _) (drew_below _))) hb5); (first | have e9 := res_keep e9 hb5 | have e9 := new_two hb5 | have e9 := new_two' hb5 | skip))
            | (go_at_call 18; refine (bigTimes_is _ _ C b 4 4 _ ?_ ?_ (by decide) (by decide)).mono ?_; (first | exact hB5 | exact hB5.below (alloc_below _ _) | exact hB5.below (drew_below _) | exact hB5.below (below_two (alloc_below _ _) (drew_below _))); refine HY9.out.below ?_; (first | exact b5 | exact below_two b5 (drew_below _) | exact below_two b5 (alloc_below _ _) | exact below_two b5 (below_two (alloc_below _ _) (drew_below _))); rintro e w6 ⟨v6, rfl, hB6, hb6⟩; (first | have b6 := below_two b5 hb6 | have b6 := below_two (below_two b5 (alloc_below _ _)) hb6 | have b6 := below_two (below_two b5 (drew_below _)) hb6 | have b6 := below_two (below_two b5 (below_two (alloc_below _ _) (drew_below _))) hb6); (first | have e9 := res_keep e9 hb6 | have e9 := new_two hb6 | have e9 := new_two' hb6 | skip))
            | (go_at_call 17; refine (neg_is _ a 4 _ ?_).mono ?_; refine HX9.out.below ?_; (first | exact b6 | exact below_two b6 (drew_below _) | exact below_two b6 (alloc_below _ _) | exact below_two b6 (below_two (alloc_below _ _) (drew_below _))); rintro e w7 ⟨v7, rfl, hB7, hb7⟩; (first | have b7 := below_two b6 hb7 | have b7 := below_two (below_two b6 (alloc_below _ _)) hb7 | have b7 := below_two (below_two b6 (drew_below _)) hb7 | have b7 := below_two (below_two b6 (below_two (alloc_below _ _) (drew_below _))) hb7); (first | have e9 := res_keep e9 hb7 | have e9 := new_two hb7 | have e9 := new_two' hb7 | skip))
            | (go_at_call 10; refine (bigAdd_is _ _ (C * b) (-a) 9 4 _ ?_ ?_ (by decide) (by decide)).mono ?_; (first | exact hB6.below hb7 | exact hB6.below (below_two hb7 (alloc_below _ _)) | exact hB6.below (below_two (alloc_below _ _) hb7)); (first | exact hB7 | exact hB7.below (alloc_below _ _) | exact hB7.below (drew_below _) | exact hB7.below (below_two (alloc_below _ _) (drew_below _))); rintro e w8 ⟨v8, rfl, hB8, hb8⟩; obtain ⟨dv8, ds8, rfl, hd8, hr8⟩ := hB8; obtain ⟨a8, n8, c8, rfl, _, _, _⟩ := hd8.open; have HB8 := Lib.hid (And.intro hd8 hr8); clear hd8 hr8; (first | have b8 := below_two b7 hb8 | have b8 := below_two (below_two b7 (alloc_below _ _)) hb8 | have b8 := below_two (below_two b7 (drew_below _)) hb8 | have b8 := below_two (below_two b7 (below_two (alloc_below _ _) (drew_below _))) hb8); (first | have e9 := res_keep e9 hb8 | have e9 := new_two hb8 | have e9 := new_two' hb8 | skip)))
        all_goals
          go_wp2_with fail
          go_meet
          first
            | exact ⟨_, rfl, numVar_alloc HB8.out b8 (by decide) _⟩
            | exact ⟨_, rfl, numVar_store HB8.out b8 (by decide) (by first | exact Nat.le_refl _ | exact b5.size | exact b6.size | exact b7.size) e9⟩
      case rest =>
        obtain ⟨g6, rfl, hg6, hbx, hv6⟩ := hcut
        obtain ⟨w10, hw10⟩ : ∃ w10 : World, w10 = wc := ⟨_, rfl⟩
        subst hw10
        have v6 := Lib.hid hv6
        have v5 := Lib.hid (Hv5.out.below hbx)
        have v3 : Hid (Var w10 g3 b 4) := Lib.hid (Var.below ⟨a3, n3, c3, sb, f0, f1, kk0, kk1, HY9.out⟩ hbx)
        have Hb10 := Lib.hid (Hb9.out.trans (hbx.mono Hb9.out.size))
        have h35 : ¬ g3 = g5 := by omega
        have h53 : ¬ g5 = g3 := by omega
        have h36 : ¬ g3 = g6 := by omega
        have h63 : ¬ g6 = g3 := by omega
        have v5lt : g5 < w9.heap.size := by
          obtain ⟨_, _, _, _, h0, _⟩ := Hv5.out
          exact World.block_lt_of_cell? w9 _ h0
        have h56 : ¬ g5 = g6 := by omega
        have h65 : ¬ g6 = g5 := by omega
        have hg5' : w.heap.size ≤ g5 := by omega
        have hg6' : w.heap.size ≤ g6 := by omega
        clear d0 d1 f0 f1 kk0 kk1 hbx hv6 Hv5 hg5 hg6 hl1' hl3' v5lt hl1 hl3 hl2
        by_cases hneg : b < 0
        · have hm := Hm.out hneg
          have HM := Lib.hid hm
          clear hm
          obtain ⟨a5, n5, c5, s5, p0, p1, p2, p3, hB5⟩ := v5.out
          go_wp2_with fail
          refine (neg_is _ (a + -(F * b)) 20 _ hB5).mono ?_
          rintro e w11 ⟨v11, rfl, hB11, hb11⟩
          obtain ⟨a11, n11, c11, s11, rfl, hB11'⟩ := hB11.form
          have V5 := (v5.out.below hb11).put hB11'
          have V6 := (v6.out.below hb11).far (v5.out.below hb11) h65 (.slice a11 n11 c11) (.bool s11)
          have V3 := (v3.out.below hb11).far (v5.out.below hb11) h35 (.slice a11 n11 c11) (.bool s11)
          obtain ⟨p0', p1', p2', p3'⟩ := res_keep ⟨p0, p1, p2, p3⟩ hb11
          have Hb12 := Lib.hid (((Hb10.out.trans (hb11.mono Hb10.out.size)).setCell (p := ⟨g5, 0, none⟩) hg5' (.slice a11 n11 c11)).setCell (p := ⟨g5, 1, none⟩) hg5' (.bool s11))
          obtain ⟨a6, n6, c6, s6, q0, q1, q2, q3, hB6⟩ := V6
          have V6 := Lib.hid (show Var _ g6 _ 20 from ⟨a6, n6, c6, s6, q0, q1, q2, q3, hB6⟩)
          have V5 := Lib.hid V5
          have V3 := Lib.hid V3
          have HB6 := Lib.hid hB6
          clear p0 p1 p2 p3 hB5 hB11 hB11' hB6 v5 v6 v3 hb11
          go_wp2_with fail
          generalize (w11.setCell ⟨g5, 0, none⟩ (.slice a11 n11 c11)).setCell ⟨g5, 1, none⟩ (.bool s11) = w12 at *
          refine (neg_is _ (C * b + -a) 20 _ HB6.out).mono ?_
          rintro e w13 ⟨v13, rfl, hB13, hb13⟩
          obtain ⟨a13, n13, c13, s13, rfl, hB13'⟩ := hB13.form
          have W6 := (V6.out.below hb13).put hB13'
          have W5 := (V5.out.below hb13).far (V6.out.below hb13) h56 (.slice a13 n13 c13) (.bool s13)
          have W3 := (V3.out.below hb13).far (V6.out.below hb13) h36 (.slice a13 n13 c13) (.bool s13)
          obtain ⟨q0', q1', q2', q3'⟩ := res_keep ⟨q0, q1, q2, q3⟩ hb13
          have Hb14 := Lib.hid (((Hb12.out.trans (hb13.mono Hb12.out.size)).setCell (p := ⟨g6, 0, none⟩) hg6' (.slice a13 n13 c13)).setCell (p := ⟨g6, 1, none⟩) hg6' (.bool s13))
          obtain ⟨a7, n7, c7, s7, r0, r1, r2, r3, hB7⟩ := W3
          have W3 := Lib.hid (show Var _ g3 _ 4 from ⟨a7, n7, c7, s7, r0, r1, r2, r3, hB7⟩)
          have W5 := Lib.hid W5
          have W6 := Lib.hid W6
          have HB7 := Lib.hid hB7
          clear p0' p1' p2' p3' q0 q1 q2 q3 hB13 hB13' hB7 V5 V6 V3 hb13
          go_wp2_with fail
          generalize (w13.setCell ⟨g6, 0, none⟩ (.slice a13 n13 c13)).setCell ⟨g6, 1, none⟩ (.bool s13) = w14 at *
          refine (neg_is _ b 4 _ HB7.out).mono ?_
          rintro e w15 ⟨v15, rfl, hB15, hb15⟩
          obtain ⟨a15, n15, c15, s15, rfl, hB15'⟩ := hB15.form
          have X3 := (W3.out.below hb15).put hB15'
          have X5 := (W5.out.below hb15).far (W3.out.below hb15) h53 (.slice a15 n15 c15) (.bool s15)
          have X6 := (W6.out.below hb15).far (W3.out.below hb15) h63 (.slice a15 n15 c15) (.bool s15)
          obtain ⟨r0', r1', r2', r3'⟩ := res_keep ⟨r0, r1, r2, r3⟩ hb15
          have l3 : g3 < w15.heap.size := World.block_lt_of_cell? w15 _ r0'
          have l5 : g5 < w15.heap.size := (W5.out.below hb15).lt
          have l6 : g6 < w15.heap.size := (W6.out.below hb15).lt
          have Hb16 := Lib.hid (((Hb14.out.trans (hb15.mono Hb14.out.size)).setCell (p := ⟨g3, 0, none⟩) hl0 (.slice a15 n15 c15)).setCell (p := ⟨g3, 1, none⟩) hl0 (.bool s15))
          obtain ⟨y3a, y3n, y3c, y3s, y30, y31, _, _, hY3⟩ := X3
          obtain ⟨y5a, y5n, y5c, y5s, y50, y51, _, _, hY5⟩ := X5
          obtain ⟨y6a, y6n, y6c, y6s, y60, y61, _, _, hY6⟩ := X6
          have HY3 := Lib.hid hY3
          have HY5 := Lib.hid hY5
          have HY6 := Lib.hid hY6
          clear q0' q1' q2' q3' r0 r1 r2 r3 hB15 hB15' W3 W5 W6 hY3 hY5 hY6 hb15
          go_wp2_with fail
          obtain ⟨w17, ew17, hb17, hs17, z0, z1, _, _⟩ := box_two ((w15.setCell ⟨g3, 0, none⟩ (.slice a15 n15 c15)).setCell ⟨g3, 1, none⟩ (.bool s15)) (.slice none 0 0) (.bool false) 24
          rw [ew17]
          have y30 := cell_below hb17 y30
          have y31 := cell_below hb17 y31
          have y50 := cell_below hb17 y50
          have y51 := cell_below hb17 y51
          have y60 := cell_below hb17 y60
          have y61 := cell_below hb17 y61
          have HY3 := Lib.hid (HY3.out.below hb17)
          have HY5 := Lib.hid (HY5.out.below hb17)
          have HY6 := Lib.hid (HY6.out.below hb17)
          have HZ : Hid (IsBig w17 (.agg #[.slice none 0 0, .bool false]) 0 0) := Lib.hid (isBig_zero w17)
          have Hb17 := Lib.hid (Hb16.out.trans (hb17.mono Hb16.out.size))
          rw [show ((w15.setCell ⟨g3, 0, none⟩ (.slice a15 n15 c15)).setCell ⟨g3, 1, none⟩ (.bool s15)).heap.size = w15.heap.size by simp [World.setCell]] at z0 z1
          clear hb17 hs17 ew17 r0' r1' r2' r3' l3 l5 l6
          generalize w15.heap.size = g7 at *
          refine (bigBelow_is _ _ (-(a + -(F * b))) (0) 20 0 _ HY5.out HZ.out (by decide) (by decide)).mono ?_
          rintro e w18 ⟨rfl, hb18⟩
          rw [show decide (-(a + -(F * b)) < 0) = false from decide_eq_false (by have := HM.out; omega)]
          have y30 := cell_below hb18 y30
          have y31 := cell_below hb18 y31
          have y50 := cell_below hb18 y50
          have y51 := cell_below hb18 y51
          have y60 := cell_below hb18 y60
          have y61 := cell_below hb18 y61
          have z0 := cell_below hb18 z0
          have z1 := cell_below hb18 z1
          have HY3 := Lib.hid (HY3.out.below hb18)
          have HY5 := Lib.hid (HY5.out.below hb18)
          have HY6 := Lib.hid (HY6.out.below hb18)
          have HZ := Lib.hid (HZ.out.below hb18)
          have Hb18 := Lib.hid (Hb17.out.trans (hb18.mono Hb17.out.size))
          clear hb18
          go_wp2_with fail
          refine (bigBelow_is _ _ (-(a + -(F * b))) (-b) 20 4 _ HY5.out HY3.out (by decide) (by decide)).mono ?_
          rintro e w19 ⟨rfl, hb19⟩
          rw [show decide (-(a + -(F * b)) < -b) = true from decide_eq_true (by have := HM.out; omega)]
          have y30 := cell_below hb19 y30
          have y31 := cell_below hb19 y31
          have y50 := cell_below hb19 y50
          have y51 := cell_below hb19 y51
          have y60 := cell_below hb19 y60
          have y61 := cell_below hb19 y61
          have z0 := cell_below hb19 z0
          have z1 := cell_below hb19 z1
          have HY3 := Lib.hid (HY3.out.below hb19)
          have HY5 := Lib.hid (HY5.out.below hb19)
          have HY6 := Lib.hid (HY6.out.below hb19)
          have HZ := Lib.hid (HZ.out.below hb19)
          have Hb19 := Lib.hid (Hb18.out.trans (hb19.mono Hb18.out.size))
          clear hb19
          go_wp2_with fail
          refine (bigBelow_is _ _ (-(C * b + -a)) (0) 20 0 _ HY6.out HZ.out (by decide) (by decide)).mono ?_
          rintro e w20 ⟨rfl, hb20⟩
          rw [show decide (-(C * b + -a) < 0) = false from decide_eq_false (by have := HM.out; omega)]
          have y30 := cell_below hb20 y30
          have y31 := cell_below hb20 y31
          have y50 := cell_below hb20 y50
          have y51 := cell_below hb20 y51
          have y60 := cell_below hb20 y60
          have y61 := cell_below hb20 y61
          have z0 := cell_below hb20 z0
          have z1 := cell_below hb20 z1
          have HY3 := Lib.hid (HY3.out.below hb20)
          have HY5 := Lib.hid (HY5.out.below hb20)
          have HY6 := Lib.hid (HY6.out.below hb20)
          have HZ := Lib.hid (HZ.out.below hb20)
          have Hb20 := Lib.hid (Hb19.out.trans (hb20.mono Hb19.out.size))
          clear hb20
          go_wp2_with fail
          refine (bigBelow_is _ _ (-(C * b + -a)) (-b) 20 4 _ HY6.out HY3.out (by decide) (by decide)).mono ?_
          rintro e w21 ⟨rfl, hb21⟩
          rw [show decide (-(C * b + -a) < -b) = true from decide_eq_true (by have := HM.out; omega)]
          have y30 := cell_below hb21 y30
          have y31 := cell_below hb21 y31
          have y50 := cell_below hb21 y50
          have y51 := cell_below hb21 y51
          have y60 := cell_below hb21 y60
          have y61 := cell_below hb21 y61
          have z0 := cell_below hb21 z0
          have z1 := cell_below hb21 z1
          have HY3 := Lib.hid (HY3.out.below hb21)
          have HY5 := Lib.hid (HY5.out.below hb21)
          have HY6 := Lib.hid (HY6.out.below hb21)
          have HZ := Lib.hid (HZ.out.below hb21)
          have Hb21 := Lib.hid (Hb20.out.trans (hb21.mono Hb20.out.size))
          clear hb21
          go_wp2_with fail
          refine (lives01_is _).mono ?_
          rintro e w22 ⟨rfl, hb22⟩
          go_wp2_with fail
          go_ret
          exact ⟨rfl, Hb21.out.trans (hb22.mono Hb21.out.size)⟩
        · have hp := Hp.out (by have := Hb0.out; omega)
          have HM := Lib.hid hp
          clear hp
          obtain ⟨y3a, y3n, y3c, y3s, y30, y31, _, _, hY3⟩ := v3.out
          obtain ⟨y5a, y5n, y5c, y5s, y50, y51, _, _, hY5⟩ := v5.out
          obtain ⟨y6a, y6n, y6c, y6s, y60, y61, _, _, hY6⟩ := v6.out
          have HY3 := Lib.hid hY3
          have HY5 := Lib.hid hY5
          have HY6 := Lib.hid hY6
          have l3 := v3.out.lt
          have l5 := v5.out.lt
          have l6 := v6.out.lt
          clear hY3 hY5 hY6
          go_wp2_with fail
          obtain ⟨w17, ew17, hb17, hs17, z0, z1, _, _⟩ := box_two (w10) (.slice none 0 0) (.bool false) 24
          rw [ew17]
          have y30 := cell_below hb17 y30
          have y31 := cell_below hb17 y31
          have y50 := cell_below hb17 y50
          have y51 := cell_below hb17 y51
          have y60 := cell_below hb17 y60
          have y61 := cell_below hb17 y61
          have HY3 := Lib.hid (HY3.out.below hb17)
          have HY5 := Lib.hid (HY5.out.below hb17)
          have HY6 := Lib.hid (HY6.out.below hb17)
          have HZ : Hid (IsBig w17 (.agg #[.slice none 0 0, .bool false]) 0 0) := Lib.hid (isBig_zero w17)
          have Hb17 := Lib.hid (Hb10.out.trans (hb17.mono Hb10.out.size))
          clear hb17 hs17 ew17 l3 l5 l6
          generalize w10.heap.size = g7 at *
          refine (bigBelow_is _ _ (a + -(F * b)) (0) 20 0 _ HY5.out HZ.out (by decide) (by decide)).mono ?_
          rintro e w18 ⟨rfl, hb18⟩
          rw [show decide (a + -(F * b) < 0) = false from decide_eq_false (by have := HM.out; omega)]
          have y30 := cell_below hb18 y30
          have y31 := cell_below hb18 y31
          have y50 := cell_below hb18 y50
          have y51 := cell_below hb18 y51
          have y60 := cell_below hb18 y60
          have y61 := cell_below hb18 y61
          have z0 := cell_below hb18 z0
          have z1 := cell_below hb18 z1
          have HY3 := Lib.hid (HY3.out.below hb18)
          have HY5 := Lib.hid (HY5.out.below hb18)
          have HY6 := Lib.hid (HY6.out.below hb18)
          have HZ := Lib.hid (HZ.out.below hb18)
          have Hb18 := Lib.hid (Hb17.out.trans (hb18.mono Hb17.out.size))
          clear hb18
          go_wp2_with fail
          refine (bigBelow_is _ _ (a + -(F * b)) (b) 20 4 _ HY5.out HY3.out (by decide) (by decide)).mono ?_
          rintro e w19 ⟨rfl, hb19⟩
          rw [show decide (a + -(F * b) < b) = true from decide_eq_true (by have := HM.out; omega)]
          have y30 := cell_below hb19 y30
          have y31 := cell_below hb19 y31
          have y50 := cell_below hb19 y50
          have y51 := cell_below hb19 y51
          have y60 := cell_below hb19 y60
          have y61 := cell_below hb19 y61
          have z0 := cell_below hb19 z0
          have z1 := cell_below hb19 z1
          have HY3 := Lib.hid (HY3.out.below hb19)
          have HY5 := Lib.hid (HY5.out.below hb19)
          have HY6 := Lib.hid (HY6.out.below hb19)
          have HZ := Lib.hid (HZ.out.below hb19)
          have Hb19 := Lib.hid (Hb18.out.trans (hb19.mono Hb18.out.size))
          clear hb19
          go_wp2_with fail
          refine (bigBelow_is _ _ (C * b + -a) (0) 20 0 _ HY6.out HZ.out (by decide) (by decide)).mono ?_
          rintro e w20 ⟨rfl, hb20⟩
          rw [show decide (C * b + -a < 0) = false from decide_eq_false (by have := HM.out; omega)]
          have y30 := cell_below hb20 y30
          have y31 := cell_below hb20 y31
          have y50 := cell_below hb20 y50
          have y51 := cell_below hb20 y51
          have y60 := cell_below hb20 y60
          have y61 := cell_below hb20 y61
          have z0 := cell_below hb20 z0
          have z1 := cell_below hb20 z1
          have HY3 := Lib.hid (HY3.out.below hb20)
          have HY5 := Lib.hid (HY5.out.below hb20)
          have HY6 := Lib.hid (HY6.out.below hb20)
          have HZ := Lib.hid (HZ.out.below hb20)
          have Hb20 := Lib.hid (Hb19.out.trans (hb20.mono Hb19.out.size))
          clear hb20
          go_wp2_with fail
          refine (bigBelow_is _ _ (C * b + -a) (b) 20 4 _ HY6.out HY3.out (by decide) (by decide)).mono ?_
          rintro e w21 ⟨rfl, hb21⟩
          rw [show decide (C * b + -a < b) = true from decide_eq_true (by have := HM.out; omega)]
          have y30 := cell_below hb21 y30
          have y31 := cell_below hb21 y31
          have y50 := cell_below hb21 y50
          have y51 := cell_below hb21 y51
          have y60 := cell_below hb21 y60
          have y61 := cell_below hb21 y61
          have z0 := cell_below hb21 z0
          have z1 := cell_below hb21 z1
          have HY3 := Lib.hid (HY3.out.below hb21)
          have HY5 := Lib.hid (HY5.out.below hb21)
          have HY6 := Lib.hid (HY6.out.below hb21)
          have HZ := Lib.hid (HZ.out.below hb21)
          have Hb21 := Lib.hid (Hb20.out.trans (hb21.mono Hb20.out.size))
          clear hb21
          go_wp2_with fail
          refine (lives01_is _).mono ?_
          rintro e w22 ⟨rfl, hb22⟩
          go_wp2_with fail
          go_ret
          exact ⟨rfl, Hb21.out.trans (hb22.mono Hb21.out.size)⟩

theorem numFloors_walk (a b : Int) (w : World) (fa : fitsI a = true) (fb : fitsI b = true) :
    Calls Try.prog 4 #[.int .i64 a, .int .i64 b] w fun e w' => e = .returned (.bool true) ∧ Below w.heap.size w w' := by
  cases hn : noQuo a b with
  | true => exact numFloors_no a b w fa hn
  | false => exact numFloors_yes a b w fa fb hn
end Go.Proofs.Ytodikaekpncjjaa
