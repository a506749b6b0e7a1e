/-
  My own work: tranterref01.Below: its contract.
-/
import Derived.Test.YtodikaekpncjjaaBigD
namespace Go.Proofs.Ytodikaekpncjjaa
open Go.RowKit
set_option linter.unusedVariables false

/-- What Below answers. -/
def BelowOut (w : World) (t : Bool) (e : Ending) (w' : World) : Prop := e = .returned (.bool t) ∧ Below w.heap.size w w'

theorem add_keep2 {w0 w w' : World} {g : Nat} {v0 v1 v2 v3 : Value}
    (h : w.cell? ⟨g, 0, none⟩ = some v0 ∧ w.cell? ⟨g, 1, none⟩ = some v1 ∧ w.cell? ⟨g + 1, 0, none⟩ = some v2 ∧ w.cell? ⟨g + 1, 1, none⟩ = some v3 ∧ Below w0.heap.size w0 w) (hb : Below w.heap.size w w') :
    w'.cell? ⟨g, 0, none⟩ = some v0 ∧ w'.cell? ⟨g, 1, none⟩ = some v1 ∧ w'.cell? ⟨g + 1, 0, none⟩ = some v2 ∧ w'.cell? ⟨g + 1, 1, none⟩ = some v3 ∧ Below w0.heap.size w0 w' := by
  obtain ⟨h0, h1, h2, h3, h5⟩ := h
  exact ⟨cell_below hb h0, cell_below hb h1, cell_below hb h2, cell_below hb h3, h5.trans (hb.mono h5.size)⟩
theorem alloc_below (w : World) (o : Obj) : Below w.heap.size w (w.alloc o) := (Below.refl _ _).alloc (Nat.le_refl _) _

theorem new_two {w w' : World} {u v : Value} {T : TypeId} (hb : Below (w.alloc (.cells #[u, v] T)).heap.size (w.alloc (.cells #[u, v] T)) w') :
    w'.cell? ⟨w.heap.size, 0, none⟩ = some u ∧ w'.cell? ⟨w.heap.size, 1, none⟩ = some v ∧ w'.frozen? ⟨w.heap.size, 0, none⟩ = false ∧ w'.frozen? ⟨w.heap.size, 1, none⟩ = false := by
  obtain ⟨w1, rfl, _, _, c0, c1, f0, f1⟩ := box_two w u v T
  exact res_keep ⟨c0, c1, f0, f1⟩ hb
theorem new_two' {w w' : World} {u v : Value} {T : TypeId} (hb : Below (w.alloc (.cells #[u, v] T)).drew.heap.size (w.alloc (.cells #[u, v] T)).drew w') :
    w'.cell? ⟨w.heap.size, 0, none⟩ = some u ∧ w'.cell? ⟨w.heap.size, 1, none⟩ = some v ∧ w'.frozen? ⟨w.heap.size, 0, none⟩ = false ∧ w'.frozen? ⟨w.heap.size, 1, none⟩ = false :=
  new_two ((drew_below _).trans hb)
theorem add_alloc2 {w0 w : World} {g : Nat} {v0 v1 v2 v3 : Value} {o o' : Obj}
    (h : (w.alloc o).cell? ⟨g, 0, none⟩ = some v0 ∧ (w.alloc o).cell? ⟨g, 1, none⟩ = some v1 ∧ (w.alloc o).cell? ⟨g + 1, 0, none⟩ = some v2 ∧ (w.alloc o).cell? ⟨g + 1, 1, none⟩ = some v3 ∧ Below w0.heap.size w0 (w.alloc o))
    (hg : g + 1 < w0.heap.size) (hs : w0.heap.size ≤ w.heap.size) :
    (w.alloc o').cell? ⟨g, 0, none⟩ = some v0 ∧ (w.alloc o').cell? ⟨g, 1, none⟩ = some v1 ∧ (w.alloc o').cell? ⟨g + 1, 0, none⟩ = some v2 ∧ (w.alloc o').cell? ⟨g + 1, 1, none⟩ = some v3 ∧ Below w0.heap.size w0 (w.alloc o') := by
  obtain ⟨h0, h1, h2, h3, h5⟩ := h
  have k : ∀ b o1, b < w.heap.size → (w.alloc o').cell? ⟨b, o1, none⟩ = (w.alloc o).cell? ⟨b, o1, none⟩ := fun b o1 hb => by
    rw [World.cell?_alloc_lt w o ⟨b, o1, none⟩ hb, World.cell?_alloc_lt w o' ⟨b, o1, none⟩ hb]
  refine ⟨by rw [k _ _ (by omega)]; exact h0, by rw [k _ _ (by omega)]; exact h1, by rw [k _ _ (by omega)]; exact h2, by rw [k _ _ (by omega)]; exact h3, ?_⟩
  exact ⟨h5.os, h5.tape, h5.output, by simp; omega, fun i hi => by
    have := h5.block i hi
    rw [Below.heap_alloc w o i (by omega)] at this
    rw [Below.heap_alloc w o' i (by omega)]
    exact this⟩
theorem add_store2 {w0 w : World} {g B : Nat} {v0 v1 v2 v3 u v : Value}
    (h : w.cell? ⟨g, 0, none⟩ = some v0 ∧ w.cell? ⟨g, 1, none⟩ = some v1 ∧ w.cell? ⟨g + 1, 0, none⟩ = some v2 ∧ w.cell? ⟨g + 1, 1, none⟩ = some v3 ∧ Below w0.heap.size w0 w) (hg : g + 1 < w0.heap.size) (hB : w0.heap.size ≤ B) :
    ((w.setCell ⟨B, 0, none⟩ u).setCell ⟨B, 1, none⟩ v).cell? ⟨g, 0, none⟩ = some v0 ∧ ((w.setCell ⟨B, 0, none⟩ u).setCell ⟨B, 1, none⟩ v).cell? ⟨g, 1, none⟩ = some v1 ∧
      ((w.setCell ⟨B, 0, none⟩ u).setCell ⟨B, 1, none⟩ v).cell? ⟨g + 1, 0, none⟩ = some v2 ∧ ((w.setCell ⟨B, 0, none⟩ u).setCell ⟨B, 1, none⟩ v).cell? ⟨g + 1, 1, none⟩ = some v3 ∧
      Below w0.heap.size w0 ((w.setCell ⟨B, 0, none⟩ u).setCell ⟨B, 1, none⟩ v) := by
  obtain ⟨h0, h1, h2, h3, h5⟩ := h
  refine ⟨?_, ?_, ?_, ?_, (h5.setCell (p := ⟨B, 0, none⟩) hB u).setCell (p := ⟨B, 1, none⟩) hB v⟩ <;>
    (rw [World.cell?_setCell_other _ _ _ _ (by simp <;> omega), World.cell?_setCell_other _ _ _ _ (by simp <;> omega)]; assumption)

theorem ret_bool {a b : Bool} (h : a = b) : Ending.returned (.bool a) = .returned (.bool b) := by rw [h]
theorem below_two {a b c : World} (h : Below a.heap.size a b) (k : Below b.heap.size b c) : Below a.heap.size a c := h.trans (k.mono h.size)

set_option maxHeartbeats 3200000 in
theorem bigBelow_is (va vb : Value) (x y : Int) (L M : Nat) (w : World) (ha : IsBig w va x L) (hb : IsBig w vb y M) (hL : L ≤ 1000) (hM : M ≤ 1000) :
    Calls Try.prog 19 #[va, vb] w (BelowOut w (decide (x < y))) := by
  obtain ⟨dv, ds, rfl, hd, hr⟩ := ha
  obtain ⟨dv', ds', rfl, hd', hr'⟩ := hb
  obtain ⟨a, n, c, rfl, _, _, _⟩ := hd.open
  obtain ⟨a', n', c', rfl, _, _, _⟩ := hd'.open
  obtain ⟨w1, ew, hb1, hs1, c0, c1, f0, f1⟩ := box_two w (.slice a n c) (.bool (decide (x < 0))) 24
  obtain ⟨w2, ew2, hb2, hs2, d0, d1, _, _⟩ := box_two w1 (.slice a' n' c') (.bool (decide (y < 0))) 24
  have hbw2 := hb1.trans (hb2.mono hb1.size)
  have c0' := cell_below hb2 c0
  have c1' := cell_below hb2 c1
  rw [hs1] at d0 d1
  have Ha : Hid (IsBig w2 (.agg #[.slice a n c, .bool (decide (x < 0))]) x L) := Lib.hid ⟨_, ds, rfl, hd.below hbw2, hr⟩
  have Hb : Hid (IsBig w2 (.agg #[.slice a' n' c', .bool (decide (y < 0))]) y M) := Lib.hid ⟨_, ds', rfl, hd'.below hbw2, hr'⟩
  have Hew := Lib.hid ew
  have Hew2 := Lib.hid ew2
  have Hbw2 := Lib.hid hbw2
  have Hlt : Hid (decide (x + -y < 0) = decide (x < y)) := Lib.hid (by rw [decide_eq_decide]; omega)
  have hs2' : w2.heap.size = w.heap.size + 2 := by omega
  generalize hsx : decide (x < 0) = sx at *
  generalize hsy : decide (y < 0) = sy at *
  have Hs2 := Lib.hid hs2'
  clear hd hr hd' hr' ew ew2 hb1 hb2 hbw2 c0 c1 f0 f1 hsx hsy hs1 hs2 hs2'
  go_enter Try.func19, Try.ntmps19
  go_wp2_with fail
  rw [Hew.out, Hew2.out]
  generalize eg : w.heap.size = g at *
  have Heg := Lib.hid eg
  clear eg
  have hd9 := And.intro c0' (And.intro c1' (And.intro d0 (And.intro d1 (Below.refl w2.heap.size w2))))
  clear c0' c1' d0 d1
  have hg2 : g + 1 < w2.heap.size := by have := Hs2.out; omega
  go_region_held3 (fun w' => w'.cell? ⟨g, 0, none⟩ = some (.slice a n c) ∧ w'.cell? ⟨g, 1, none⟩ = some (.bool sx) ∧ w'.cell? ⟨g + 1, 0, none⟩ = some (.slice a' n' c') ∧ w'.cell? ⟨g + 1, 1, none⟩ = some (.bool sy) ∧ Below w2.heap.size w2 w')
      (first | exact add_keep2 (by assumption) (by assumption) | exact add_keep2 (by assumption) (drew_below _) | exact add_keep2 (by assumption) (alloc_below _ _) | exact add_alloc2 (by assumption) hg2 (by have h1 := hb6.size; have h2 := hb7.size; simp at h1 h2; omega) | exact add_store2 (by assumption) hg2 (by have h1 := hb6.size; simp at h1 ⊢ <;> omega))
      (first
        | (go_at_call 17; refine (neg_is (.agg #[.slice a' n' c', .bool sy]) y M _ ?_).mono ?_; (first | exact Hb.out.below (drew_below _) | exact Hb.out.below (alloc_below _ _) | exact Hb.out.below (below_two (drew_below _) (alloc_below _ _)) | exact Hb.out.below (below_two (alloc_below _ _) (drew_below _))); rintro e w6 ⟨v6, rfl, hB6, hb6⟩; (try have e6 := new_two hb6); (try have e6 := new_two' hb6))
        | (go_at_call 10; refine (bigAdd_is (.agg #[.slice a n c, .bool sx]) v6 x (-y) L M _ ?_ ?_ hL hM).mono ?_; (first | exact Ha.out.below (below_two (drew_below _) hb6) | exact Ha.out.below (below_two (below_two (drew_below _) hb6) (alloc_below _ _)) | exact Ha.out.below (below_two (alloc_below _ _) hb6) | exact Ha.out.below (below_two (below_two (drew_below _) (alloc_below _ _)) hb6) | exact Ha.out.below (below_two (below_two (alloc_below _ _) (drew_below _)) hb6)); (first | exact hB6 | exact hB6.below (alloc_below _ _)); rintro e w7 ⟨v7, rfl, hB7, hb7⟩; obtain ⟨dv7, ds7, rfl, hd7, _⟩ := hB7; obtain ⟨a7, n7, c7, rfl, _, _, _⟩ := hd7.open; (try have e7 := new_two hb7); (try have e7 := res_keep e6 hb7); (try (obtain ⟨e70, e71, e72, e73⟩ := e7))))
  · have bf := Hbw2.out.trans (((below_two (below_two (below_two (drew_below w2) hb6) hb7) (alloc_below _ (.cells #[.slice a7 n7 c7, .bool (decide (x + -y < 0))] 24))).mono (by omega)))
    clear hb6 hb7 hB6 hd7 hd9
    go_wp2_with fail
    go_ret
    exact ⟨ret_bool Hlt.out, by rw [Heg.out]; exact bf⟩
  · have b6 := below_two (drew_below w2) hb6
    have hl6 : w2.heap.size ≤ w6.heap.size := b6.size
    have bf := Hbw2.out.trans ((((below_two (below_two b6 (alloc_below _ _)) hb7).setCell (p := ⟨w6.heap.size, 0, none⟩) hl6 (.slice a7 n7 c7)).setCell (p := ⟨w6.heap.size, 1, none⟩) hl6 (.bool (decide (x + -y < 0)))).mono (by omega))
    obtain ⟨q0, q1⟩ := two_set w7 w6.heap.size (.slice a7 n7 c7) (.bool (decide (x + -y < 0))) _ _ e70 e71
    clear b6 hb6 hb7 hB6 hd7 hd9 e70 e71 e72 e73
    go_wp2_with fail
    go_ret
    exact ⟨ret_bool Hlt.out, by rw [Heg.out]; exact bf⟩
  · have b6 := below_two (below_two (alloc_below w2 _) (drew_below _)) hb6
    have bf := Hbw2.out.trans ((((below_two b6 hb7).setCell (p := ⟨w2.heap.size, 0, none⟩) (Nat.le_refl _) (.slice a7 n7 c7)).setCell (p := ⟨w2.heap.size, 1, none⟩) (Nat.le_refl _) (.bool (decide (x + -y < 0)))).mono (by omega))
    obtain ⟨q0, q1⟩ := two_set w7 w2.heap.size (.slice a7 n7 c7) (.bool (decide (x + -y < 0))) _ _ e70 e71
    clear b6 hb6 hb7 hB6 hd7 hd9 e6 e70 e71 e72 e73
    go_wp2_with fail
    go_ret
    exact ⟨ret_bool Hlt.out, by rw [Heg.out]; exact bf⟩
end Go.Proofs.Ytodikaekpncjjaa
