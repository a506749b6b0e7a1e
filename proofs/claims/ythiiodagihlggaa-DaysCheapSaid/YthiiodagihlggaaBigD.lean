/-
  My own work: tranterref01.Add: its contract.
-/
import Derived.Test.YthiiodagihlggaaBigC
namespace Go.Proofs.Ythiiodagihlggaa
open Go.RowKit
set_option linter.unusedVariables false

theorem sg_add {x y : Int} (h : decide (x < 0) = decide (y < 0)) : sg (decide (x < 0)) ((x.natAbs : Int) + y.natAbs) = x + y := by
  by_cases h1 : x < 0
  · rw [decide_eq_true h1] at h ⊢
    have h2 : y < 0 := by simpa using h.symm
    simp [sg]; omega
  · rw [decide_eq_false h1] at h ⊢
    have h2 : ¬ y < 0 := by simpa using h.symm
    simp [sg]; omega
theorem sg_sub {x y : Int} (h : decide (x < 0) ≠ decide (y < 0)) : sg (decide (x < 0)) ((x.natAbs : Int) - y.natAbs) = x + y := by
  by_cases h1 : x < 0
  · rw [decide_eq_true h1] at h ⊢
    have h2 : ¬ y < 0 := by simpa using h
    simp [sg]; omega
  · rw [decide_eq_false h1] at h ⊢
    have h2 : y < 0 := by simpa using h
    simp [sg]; omega

theorem add_keep {w0 w w' : World} {g : Nat} {v0 v1 v2 v3 : Value}
    (h : w.cell? ⟨g, 0, none⟩ = some v0 ∧ w.cell? ⟨g, 1, none⟩ = some v1 ∧ w.cell? ⟨g + 1, 0, none⟩ = some v2 ∧ w.cell? ⟨g + 1, 1, none⟩ = some v3 ∧ g + 1 + 1 ≤ w.heap.size ∧ Below (g + 1 + 1) w0 w) (hb : Below w.heap.size w w') :
    w'.cell? ⟨g, 0, none⟩ = some v0 ∧ w'.cell? ⟨g, 1, none⟩ = some v1 ∧ w'.cell? ⟨g + 1, 0, none⟩ = some v2 ∧ w'.cell? ⟨g + 1, 1, none⟩ = some v3 ∧ g + 1 + 1 ≤ w'.heap.size ∧ Below (g + 1 + 1) w0 w' := by
  obtain ⟨h0, h1, h2, h3, h4, h5⟩ := h
  exact ⟨cell_below hb h0, cell_below hb h1, cell_below hb h2, cell_below hb h3, Nat.le_trans h4 hb.size, h5.trans (hb.mono h4)⟩
theorem add_store {w0 w : World} {g : Nat} {v0 v1 v2 v3 u v : Value}
    (h : w.cell? ⟨g, 0, none⟩ = some v0 ∧ w.cell? ⟨g, 1, none⟩ = some v1 ∧ w.cell? ⟨g + 1, 0, none⟩ = some v2 ∧ w.cell? ⟨g + 1, 1, none⟩ = some v3 ∧ g + 1 + 1 ≤ w.heap.size ∧ Below (g + 1 + 1) w0 w) :
    ((w.setCell ⟨g + 1 + 1, 0, none⟩ u).setCell ⟨g + 1 + 1, 1, none⟩ v).cell? ⟨g, 0, none⟩ = some v0 ∧ ((w.setCell ⟨g + 1 + 1, 0, none⟩ u).setCell ⟨g + 1 + 1, 1, none⟩ v).cell? ⟨g, 1, none⟩ = some v1 ∧
      ((w.setCell ⟨g + 1 + 1, 0, none⟩ u).setCell ⟨g + 1 + 1, 1, none⟩ v).cell? ⟨g + 1, 0, none⟩ = some v2 ∧ ((w.setCell ⟨g + 1 + 1, 0, none⟩ u).setCell ⟨g + 1 + 1, 1, none⟩ v).cell? ⟨g + 1, 1, none⟩ = some v3 ∧
      g + 1 + 1 ≤ ((w.setCell ⟨g + 1 + 1, 0, none⟩ u).setCell ⟨g + 1 + 1, 1, none⟩ v).heap.size ∧ Below (g + 1 + 1) w0 ((w.setCell ⟨g + 1 + 1, 0, none⟩ u).setCell ⟨g + 1 + 1, 1, none⟩ v) := by
  obtain ⟨h0, h1, h2, h3, h4, h5⟩ := h
  refine ⟨?_, ?_, ?_, ?_, by simp [World.setCell]; exact h4, (h5.setCell (p := ⟨g + 1 + 1, 0, none⟩) (Nat.le_refl _) u).setCell (p := ⟨g + 1 + 1, 1, none⟩) (Nat.le_refl _) v⟩ <;>
    (rw [World.cell?_setCell_other _ _ _ _ (by simp <;> omega), World.cell?_setCell_other _ _ _ _ (by simp <;> omega)]; assumption)

theorem res_keep {w w' : World} {B : Nat} {u v : Value} (h : w.cell? ⟨B, 0, none⟩ = some u ∧ w.cell? ⟨B, 1, none⟩ = some v ∧ w.frozen? ⟨B, 0, none⟩ = false ∧ w.frozen? ⟨B, 1, none⟩ = false) (hb : Below w.heap.size w w') :
    w'.cell? ⟨B, 0, none⟩ = some u ∧ w'.cell? ⟨B, 1, none⟩ = some v ∧ w'.frozen? ⟨B, 0, none⟩ = false ∧ w'.frozen? ⟨B, 1, none⟩ = false := by
  obtain ⟨h4, h5, h6, h7⟩ := h
  exact ⟨cell_below hb h4, cell_below hb h5, (hb.frozen (p := ⟨B, 0, none⟩) (World.block_lt_of_cell? w _ h4)).trans h6, (hb.frozen (p := ⟨B, 1, none⟩) (World.block_lt_of_cell? w _ h5)).trans h7⟩

/-- What Add answers. -/
def AddOut (w : World) (x : Int) (L : Nat) (e : Ending) (w' : World) : Prop := ∃ v, e = .returned v ∧ IsBig w' v x L ∧ Below w.heap.size w w'

theorem add_fin {w w3 w6 w7 : World} {B g : Nat} {a6 : Option Addr} {n6 c6 m : Nat} {neg' : Bool} {cs : List Int} {z X : Int} {K LL : Nat} (hg : w.heap.size = g) (hs : g + 1 + 1 < w3.heap.size) (hbw3 : Below g w w3)
    (hown : Own w6 B (.slice a6 n6 c6) cs) (hB0 : g + 1 + 1 < B) (hb6 : Below w3.heap.size w3 w6) (hb7 : Below w6.heap.size w6 w7) (hm : m ≤ n6) (hB : IsBig w6 (.agg #[.slice a6 m c6, .bool neg']) z K) (hz : z = X) (hK : K ≤ LL) :
    AddOut w X LL (.returned (.agg #[.slice a6 m c6, .bool neg'])) ((w7.setCell ⟨g + 1 + 1, 0, none⟩ (.slice a6 m c6)).setCell ⟨g + 1 + 1, 1, none⟩ (.bool neg')) := by
  subst hz
  have h7 := hown.below hb7
  have h8 := h7.kept (grownBy_setCell w7 ⟨g + 1 + 1, 0, none⟩ (.slice a6 m c6)) (h7.not hB0)
  have h9 := h8.kept (grownBy_setCell _ ⟨g + 1 + 1, 1, none⟩ (.bool neg')) (h8.not hB0)
  have b6 := hbw3.trans (hb6.mono (by omega))
  have b7 := b6.trans (hb7.mono (by have := hb6.size; omega))
  exact ⟨_, rfl, (hB.mono hK).move hm hown.ints h9.ints, by rw [hg]; exact (b7.setCell (p := ⟨g + 1 + 1, 0, none⟩) (by simp; omega) _).setCell (p := ⟨g + 1 + 1, 1, none⟩) (by simp; omega) _⟩

set_option maxHeartbeats 3200000 in
theorem bigAdd_is (va vb : Value) (x y : Int) (L M : Nat) (w : World) (ha : IsBig w va x L) (hb : IsBig w vb y M) (hL : L ≤ 1000) (hM : M ≤ 1000) :
    Calls Try.prog 40 #[va, vb] w (AddOut w (x + y) (max L M + 1)) := by
  obtain ⟨dv, ds, rfl, hd, hdg, hnm, hv, hl⟩ := ha
  obtain ⟨dv', ds', rfl, hd', hdg', hnm', hv', hl'⟩ := hb
  obtain ⟨a, n, c, rfl, _, _, _⟩ := hd.open
  obtain ⟨a', n', c', rfl, _, _, _⟩ := hd'.open
  have Hxy : Hid (decide (x < 0) = decide (y < 0) → sg (decide (x < 0)) ((x.natAbs : Int) + y.natAbs) = x + y) := Lib.hid sg_add
  have Hxs : Hid (decide (x < 0) ≠ decide (y < 0) → sg (decide (x < 0)) ((x.natAbs : Int) - y.natAbs) = x + y) := Lib.hid sg_sub
  have Hys : Hid (decide (y < 0) ≠ decide (x < 0) → sg (decide (y < 0)) ((y.natAbs : Int) - x.natAbs) = x + y) := Lib.hid (fun h => by rw [sg_sub h, Int.add_comm])
  obtain ⟨w1, ew, hb1, hs1, c0, c1, f0, f1⟩ := box_two w (.slice a n c) (.bool (decide (x < 0))) 63
  obtain ⟨w2, ew2, hb2, hs2, d0, d1, _, _⟩ := box_two w1 (.slice a' n' c') (.bool (decide (y < 0))) 63
  obtain ⟨w3, ew3, hb3, hs3, e0, e1, k0, k1⟩ := box_two w2 (.slice none 0 0) (.bool false) 63
  have hbw2 := hb1.trans (hb2.mono hb1.size)
  have hbw3 := hbw2.trans (hb3.mono hbw2.size)
  have c0' := cell_below hb3 (cell_below hb2 c0)
  have c1' := cell_below hb3 (cell_below hb2 c1)
  have d0' := cell_below hb3 d0
  have d1' := cell_below hb3 d1
  have hs : w3.heap.size = w.heap.size + 3 := by omega
  rw [hs2, hs1] at e0 e1 k0 k1
  rw [hs1] at d0' d1'
  have Hd := Lib.hid (hd.below hbw3)
  have Hd' := Lib.hid (hd'.below hbw3)
  have Hew := Lib.hid ew
  have Hew2 := Lib.hid ew2
  have Hew3 := Lib.hid ew3
  have H := Lib.hid (And.intro hdg (And.intro hnm (And.intro hv (And.intro hl (And.intro hdg' (And.intro hnm' (And.intro hv' hl')))))))
  generalize hsx : decide (x < 0) = sx at *
  generalize hsy : decide (y < 0) = sy at *
  clear ew ew2 ew3 hd hd' hdg hnm hv hl hdg' hnm' hv' hl' hb1 hb2 hb3 hbw2 c0 c1 d0 d1 f0 f1 hs2 hs1 hs3 hsx hsy
  have Hb := Lib.hid hbw3
  clear hbw3
  by_cases hsame : sx = sy
  · have hsame' : (sx == sy) = true := by rw [hsame]; simp
    have Hsame := Lib.hid hsame
    clear hsame
    go_enter Try.func40, Try.ntmps40
    go_wp2_with fail
    rw [Hew.out, Hew2.out, Hew3.out]
    go_wp2_with fail
    generalize eg : w.heap.size = g at *
    have Heg := Lib.hid eg
    clear eg
    have hd9 := And.intro c0' (And.intro c1' (And.intro d0' (And.intro d1' (And.intro (show g + 1 + 1 ≤ w3.heap.size by omega) (Below.refl (g + 1 + 1) w3)))))
    have He := Lib.hid (And.intro e0 (And.intro e1 (And.intro k0 k1)))
    clear c0' c1' d0' d1' e0 e1 k0 k1
    go_region_held3 (fun w' => w'.cell? ⟨g, 0, none⟩ = some (.slice a n c) ∧ w'.cell? ⟨g, 1, none⟩ = some (.bool sx) ∧ w'.cell? ⟨g + 1, 0, none⟩ = some (.slice a' n' c') ∧ w'.cell? ⟨g + 1, 1, none⟩ = some (.bool sy) ∧ g + 1 + 1 ≤ w'.heap.size ∧ Below (g + 1 + 1) w3 w')
      (first | exact add_keep (by assumption) (by assumption) | exact add_keep (by assumption) (drew_below _) | exact add_store (by assumption))
      (first
        | (go_at_call 44; refine (plus_is (.slice a n c) (.slice a' n' c') ds ds' _ ?_ ?_ ?_ ?_ ?_ ?_).mono ?_; exact Hd.out.below (drew_below _); exact Hd'.out.below (drew_below _); exact H.out.1; exact H.out.2.2.2.2.1; exact Nat.le_trans H.out.2.2.2.1 hL; exact Nat.le_trans H.out.2.2.2.2.2.2.2 hM; rintro e w6 ⟨v, cs, rfl, hown, hdg, hdv, hlen, hb6⟩; obtain ⟨a6, n6, c6, rfl, _, _, _⟩ := hown.ints.open)
        | (go_at_call 43; refine (trim_is a6 n6 c6 cs sx _ ?_ ?_).mono ?_; exact hown.ints; exact hdg; rintro e w7 ⟨m, neg', rfl, hm, hB, hb7⟩; obtain ⟨e0', e1', k0', k1'⟩ := res_keep (res_keep He.out ((drew_below w3).trans hb6)) hb7))
    obtain ⟨q0, q1⟩ := two_set w7 (g + 1 + 1) (.slice a6 m c6) (.bool neg') _ _ e0' e1'
    have Hfin := Lib.hid (add_fin (X := x + y) (LL := max L M + 1) Heg.out (by omega) Hb.out hown (show g + 1 + 1 < w3.drew.heap.size by rw [show w3.drew.heap.size = w3.heap.size from rfl]; omega) ((drew_below w3).trans hb6) hb7 hm hB (by rw [hdv, H.out.2.2.1, H.out.2.2.2.2.2.2.1, Hxy.out Hsame.out]) (by have h1 := H.out.2.2.2.1; have h2 := H.out.2.2.2.2.2.2.2; omega))
    clear hown hdg hdv hlen hb6 hb7 hB e0' e1' k0' k1' hd9 hm
    go_wp2_with fail
    exact bodyPost_ret (v := .agg #[.slice a6 m c6, .bool neg']) (by simp [results, Try.results40, go_sem, q0, q1]) rfl Hfin.out
  · have hsame' : (sx == sy) = false := by simpa using hsame
    have Hsame := Lib.hid hsame
    clear hsame
    go_enter Try.func40, Try.ntmps40
    go_wp2_with fail
    rw [Hew.out, Hew2.out, Hew3.out]
    go_wp2_with fail
    refine (size_is (.slice a n c) (.slice a' n' c') ds ds' w3 Hd.out Hd'.out H.out.1 H.out.2.2.2.2.1 H.out.2.1 H.out.2.2.2.2.2.1).mono ?_
    rintro e w4 ⟨rfl, hb4⟩
    generalize eg : w.heap.size = g at *
    have Heg := Lib.hid eg
    clear eg
    have Hd4 := Lib.hid (Hd.out.below hb4)
    have Hd4' := Lib.hid (Hd'.out.below hb4)
    have c0'' := cell_below hb4 c0'
    have c1'' := cell_below hb4 c1'
    have d0'' := cell_below hb4 d0'
    have d1'' := cell_below hb4 d1'
    obtain ⟨e0'', e1'', k0'', k1''⟩ := res_keep ⟨e0, e1, k0, k1⟩ hb4
    have hs4 : g + 3 ≤ w4.heap.size := by have := hb4.size; omega
    have Hbw4 := Lib.hid (Hb.out.trans (hb4.mono (by omega)))
    clear c0' c1' d0' d1' e0 e1 k0 k1 hb4
    by_cases hle : dval ds' ≤ dval ds
    · have hge : decide (0 ≤ cmpI (dval ds) (dval ds')) = true := by
        by_cases h : dval ds = dval ds'
        · rw [cmpI_eq h]; rfl
        · rw [cmpI_gt (by omega)]; rfl
      have hll : ds'.length ≤ ds.length := by
        by_cases h : ds'.length ≤ ds.length
        · exact h
        · have := shorter_lt H.out.1 H.out.2.2.2.2.1 H.out.2.2.2.2.2.1 (by omega); omega
      have Hll := Lib.hid hll
      have Hle := Lib.hid hle
      clear hle hll
      generalize cmpI (dval ds) (dval ds') = cm at *
      go_wp2_with fail
      have hd9 := And.intro c0'' (And.intro c1'' (And.intro d0'' (And.intro d1'' (And.intro (show g + 1 + 1 ≤ w4.heap.size by omega) (Below.refl (g + 1 + 1) w4)))))
      have He := Lib.hid (And.intro e0'' (And.intro e1'' (And.intro k0'' k1'')))
      clear c0'' c1'' d0'' d1'' e0'' e1'' k0'' k1''
      go_region_held3 (fun w' => w'.cell? ⟨g, 0, none⟩ = some (.slice a n c) ∧ w'.cell? ⟨g, 1, none⟩ = some (.bool sx) ∧ w'.cell? ⟨g + 1, 0, none⟩ = some (.slice a' n' c') ∧ w'.cell? ⟨g + 1, 1, none⟩ = some (.bool sy) ∧ g + 1 + 1 ≤ w'.heap.size ∧ Below (g + 1 + 1) w4 w')
        (first | exact add_keep (by assumption) (by assumption) | exact add_keep (by assumption) (drew_below _) | exact add_store (by assumption))
        (first
          | (go_at_call 45; refine (minus_is (.slice a n c) (.slice a' n' c') ds ds' _ ?_ ?_ ?_ ?_ ?_ ?_ ?_).mono ?_; exact Hd4.out.below (drew_below _); exact Hd4'.out.below (drew_below _); exact H.out.1; exact H.out.2.2.2.2.1; exact Nat.le_trans H.out.2.2.2.1 hL; exact Hll.out; exact Hle.out; rintro e w6 ⟨v, cs, rfl, hown, hdg, hdv, hlen, hb6⟩; obtain ⟨a6, n6, c6, rfl, _, _, _⟩ := hown.ints.open)
          | (go_at_call 43; refine (trim_is a6 n6 c6 cs sx _ ?_ ?_).mono ?_; exact hown.ints; exact hdg; rintro e w7 ⟨m, neg', rfl, hm, hB, hb7⟩; obtain ⟨e0', e1', k0', k1'⟩ := res_keep (res_keep He.out ((drew_below w4).trans hb6)) hb7))
      obtain ⟨q0, q1⟩ := two_set w7 (g + 1 + 1) (.slice a6 m c6) (.bool neg') _ _ e0' e1'
      have Hfin := Lib.hid (add_fin (X := x + y) (LL := max L M + 1) Heg.out (by omega) Hbw4.out hown (show g + 1 + 1 < w4.drew.heap.size by rw [show w4.drew.heap.size = w4.heap.size from rfl]; omega) ((drew_below w4).trans hb6) hb7 hm hB (by rw [hdv, H.out.2.2.1, H.out.2.2.2.2.2.2.1, Hxs.out Hsame.out]) (by have h1 := H.out.2.2.2.1; have h2 := H.out.2.2.2.2.2.2.2; omega))
      clear hown hdg hdv hlen hb6 hb7 hB e0' e1' k0' k1' hd9 hm
      go_wp2_with fail
      exact bodyPost_ret (v := .agg #[.slice a6 m c6, .bool neg']) (by simp [results, Try.results40, go_sem, q0, q1]) rfl Hfin.out
    · have hge : decide (0 ≤ cmpI (dval ds) (dval ds')) = false := by rw [cmpI_lt (by omega)]; rfl
      have hle' : dval ds ≤ dval ds' := by omega
      have hll : ds.length ≤ ds'.length := by
        by_cases h : ds.length ≤ ds'.length
        · exact h
        · have := shorter_lt H.out.2.2.2.2.1 H.out.1 H.out.2.1 (by omega); omega
      have Hll := Lib.hid hll
      have Hle := Lib.hid hle'
      clear hle hll hle'
      generalize cmpI (dval ds) (dval ds') = cm at *
      go_wp2_with fail
      have hd9 := And.intro c0'' (And.intro c1'' (And.intro d0'' (And.intro d1'' (And.intro (show g + 1 + 1 ≤ w4.heap.size by omega) (Below.refl (g + 1 + 1) w4)))))
      have He := Lib.hid (And.intro e0'' (And.intro e1'' (And.intro k0'' k1'')))
      clear c0'' c1'' d0'' d1'' e0'' e1'' k0'' k1''
      go_region_held3 (fun w' => w'.cell? ⟨g, 0, none⟩ = some (.slice a n c) ∧ w'.cell? ⟨g, 1, none⟩ = some (.bool sx) ∧ w'.cell? ⟨g + 1, 0, none⟩ = some (.slice a' n' c') ∧ w'.cell? ⟨g + 1, 1, none⟩ = some (.bool sy) ∧ g + 1 + 1 ≤ w'.heap.size ∧ Below (g + 1 + 1) w4 w')
        (first | exact add_keep (by assumption) (by assumption) | exact add_keep (by assumption) (drew_below _) | exact add_store (by assumption))
        (first
          | (go_at_call 45; refine (minus_is (.slice a' n' c') (.slice a n c) ds' ds _ ?_ ?_ ?_ ?_ ?_ ?_ ?_).mono ?_; exact Hd4'.out.below (drew_below _); exact Hd4.out.below (drew_below _); exact H.out.2.2.2.2.1; exact H.out.1; exact Nat.le_trans H.out.2.2.2.2.2.2.2 hM; exact Hll.out; exact Hle.out; rintro e w6 ⟨v, cs, rfl, hown, hdg, hdv, hlen, hb6⟩; obtain ⟨a6, n6, c6, rfl, _, _, _⟩ := hown.ints.open)
          | (go_at_call 43; refine (trim_is a6 n6 c6 cs sy _ ?_ ?_).mono ?_; exact hown.ints; exact hdg; rintro e w7 ⟨m, neg', rfl, hm, hB, hb7⟩; obtain ⟨e0', e1', k0', k1'⟩ := res_keep (res_keep He.out ((drew_below w4).trans hb6)) hb7))
      obtain ⟨q0, q1⟩ := two_set w7 (g + 1 + 1) (.slice a6 m c6) (.bool neg') _ _ e0' e1'
      have Hfin := Lib.hid (add_fin (X := x + y) (LL := max L M + 1) Heg.out (by omega) Hbw4.out hown (show g + 1 + 1 < w4.drew.heap.size by rw [show w4.drew.heap.size = w4.heap.size from rfl]; omega) ((drew_below w4).trans hb6) hb7 hm hB (by rw [hdv, H.out.2.2.1, H.out.2.2.2.2.2.2.1, Hys.out (fun h => Hsame.out h.symm)]) (by have h1 := H.out.2.2.2.1; have h2 := H.out.2.2.2.2.2.2.2; omega))
      clear hown hdg hdv hlen hb6 hb7 hB e0' e1' k0' k1' hd9 hm
      go_wp2_with fail
      exact bodyPost_ret (v := .agg #[.slice a6 m c6, .bool neg']) (by simp [results, Try.results40, go_sem, q0, q1]) rfl Hfin.out
end Go.Proofs.Ythiiodagihlggaa
