/-
  My own work: tranterref01.Of: its contract.
-/
import Derived.Test.YthiiodagihlggaaBigD
import Derived.Deep.AppendLies
namespace Go.Proofs.Ythiiodagihlggaa
open Go.RowKit
set_option linter.unusedVariables false

theorem of_step {n m : Int} {ds : List Int} (hd : Dg ds) (hm : m ≠ 0) (h : dval ds + pw ds.length * (m.natAbs : Int) = (n.natAbs : Int)) (hf : fitsI n = true) :
    ds.length ≤ 3 ∧ ((m.tmod 65536).natAbs : Int) < 65536 ∧ Dg (ds ++ [((m.tmod 65536).natAbs : Int)]) ∧ dval (ds ++ [((m.tmod 65536).natAbs : Int)]) + pw (ds ++ [((m.tmod 65536).natAbs : Int)]).length * ((m.tdiv 65536).natAbs : Int) = (n.natAbs : Int) ∧
      (m.tdiv 65536 = 0 → Nm (ds ++ [((m.tmod 65536).natAbs : Int)])) := by
  have e1 : ((m.tmod 65536).natAbs : Int) = (m.natAbs : Int) % 65536 := by rw [Int.natAbs_tmod]; rfl
  have e2 : ((m.tdiv 65536).natAbs : Int) = (m.natAbs : Int) / 65536 := by rw [Int.natAbs_tdiv]; rfl
  rw [e1, e2]
  have hp := dval_bd hd
  have hpw := pw_pos ds.length
  have hl : ds.length ≤ 3 := by
    by_cases hl : ds.length ≤ 3
    · exact hl
    · have h4 := pw_le (show 4 ≤ ds.length by omega)
      have e4 : pw 4 = 18446744073709551616 := by decide
      rw [fitsI_iff] at hf
      have : pw ds.length * 1 ≤ pw ds.length * (m.natAbs : Int) := Int.mul_le_mul_of_nonneg_left (by omega) (by omega)
      omega
  refine ⟨hl, by omega, hd.snoc (by omega) (by omega), ?_, ?_⟩
  · rw [dval_snoc, List.length_append, List.length_singleton, pw_add, show pw 1 = 65536 by decide, ← h, Int.mul_assoc]
    have := Int.emod_add_mul_ediv (m.natAbs : Int) 65536
    rw [Int.add_assoc, ← Int.mul_add]
    rw [this]
  · intro h0 _
    rw [List.length_append, List.length_singleton, Nat.add_sub_cancel, nth_append_here]
    have : ((m.tdiv 65536).natAbs : Int) = 0 := by rw [h0]; rfl
    rw [e2] at this
    omega

theorem of_div {m : Int} (hf : fitsI m = true) : wrap64 (m.tdiv 65536) = m.tdiv 65536 ∧ fitsI (m.tdiv 65536) = true ∧ (m ≠ 0 → (m.tdiv 65536).natAbs < m.natAbs) := by
  have e2 : ((m.tdiv 65536).natAbs : Int) = (m.natAbs : Int) / 65536 := by rw [Int.natAbs_tdiv]; rfl
  rw [fitsI_iff] at hf
  have h : -9223372036854775808 ≤ m.tdiv 65536 ∧ m.tdiv 65536 ≤ 9223372036854775807 := by omega
  exact ⟨wrap_id h.1 h.2, fitsI_iff.2 h, fun h0 => by omega⟩
theorem res_grown {w w' : World} {B : Nat} {r : Option Nat} {u v : Value} (h : w.cell? ⟨B, 0, none⟩ = some u ∧ w.cell? ⟨B, 1, none⟩ = some v ∧ w.frozen? ⟨B, 0, none⟩ = false ∧ w.frozen? ⟨B, 1, none⟩ = false) (hg : w.grownBy w' r) (hne : some B ≠ r) :
    w'.cell? ⟨B, 0, none⟩ = some u ∧ w'.cell? ⟨B, 1, none⟩ = some v ∧ w'.frozen? ⟨B, 0, none⟩ = false ∧ w'.frozen? ⟨B, 1, none⟩ = false := by
  obtain ⟨h4, h5, h6, h7⟩ := h
  exact ⟨hg.cell h4 hne, hg.cell h5 hne, (hg.frozen_far ⟨B, 0, none⟩ (World.block_lt_of_cell? w _ h4) hne).trans h6, (hg.frozen_far ⟨B, 1, none⟩ (World.block_lt_of_cell? w _ h5) hne).trans h7⟩

set_option maxHeartbeats 3200000 in
theorem of_is (n : Int) (w : World) (hf : fitsI n = true) :
    Calls Try.prog 41 #[.int .i64 n] w (AddOut w n 4) := by
  obtain ⟨w1, ew, hb1, hs1, c0, c1, f0, f1⟩ := box_two w (.slice none 0 0) (.bool false) 63
  obtain ⟨neg, hneg⟩ : ∃ neg, decide (n < 0) = neg := ⟨_, rfl⟩
  obtain ⟨w2, ew2, hb2, hs2, d0, d1, k0, k1⟩ := box_two w1 (.slice none 0 0) (.bool neg) 63
  have Hew := Lib.hid ew
  have Hew2 := Lib.hid ew2
  have Hf := Lib.hid hf
  clear ew ew2 hf
  have hb := hb1.trans (hb2.mono hb1.size)
  obtain ⟨c0', c1', f0', f1'⟩ := res_keep ⟨c0, c1, f0, f1⟩ hb2
  rw [hs1] at d0 d1 k0 k1
  have Hneg := Lib.hid hneg
  go_enter Try.func41, Try.ntmps41
  go_wp2_with fail
  rw [Hew.out, Hew2.out]
  generalize eg : w.heap.size = g at *
  have Heg := Lib.hid eg
  clear eg
  clear hneg
  have hown0 := Own.nil w2 (g + 1 + 1)
  have hgg : g + 1 + 1 ≤ w2.heap.size := by omega
  go_loopw [0, 4] (fun i u wr => ∃ (m : Int) (ds : List Int) (v d : Value), i = .int .i64 m ∧ u = d ∧ wr.cell? ⟨g + 1, 0, none⟩ = some v ∧ wr.cell? ⟨g + 1, 1, none⟩ = some (.bool neg) ∧ wr.frozen? ⟨g + 1, 0, none⟩ = false ∧ wr.frozen? ⟨g + 1, 1, none⟩ = false ∧
      wr.cell? ⟨g, 0, none⟩ = some (.slice none 0 0) ∧ wr.cell? ⟨g, 1, none⟩ = some (.bool false) ∧ wr.frozen? ⟨g, 0, none⟩ = false ∧ wr.frozen? ⟨g, 1, none⟩ = false ∧ Own wr (g + 1 + 1) v ds ∧ Dg ds ∧
      dval ds + pw ds.length * (m.natAbs : Int) = (n.natAbs : Int) ∧ (m = 0 → Nm ds) ∧ fitsI m = true ∧ ds.length ≤ 4 ∧ g + 1 + 1 ≤ wr.heap.size ∧ Below g w wr) (fun i _ _ => (intOf i).natAbs)
  case atStart => exact ⟨n, [], _, _, rfl, rfl, d0, d1, k0, k1, c0', c1', f0', f1', hown0, Dg.nil, by simp [dval, pw], fun _ => nm_nil, Hf.out, by simp, hgg, hb⟩
  case round =>
    clear d0 d1 k0 k1 c0' c1' f0' f1' hown0 hb hgg
    obtain ⟨m, ds, v, d, rfl, rfl, d0, d1, k0, k1, c0, c1, f0, f1, hown, hdg, hv, hnm, hfm, hl, hgg, hb⟩ := hrel
    obtain ⟨a, n1, c, rfl, hn1, _, _⟩ := hown.ints.open
    have Hown := Lib.hid hown
    have Hdg := Lib.hid hdg
    have Hv := Lib.hid hv
    have Hnm := Lib.hid hnm
    have Hfm := Lib.hid hfm
    have Hl := Lib.hid hl
    have Hn1 := Lib.hid hn1
    clear hown hdg hv hnm hfm hl hn1
    by_cases hm0 : m = 0
    · subst hm0
      obtain ⟨q0, q1⟩ := two_set wr g (.slice a n1 c) (.bool neg) _ _ c0 c1
      have H8 := Hown.out.kept (grownBy_setCell wr ⟨g, 0, none⟩ (.slice a n1 c)) (Own.not Hown.out (show g < g + 1 + 1 by omega))
      have H9 := Lib.hid (H8.kept (grownBy_setCell _ ⟨g, 1, none⟩ (.bool neg)) (H8.not (show g < g + 1 + 1 by omega)))
      have Hb := Lib.hid ((hb.setCell (p := ⟨g, 0, none⟩) (Nat.le_refl _) (.slice a n1 c)).setCell (p := ⟨g, 1, none⟩) (Nat.le_refl _) (.bool neg))
      clear H8
      go_wp2_with fail
      exact bodyPost_ret (v := .agg #[.slice a n1 c, .bool neg]) (by simp [results, Try.results41, go_sem, q0, q1]) rfl ⟨_, rfl, ⟨_, ds, by rw [Hneg.out], H9.out.ints, Hdg.out, (by first | exact Hnm.out trivial | exact Hnm.out rfl | simpa using Hnm.out), by have := Hv.out; simpa using this, Hl.out⟩, by rw [Heg.out]; exact Hb.out⟩
    · have hm0' : (m != 0) = true := by simpa using hm0
      have Hst := Lib.hid (of_step Hdg.out hm0 Hv.out Hf.out)
      clear hm0
      obtain ⟨D, hD⟩ : ∃ D : Int, D = ((m.tmod 65536).natAbs : Int) := ⟨_, rfl⟩
      rw [← hD] at Hst
      have Hlen : Hid (ds.length + 1 ≤ 17592186044416) := Lib.hid (by have := Hst.out.1; omega)
      by_cases hlt : m.tmod 65536 < 0
      · have hw : wrap64 (-m.tmod 65536) = D := by rw [wrap_id (by omega) (by have := Hst.out.2.1; omega)]; omega
        have hlt' : decide (m.tmod 65536 < 0) = true := by simpa using hlt
        clear hlt hD
        go_wp2_with (at_builtin; refine wpList_push rfl _ _ rfl wr (g + 1 + 1) (.slice a n1 c) ds D rfl rfl Hown.out Hlen.out hgg ?_)
        intro v' w5 hown5 g5 hb5
        obtain ⟨a2, n2, c2, rfl, _, _, _⟩ := hown5.ints.open
        obtain ⟨d0', d1', k0', k1'⟩ := res_grown ⟨d0, d1, k0, k1⟩ g5 (Own.not' Hown.out (Nat.lt_succ_self _))
        obtain ⟨c0', c1', f0', f1'⟩ := res_grown ⟨c0, c1, f0, f1⟩ g5 (Own.not' Hown.out (by omega))
        have hsz5 := World.block_lt_of_cell? w5 _ d0'
        have hbw5 := hb.trans (hb5.mono (by omega))
        clear d0 d1 k0 k1 c0 c1 f0 f1 hb5 g5 hb
        have Hown5 := Lib.hid hown5
        clear hown5
        have Hb := Lib.hid (hbw5.setCell (p := ⟨g + 1, 0, none⟩) (Nat.le_succ _) (.slice a2 n2 c2))
        have Ho := Lib.hid (Hown5.out.kept (grownBy_setCell w5 ⟨g + 1, 0, none⟩ (.slice a2 n2 c2)) (Own.not Hown5.out (show g + 1 < g + 1 + 1 by omega)))
        clear hbw5
        go_wp2_with fail
        go_roundw
        case rel =>
          obtain ⟨t1, t2, t3⟩ := of_div Hfm.out
          refine ⟨m.tdiv 65536, ds ++ [D], .slice a2 n2 c2, .int .i64 D, by rw [t1], rfl, World.cell?_setCell_same _ _ _ d0', ?_, ?_, ?_, ?_, ?_, ?_, ?_, Ho.out, Hst.out.2.2.1, Hst.out.2.2.2.1, Hst.out.2.2.2.2, t2, by rw [List.length_append]; have := Hst.out.1; simp; omega, by simp [World.setCell]; exact hsz5, Hb.out⟩ <;>
            first | (rw [World.frozen?_setCell]; assumption) | (rw [World.cell?_setCell_other _ _ _ _ (by simp)]; assumption)
        case measure =>
          obtain ⟨t1, t2, t3⟩ := of_div Hfm.out
          rw [t1]
          simp only [intOf]
          exact t3 (by simpa using hm0')
      · have hw : m.tmod 65536 = D := by omega
        have hlt' : decide (D < 0) = false := by have : ¬ D < 0 := by omega
                                                 simpa using this
        clear hlt hD
        go_wp2_with (at_builtin; refine wpList_push rfl _ _ rfl wr (g + 1 + 1) (.slice a n1 c) ds D rfl rfl Hown.out Hlen.out hgg ?_)
        intro v' w5 hown5 g5 hb5
        obtain ⟨a2, n2, c2, rfl, _, _, _⟩ := hown5.ints.open
        obtain ⟨d0', d1', k0', k1'⟩ := res_grown ⟨d0, d1, k0, k1⟩ g5 (Own.not' Hown.out (Nat.lt_succ_self _))
        obtain ⟨c0', c1', f0', f1'⟩ := res_grown ⟨c0, c1, f0, f1⟩ g5 (Own.not' Hown.out (by omega))
        have hsz5 := World.block_lt_of_cell? w5 _ d0'
        have hbw5 := hb.trans (hb5.mono (by omega))
        clear d0 d1 k0 k1 c0 c1 f0 f1 hb5 g5 hb
        have Hown5 := Lib.hid hown5
        clear hown5
        have Hb := Lib.hid (hbw5.setCell (p := ⟨g + 1, 0, none⟩) (Nat.le_succ _) (.slice a2 n2 c2))
        have Ho := Lib.hid (Hown5.out.kept (grownBy_setCell w5 ⟨g + 1, 0, none⟩ (.slice a2 n2 c2)) (Own.not Hown5.out (show g + 1 < g + 1 + 1 by omega)))
        clear hbw5
        go_wp2_with fail
        go_roundw
        case rel =>
          obtain ⟨t1, t2, t3⟩ := of_div Hfm.out
          refine ⟨m.tdiv 65536, ds ++ [D], .slice a2 n2 c2, .int .i64 D, by rw [t1], rfl, World.cell?_setCell_same _ _ _ d0', ?_, ?_, ?_, ?_, ?_, ?_, ?_, Ho.out, Hst.out.2.2.1, Hst.out.2.2.2.1, Hst.out.2.2.2.2, t2, by rw [List.length_append]; have := Hst.out.1; simp; omega, by simp [World.setCell]; exact hsz5, Hb.out⟩ <;>
            first | (rw [World.frozen?_setCell]; assumption) | (rw [World.cell?_setCell_other _ _ _ _ (by simp)]; assumption)
        case measure =>
          obtain ⟨t1, t2, t3⟩ := of_div Hfm.out
          rw [t1]
          simp only [intOf]
          exact t3 (by simpa using hm0')
end Go.Proofs.Ythiiodagihlggaa
