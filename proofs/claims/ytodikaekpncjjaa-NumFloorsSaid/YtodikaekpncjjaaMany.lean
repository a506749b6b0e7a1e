/-
  My own work: the walk of NumMany.
-/
import Derived.Test.YtodikaekpncjjaaNumLaws
import Derived.Test.YtodikaekpncjjaaBigF
import Derived.Deep.RegionWith
namespace Go.Proofs.Ytodikaekpncjjaa
open Go.RowKit
set_option linter.unusedVariables false

/-- Stores into a block whose cells are a slice and a bool leave every slice of ints. -/
theorem Ints.set2 {w : World} {v : Value} {xs : List Int} {g : Nat} {a0 : Option Addr} {n0 k0 : Nat} {b0 : Bool} (h : Ints w v xs) (h0 : w.cell? ⟨g, 0, none⟩ = some (.slice a0 n0 k0)) (h1 : w.cell? ⟨g, 1, none⟩ = some (.bool b0)) (u u' : Value) :
    Ints ((w.setCell ⟨g, 0, none⟩ u).setCell ⟨g, 1, none⟩ u') v xs := by
  obtain ⟨a, c, hv, h2, h3, hc⟩ := h
  refine ⟨a, c, hv, h2, h3, fun i hi => ?_⟩
  obtain ⟨b, o, ha, h4⟩ := hc i hi
  refine ⟨b, o, ha, ?_⟩
  have e0 : (⟨g, 0, none⟩ : Addr) ≠ ⟨b, o + i, none⟩ := by intro e; rw [← e, h0] at h4; simp at h4
  have e1 : (⟨g, 1, none⟩ : Addr) ≠ ⟨b, o + i, none⟩ := by intro e; rw [← e, h1] at h4; simp at h4
  rw [World.cell?_setCell_other _ _ _ _ e1, World.cell?_setCell_other _ _ _ _ e0]
  exact h4

theorem IsBig.set2 {w : World} {v : Value} {x : Int} {L : Nat} {g : Nat} {a0 : Option Addr} {n0 k0 : Nat} {b0 : Bool} (h : IsBig w v x L) (h0 : w.cell? ⟨g, 0, none⟩ = some (.slice a0 n0 k0)) (h1 : w.cell? ⟨g, 1, none⟩ = some (.bool b0)) (u u' : Value) :
    IsBig ((w.setCell ⟨g, 0, none⟩ u).setCell ⟨g, 1, none⟩ u') v x L := by
  obtain ⟨dv, ds, e, hd, hr⟩ := h
  exact ⟨dv, ds, e, hd.set2 h0 h1 u u', hr⟩
theorem cells_set2 {w : World} {B : Nat} {u v u' v' : Value} (h : w.cell? ⟨B, 0, none⟩ = some u ∧ w.cell? ⟨B, 1, none⟩ = some v ∧ w.frozen? ⟨B, 0, none⟩ = false ∧ w.frozen? ⟨B, 1, none⟩ = false) :
    ((w.setCell ⟨B, 0, none⟩ u').setCell ⟨B, 1, none⟩ v').cell? ⟨B, 0, none⟩ = some u' ∧ ((w.setCell ⟨B, 0, none⟩ u').setCell ⟨B, 1, none⟩ v').cell? ⟨B, 1, none⟩ = some v' ∧
      ((w.setCell ⟨B, 0, none⟩ u').setCell ⟨B, 1, none⟩ v').frozen? ⟨B, 0, none⟩ = false ∧ ((w.setCell ⟨B, 0, none⟩ u').setCell ⟨B, 1, none⟩ v').frozen? ⟨B, 1, none⟩ = false := by
  obtain ⟨h0, h1, h2, h3⟩ := h
  obtain ⟨q0, q1⟩ := two_set w B u' v' _ _ h0 h1
  exact ⟨by rw [World.cell?_setCell_other _ _ _ _ (by simp)]; exact q0, q1, by rw [World.frozen?_setCell, World.frozen?_setCell]; exact h2, by rw [World.frozen?_setCell, World.frozen?_setCell]; exact h3⟩

/-- A variable that is a number: its two cells. -/
def Var (w : World) (g : Nat) (x : Int) (L : Nat) : Prop :=
  ∃ a n c neg, w.cell? ⟨g, 0, none⟩ = some (.slice a n c) ∧ w.cell? ⟨g, 1, none⟩ = some (.bool neg) ∧ w.frozen? ⟨g, 0, none⟩ = false ∧ w.frozen? ⟨g, 1, none⟩ = false ∧ IsBig w (.agg #[.slice a n c, .bool neg]) x L

set_option maxHeartbeats 6400000 in
theorem numMany_walk (qv : Value) (q0 : List Int) (w : World) (hq : Ints w qv q0) (hf0 : ∀ x ∈ q0, fitsI x = true) :
    Calls Try.prog 3 #[qv] w fun e w' => e = .returned (.bool true) ∧ Below w.heap.size w w' := by
  obtain ⟨a, n, c, rfl, hn, hmax, _⟩ := hq.open
  have hcap := hq.cap.1
  obtain ⟨m, hm⟩ : ∃ m : Nat, m = min n 12 := ⟨_, rfl⟩
  have hq' := hq.take (show m ≤ n by omega)
  have hf' : ∀ x ∈ q0.take m, fitsI x = true := fun x hx => hf0 x (List.mem_of_mem_take hx)
  have hl' : (q0.take m).length = m := by rw [List.length_take]; omega
  generalize q0.take m = q at *
  obtain ⟨w1, ew, hb1, hs1, c0, c1, f0, f1⟩ := box_two w (.slice none 0 0) (.bool false) 24
  have Hew := Lib.hid ew
  have Hf := Lib.hid hf'
  have Hl := Lib.hid hl'
  have Hq := Lib.hid hq'
  obtain ⟨a', n', c', he, hn', _, hcell⟩ := hq'.open
  simp only [Value.slice.injEq] at he
  obtain ⟨rfl, h2, rfl⟩ := he
  rw [← h2] at hcell
  have hcell' : ∀ k, k < m → ∃ b o, a = some ⟨b, o, none⟩ ∧ b < w.heap.size ∧ w.cell? ⟨b, o + k, none⟩ = some (.int .i64 (nth q k)) := fun k hk => by
    obtain ⟨b, o, e1, e2⟩ := hcell k hk
    exact ⟨b, o, e1, World.block_lt_of_cell? w _ e2, e2⟩
  have Hcell := Lib.hid hcell'
  have Hv : Hid (Var w1 w.heap.size 0 4) := Lib.hid ⟨_, _, _, _, c0, c1, f0, f1, ⟨_, [], by simp, Ints.nil _, Dg.nil, nm_nil, by simp [dval], by simp⟩⟩
  clear hf' hl' hq' hn' h2 hcell hcell' hf0 hq hn ew c0 c1 f0 f1
  have Hb1 := Lib.hid hb1
  have hsz1 : w.heap.size < w1.heap.size := by omega
  have Hs1 := Lib.hid hs1
  clear hb1 hs1
  have hm12 : m ≤ 12 := by omega
  go_enter Try.func3, Try.ntmps3
  by_cases hgt : 12 < n
  have hmm : m = 12 := by omega
  have hc12 : (12 : Int) ≤ (c : Int) := by omega
  have hgt' : (12 : Int) < (n : Int) := by omega
  have Hm := Lib.hid hm
  have Hmm := Lib.hid hmm
  clear hm hmm hgt
  go_wp2_with fail
  rw [show Value.slice a 12 c = Value.slice a m c by rw [Hmm.out]]
  rotate_left
  have hmm : m = n := by omega
  subst hmm
  have hgt' : (m : Int) ≤ 12 := by omega
  have Hm := Lib.hid hm
  clear hm hgt
  go_wp2_with fail
  all_goals
    rw [Hew.out]
    generalize eg : w.heap.size = g at *
    have Heg := Lib.hid eg
    clear eg
    go_loopw [4] (fun i wr => ∃ (k : Nat), k ≤ m ∧ i = .int .i64 k ∧ Var wr g (q.take k).sum (k + 4) ∧ Below g w wr) (fun i _ => m - (intOf i).toNat)
    case atStart => exact ⟨0, Nat.zero_le _, rfl, by simpa using Hv.out, Hb1.out⟩
    case round =>
      obtain ⟨k, hk, rfl, ⟨ax, nx, cx, neg, c0, c1, f0, f1, hB⟩, hb⟩ := hrel
      by_cases hlt : k < m
      · obtain ⟨b, o, rfl, hbl, hc0⟩ := Hcell.out k hlt
        have hc := cell_lt hb hbl hc0
        have hi0 : (0 : Int) ≤ (k : Int) := by omega
        have hi1 : (k : Int) < (m : Int) := by omega
        have HB := Lib.hid hB
        have Hfk : Hid (fitsI (nth q k) = true) := Lib.hid (Hf.out _ (nth_mem (by rw [Hl.out]; exact hlt)))
        have Hsum : Hid ((q.take (k + 1)).sum = (q.take k).sum + nth q k) := Lib.hid (by rw [take_succ_nth q k (by rw [Hl.out]; exact hlt)]; simp)
        have hsz := World.block_lt_of_cell? wr _ c0
        clear hc0 hB
        go_wp2_with fail
        go_region_with (first
          | (go_at_call 11; refine (of_is _ _ Hfk.out).mono ?_; rintro e w3 ⟨v3, rfl, hB3, hb3⟩; obtain ⟨c03, c13, f03, f13⟩ := res_keep ⟨c0, c1, f0, f1⟩ ((drew_below wr).trans hb3))
          | (go_at_call 10; refine (bigAdd_is _ _ (q.take k).sum (nth q k) (k + 4) 4 _ ?_ ?_ ?_ ?_).mono ?_; exact HB.out.below ((drew_below wr).trans hb3); exact hB3; omega; decide; rintro e w4 ⟨v4, rfl, hB4, hb4⟩; obtain ⟨c04, c14, f04, f14⟩ := res_keep ⟨c03, c13, f03, f13⟩ hb4; have HB4 := Lib.hid hB4; obtain ⟨dv4, ds4, rfl, hd4, _⟩ := hB4; obtain ⟨a4, n4, cc4, rfl, _, _, _⟩ := hd4.open; generalize decide ((q.take k).sum + nth q k < 0) = neg4 at *))
        all_goals
          have b4 := hb.trans ((((drew_below wr).trans hb3).trans (hb4.mono (by have := hb3.size; exact this))).mono (by omega))
          have b5 := Lib.hid ((b4.setCell (p := ⟨g, 0, none⟩) (Nat.le_refl _) (.slice a4 n4 cc4)).setCell (p := ⟨g, 1, none⟩) (Nat.le_refl _) (.bool neg4))
          have hvar : Var ((w4.setCell ⟨g, 0, none⟩ (.slice a4 n4 cc4)).setCell ⟨g, 1, none⟩ (.bool neg4)) g (q.take (k + 1)).sum (k + 1 + 4) := by
            obtain ⟨y0, y1, y2, y3⟩ := cells_set2 (u' := .slice a4 n4 cc4) (v' := .bool neg4) ⟨c04, c14, f04, f14⟩
            exact ⟨_, _, _, _, y0, y1, y2, y3, by rw [Hsum.out]; exact (HB4.out.mono (by omega)).set2 c04 c14 _ _⟩
          have Hvar := Lib.hid hvar
          clear hvar b4 hB3 hb3 c03 c13 f03 f13 hb4 c04 c14 f04 f14 hd4 c0 c1 f0 f1 hc hb
          go_wp2_with fail
          go_roundw
          case rel => exact ⟨k + 1, by omega, by go_num, Hvar.out, b5.out⟩
          case measure => simp [intOf]; omega
      · have hkm : k = m := by omega
        subst hkm
        have hall : (q.take k).sum = q.sum := by rw [List.take_of_length_le (by rw [Hl.out]; exact Nat.le_refl _)]
        rw [hall] at hB
        have HB := Lib.hid hB
        have HQ := Lib.hid (hb)
        clear hlt hB hall
        go_wp2_with fail
        refine (sum_is _ q wr (Hq.out.below (by rw [Heg.out]; exact HQ.out)) Hf.out (by rw [Hl.out]; omega)).mono ?_
        rintro e w6 ⟨rfl, rfl⟩
        go_wp2_with fail
        refine (int_is _ q.sum (k + 4) wr HB.out).mono ?_
        rintro e w7 ⟨rfl, hb7⟩
        have b7 := Lib.hid (hb.trans (hb7.mono (by have := World.block_lt_of_cell? wr _ c0; simp at this; omega)))
        generalize (sumE q.sum).1 = A at *
        generalize (sumE q.sum).2 = B at *
        clear hb7 hb c0 c1 f0 f1
        go_wp2_with fail
        refine (lives01_is _).mono ?_
        rintro e w8 ⟨rfl, hb8⟩
        go_wp2_with fail
        go_ret
        exact ⟨rfl, by rw [Heg.out]; exact b7.out.trans (hb8.mono (by have := b7.out.size; rw [Heg.out] at this; exact this))⟩
end Go.Proofs.Ytodikaekpncjjaa
