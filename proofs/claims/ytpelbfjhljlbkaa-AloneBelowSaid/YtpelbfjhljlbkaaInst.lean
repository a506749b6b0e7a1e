/-
  My own work: slices of slices of ints; an instance in a block of its own; inst.Arc, tranterref06.Arc: their contracts.
-/
import Derived.Test.YtpelbfjhljlbkaaBase
import Derived.RegionTactic
import Derived.Deep.QuietTactic
import Derived.BigQuiet
import Derived.Deep.CutBlock
namespace Go.Proofs.Ytpelbfjhljlbkaa
open Go.RowKit
set_option linter.unusedVariables false
set_option maxRecDepth 100000

/-- The k-th row (empty beyond the end): no rule of simp opens it. -/
def nthL (D : List (List Int)) (k : Nat) : List Int := D.getD k []
theorem nthL_lt {D : List (List Int)} {k : Nat} (h : k < D.length) : nthL D k = D[k] := by simp [nthL, h]
theorem nthL_ge {D : List (List Int)} {k : Nat} (h : D.length ≤ k) : nthL D k = [] := by simp [nthL, h]
theorem nth_ge {xs : List Int} {k : Nat} (h : xs.length ≤ k) : nth xs k = 0 := by simp [nth, h]
theorem nthL_append_left {D E : List (List Int)} {k : Nat} (h : k < D.length) : nthL (D ++ E) k = nthL D k := by simp [nthL, List.getElem?_append, h]
theorem nthL_append_here {D : List (List Int)} {y : List Int} : nthL (D ++ [y]) D.length = y := by simp [nthL]

/-- The slice value v reads as the rows D. -/
def Grid (w : World) (v : Value) (D : List (List Int)) : Prop :=
  ∃ (a : Option Addr) (c : Nat), v = .slice a D.length c ∧ D.length ≤ c ∧ c ≤ 9223372036854775807 ∧ ∀ i, i < D.length → ∃ b o rv, a = some ⟨b, o, none⟩ ∧ w.cell? ⟨b, o + i, none⟩ = some rv ∧ Ints w rv (nthL D i)
theorem Grid.nil (w : World) : Grid w (.slice none 0 0) [] := ⟨none, 0, rfl, by simp, by simp, fun i hi => absurd hi (by simp)⟩
theorem Grid.below {w w' : World} {v : Value} {D : List (List Int)} (h : Grid w v D) (hb : Below w.heap.size w w') : Grid w' v D := by
  obtain ⟨a, c, hv, h1, h2, hc⟩ := h
  refine ⟨a, c, hv, h1, h2, fun i hi => ?_⟩
  obtain ⟨b, o, rv, ha, h0, hr⟩ := hc i hi
  exact ⟨b, o, rv, ha, (hb.cell (p := ⟨b, o + i, none⟩) (World.block_lt_of_cell? w _ h0)).trans h0, hr.below hb⟩
theorem Grid.open {w : World} {v : Value} {D : List (List Int)} (h : Grid w v D) :
    ∃ (a : Option Addr) (n c : Nat), v = .slice a n c ∧ D.length = n ∧ n ≤ 9223372036854775807 ∧
      ∀ i, i < n → ∃ b o ra rn rc, a = some ⟨b, o, none⟩ ∧ b < w.heap.size ∧ w.cell? ⟨b, o + i, none⟩ = some (.slice ra rn rc) ∧ (nthL D i).length = rn ∧ rn ≤ 9223372036854775807 ∧
        ∀ k, k < rn → ∃ b' o', ra = some ⟨b', o', none⟩ ∧ b' < w.heap.size ∧ w.cell? ⟨b', o' + k, none⟩ = some (.int .i64 (nth (nthL D i) k)) := by
  obtain ⟨a, c, rfl, h1, h2, hc⟩ := h
  refine ⟨a, D.length, c, rfl, rfl, by omega, fun i hi => ?_⟩
  obtain ⟨b, o, rv, ha, h0, hr⟩ := hc i hi
  obtain ⟨ra, rn, rc, rfl, e1, e2, e3⟩ := hr.open
  refine ⟨b, o, ra, rn, rc, ha, World.block_lt_of_cell? w _ h0, h0, e1, e2, fun k hk => ?_⟩
  obtain ⟨b', o', g1, g2⟩ := e3 k hk
  exact ⟨b', o', g1, World.block_lt_of_cell? w _ g2, g2⟩

/-- The arc from a to b (0 where one is not there). -/
def arcI (D : List (List Int)) (a b : Int) : Int := if 0 ≤ a ∧ 0 ≤ b then nth (nthL D a.toNat) b.toNat else 0
theorem arc_nat (D : List (List Int)) (a b : Nat) : arcI D a b = nth (nthL D a) b := by
  unfold arcI; rw [if_pos (by omega), Int.toNat_natCast, Int.toNat_natCast]
theorem arc_neg (D : List (List Int)) (a b : Int) (h : a < 0 ∨ b < 0) : arcI D a b = 0 := by unfold arcI; rw [if_neg (by omega)]

/-- An instance lies in block g. -/
structure IsInst (w : World) (g : Nat) (f0 f1 f2 f3 cs dv : Value) : Prop where
  c0 : w.cell? ⟨g, 0, none⟩ = some f0
  c1 : w.cell? ⟨g, 1, none⟩ = some f1
  c2 : w.cell? ⟨g, 2, none⟩ = some f2
  c3 : w.cell? ⟨g, 3, none⟩ = some f3
  c4 : w.cell? ⟨g, 4, none⟩ = some cs
  c5 : w.cell? ⟨g, 5, none⟩ = some dv
theorem IsInst.lt {w : World} {g : Nat} {f0 f1 f2 f3 cs dv : Value} (h : IsInst w g f0 f1 f2 f3 cs dv) : g < w.heap.size := World.block_lt_of_cell? w _ h.c0
theorem IsInst.kept {w w' : World} {g : Nat} {f0 f1 f2 f3 cs dv : Value} {row : Option Nat} (h : IsInst w g f0 f1 f2 f3 cs dv) (hg : w.grownBy w' row) (hne : some g ≠ row) : IsInst w' g f0 f1 f2 f3 cs dv :=
  ⟨hg.cell h.c0 hne, hg.cell h.c1 hne, hg.cell h.c2 hne, hg.cell h.c3 hne, hg.cell h.c4 hne, hg.cell h.c5 hne⟩
theorem IsInst.below {w w' : World} {g : Nat} {f0 f1 f2 f3 cs dv : Value} (h : IsInst w g f0 f1 f2 f3 cs dv) (hb : Below w.heap.size w w') : IsInst w' g f0 f1 f2 f3 cs dv :=
  h.kept (row := none) (grownBy_below hb) (by simp)
theorem box_inst (w : World) (f0 f1 f2 f3 cs dv : Value) :
    ∃ w1, w.alloc (.cells #[f0, f1, f2, f3, cs, dv] 58) = w1 ∧ Below w.heap.size w w1 ∧ w1.heap.size = w.heap.size + 1 ∧ IsInst w1 w.heap.size f0 f1 f2 f3 cs dv :=
  ⟨_, rfl, (Below.refl _ _).alloc (Nat.le_refl _) _, by simp, ⟨by simp [go_sem], by simp [go_sem], by simp [go_sem], by simp [go_sem], by simp [go_sem], by simp [go_sem]⟩⟩

set_option maxHeartbeats 1600000 in
theorem refArc_is (i0 i1 i2 i3 : Int) (cs dv : Value) (D : List (List Int)) (a b : Int) (w : World) (h : Grid w dv D) :
    Calls Try.prog 63 #[.agg #[.int .i64 i0, .int .i64 i1, .int .i64 i2, .int .i64 i3, cs, dv], .int .i64 a, .int .i64 b] w fun e w' => e = .returned (.int .i64 (arcI D a b)) ∧ Below w.heap.size w w' := by
  obtain ⟨w1, ew, hb1, hsz1, hi⟩ := box_inst w (.int .i64 i0) (.int .i64 i1) (.int .i64 i2) (.int .i64 i3) cs dv
  obtain ⟨da, n, c, rfl, hn, hmax, hcell⟩ := (h.below hb1).open
  have Hew := Lib.hid ew
  have Hn := Lib.hid hn
  have Hcell := Lib.hid hcell
  have c5 := hi.c5
  clear ew hn hcell h hi hsz1
  by_cases ha : a < 0
  · have ha' : decide (a < 0) = true := by simpa using ha
    have Hr := Lib.hid (arc_neg D a b (.inl ha))
    clear ha
    go_enter Try.func63, Try.ntmps63
    go_upto_region 1 with (fail)
    rw [Hew.out]
    go_wp2_with fail
    go_ret
    rw [Hr.out]
    exact ⟨rfl, hb1⟩
  obtain ⟨i, rfl⟩ := Int.eq_ofNat_of_zero_le (show 0 ≤ a by omega)
  have ha' : decide ((i : Int) < 0) = false := by simp
  clear ha
  by_cases hb : b < 0
  · have hb' : decide (b < 0) = true := by simpa using hb
    have Hr := Lib.hid (arc_neg D i b (.inr hb))
    clear hb
    go_enter Try.func63, Try.ntmps63
    go_upto_region 1 with (fail)
    rw [Hew.out]
    go_wp2_with fail
    go_ret
    rw [Hr.out]
    exact ⟨rfl, hb1⟩
  obtain ⟨k, rfl⟩ := Int.eq_ofNat_of_zero_le (show 0 ≤ b by omega)
  have Hr := Lib.hid (arc_nat D i k)
  have hb' : decide ((k : Int) < 0) = false := by simp
  clear hb
  by_cases hin : n ≤ i
  · have Hz : Hid (nth (nthL D i) k = 0) := Lib.hid (by rw [nthL_ge (by rw [Hn.out]; exact hin)]; rfl)
    have hin' : decide (n ≤ i) = true := by simpa using hin
    clear hin
    go_enter Try.func63, Try.ntmps63
    go_upto_region 1 with (fail)
    rw [Hew.out]
    go_wp2_with fail
    go_ret
    rw [Hr.out, Hz.out]
    exact ⟨rfl, hb1⟩
  obtain ⟨db, o, ra, rn, rc, rfl, hdb, hc1, hrn, hrm, hrc⟩ := Hcell.out i (by omega)
  have hin' : decide (n ≤ i) = false := by simpa using hin
  have hi0 : (0 : Int) ≤ (i : Int) := by omega
  have hi1 : (i : Int) < (n : Int) := by omega
  have Hrn := Lib.hid hrn
  have Hrc := Lib.hid hrc
  clear hin hrn hrc
  by_cases hk : rn ≤ k
  · have hk' : decide (rn ≤ k) = true := by simpa using hk
    have Hz : Hid (nth (nthL D i) k = 0) := Lib.hid (nth_ge (by rw [Hrn.out]; exact hk))
    clear hk
    go_enter Try.func63, Try.ntmps63
    go_upto_region 1 with (fail)
    rw [Hew.out]
    go_wp2_with fail
    go_ret
    rw [Hr.out, Hz.out]
    exact ⟨rfl, hb1⟩
  · obtain ⟨b', o', rfl, hb2, hc2⟩ := Hrc.out k (by omega)
    have hk' : decide (rn ≤ k) = false := by simpa using hk
    have hk0 : (0 : Int) ≤ (k : Int) := by omega
    have hk1 : (k : Int) < (rn : Int) := by omega
    clear hk
    go_enter Try.func63, Try.ntmps63
    go_upto_region 1 with (fail)
    rw [Hew.out]
    go_wp2_with fail
    go_ret
    rw [Hr.out]
    exact ⟨rfl, hb1⟩
end Go.Proofs.Ytpelbfjhljlbkaa
