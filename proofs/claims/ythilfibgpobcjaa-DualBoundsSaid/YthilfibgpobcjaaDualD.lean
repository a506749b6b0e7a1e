/-
  My own work: dual.Slack, May; tranterref17.May: their contracts.
-/
import Derived.Test.YthilfibgpobcjaaDualA
namespace Go.Proofs.Ythilfibgpobcjaa
open Go.RowKit
set_option linter.unusedVariables false
attribute [local go_sem ↓] Go.wp_at_zero Go.wp_at_succ

def slackI (D : List (List Int)) (n : Nat) (o i : List Int) (a b : Int) : Int := if 0 ≤ a ∧ a < n ∧ 0 ≤ b ∧ b < n ∧ a ≠ b then arcI D a b - nth o a.toNat - nth i b.toNat else 0

theorem box_price (w : World) (ov iv : Value) : ∃ w1, w.alloc (.cells #[ov, iv] 31) = w1 ∧ Below w.heap.size w w1 ∧ w1.heap.size = w.heap.size + 1 ∧ w1.cell? ⟨w.heap.size, 0, none⟩ = some ov ∧ w1.cell? ⟨w.heap.size, 1, none⟩ = some iv :=
  ⟨_, rfl, belAlloc _ _, by simp, by simp [go_sem], by simp [go_sem]⟩
theorem eight_below {W w1 : World} (hb : Below W.heap.size W w1) {g t : Nat} {u0 u1 u2 u3 u4 u5 u6 u7 : Value} (h : W.cell? ⟨g, 0, none⟩ = some u0 ∧ W.cell? ⟨g, 1, none⟩ = some u1 ∧ W.cell? ⟨g, 2, none⟩ = some u2 ∧ W.cell? ⟨g, 3, none⟩ = some u3 ∧ W.cell? ⟨g, 4, none⟩ = some u4 ∧ W.cell? ⟨g, 5, none⟩ = some u5 ∧ W.cell? ⟨t, 0, none⟩ = some u6 ∧ W.cell? ⟨t, 1, none⟩ = some u7) :
    w1.cell? ⟨g, 0, none⟩ = some u0 ∧ w1.cell? ⟨g, 1, none⟩ = some u1 ∧ w1.cell? ⟨g, 2, none⟩ = some u2 ∧ w1.cell? ⟨g, 3, none⟩ = some u3 ∧ w1.cell? ⟨g, 4, none⟩ = some u4 ∧ w1.cell? ⟨g, 5, none⟩ = some u5 ∧ w1.cell? ⟨t, 0, none⟩ = some u6 ∧ w1.cell? ⟨t, 1, none⟩ = some u7 :=
  ⟨cell_below hb h.1, cell_below hb h.2.1, cell_below hb h.2.2.1, cell_below hb h.2.2.2.1, cell_below hb h.2.2.2.2.1, cell_below hb h.2.2.2.2.2.1, cell_below hb h.2.2.2.2.2.2.1, cell_below hb h.2.2.2.2.2.2.2⟩

set_option maxRecDepth 100000 in
set_option maxHeartbeats 3200000 in
theorem slack_is (i0 i1 i2 i3 : Int) (cv dv ov iv : Value) (L : List Cu) (D : List (List Int)) (o i : List Int) (n : Nat) (a b : Int) (w : World) (hC : Custs w cv L) (hG : Grid w dv D) (hO : Ints w ov o) (hI : Ints w iv i) (hn : L.length + 1 = n) (hn2 : n ≤ 4096) (hD : ArcBd D)
    (ho : o.length = n) (hi : i.length = n) (hob : ∀ k, -1099511627776 ≤ nth o k ∧ nth o k ≤ 1099511627776) (hib : ∀ k, -1099511627776 ≤ nth i k ∧ nth i k ≤ 1099511627776) :
    Calls Try.prog 25 #[.agg #[.int .i64 i0, .int .i64 i1, .int .i64 i2, .int .i64 i3, cv, dv], .agg #[ov, iv], .int .i64 a, .int .i64 b] w fun e w' => e = .returned (.int .i64 (slackI D n o i a b)) ∧ Below w.heap.size w w' := by
  obtain ⟨w1, ew, hb1, hsz1, hx⟩ := box_inst w (.int .i64 i0) (.int .i64 i1) (.int .i64 i2) (.int .i64 i3) cv dv
  obtain ⟨w2, ew2, hb2, hsz2, p0, p1⟩ := box_price w1 ov iv
  have hbb := bel2 hb1 hb2
  have hsz : w.heap.size ≤ w2.heap.size := hbb.size
  have hx := hx.below hb2
  obtain ⟨c0, c1, c2, c3, c4, c5⟩ := hx
  have Hpl := Lib.hid (places_is i0 i1 i2 i3 cv dv L n w2 (hC.below hbb) hn hn2)
  have Harc := Lib.hid (fun (W : World) (h : Below w2.heap.size w2 W) => arc_is i0 i1 i2 i3 cv dv D a b W ((hG.below hbb).below h))
  have HO := Lib.hid (hO.below hbb)
  have HI := Lib.hid (hI.below hbb)
  have Hb := Lib.hid hbb
  have Hew := Lib.hid ew
  have Hew2 := Lib.hid ew2
  have Ho := Lib.hid ho
  have Hi := Lib.hid hi
  have hD1 := hD a b
  obtain ⟨hD1, hD2⟩ := hD1
  rw [hsz1] at p0 p1
  clear ew ew2 hb1 hb2 hsz1 hsz2 hC hG hO hI ho hi hn hn2 hbb
  have hsl : slackI D n o i a b = if 0 ≤ a ∧ a < n ∧ 0 ≤ b ∧ b < n ∧ a ≠ b then arcI D a b - nth o a.toNat - nth i b.toNat else 0 := rfl
  clear hD
  generalize arcI D a b = A at *
  generalize slackI D n o i a b = SL at *
  by_cases hin : 0 ≤ a ∧ a < n ∧ 0 ≤ b ∧ b < n ∧ a ≠ b
  · rw [if_pos hin] at hsl
    obtain ⟨h1, h2, h3, h4, h5⟩ := hin
    obtain ⟨j, rfl⟩ := Int.eq_ofNat_of_zero_le h1
    obtain ⟨k, rfl⟩ := Int.eq_ofNat_of_zero_le h3
    rw [Int.toNat_natCast, Int.toNat_natCast] at hsl
    have hx1 := hob j
    have hy1 := hib k
    obtain ⟨hx1, hx2⟩ := hx1
    obtain ⟨hy1, hy2⟩ := hy1
    obtain ⟨oa, on, oc, rfl, hon, _, hoc⟩ := HO.out.open
    obtain ⟨ia, im, ic, rfl, him, _, hic⟩ := HI.out.open
    obtain ⟨ob, oo, rfl, e1⟩ := hoc j (by rw [← hon, Ho.out]; omega)
    obtain ⟨ib, io, rfl, e2⟩ := hic k (by rw [← him, Hi.out]; omega)
    have hon' : on = n := by rw [← hon]; exact Ho.out
    have him' : im = n := by rw [← him]; exact Hi.out
    subst hon'
    subst him'
    generalize nth o j = X at *
    generalize nth i k = Y at *
    have b1 : decide ((j : Int) < 0) = false := by simp
    have b2 : decide (im ≤ j) = false := by simp; omega
    have b3 : decide ((k : Int) < 0) = false := by simp
    have b4 : decide (im ≤ k) = false := by simp; omega
    have b5 : ((j : Int) == (k : Int)) = false := by simp; omega
    have hj0 : (0 : Int) ≤ (j : Int) := by omega
    have hk0 : (0 : Int) ≤ (k : Int) := by omega
    have hw1 : IntKind.i64.wrap (A - X) = A - X := IntWalk.i64_in _ (by omega)
    have hw2 : IntKind.i64.wrap (A - X - Y) = A - X - Y := IntWalk.i64_in _ (by omega)
    have Hsl := Lib.hid hsl
    clear hsl hon him hoc hic hob hib
    go_enter Try.func25, Try.ntmps25
    go_upto_region 1 with (fail)
    rw [Hew.out, Hew2.out]
    generalize w1.heap.size = gp at *
    generalize eg : w.heap.size = g at *
    have Heg := Lib.hid eg
    clear eg
    go_wp2_with fail
    refine Hpl.out.mono ?_
    rintro e w3 ⟨rfl, hb3⟩
    obtain ⟨d0, d1, d2, d3, d4, d5, q0, q1⟩ := eight_below hb3 ⟨c0, c1, c2, c3, c4, c5, p0, p1⟩
    have e13 := cell_below hb3 e1
    have e23 := cell_below hb3 e2
    have Hb3 := Lib.hid hb3
    have b0 := Below.refl w3.heap.size w3
    clear c0 c1 c2 c3 c4 c5 p0 p1 e1 e2 hb3
    go_wp2_with fail
    go_region_held3 (fun w' => (w'.cell? ⟨g, 0, none⟩ = some (.int .i64 i0) ∧ w'.cell? ⟨g, 1, none⟩ = some (.int .i64 i1) ∧ w'.cell? ⟨g, 2, none⟩ = some (.int .i64 i2) ∧ w'.cell? ⟨g, 3, none⟩ = some (.int .i64 i3) ∧ w'.cell? ⟨g, 4, none⟩ = some cv ∧ w'.cell? ⟨g, 5, none⟩ = some dv ∧
        w'.cell? ⟨g + 1, 0, none⟩ = some (.slice (some ⟨ob, oo, none⟩) im oc) ∧ w'.cell? ⟨g + 1, 1, none⟩ = some (.slice (some ⟨ib, io, none⟩) im ic)) ∧ w'.cell? ⟨ob, oo + j, none⟩ = some (.int .i64 X) ∧ w'.cell? ⟨ib, io + k, none⟩ = some (.int .i64 Y))
      (first | go_keep | exact ⟨eight_below b6 ⟨d0, d1, d2, d3, d4, d5, q0, q1⟩, cell_below b6 e13, cell_below b6 e23⟩)
      (first | (go_at_call 52; refine (Harc.out _ ?_).mono ?_; (first | exact Hb3.out | exact bel2 Hb3.out (belDrew _)); rintro e w6 ⟨rfl, hb6⟩; (first | have b6 := bel2 b0 hb6 | have b6 := bel2 (belDrew w3) hb6)))
    all_goals
      go_wp2_with fail
      go_ret
      rw [Hsl.out]
      exact ⟨rfl, by rw [Heg.out]; exact Hb.out.trans ((bel2 Hb3.out b6).mono hsz)⟩
  · rw [if_neg hin] at hsl
    have hcase : decide (a < 0) = true ∨ (decide (a < 0) = false ∧ decide ((n : Int) ≤ a) = true) ∨ (decide (a < 0) = false ∧ decide ((n : Int) ≤ a) = false ∧ decide (b < 0) = true) ∨
        (decide (a < 0) = false ∧ decide ((n : Int) ≤ a) = false ∧ decide (b < 0) = false ∧ decide ((n : Int) ≤ b) = true) ∨ (decide (a < 0) = false ∧ decide ((n : Int) ≤ a) = false ∧ decide (b < 0) = false ∧ decide ((n : Int) ≤ b) = false ∧ (a == b) = true) := by
      by_cases g1 : a < 0
      · exact .inl (by simpa using g1)
      by_cases g2 : (n : Int) ≤ a
      · exact .inr (.inl ⟨by simpa using g1, by simpa using g2⟩)
      by_cases g3 : b < 0
      · exact .inr (.inr (.inl ⟨by simpa using g1, by simpa using g2, by simpa using g3⟩))
      by_cases g4 : (n : Int) ≤ b
      · exact .inr (.inr (.inr (.inl ⟨by simpa using g1, by simpa using g2, by simpa using g3, by simpa using g4⟩)))
      by_cases g5 : a = b
      · exact .inr (.inr (.inr (.inr ⟨by simpa using g1, by simpa using g2, by simpa using g3, by simpa using g4, by simpa using g5⟩)))
      · exact absurd ⟨by omega, by omega, by omega, by omega, g5⟩ hin
    have Hsl := Lib.hid hsl
    clear hsl hin hob hib
    rcases hcase with b1 | ⟨b1, b2⟩ | ⟨b1, b2, b3⟩ | ⟨b1, b2, b3, b4⟩ | ⟨b1, b2, b3, b4, b5⟩
    all_goals
      go_enter Try.func25, Try.ntmps25
      go_upto_region 1 with (fail)
      rw [Hew.out, Hew2.out]
      go_wp2_with fail
      refine Hpl.out.mono ?_
      rintro e w3 ⟨rfl, hb3⟩
      go_wp2_with fail
      go_ret
      rw [Hsl.out]
      exact ⟨rfl, Hb.out.trans (hb3.mono Hb.out.size)⟩
end Go.Proofs.Ythilfibgpobcjaa
