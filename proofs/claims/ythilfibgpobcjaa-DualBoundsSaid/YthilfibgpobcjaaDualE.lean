/-
  My own work: dual.May, tranterref17.May: their contracts.
-/
import Derived.Test.YthilfibgpobcjaaDualD
namespace Go.Proofs.Ythilfibgpobcjaa
open Go.RowKit
set_option linter.unusedVariables false
attribute [local go_sem ↓] Go.wp_at_zero Go.wp_at_succ

def okP (o i : List Int) (a : Nat) : Prop := 0 ≤ nth o a ∧ nth o a ≤ 2147483648 ∧ 0 ≤ nth i a ∧ nth i a ≤ 2147483648
theorem may_len {D : List (List Int)} {n : Nat} {o i : List Int} (h : ¬ (o.length = n ∧ i.length = n)) : mayB D n o i = false := by
  unfold mayB; rw [decide_eq_false_iff_not]; exact fun hm => h ⟨hm.1, hm.2.1⟩
theorem may_no {D : List (List Int)} {n : Nat} {o i : List Int} {k : Nat} (hk : k < n) (h : ¬ okP o i k) : mayB D n o i = false := by
  unfold mayB; rw [decide_eq_false_iff_not]; exact fun hm => h (hm.2.2.1 k hk)
theorem may_sum {D : List (List Int)} {n : Nat} {o i : List Int} {a b : Nat} (ha : a < n) (hb : b < n) (hab : a ≠ b) (h : ¬ nth o a + nth i b ≤ arcI D a b) : mayB D n o i = false := by
  unfold mayB; rw [decide_eq_false_iff_not]; exact fun hm => h (hm.2.2.2 a ha b hb hab)
theorem may_yes {D : List (List Int)} {n : Nat} {o i : List Int} (h1 : o.length = n) (h2 : i.length = n) (h3 : ∀ a, a < n → okP o i a) (h4 : ∀ a, a < n → ∀ b, b < n → a ≠ b → nth o a + nth i b ≤ arcI D a b) : mayB D n o i = true := by
  unfold mayB; rw [decide_eq_true_iff]; exact ⟨h1, h2, h3, h4⟩
theorem mayE_no {D : List (List Int)} {n : Nat} {o i : List Int} (h : mayB D n o i = false) : mayE D n o i = 16 := by unfold mayE; rw [h]; rfl
theorem mayE_yes {D : List (List Int)} {n : Nat} {o i : List Int} (h : mayB D n o i = true) : mayE D n o i = 0 := by unfold mayE; rw [h]; rfl

set_option maxRecDepth 100000 in
set_option maxHeartbeats 6400000 in
theorem may_is (i0 i1 i2 i3 : Int) (cv dv ov iv : Value) (L : List Cu) (D : List (List Int)) (o i : List Int) (n : Nat) (w : World) (hC : Custs w cv L) (hG : Grid w dv D) (hO : Ints w ov o) (hI : Ints w iv i) (hn : L.length + 1 = n) (hn2 : n ≤ 4096) (hD : ArcBd D) :
    Calls Try.prog 20 #[.agg #[.int .i64 i0, .int .i64 i1, .int .i64 i2, .int .i64 i3, cv, dv], .agg #[ov, iv]] w fun e w' => e = .returned (.int .i64 (mayE D n o i)) ∧ Below w.heap.size w w' := by
  obtain ⟨w1, ew, hb1, hsz1, hx⟩ := box_inst w (.int .i64 i0) (.int .i64 i1) (.int .i64 i2) (.int .i64 i3) cv dv
  obtain ⟨w2, ew2, hb2, hsz2, p0, p1⟩ := box_price w1 ov iv
  have hbb := bel2 hb1 hb2
  have hsz : w.heap.size ≤ w2.heap.size := hbb.size
  have hx := hx.below hb2
  obtain ⟨c0, c1, c2, c3, c4, c5⟩ := hx
  have Hpl := Lib.hid (places_is i0 i1 i2 i3 cv dv L n w2 (hC.below hbb) hn hn2)
  have HG := Lib.hid (hG.below hbb)
  have Hb := Lib.hid hbb
  have Hew := Lib.hid ew
  have Hew2 := Lib.hid ew2
  obtain ⟨oa, on, oc, rfl, hon, _, hoc⟩ := (hO.below hbb).open
  obtain ⟨ia, im, ic, rfl, him, _, hic⟩ := (hI.below hbb).open
  rw [hsz1] at p0 p1
  have Hon := Lib.hid hon
  have Him := Lib.hid him
  have hoc' : ∀ k, k < on → ∃ b o', oa = some ⟨b, o', none⟩ ∧ b < w2.heap.size ∧ w2.cell? ⟨b, o' + k, none⟩ = some (.int .i64 (nth o k)) := fun k hk => by
    obtain ⟨b, o', e1, e2⟩ := hoc k hk
    exact ⟨b, o', e1, World.block_lt_of_cell? w2 _ e2, e2⟩
  have hic' : ∀ k, k < im → ∃ b o', ia = some ⟨b, o', none⟩ ∧ b < w2.heap.size ∧ w2.cell? ⟨b, o' + k, none⟩ = some (.int .i64 (nth i k)) := fun k hk => by
    obtain ⟨b, o', e1, e2⟩ := hic k hk
    exact ⟨b, o', e1, World.block_lt_of_cell? w2 _ e2, e2⟩
  have Hoc := Lib.hid hoc'
  have Hic := Lib.hid hic'
  have hnp : 0 < n := by omega
  have hn3 : (n : Int) ≤ 4096 := by omega
  clear ew ew2 hb1 hb2 hsz1 hsz2 hC hG hO hI hn hn2 hbb hon him hoc hic hoc' hic'
  go_enter Try.func20, Try.ntmps20
  go_upto_region 1 with (fail)
  rw [Hew.out, Hew2.out]
  generalize eg : w.heap.size = g at *
  have Heg := Lib.hid eg
  clear eg
  go_wp2_with fail
  refine Hpl.out.mono ?_
  rintro e w3 ⟨rfl, hb3⟩
  have l0 := World.block_lt_of_cell? w2 _ c0
  have l1 := World.block_lt_of_cell? w2 _ p0
  obtain ⟨d0, d1, d2, d3, d4, d5, q0, q1⟩ := eight_below hb3 ⟨c0, c1, c2, c3, c4, c5, p0, p1⟩
  have Hb3 := Lib.hid (Hb.out.trans (hb3.mono hsz))
  have HB3 := Lib.hid hb3
  have hsz3 : g ≤ w3.heap.size := by have := hb3.size; omega
  clear c0 c1 c2 c3 c4 c5 p0 p1 hb3 l0 l1
  have hfin : ∀ w', Below w3.heap.size w3 w' → Below w.heap.size w w' := fun w' h => by rw [Heg.out]; exact Hb3.out.trans (h.mono hsz3)
  have Hfin := Lib.hid hfin
  clear hfin
  by_cases e1 : on = n
  · by_cases e2 : im = n
    · subst e1
      subst e2
      have b1 : ((im : Int) != (im : Int)) = false := by simp
      go_wp2_with fail
      go_loop [6, 24] (fun a u => ∃ (k : Nat) (x : Value), u = .int .i64 k ∧ x = a ∧ k ≤ im ∧ ∀ j, j < k → okP o i j) (fun _ u => im - (intOf u).toNat)
      case atStart => exact ⟨0, _, rfl, rfl, Nat.zero_le _, fun j hj => by omega⟩
      case round =>
        obtain ⟨k, x, rfl, rfl, hk, hall⟩ := hrel
        have Hall := Lib.hid hall
        clear hall
        by_cases hlt : k < im
        · obtain ⟨ob, oo, rfl, lo, f0⟩ := Hoc.out k hlt
          obtain ⟨ib, io, rfl, li, f1⟩ := Hic.out k hlt
          have f03 := cell_lt HB3.out lo f0
          have f13 := cell_lt HB3.out li f1
          have hi0 : (0 : Int) ≤ (k : Int) := by omega
          have hi1 : (k : Int) < (im : Int) := by omega
          have Hok : Hid (okP o i k ↔ 0 ≤ nth o k ∧ nth o k ≤ 2147483648 ∧ 0 ≤ nth i k ∧ nth i k ≤ 2147483648) := Lib.hid Iff.rfl
          have Hno := Lib.hid (fun h => may_no (D := D) (o := o) (i := i) hlt h)
          generalize nth o k = X at *
          generalize nth i k = Y at *
          clear f0 f1
          have hcase : decide (X < 0) = true ∨ (decide (X < 0) = false ∧ decide (2147483648 < X) = true) ∨ (decide (X < 0) = false ∧ decide (2147483648 < X) = false ∧ decide (Y < 0) = true) ∨
              (decide (X < 0) = false ∧ decide (2147483648 < X) = false ∧ decide (Y < 0) = false ∧ decide (2147483648 < Y) = true) ∨ (decide (X < 0) = false ∧ decide (2147483648 < X) = false ∧ decide (Y < 0) = false ∧ decide (2147483648 < Y) = false) := by
            by_cases g1 : X < 0
            · exact .inl (by simpa using g1)
            by_cases g2 : 2147483648 < X
            · exact .inr (.inl ⟨by simpa using g1, by simpa using g2⟩)
            by_cases g3 : Y < 0
            · exact .inr (.inr (.inl ⟨by simpa using g1, by simpa using g2, by simpa using g3⟩))
            by_cases g4 : 2147483648 < Y
            · exact .inr (.inr (.inr (.inl ⟨by simpa using g1, by simpa using g2, by simpa using g3, by simpa using g4⟩)))
            · exact .inr (.inr (.inr (.inr ⟨by simpa using g1, by simpa using g2, by simpa using g3, by simpa using g4⟩)))
          rcases hcase with b1 | ⟨b1, b2⟩ | ⟨b1, b2, b3⟩ | ⟨b1, b2, b3, b4⟩ | ⟨b1, b2, b3, b4⟩
          · have Hm := Lib.hid (mayE_no (Hno.out (by rw [Hok.out]; simp at b1; omega)))
            go_wp2_with fail
            go_ret
            rw [Hm.out]
            exact ⟨rfl, Hfin.out _ (Below.refl _ _)⟩
          · have Hm := Lib.hid (mayE_no (Hno.out (by rw [Hok.out]; simp at b2; omega)))
            go_wp2_with fail
            go_ret
            rw [Hm.out]
            exact ⟨rfl, Hfin.out _ (Below.refl _ _)⟩
          · have Hm := Lib.hid (mayE_no (Hno.out (by rw [Hok.out]; simp at b3; omega)))
            go_wp2_with fail
            go_ret
            rw [Hm.out]
            exact ⟨rfl, Hfin.out _ (Below.refl _ _)⟩
          · have Hm := Lib.hid (mayE_no (Hno.out (by rw [Hok.out]; simp at b4; omega)))
            go_wp2_with fail
            go_ret
            rw [Hm.out]
            exact ⟨rfl, Hfin.out _ (Below.refl _ _)⟩
          · have Hm : Hid (okP o i k) := Lib.hid (by rw [Hok.out]; simp at b1 b2 b3 b4; omega)
            go_wp2_with fail
            go_round
            case rel => exact ⟨k + 1, _, by go_num, rfl, by omega, fun j hj => by rcases Nat.lt_succ_iff_lt_or_eq.1 hj with h | rfl; exact Hall.out j h; exact Hm.out⟩
            case measure => simp [intOf]; omega
        · have hkn : k = im := by omega
          subst hkn
          clear hlt hk
          go_wp2_with fail
          go_loopw [7, 8, 59, 63] (fun a b u v wr => ∃ (j : Nat) (x y z : Value), u = .int .i64 j ∧ x = a ∧ y = b ∧ z = v ∧ j ≤ k ∧ (∀ a', a' < j → ∀ b', b' < k → a' ≠ b' → nth o a' + nth i b' ≤ arcI D a' b') ∧ Below w3.heap.size w3 wr) (fun _ _ u _ _ => k - (intOf u).toNat)
          case atStart => exact ⟨0, _, _, _, rfl, rfl, rfl, rfl, Nat.zero_le _, fun a' ha => by omega, Below.refl _ _⟩
          case round =>
            obtain ⟨j, x, y, z, rfl, rfl, rfl, rfl, hj, hsum, hbr⟩ := hrel
            have Hsum := Lib.hid hsum
            clear hsum
            by_cases hlt : j < k
            · obtain ⟨wo, rfl⟩ : ∃ wo : World, wo = wr := ⟨_, rfl⟩
              have hj1 : (j : Int) < (k : Int) := by omega
              go_wp2_with fail
              go_loopw [8, 63] (fun b v wr => ∃ (m : Nat) (y : Value), v = .int .i64 m ∧ y = b ∧ m ≤ k ∧ (∀ b', b' < m → j ≠ b' → nth o j + nth i b' ≤ arcI D j b') ∧ Below w3.heap.size w3 wr) (fun _ v _ => k - (intOf v).toNat)
              case atStart => exact ⟨0, _, rfl, rfl, Nat.zero_le _, fun b' hb => by omega, hbr⟩
              case round =>
                obtain ⟨m, y, rfl, rfl, hm, hin, hbq⟩ := hrel
                have Hin := Lib.hid hin
                clear hin
                by_cases hlm : m < k
                · have hm0 : (0 : Int) ≤ (m : Int) := by omega
                  have hm1 : (m : Int) < (k : Int) := by omega
                  have hj0 : (0 : Int) ≤ (j : Int) := by omega
                  by_cases hjm : j = m
                  · have bne : ((j : Int) != (m : Int)) = false := by simp; omega
                    have Hjm := Lib.hid hjm
                    clear hjm
                    go_wp2_with fail
                    go_quiet (fail)
                    go_wp2_with fail
                    go_roundw
                    case rel => exact ⟨m + 1, _, by go_num, rfl, by omega, fun b' hb hne => by rcases Nat.lt_succ_iff_lt_or_eq.1 hb with h | rfl; exact Hin.out b' h hne; exact absurd Hjm.out hne, below_drewN hbq _⟩
                    case measure => simp [intOf]; omega
                  · have bne : ((j : Int) != (m : Int)) = true := by simp; omega
                    obtain ⟨ob, oo, rfl, lo, f0⟩ := Hoc.out j hlt
                    obtain ⟨ib, io, rfl, li, f1⟩ := Hic.out m hlm
                    have f03 := cell_below hbq (cell_lt HB3.out lo f0)
                    have f13 := cell_below hbq (cell_lt HB3.out li f1)
                    obtain ⟨r0, r1, r2, r3, r4, r5, s0, s1⟩ := eight_below hbq ⟨d0, d1, d2, d3, d4, d5, q0, q1⟩
                    have hx := Hall.out j hlt
                    have hy := Hall.out m hlm
                    have hx1 : 0 ≤ nth o j := hx.1
                    have hx2 : nth o j ≤ 2147483648 := hx.2.1
                    have hy1 : 0 ≤ nth i m := hy.2.2.1
                    have hy2 : nth i m ≤ 2147483648 := hy.2.2.2
                    have hA := hD j m
                    obtain ⟨hA1, hA2⟩ := hA
                    have HbQ := Lib.hid hbq
                    have Harc := Lib.hid (fun (W : World) (h : Below wr.heap.size wr W) => arc_is i0 i1 i2 i3 cv dv D j m W ((HG.out.below (bel2 HB3.out HbQ.out)).below h))
                    have Hst : Hid (¬ nth o j + nth i m ≤ arcI D j m → mayB D k o i = false) := Lib.hid (fun h => may_sum hlt hlm hjm h)
                    have Hst2 : Hid (nth o j + nth i m ≤ arcI D j m → ∀ b', b' < m + 1 → j ≠ b' → nth o j + nth i b' ≤ arcI D j b') := Lib.hid (fun h b' hb hne => by rcases Nat.lt_succ_iff_lt_or_eq.1 hb with h' | rfl; exact Hin.out b' h' hne; exact h)
                    generalize nth o j = X at *
                    generalize nth i m = Y at *
                    generalize arcI D (j : Int) (m : Int) = A at *
                    have hw1 : IntKind.i64.wrap (X + Y) = X + Y := IntWalk.i64_in _ (by omega)
                    have b0 := Below.refl wr.heap.size wr
                    clear f0 f1 hx hy hjm hbq
                    by_cases hs : X + Y ≤ A
                    · have bs : decide (A < X + Y) = false := by simp; omega
                      have H2 := Lib.hid (Hst2.out hs)
                      clear hs
                      go_wp2_with fail
                      go_region_held3 (fun w' => (w'.cell? ⟨g, 0, none⟩ = some (.int .i64 i0) ∧ w'.cell? ⟨g, 1, none⟩ = some (.int .i64 i1) ∧ w'.cell? ⟨g, 2, none⟩ = some (.int .i64 i2) ∧ w'.cell? ⟨g, 3, none⟩ = some (.int .i64 i3) ∧ w'.cell? ⟨g, 4, none⟩ = some cv ∧ w'.cell? ⟨g, 5, none⟩ = some dv ∧
                          w'.cell? ⟨g + 1, 0, none⟩ = some (.slice (some ⟨ob, oo, none⟩) k oc) ∧ w'.cell? ⟨g + 1, 1, none⟩ = some (.slice (some ⟨ib, io, none⟩) k ic)) ∧ w'.cell? ⟨ob, oo + j, none⟩ = some (.int .i64 X) ∧ w'.cell? ⟨ib, io + m, none⟩ = some (.int .i64 Y))
                        (first | go_keep | exact ⟨eight_below b6 ⟨r0, r1, r2, r3, r4, r5, s0, s1⟩, cell_below b6 f03, cell_below b6 f13⟩)
                        (first | (go_at_call 52; refine (Harc.out _ ?_).mono ?_; (first | exact b0 | exact belDrew _); rintro e w6 ⟨rfl, hb6⟩; (first | have b6 := bel2 b0 hb6 | have b6 := bel2 (belDrew wr) hb6)))
                      all_goals
                        go_wp2_with fail
                        go_roundw
                        case rel => exact ⟨m + 1, _, by go_num, rfl, by omega, H2.out, (by first | exact bel2 HbQ.out b6 | exact bel2 HbQ.out b6.drew)⟩
                        case measure => simp [intOf]; omega
                    · have bs : decide (A < X + Y) = true := by simp; omega
                      have Hm := Lib.hid (mayE_no (Hst.out hs))
                      clear hs
                      go_wp2_with fail
                      go_region_held3 (fun w' => (w'.cell? ⟨g, 0, none⟩ = some (.int .i64 i0) ∧ w'.cell? ⟨g, 1, none⟩ = some (.int .i64 i1) ∧ w'.cell? ⟨g, 2, none⟩ = some (.int .i64 i2) ∧ w'.cell? ⟨g, 3, none⟩ = some (.int .i64 i3) ∧ w'.cell? ⟨g, 4, none⟩ = some cv ∧ w'.cell? ⟨g, 5, none⟩ = some dv ∧
                          w'.cell? ⟨g + 1, 0, none⟩ = some (.slice (some ⟨ob, oo, none⟩) k oc) ∧ w'.cell? ⟨g + 1, 1, none⟩ = some (.slice (some ⟨ib, io, none⟩) k ic)) ∧ w'.cell? ⟨ob, oo + j, none⟩ = some (.int .i64 X) ∧ w'.cell? ⟨ib, io + m, none⟩ = some (.int .i64 Y))
                        (first | go_keep | exact ⟨eight_below b6 ⟨r0, r1, r2, r3, r4, r5, s0, s1⟩, cell_below b6 f03, cell_below b6 f13⟩)
                        (first | (go_at_call 52; refine (Harc.out _ ?_).mono ?_; (first | exact b0 | exact belDrew _); rintro e w6 ⟨rfl, hb6⟩; (first | have b6 := bel2 b0 hb6 | have b6 := bel2 (belDrew wr) hb6)))
                      all_goals
                        go_wp2_with fail
                        go_ret
                        rw [Hm.out]
                        exact ⟨rfl, Hfin.out _ (by first | exact bel2 HbQ.out b6 | exact bel2 HbQ.out b6.drew)⟩
                · have hmk : m = k := by omega
                  subst hmk
                  go_wp2_with fail
                  go_roundw
                  case rel => exact ⟨j + 1, _, _, _, by go_num, rfl, rfl, rfl, by omega, fun a' ha b' hb hne => by rcases Nat.lt_succ_iff_lt_or_eq.1 ha with h | rfl; exact Hsum.out a' h b' hb hne; exact Hin.out b' hb hne, hbq⟩
                  case measure => simp [intOf]; omega
            · have hjk : j = k := by omega
              subst hjk
              have Hm := Lib.hid (mayE_yes (may_yes Hon.out Him.out Hall.out Hsum.out))
              go_wp2_with fail
              go_ret
              rw [Hm.out]
              exact ⟨rfl, Hfin.out _ hbr⟩
    · have Hm := Lib.hid (mayE_no (may_len (D := D) (n := n) (o := o) (i := i) (fun h => e2 (by rw [← Him.out]; exact h.2))))
      subst e1
      have b1 : ((on : Int) != (on : Int)) = false := by simp
      have b2 : ((im : Int) != (on : Int)) = true := by simp; omega
      go_wp2_with fail
      go_ret
      rw [Hm.out]
      exact ⟨rfl, Hfin.out _ (Below.refl _ _)⟩
  · have Hm := Lib.hid (mayE_no (may_len (D := D) (n := n) (o := o) (i := i) (fun h => e1 (by rw [← Hon.out]; exact h.1))))
    have b1 : ((on : Int) != (n : Int)) = true := by simp; omega
    go_wp2_with fail
    go_ret
    rw [Hm.out]
    exact ⟨rfl, Hfin.out _ (Below.refl _ _)⟩
end Go.Proofs.Ythilfibgpobcjaa
