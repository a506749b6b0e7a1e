/-
  My own work: tranterref17.May: its contract.
-/
import Derived.Test.YthilfibgpobcjaaDualE
namespace Go.Proofs.Ythilfibgpobcjaa
open Go.RowKit
set_option linter.unusedVariables false
attribute [local go_sem ↓] Go.wp_at_zero Go.wp_at_succ

theorem may_sumW {D : List (List Int)} {n : Nat} {o i : List Int} {a b : Nat} (ha : a < n) (hb : b < n) (hab : a ≠ b) (h : ¬ IntKind.i64.wrap (nth o a + nth i b) ≤ arcI D a b) : mayB D n o i = false := by
  unfold mayB; rw [decide_eq_false_iff_not]
  intro hm
  have h1 := hm.2.2.1 a ha
  have h2 := hm.2.2.1 b hb
  have h3 := hm.2.2.2 a ha b hb hab
  apply h
  rw [IntWalk.i64_in _ (by omega)]
  exact h3
theorem may_yesW {D : List (List Int)} {n : Nat} {o i : List Int} (h1 : o.length = n) (h2 : i.length = n) (h3 : ∀ a, a < n → okP o i a) (h4 : ∀ a, a < n → ∀ b, b < n → a ≠ b → IntKind.i64.wrap (nth o a + nth i b) ≤ arcI D a b) : mayB D n o i = true := by
  refine may_yes h1 h2 h3 (fun a ha b hb hab => ?_)
  have g1 := h3 a ha
  have g2 := h3 b hb
  have g3 := h4 a ha b hb hab
  unfold okP at g1 g2
  rwa [IntWalk.i64_in _ (by omega)] at g3

set_option maxRecDepth 100000 in
set_option maxHeartbeats 6400000 in
theorem refMay_is (i0 i1 i2 i3 : Int) (cv dv ov iv : Value) (L : List Cu) (D : List (List Int)) (o i : List Int) (n : Nat) (w : World) (hC : Custs w cv L) (hG : Grid w dv D) (hO : Ints w ov o) (hI : Ints w iv i) (hn : L.length + 1 = n) (hn2 : n ≤ 4096) (hD : ArcBd D) :
    Calls Try.prog 21 #[.agg #[.int .i64 i0, .int .i64 i1, .int .i64 i2, .int .i64 i3, cv, dv], .agg #[ov, iv]] w fun e w' => e = .returned (.bool (mayB D n o i)) ∧ Below w.heap.size w w' := by
  obtain ⟨w1, ew, hb1, hsz1, hx⟩ := box_inst w (.int .i64 i0) (.int .i64 i1) (.int .i64 i2) (.int .i64 i3) cv dv
  obtain ⟨w2, ew2, hb2, hsz2, p0, p1⟩ := box_price w1 ov iv
  have hbb := bel2 hb1 hb2
  have hsz : w.heap.size ≤ w2.heap.size := hbb.size
  have hx := hx.below hb2
  obtain ⟨c0, c1, c2, c3, c4, c5⟩ := hx
  obtain ⟨ca, cm, cc, rfl, hcm, _, _⟩ := hC.open
  have Hcn : Hid ((n : Int) = (cm : Int) + 1) := Lib.hid (by omega)
  have hcm2 : cm ≤ 4096 := by omega
  have HG := Lib.hid (hG.below hbb)
  have Hb := Lib.hid hbb
  have Hew := Lib.hid ew
  have Hew2 := Lib.hid ew2
  obtain ⟨oa, on, oc, rfl, hon, _, hoc⟩ := (hO.below hbb).open
  obtain ⟨ia, im, ic, rfl, him, _, hic⟩ := (hI.below hbb).open
  rw [hsz1] at p0 p1
  have Hon := Lib.hid hon
  have Him := Lib.hid him
  have hoc' : ∀ k, k < on → ∃ b o', oa = some ⟨b, o', none⟩ ∧ b < w2.heap.size ∧ w2.cell? ⟨b, o' + k, none⟩ = some (.int .i64 (nth o k)) := fun k hk => by
    obtain ⟨b, o', e1, e2⟩ := hoc k hk
    exact ⟨b, o', e1, World.block_lt_of_cell? w2 _ e2, e2⟩
  have hic' : ∀ k, k < im → ∃ b o', ia = some ⟨b, o', none⟩ ∧ b < w2.heap.size ∧ w2.cell? ⟨b, o' + k, none⟩ = some (.int .i64 (nth i k)) := fun k hk => by
    obtain ⟨b, o', e1, e2⟩ := hic k hk
    exact ⟨b, o', e1, World.block_lt_of_cell? w2 _ e2, e2⟩
  have Hoc := Lib.hid hoc'
  have Hic := Lib.hid hic'
  have hnp : 0 < n := by omega
  have hn3 : (n : Int) ≤ 4096 := by omega
  clear ew ew2 hb1 hb2 hsz1 hsz2 hC hG hO hI hn hn2 hbb hon him hcm hoc hic hoc' hic'
  go_enter Try.func21, Try.ntmps21
  go_upto_region 1 with (fail)
  rw [Hew.out, Hew2.out]
  generalize eg : w.heap.size = g at *
  have Heg := Lib.hid eg
  clear eg
  have l0 := World.block_lt_of_cell? w2 _ c0
  have l1 := World.block_lt_of_cell? w2 _ p0
  have hsz3 : g ≤ w2.heap.size := hsz
  have d0 := c0
  have d1 := c1
  have d2 := c2
  have d3 := c3
  have d4 := c4
  have d5 := c5
  have q0 := p0
  have q1 := p1
  clear c0 c1 c2 c3 c4 c5 p0 p1
  go_upto_region 2 with (fail)
  rw [show Value.int .i64 ((cm : Int) + 1) = Value.int .i64 (n : Int) by rw [Hcn.out]]
  have hfin : ∀ w', Below w2.heap.size w2 w' → Below w.heap.size w w' := fun w' h => by rw [Heg.out]; exact Hb.out.trans (h.mono hsz3)
  have Hfin := Lib.hid hfin
  clear hfin
  by_cases e1 : on = n
  · by_cases e2 : im = n
    · subst e1
      subst e2
      have b1 : ((im : Int) != (im : Int)) = false := by simp
      go_wp2_with fail
      go_loopw [6, 7] (fun u b wr => ∃ (k : Nat) (x : Value), u = .int .i64 k ∧ x = b ∧ k ≤ im ∧ (∀ j, j < k → okP o i j) ∧ (∀ a', a' < k → ∀ b', b' < im → a' ≠ b' → IntKind.i64.wrap (nth o a' + nth i b') ≤ arcI D a' b') ∧ Below w2.heap.size w2 wr) (fun u _ _ => im - (intOf u).toNat)
      case atStart => exact ⟨0, _, rfl, rfl, Nat.zero_le _, fun j hj => by omega, fun a' ha => by omega, Below.refl _ _⟩
      case round =>
        obtain ⟨k, x, rfl, rfl, hk, hall, hsum, hbr⟩ := hrel
        have Hall := Lib.hid hall
        have Hsum := Lib.hid hsum
        clear hall hsum
        by_cases hlt : k < im
        · obtain ⟨ob, oo, rfl, lo, f0⟩ := Hoc.out k hlt
          obtain ⟨ib, io, rfl, li, f1⟩ := Hic.out k hlt
          have f03 := cell_below hbr f0
          have f13 := cell_below hbr f1
          obtain ⟨r0, r1, r2, r3, r4, r5, s0, s1⟩ := eight_below hbr ⟨d0, d1, d2, d3, d4, d5, q0, q1⟩
          have hi0 : (0 : Int) ≤ (k : Int) := by omega
          have hi1 : (k : Int) < (im : Int) := by omega
          have Hok : Hid (okP o i k ↔ 0 ≤ nth o k ∧ nth o k ≤ 2147483648 ∧ 0 ≤ nth i k ∧ nth i k ≤ 2147483648) := Lib.hid Iff.rfl
          have Hno := Lib.hid (fun h => may_no (D := D) (o := o) (i := i) hlt h)
          have Hst := Lib.hid (fun (m : Nat) (hm : m < im) (hne : k ≠ m) (h : ¬ IntKind.i64.wrap (nth o k + nth i m) ≤ arcI D k m) => may_sumW hlt hm hne h)
          have HX : Hid (∃ X, X = nth o k) := Lib.hid ⟨_, rfl⟩
          have HYY : Hid (∃ Y, Y = nth i k) := Lib.hid ⟨_, rfl⟩
          obtain ⟨X, hX⟩ := HX.out
          obtain ⟨Y, hY⟩ := HYY.out
          rw [← hX, ← hY] at Hok
          rw [← hX] at f03
          rw [← hY] at f13
          have HX2 := Lib.hid hX
          clear f0 f1 HX HYY hX hY
          have hcase : decide (X < 0) = true ∨ (decide (X < 0) = false ∧ decide (Y < 0) = true) ∨ (decide (X < 0) = false ∧ decide (Y < 0) = false ∧ decide (2147483648 < X) = true) ∨
              (decide (X < 0) = false ∧ decide (Y < 0) = false ∧ decide (2147483648 < X) = false ∧ decide (2147483648 < Y) = true) ∨ (decide (X < 0) = false ∧ decide (Y < 0) = false ∧ decide (2147483648 < X) = false ∧ decide (2147483648 < Y) = false) := by
            by_cases g1 : X < 0
            · exact .inl (by simpa using g1)
            by_cases g3 : Y < 0
            · exact .inr (.inl ⟨by simpa using g1, by simpa using g3⟩)
            by_cases g2 : 2147483648 < X
            · exact .inr (.inr (.inl ⟨by simpa using g1, by simpa using g3, by simpa using g2⟩))
            by_cases g4 : 2147483648 < Y
            · exact .inr (.inr (.inr (.inl ⟨by simpa using g1, by simpa using g3, by simpa using g2, by simpa using g4⟩)))
            · exact .inr (.inr (.inr (.inr ⟨by simpa using g1, by simpa using g3, by simpa using g2, by simpa using g4⟩)))
          rcases hcase with b1 | ⟨b1, b2⟩ | ⟨b1, b2, b3⟩ | ⟨b1, b2, b3, b4⟩ | ⟨b1, b2, b3, b4⟩
          · have Hm := Lib.hid (Hno.out (by rw [Hok.out]; simp at b1; omega))
            go_wp2_with fail
            go_ret
            rw [Hm.out]
            exact ⟨rfl, Hfin.out _ hbr⟩
          · have Hm := Lib.hid (Hno.out (by rw [Hok.out]; simp at b2; omega))
            go_wp2_with fail
            go_ret
            rw [Hm.out]
            exact ⟨rfl, Hfin.out _ hbr⟩
          · have Hm := Lib.hid (Hno.out (by rw [Hok.out]; simp at b3; omega))
            go_wp2_with fail
            go_ret
            rw [Hm.out]
            exact ⟨rfl, Hfin.out _ hbr⟩
          · have Hm := Lib.hid (Hno.out (by rw [Hok.out]; simp at b4; omega))
            go_wp2_with fail
            go_ret
            rw [Hm.out]
            exact ⟨rfl, Hfin.out _ hbr⟩
          · have Hm : Hid (okP o i k) := Lib.hid (by rw [Hok.out]; simp at b1 b2 b3 b4; omega)
            obtain ⟨wo, rfl⟩ : ∃ wo : World, wo = wr := ⟨_, rfl⟩
            go_wp2_with fail
            go_loopw [7] (fun v wr => ∃ (m : Nat), v = .int .i64 m ∧ m ≤ im ∧ (∀ b', b' < m → k ≠ b' → IntKind.i64.wrap (nth o k + nth i b') ≤ arcI D k b') ∧ Below wo.heap.size wo wr) (fun v _ => im - (intOf v).toNat)
            case atStart => exact ⟨0, rfl, Nat.zero_le _, fun b' hb => by omega, Below.refl _ _⟩
            case round =>
              obtain ⟨m, rfl, hm, hin, hbq⟩ := hrel
              have Hin := Lib.hid hin
              clear hin
              have t0 := cell_below hbq f03
              obtain ⟨u0, u1, u2, u3, u4, u5, v0, v1⟩ := eight_below hbq ⟨r0, r1, r2, r3, r4, r5, s0, s1⟩
              by_cases hlm : m < im
              · have hm0 : (0 : Int) ≤ (m : Int) := by omega
                have hm1 : (m : Int) < (im : Int) := by omega
                by_cases hjm : k = m
                · have bne : ((k : Int) != (m : Int)) = false := by simp; omega
                  have Hjm := Lib.hid hjm
                  clear hjm
                  go_wp2_with fail
                  go_quiet (fail)
                  go_wp2_with fail
                  go_roundw
                  case rel => exact ⟨m + 1, by go_num, by omega, fun b' hb hne => by rcases Nat.lt_succ_iff_lt_or_eq.1 hb with h | rfl; exact Hin.out b' h hne; exact absurd Hjm.out hne, below_drewN hbq _⟩
                  case measure => simp [intOf]; omega
                · have bne : ((k : Int) != (m : Int)) = true := by simp; omega
                  obtain ⟨ib', io', hib, li', f1⟩ := Hic.out m hlm
                  simp only [Option.some.injEq, Addr.mk.injEq, and_true] at hib
                  obtain ⟨rfl, rfl⟩ := hib
                  have HbQ := Lib.hid hbq
                  have f13' := cell_below hbq (cell_below hbr f1)
                  have Harc := Lib.hid (fun (W : World) (h : Below wr.heap.size wr W) => refArc_is i0 i1 i2 i3 (.slice ca cm cc) dv D k m W ((HG.out.below (bel2 hbr HbQ.out)).below h))
                  have Hst1 : Hid (¬ IntKind.i64.wrap (X + nth i m) ≤ arcI D k m → mayB D im o i = false) := Lib.hid (fun h => Hst.out m hlm hjm (by rw [← HX2.out]; omega))
                  have Hst2 : Hid (IntKind.i64.wrap (X + nth i m) ≤ arcI D k m → ∀ b', b' < m + 1 → k ≠ b' → IntKind.i64.wrap (nth o k + nth i b') ≤ arcI D k b') := Lib.hid (fun h b' hb hne => by rcases Nat.lt_succ_iff_lt_or_eq.1 hb with h' | rfl; exact Hin.out b' h' hne; rw [← HX2.out]; exact h)
                  generalize nth i m = Z at *
                  generalize arcI D (k : Int) (m : Int) = A at *
                  obtain ⟨S, hS⟩ : ∃ S, IntKind.i64.wrap (X + Z) = S := ⟨_, rfl⟩
                  rw [hS] at Hst1 Hst2
                  have b0 := Below.refl wr.heap.size wr
                  clear f1 hjm hbq
                  by_cases hs : S ≤ A
                  · have bs : decide (A < S) = false := by simp; omega
                    have H2 := Lib.hid (Hst2.out hs)
                    clear hs
                    go_wp2_with fail
                    go_region_held3 (fun w' => (w'.cell? ⟨g, 0, none⟩ = some (.int .i64 i0) ∧ w'.cell? ⟨g, 1, none⟩ = some (.int .i64 i1) ∧ w'.cell? ⟨g, 2, none⟩ = some (.int .i64 i2) ∧ w'.cell? ⟨g, 3, none⟩ = some (.int .i64 i3) ∧ w'.cell? ⟨g, 4, none⟩ = some (.slice ca cm cc) ∧ w'.cell? ⟨g, 5, none⟩ = some dv ∧
                        w'.cell? ⟨g + 1, 0, none⟩ = some (.slice (some ⟨ob, oo, none⟩) im oc) ∧ w'.cell? ⟨g + 1, 1, none⟩ = some (.slice (some ⟨ib, io, none⟩) im ic)) ∧ w'.cell? ⟨ob, oo + k, none⟩ = some (.int .i64 X) ∧ w'.cell? ⟨ib, io + m, none⟩ = some (.int .i64 Z))
                      (first | go_keep | exact ⟨eight_below b6 ⟨u0, u1, u2, u3, u4, u5, v0, v1⟩, cell_below b6 t0, cell_below b6 f13'⟩)
                      (first | (go_at_call 23; refine (Harc.out _ ?_).mono ?_; (first | exact b0 | exact belDrew _); rintro e w6 ⟨rfl, hb6⟩; (first | have b6 := bel2 b0 hb6 | have b6 := bel2 (belDrew wr) hb6)))
                    all_goals
                      go_wp2_with fail
                      go_roundw
                      case rel => exact ⟨m + 1, by go_num, by omega, H2.out, (by first | exact bel2 HbQ.out b6 | exact bel2 HbQ.out b6.drew)⟩
                      case measure => simp [intOf]; omega
                  · have bs : decide (A < S) = true := by simp; omega
                    have Hm2 := Lib.hid (Hst1.out hs)
                    clear hs
                    go_wp2_with fail
                    go_region_held3 (fun w' => (w'.cell? ⟨g, 0, none⟩ = some (.int .i64 i0) ∧ w'.cell? ⟨g, 1, none⟩ = some (.int .i64 i1) ∧ w'.cell? ⟨g, 2, none⟩ = some (.int .i64 i2) ∧ w'.cell? ⟨g, 3, none⟩ = some (.int .i64 i3) ∧ w'.cell? ⟨g, 4, none⟩ = some (.slice ca cm cc) ∧ w'.cell? ⟨g, 5, none⟩ = some dv ∧
                        w'.cell? ⟨g + 1, 0, none⟩ = some (.slice (some ⟨ob, oo, none⟩) im oc) ∧ w'.cell? ⟨g + 1, 1, none⟩ = some (.slice (some ⟨ib, io, none⟩) im ic)) ∧ w'.cell? ⟨ob, oo + k, none⟩ = some (.int .i64 X) ∧ w'.cell? ⟨ib, io + m, none⟩ = some (.int .i64 Z))
                      (first | go_keep | exact ⟨eight_below b6 ⟨u0, u1, u2, u3, u4, u5, v0, v1⟩, cell_below b6 t0, cell_below b6 f13'⟩)
                      (first | (go_at_call 23; refine (Harc.out _ ?_).mono ?_; (first | exact b0 | exact belDrew _); rintro e w6 ⟨rfl, hb6⟩; (first | have b6 := bel2 b0 hb6 | have b6 := bel2 (belDrew wr) hb6)))
                    all_goals
                      go_wp2_with fail
                      go_ret
                      rw [Hm2.out]
                      exact ⟨rfl, Hfin.out _ (bel2 hbr (by first | exact bel2 HbQ.out b6 | exact bel2 HbQ.out b6.drew))⟩
              · have hmk : m = im := by omega
                subst hmk
                go_wp2_with fail
                go_roundw
                case rel => exact ⟨k + 1, _, by go_num, rfl, by omega, fun j hj => by rcases Nat.lt_succ_iff_lt_or_eq.1 hj with h | rfl; exact Hall.out j h; exact Hm.out, fun a' ha b' hb hne => by rcases Nat.lt_succ_iff_lt_or_eq.1 ha with h | rfl; exact Hsum.out a' h b' hb hne; exact Hin.out b' hb hne, bel2 hbr hbq⟩
                case measure => simp [intOf]; omega
        · have hkn : k = im := by omega
          subst hkn
          have Hm := Lib.hid (may_yesW Hon.out Him.out Hall.out Hsum.out)
          go_wp2_with fail
          go_ret
          rw [Hm.out]
          exact ⟨rfl, Hfin.out _ hbr⟩
    · have Hm := Lib.hid (may_len (D := D) (n := n) (o := o) (i := i) (fun h => e2 (by rw [← Him.out]; exact h.2)))
      subst e1
      have b1 : ((on : Int) != (on : Int)) = false := by simp
      have b2 : ((im : Int) != (on : Int)) = true := by simp; omega
      go_wp2_with fail
      go_ret
      rw [Hm.out]
      exact ⟨rfl, Hfin.out _ (Below.refl _ _)⟩
  · have Hm := Lib.hid (may_len (D := D) (n := n) (o := o) (i := i) (fun h => e1 (by rw [← Hon.out]; exact h.1)))
    have b1 : ((on : Int) != (n : Int)) = true := by simp; omega
    go_wp2_with fail
    go_ret
    rw [Hm.out]
    exact ⟨rfl, Hfin.out _ (Below.refl _ _)⟩
end Go.Proofs.Ythilfibgpobcjaa
