/-
  My own work: tranterref12.Customers, tranterref06.Way: their contracts.
-/
import Derived.Test.YthilfibgpobcjaaTourA
import Derived.Test.YthilfibgpobcjaaDualB
namespace Go.Proofs.Ythilfibgpobcjaa
open Go.RowKit
set_option linter.unusedVariables false
attribute [local go_sem ↓] Go.wp_at_zero Go.wp_at_succ

theorem fst_take (xs : List (Int × Int)) (k : Nat) (h : k < xs.length) : (xs.map (·.1)).take (k + 1) = (xs.map (·.1)).take k ++ [(nthP xs k).1] := by
  rw [← List.map_take, ← List.map_take, takeP_succ xs k h, List.map_append]; rfl

set_option maxRecDepth 100000 in
set_option maxHeartbeats 1600000 in
theorem custsOf_is (sv : Value) (xs : List (Int × Int)) (w : World) (h : Pairs w sv xs) (hx : xs.length ≤ 1000000) :
    Calls Try.prog 17 #[.agg #[sv]] w fun e w' => ∃ v, e = .returned v ∧ Own w' w.heap.size v (xs.map (·.1)) ∧ Below w.heap.size w w' := by
  obtain ⟨w1, ew, hb1, hs1, c0⟩ : ∃ w1, w.alloc (.cells #[sv] 40) = w1 ∧ Below w.heap.size w w1 ∧ w1.heap.size = w.heap.size + 1 ∧ w1.cell? ⟨w.heap.size, 0, none⟩ = some sv := ⟨_, rfl, belAlloc _ _, by simp, by simp [go_sem]⟩
  obtain ⟨a, n, c, rfl, hn, _, hc⟩ := (h.below hb1).open
  have Hew := Lib.hid ew
  have Hn := Lib.hid hn
  have Hc := Lib.hid hc
  have hn2 : n ≤ 1000000 := by omega
  have hsz : w.heap.size ≤ w1.heap.size := hb1.size
  clear ew hs1 h hn hc hx
  go_enter Try.func17, Try.ntmps17
  go_upto_region 1 with (fail)
  rw [Hew.out]
  go_wp2_with fail
  go_loopw [3, 4] (fun v i wr => ∃ (k : Nat) (x : Value), i = .int .i64 k ∧ x = v ∧ k ≤ n ∧ Own wr w1.heap.size x ((xs.map (·.1)).take k) ∧ Below w1.heap.size w1 wr) (fun _ i _ => n - (intOf i).toNat)
  case atStart => exact ⟨0, _, rfl, rfl, Nat.zero_le _, Own.nil _ _, Below.refl _ _⟩
  case round =>
    obtain ⟨k, x, rfl, rfl, hk, hown, hb⟩ := hrel
    have Hown := Lib.hid hown
    have c0r := cell_below hb c0
    have hszr : w1.heap.size ≤ wr.heap.size := hb.size
    clear hown
    by_cases hlt : k < n
    · obtain ⟨b, o, rfl, f0, _⟩ := Hc.out k hlt
      have f0r := cell_below hb f0
      have Hst := Lib.hid (fst_take xs k (by rw [Hn.out]; exact hlt))
      have hlen : Hid (((xs.map (·.1)).take k).length + 1 ≤ 17592186044416) := Lib.hid (by rw [List.length_take]; omega)
      have hi0 : (0 : Int) ≤ (k : Int) := by omega
      have hi1 : (k : Int) < (n : Int) := by omega
      generalize (nthP xs k).1 = X at *
      clear f0
      go_wp2_with (at_builtin; refine wpList_push rfl _ _ rfl wr w1.heap.size x ((xs.map (·.1)).take k) X rfl rfl Hown.out hlen.out hszr ?_)
      intro v' w5 hown5 g5 hb5
      rw [← Hst.out] at hown5
      have hb5' := hb.trans hb5
      clear g5 hb5 hb
      go_wp2_with fail
      go_roundw
      case rel => exact ⟨k + 1, _, by go_num, rfl, by omega, hown5, hb5'⟩
      case measure => simp [intOf]; omega
    · have hkn : k = n := by omega
      subst hkn
      have Hall : Hid ((xs.map (·.1)).take k = xs.map (·.1)) := Lib.hid (List.take_of_length_le (by rw [List.length_map, Hn.out]; exact Nat.le_refl _))
      go_wp2_with fail
      go_ret
      exact ⟨_, rfl, by rw [← Hall.out]; exact Hown.out.mono hsz, hb1.trans (hb.mono hsz)⟩

theorem way_one (D : List (List Int)) (c : List Int) : wayTo D c 1 = arcI D 0 (nth c 0 + 1) + arcI D (nth c (c.length - 1) + 1) 0 := rfl
theorem way_succ (D : List (List Int)) (c : List Int) (k : Nat) : wayTo D c (k + 2) = wayTo D c (k + 1) + arcI D (nth c k + 1) (nth c (k + 1) + 1) := rfl

set_option maxRecDepth 100000 in
set_option maxHeartbeats 6400000 in
theorem refWay_is (i0 i1 i2 i3 : Int) (cv dv lv : Value) (D : List (List Int)) (c : List Int) (w : World) (hG : Grid w dv D) (hD : ArcBd D) (hl : Ints w lv c) (hp : 0 < c.length) (hlen : c.length ≤ 1000) (hcb : ∀ k, 0 ≤ nth c k ∧ nth c k ≤ 1000000) :
    Calls Try.prog 18 #[.agg #[.int .i64 i0, .int .i64 i1, .int .i64 i2, .int .i64 i3, cv, dv], lv] w fun e w' => e = .returned (.int .i64 (wayI D c)) ∧ Below w.heap.size w w' := by
  obtain ⟨w1, ew, hb1, hsz1, hx⟩ := box_inst w (.int .i64 i0) (.int .i64 i1) (.int .i64 i2) (.int .i64 i3) cv dv
  obtain ⟨c0, c1, c2, c3, c4, c5⟩ := hx
  obtain ⟨a, n, lc, rfl, hn, _, hc⟩ := (hl.below hb1).open
  obtain ⟨p, hnp⟩ : ∃ p, n = p + 1 := ⟨n - 1, by omega⟩
  have HG := Lib.hid (hG.below hb1)
  have Hew := Lib.hid ew
  have Hc := Lib.hid hc
  have Hn := Lib.hid hn
  have hsz : w.heap.size ≤ w1.heap.size := hb1.size
  have hn3 : (n : Int) ≤ 1000 := by omega
  obtain ⟨b, o, rfl, e0⟩ := hc 0 (by omega)
  obtain ⟨_, _, he, e1⟩ := hc p (by omega)
  simp only [Option.some.injEq, Addr.mk.injEq, and_true] at he
  obtain ⟨rfl, rfl⟩ := he
  rw [Nat.add_zero] at e0
  have hX := hcb 0
  have hY := hcb p
  have h1 : ((n : Int) == 0) = false := by simp; omega
  have hone := way_one D c
  rw [hn, hnp, show p + 1 - 1 = p by omega] at hone
  have Hcb := Lib.hid hcb
  have HDb := Lib.hid hD
  have Harc := Lib.hid (fun (W : World) (x y : Int) (h : Below w1.heap.size w1 W) => refArc_is i0 i1 i2 i3 cv dv D x y W (HG.out.below h))
  have Hone := Lib.hid hone
  obtain ⟨X, hXe⟩ : ∃ X, X = nth c 0 := ⟨_, rfl⟩
  obtain ⟨Y, hYe⟩ : ∃ Y, Y = nth c p := ⟨_, rfl⟩
  rw [← hXe] at e0 hX Hone
  rw [← hYe] at e1 hY Hone
  obtain ⟨hX1, hX2⟩ := hX
  obtain ⟨hY1, hY2⟩ := hY
  have hw1 : IntKind.i64.wrap (X + 1) = X + 1 := IntWalk.i64_in _ (by omega)
  have hw2 : IntKind.i64.wrap (Y + 1) = Y + 1 := IntWalk.i64_in _ (by omega)
  have hw3 : IntKind.i64.wrap ((n : Int) - 1) = (p : Int) := by rw [IntWalk.i64_in _ (by omega)]; omega
  have hA := hD 0 (X + 1)
  have hB := hD (Y + 1) 0
  obtain ⟨A, hAe⟩ : ∃ A, A = arcI D 0 (X + 1) := ⟨_, rfl⟩
  obtain ⟨B, hBe⟩ : ∃ B, B = arcI D (Y + 1) 0 := ⟨_, rfl⟩
  rw [← hAe] at hA Hone
  rw [← hBe] at hB Hone
  obtain ⟨hA1, hA2⟩ := hA
  obtain ⟨hB1, hB2⟩ := hB
  have hHA := fun (W : World) (h : Below w1.heap.size w1 W) => Harc.out W 0 (X + 1) h
  have hHB := fun (W : World) (h : Below w1.heap.size w1 W) => Harc.out W (Y + 1) 0 h
  rw [← hAe] at hHA
  rw [← hBe] at hHB
  have HA := Lib.hid hHA
  have HB := Lib.hid hHB
  clear hHA hHB
  have hw4 : IntKind.i64.wrap (A + B) = A + B := IntWalk.i64_in _ (by omega)
  have hp0 : (0 : Int) ≤ (p : Int) := by omega
  have hp1 : (p : Int) < (n : Int) := by omega
  have hn0 : (0 : Int) < (n : Int) := by omega
  have hn0n : 0 < n := by omega
  have hpn : p < n := by omega
  have b0 := Below.refl w1.heap.size w1
  have Hp := Lib.hid hnp
  clear ew hsz1 hl hG hc hn hone hXe hYe hAe hBe hD hcb hnp hlen
  go_enter Try.func18, Try.ntmps18
  go_upto_region 1 with (fail)
  rw [Hew.out]
  generalize eg : w.heap.size = g at *
  have Heg := Lib.hid eg
  clear eg
  go_upto_region 3 with fail
  go_cut [5] (fun s5 wx => s5 = .int .i64 (A + B) ∧ Below w1.heap.size w1 wx)
  case first =>
    go_region_held3 (fun w' => w'.cell? ⟨g, 0, none⟩ = some (.int .i64 i0) ∧ w'.cell? ⟨g, 1, none⟩ = some (.int .i64 i1) ∧ w'.cell? ⟨g, 2, none⟩ = some (.int .i64 i2) ∧ w'.cell? ⟨g, 3, none⟩ = some (.int .i64 i3) ∧ w'.cell? ⟨g, 4, none⟩ = some cv ∧ w'.cell? ⟨g, 5, none⟩ = some dv ∧
        w'.cell? ⟨b, o, none⟩ = some (.int .i64 X) ∧ w'.cell? ⟨b, o + p, none⟩ = some (.int .i64 Y))
      (first | go_keep | exact ⟨cell_below b7 c0, cell_below b7 c1, cell_below b7 c2, cell_below b7 c3, cell_below b7 c4, cell_below b7 c5, cell_below b7 e0, cell_below b7 e1⟩ | exact ⟨cell_below b6 c0, cell_below b6 c1, cell_below b6 c2, cell_below b6 c3, cell_below b6 c4, cell_below b6 c5, cell_below b6 e0, cell_below b6 e1⟩)
      (first
        | (go_at_call 23; (with_reducible refine (HA.out _ ?_).mono ?_); (first | exact b0 | exact belDrew _); rintro e w6 ⟨rfl, hb6⟩; (first | have b6 := bel2 b0 hb6 | have b6 := bel2 (belDrew w1) hb6))
        | (go_at_call 23; (with_reducible refine (HB.out _ ?_).mono ?_); exact b6; rintro e w7 ⟨rfl, hb7⟩; have b7 := bel2 b6 hb7))
    all_goals
      go_wp2_with fail
      go_meet
      exact ⟨rfl, by first | exact b7 | exact b7.drew⟩
  case rest =>
    obtain ⟨rfl, hbc⟩ := hcut
    obtain ⟨w5, rfl⟩ : ∃ w5 : World, w5 = wc := ⟨_, rfl⟩
    have Hbc := Lib.hid hbc
    clear hw1 hw2 hw3 hw4 e0 e1 hbc
    go_wp2_with fail
    go_loopw [5, 6] (fun s i wr => ∃ (k : Nat) (S : Int), i = .int .i64 ((k : Int) + 1) ∧ s = .int .i64 S ∧ S = wayTo D c (k + 1) ∧ k + 1 ≤ n ∧ Below w1.heap.size w1 wr) (fun _ i _ => n - (intOf i).toNat)
    case atStart => exact ⟨0, A + B, rfl, rfl, Hone.out.symm, by omega, Hbc.out⟩
    case round =>
      obtain ⟨k, S, rfl, rfl, hS, hk, hb⟩ := hrel
      have hSb := way_bd HDb.out c (k + 1)
      rw [← hS] at hSb
      obtain ⟨hS1, hS2⟩ := hSb
      have HS := Lib.hid hS
      have Hb := Lib.hid hb
      obtain ⟨d0, d1, d2, d3, d4, d5⟩ := six_below hb ⟨c0, c1, c2, c3, c4, c5⟩
      clear hS hb
      by_cases hlt : k + 1 < n
      · obtain ⟨_, _, he1, f0⟩ := Hc.out k (by omega)
        simp only [Option.some.injEq, Addr.mk.injEq, and_true] at he1
        obtain ⟨rfl, rfl⟩ := he1
        obtain ⟨_, _, he2, f1⟩ := Hc.out (k + 1) hlt
        simp only [Option.some.injEq, Addr.mk.injEq, and_true] at he2
        obtain ⟨rfl, rfl⟩ := he2
        have f0r := cell_below Hb.out f0
        have f1r := cell_below Hb.out f1
        have hx := Hcb.out k
        have hy := Hcb.out (k + 1)
        obtain ⟨hx1, hx2⟩ := hx
        obtain ⟨hy1, hy2⟩ := hy
        have hst := way_succ D c k
        rw [← HS.out] at hst
        have Hst := Lib.hid hst
        generalize nth c k = P at *
        generalize nth c (k + 1) = Q at *
        have hA := HDb.out (P + 1) (Q + 1)
        have HAr := Lib.hid (fun (W : World) (h : Below wr.heap.size wr W) => Harc.out W (P + 1) (Q + 1) (bel2 Hb.out h))
        generalize arcI D (P + 1) (Q + 1) = R at *
        obtain ⟨hA1', hA2'⟩ := hA
        have hk2 : (k : Int) ≤ 1000 := by omega
        have hv1 : IntKind.i64.wrap ((k : Int) + 1 - 1) = (k : Int) := by rw [IntWalk.i64_in _ (by omega)]; omega
        have hv5 : IntKind.i64.wrap (k : Int) = (k : Int) := IntWalk.i64_in _ (by omega)
        have hv2 : IntKind.i64.wrap (P + 1) = P + 1 := IntWalk.i64_in _ (by omega)
        have hv3 : IntKind.i64.wrap (Q + 1) = Q + 1 := IntWalk.i64_in _ (by omega)
        have hv4 : IntKind.i64.wrap (S + R) = S + R := IntWalk.i64_in _ (by omega)
        have hi0 : (0 : Int) ≤ (k : Int) := by omega
        have hi1 : (k : Int) < (n : Int) := by omega
        have hi2 : (k : Int) + 1 < (n : Int) := by omega
        have hi3 : (0 : Int) ≤ (k : Int) + 1 := by omega
        have hi4 : ((k : Int) + 1).toNat = k + 1 := by omega
        have hi5 : k < n := by omega
        have hi6 : k + 1 < n := by omega
        have b00 := Below.refl wr.heap.size wr
        clear f0 f1 hst
        go_wp2_with fail
        go_region_held3 (fun w' => w'.cell? ⟨g, 0, none⟩ = some (.int .i64 i0) ∧ w'.cell? ⟨g, 1, none⟩ = some (.int .i64 i1) ∧ w'.cell? ⟨g, 2, none⟩ = some (.int .i64 i2) ∧ w'.cell? ⟨g, 3, none⟩ = some (.int .i64 i3) ∧ w'.cell? ⟨g, 4, none⟩ = some cv ∧ w'.cell? ⟨g, 5, none⟩ = some dv ∧
            w'.cell? ⟨b, o + k, none⟩ = some (.int .i64 P) ∧ w'.cell? ⟨b, o + (k + 1), none⟩ = some (.int .i64 Q))
          (first | go_keep | exact ⟨cell_below b6 d0, cell_below b6 d1, cell_below b6 d2, cell_below b6 d3, cell_below b6 d4, cell_below b6 d5, cell_below b6 f0r, cell_below b6 f1r⟩)
          (first | (go_at_call 23; refine (HAr.out _ ?_).mono ?_; (first | exact b00 | exact belDrew _); rintro e w6 ⟨rfl, hb6⟩; (first | have b6 := bel2 b00 hb6 | have b6 := bel2 (belDrew wr) hb6)))
        all_goals
          clear hv1
          go_wp2_with fail
          go_roundw
          case rel => exact ⟨k + 1, S + R, by go_num, rfl, Hst.out.symm, by omega, (by first | exact bel2 Hb.out b6 | exact bel2 Hb.out b6.drew)⟩
          case measure => simp [intOf]; omega
      · have hkn : k + 1 = n := by omega
        have Hr : Hid (S = wayI D c) := Lib.hid (by unfold wayI; rw [Hn.out, ← hkn]; exact HS.out)
        have hge : decide ((k : Int) + 1 < (n : Int)) = false := by simp; omega
        clear hkn hlt
        go_wp2_with fail
        go_ret
        rw [Hr.out]
        exact ⟨rfl, by rw [Heg.out]; exact hb1.trans (Hb.out.mono hsz)⟩
end Go.Proofs.Ythilfibgpobcjaa
