/-
  My own work: alone.Cost: its contract.
-/
import Derived.Test.YtnhcgpkcmfelkaaGreatMAl
import Derived.Deep.RegionHeld3
import Derived.Deep.CutBlock
namespace Go.Proofs.YtnhcgpkcmfelkaaGreat
open Go.RowKit
set_option linter.unusedVariables false
set_option maxRecDepth 100000
attribute [local go_sem ↓] Go.wp_at_zero Go.wp_at_succ

theorem cust8_below {w w' : World} {g : Nat} {v0 v1 v2 v3 v4 v5 v6 v7 : Value} (hb : Below w.heap.size w w')
    (h : w.cell? ⟨g, 0, none⟩ = some v0 ∧ w.cell? ⟨g, 1, none⟩ = some v1 ∧ w.cell? ⟨g, 2, none⟩ = some v2 ∧ w.cell? ⟨g, 3, none⟩ = some v3 ∧ w.cell? ⟨g, 4, none⟩ = some v4 ∧ w.cell? ⟨g, 5, none⟩ = some v5 ∧ w.cell? ⟨g, 6, none⟩ = some v6 ∧ w.cell? ⟨g, 7, none⟩ = some v7) :
    w'.cell? ⟨g, 0, none⟩ = some v0 ∧ w'.cell? ⟨g, 1, none⟩ = some v1 ∧ w'.cell? ⟨g, 2, none⟩ = some v2 ∧ w'.cell? ⟨g, 3, none⟩ = some v3 ∧ w'.cell? ⟨g, 4, none⟩ = some v4 ∧ w'.cell? ⟨g, 5, none⟩ = some v5 ∧ w'.cell? ⟨g, 6, none⟩ = some v6 ∧ w'.cell? ⟨g, 7, none⟩ = some v7 := by
  obtain ⟨h0, h1, h2, h3, h4, h5, h6, h7⟩ := h
  exact ⟨cell_below hb h0, cell_below hb h1, cell_below hb h2, cell_below hb h3, cell_below hb h4, cell_below hb h5, cell_below hb h6, cell_below hb h7⟩
theorem priceV_succ (P : List Int) (V : List (Int × Int)) (k : Nat) (h : k < V.length) : priceV P (V.take (k + 1)) = priceV P (V.take k) + priceAt P (nthV V k).1 := by
  rw [takeV_succ V k h, priceV_append]
  simp [priceV]
theorem priceV_bd {P : List Int} (hP : ∀ d, 0 ≤ priceAt P d ∧ priceAt P d ≤ 1000) (V : List (Int × Int)) : 0 ≤ priceV P V ∧ priceV P V ≤ 1000 * V.length := by
  induction V with
  | nil => simp [priceV]
  | cons x V ih =>
    have h := hP x.1
    have e : priceV P (x :: V) = priceAt P x.1 + priceV P V := by simp [priceV]
    rw [e, List.length_cons]
    omega
theorem priceV_take_bd {P : List Int} (hP : ∀ d, 0 ≤ priceAt P d ∧ priceAt P d ≤ 1000) (V : List (Int × Int)) (k : Nat) (hk : k ≤ 64) : 0 ≤ priceV P (V.take k) ∧ priceV P (V.take k) ≤ 64000 := by
  have h1 := priceV_bd hP (V.take k)
  have h2 := List.length_take_le k V
  omega
/-- The nights that are told are between 0 and the tank's size. -/
theorem nights_bd {st rt sz ru hd : Int} (T : TankOk st rt sz ru hd) (q : List Int) : ∀ x ∈ (nightsE st rt sz q).2, -10000 ≤ x ∧ x ≤ 10000 := by
  intro x hx
  rcases nightsE_cases st rt sz q with ⟨h, _⟩ | ⟨h, _⟩ | ⟨h, h1, h2⟩
  · rw [h] at hx; simp at hx
  · rw [h] at hx; simp at hx
  · rw [h] at hx
    obtain ⟨k, hk, rfl⟩ := List.mem_map.1 hx
    rw [List.mem_range] at hk
    have h3 := okDay_bd (h2 k hk)
    rw [morn_succ _ _ _ _ hk]
    have := T.sz1; have := T.rt0
    omega
theorem nights_len (st rt sz : Int) (q : List Int) : (nightsE st rt sz q).2.length ≤ q.length := by
  rcases nightsE_cases st rt sz q with ⟨h, _⟩ | ⟨h, _⟩ | ⟨h, h1, h2⟩
  · rw [h]; simp
  · rw [h]; simp
  · rw [h]; simp [nightL_len]
theorem brings_len (V : List (Int × Int)) (n : Nat) : (bringsOf V n).length = n := by
  have := bringsTo_len V n V.length
  unfold bringsTo at this
  rw [List.take_length] at this
  exact this

def CostOut (w : World) (k : Int) (e : Ending) (w' : World) : Prop := e = .returned (.int .i64 k) ∧ Below w.heap.size w w'

set_option maxHeartbeats 3200000 in
theorem cost_is (kd dm : Int) (pt pv vv : Value) (rt sz st ru hd : Int) (n : Nat) (P : List Int) (V : List (Int × Int)) (w : World) (hkd : kd = 1 ∨ (kd = 2 ∧ TankOk st rt sz ru hd)) (hn : n ≤ 20) (hP : Ints w pv P) (hPb : ∀ d, 0 ≤ priceAt P d ∧ priceAt P d ≤ 1000) (hV : Vis w vv V) (hVl : V.length ≤ 64) (hVf : ∀ p ∈ V, fitsI p.2 = true) :
    Calls Tryz.prog 84 #[.agg #[.int .i64 kd, .int .i64 dm, pt, .int .i64 rt, .int .i64 sz, .int .i64 st, .int .i64 ru, .int .i64 hd], .int .i64 n, pv, vv] w (CostOut w (costV kd st rt sz hd P V n)) := by
  obtain ⟨w1, ew, hb1, hsz1, hcu⟩ := box_cust w kd dm pt rt sz st ru hd
  obtain ⟨a, m, c, rfl, hm, _, hc⟩ := (hV.below hb1).open
  have Hew := Lib.hid ew
  have HP := Lib.hid (hP.below hb1)
  have HV := Lib.hid (hV.below hb1)
  have HPb := Lib.hid hPb
  have Hc := Lib.hid hc
  have Hm := Lib.hid hm
  have Hkd := Lib.hid hkd
  have HVf := Lib.hid hVf
  have hm64 : m ≤ 64 := by omega
  have hsz : w.heap.size ≤ w1.heap.size := hb1.size
  obtain ⟨c0, c1, c2, c3, c4, c5, c6, c7⟩ := hcu
  clear ew hsz1 hP hV hPb hc hm hVl hkd hVf
  go_enter Tryz.func84, Tryz.ntmps84
  go_upto_region 1 with (fail)
  rw [Hew.out]
  go_wp2_with fail
  go_loopw [9, 16] (fun s i wr => ∃ (k : Nat) (Q : Int), k ≤ m ∧ i = .int .i64 k ∧ s = .int .i64 Q ∧ Q = priceV P (V.take k) ∧ Below w1.heap.size w1 wr) (fun _ i _ => m - (intOf i).toNat)
  case atStart => exact ⟨0, 0, Nat.zero_le _, rfl, rfl, by simp [priceV], Below.refl _ _⟩
  case round =>
    obtain ⟨k, Q, hk, rfl, rfl, hQ, hb⟩ := hrel
    have HQ := Lib.hid hQ
    have Hb := Lib.hid hb
    have hQb := priceV_take_bd HPb.out V k (by omega)
    rw [← hQ] at hQb
    clear hQ
    by_cases hlt : k < m
    · obtain ⟨b, o, rfl, f0, f1⟩ := Hc.out k hlt
      have f0r := cell_below hb f0
      have f1r := cell_below hb f1
      have hst := priceV_succ P V k (by rw [Hm.out]; exact hlt)
      rw [← HQ.out] at hst
      generalize (nthV V k).1 = D at *
      generalize (nthV V k).2 = X at *
      obtain ⟨w5, ew5⟩ : ∃ w5, wr.alloc (.cells #[.int .i64 D, .int .i64 X] 76) = w5 := ⟨_, rfl⟩
      have hb5 : Below wr.heap.size wr w5 := by rw [← ew5]; exact belAlloc _ _
      have q0 : w5.cell? ⟨wr.heap.size, 0, none⟩ = some (.int .i64 D) := by rw [← ew5]; simp [go_sem]
      have Hpr := Lib.hid (priceOf_is pv P D w5 (HP.out.below (bel2 hb hb5)))
      have hp := HPb.out D
      generalize priceAt P D = R at *
      have hw : wrap64 (Q + R) = Q + R := wrap_id (by omega) (by omega)
      have Hst := Lib.hid hst
      have Hb5 := Lib.hid (bel2 hb hb5)
      have Hew5 := Lib.hid ew5
      have hi0 : (0 : Int) ≤ (k : Int) := by omega
      have hi1 : (k : Int) < (m : Int) := by omega
      clear f0 f1 hst ew5 hb5 hb
      go_upto_region 5 with fail
      rw [Hew5.out]
      go_wp2_with fail
      refine Hpr.out.mono ?_
      rintro e w6 ⟨rfl, rfl⟩
      go_wp2_with fail
      go_roundw
      case rel => exact ⟨k + 1, Q + R, by omega, by go_num, rfl, Hst.out.symm, Hb5.out⟩
      case measure => simp [intOf]; omega
    · have hQf : Hid (Q = priceV P V) := Lib.hid (by rw [HQ.out, List.take_of_length_le (by rw [Hm.out]; omega)])
      obtain ⟨d0, d1, d2, d3, d4, d5, d6, d7⟩ : IsCust wr w.heap.size kd dm pt rt sz st ru hd := IsCust.below ⟨c0, c1, c2, c3, c4, c5, c6, c7⟩ hb
      have HVr := Lib.hid (HV.out.below hb)
      have hbw := hb1.trans (hb.mono hsz)
      have hszr : w.heap.size ≤ wr.heap.size := hbw.size
      by_cases hk1 : kd = 1
      · have hk1' : (kd == 1) = true := by simpa using hk1
        have Hres : Hid (costV kd st rt sz hd P V n = Q) := Lib.hid (by unfold costV; rw [if_pos hk1, hQf.out]; omega)
        clear hk1
        go_wp2_with fail
        go_ret
        rw [Hres.out]
        exact ⟨rfl, hbw⟩
      · have hk1' : (kd == 1) = false := by simpa using hk1
        have T : TankOk st rt sz ru hd := by rcases Hkd.out with h | h; exact absurd h hk1; exact h.2
        have hclip : (clipI (n : Int) 0 64).toNat = n := by unfold clipI; omega
        have hBr := fun (W : World) (h : Below wr.heap.size wr W) => brings_is (.slice a m c) V n W (HVr.out.below h) HVf.out
        rw [hclip] at hBr
        have HBr := Lib.hid hBr
        obtain ⟨BQ, hBQ⟩ : ∃ BQ, BQ = bringsOf V n := ⟨_, rfl⟩
        rw [← hBQ] at HBr
        have hBl : BQ.length = n := by rw [hBQ]; exact brings_len V n
        have hSm : Small st rt sz BQ := ⟨T.st0, by have := T.st1; have := T.sz1; omega, T.rt0, by have := T.rt1; omega, by omega⟩
        have HNi := Lib.hid (fun (W : World) (qv : Value) (h : Ints W qv BQ) => nights_is kd dm pt rt sz st ru hd qv BQ W h hSm)
        have hh := held_small T.hd0 T.hd1 (nights_bd T BQ) (by have := nights_len st rt sz BQ; omega)
        have Hres : Hid (costV kd st rt sz hd P V n = Q + hd * (nightsE st rt sz BQ).2.sum) := Lib.hid (by unfold costV; rw [if_neg hk1, hQf.out, hBQ])
        obtain ⟨hh1, hh2, hh3⟩ := hh
        generalize (nightsE st rt sz BQ).2 = NL at *
        generalize (nightsE st rt sz BQ).1 = NE at *
        have HHe := Lib.hid (fun (W : World) (v : Value) (h : Ints W v NL) => held_is kd dm pt rt sz st ru hd v NL W h)
        rw [hh1] at HHe
        generalize hd * NL.sum = HH at *
        have hw : wrap64 (Q + HH) = Q + HH := wrap_id (by omega) (by omega)
        have HB := Lib.hid hbw
        have b0 := Below.refl wr.heap.size wr
        clear hk1 hBr hBQ hBl hSm hh1 hbw hb T
        go_upto_region 9 with fail
        go_cut [12] (fun s12 wx => ∃ v, v = s12 ∧ Ints wx v NL ∧ Below wr.heap.size wr wx)
        case first =>
          go_region_held3 (fun w' => (w'.cell? ⟨w.heap.size, 0, none⟩ = some (.int .i64 kd) ∧ w'.cell? ⟨w.heap.size, 1, none⟩ = some (.int .i64 dm) ∧ w'.cell? ⟨w.heap.size, 2, none⟩ = some pt ∧ w'.cell? ⟨w.heap.size, 3, none⟩ = some (.int .i64 rt) ∧ w'.cell? ⟨w.heap.size, 4, none⟩ = some (.int .i64 sz) ∧ w'.cell? ⟨w.heap.size, 5, none⟩ = some (.int .i64 st) ∧ w'.cell? ⟨w.heap.size, 6, none⟩ = some (.int .i64 ru) ∧ w'.cell? ⟨w.heap.size, 7, none⟩ = some (.int .i64 hd)))
            (first | go_keep | exact cust8_below b5 ⟨d0, d1, d2, d3, d4, d5, d6, d7⟩ | exact cust8_below b6 ⟨d0, d1, d2, d3, d4, d5, d6, d7⟩)
            (first
              | (go_at_call 106; refine (HBr.out _ ?_).mono ?_; (first | exact b0 | exact belDrew _); rintro e w5 ⟨bv, rfl, hown5, hb5⟩; have hI5 := hown5.ints; (first | have b5 := bel2 b0 hb5 | have b5 := bel2 (belDrew wr) hb5))
              | (go_at_call 105; refine (HNi.out _ _ ?_).mono ?_; (first | exact hI5 | exact hI5.below (belDrew _)); rintro e w6 ⟨nv, rfl, hown6, hb6⟩; have hI6 := hown6.ints; (first | have b6 := bel2 b5 hb6 | have b6 := bel2 (bel2 b5 (belDrew _)) hb6)))
          all_goals
            go_wp2_with fail
            go_meet
            exact ⟨nv, rfl, hI6, by first | exact b6 | exact b6.drew⟩
        case rest =>
          obtain ⟨nv, rfl, hI, hbc⟩ := hcut
          obtain ⟨w7, rfl⟩ : ∃ w7 : World, w7 = wc := ⟨_, rfl⟩
          obtain ⟨d0, d1, d2, d3, d4, d5, d6, d7⟩ : IsCust w7 w.heap.size kd dm pt rt sz st ru hd := IsCust.below ⟨d0, d1, d2, d3, d4, d5, d6, d7⟩ hbc
          have HI := Lib.hid hI
          have HB7 := Lib.hid (HB.out.trans (hbc.mono hszr))
          clear hI hbc
          go_wp2_with fail
          refine (HHe.out w7 nv HI.out).mono ?_
          rintro e w8 ⟨rfl, hb8⟩
          have hb9 := HB7.out.trans (hb8.mono HB7.out.size)
          clear hb8
          go_wp2_with fail
          go_ret
          rw [Hres.out]
          exact ⟨rfl, hb9⟩
end Go.Proofs.YtnhcgpkcmfelkaaGreat
