/-
  My own work: tranterref09.sat, Brings, tranterref11.Cost: their contracts.
-/
import Derived.Test.YtnhcgpkcmfelkaaGreatAloneF
import Derived.Test.YtnhcgpkcmfelkaaGreatMBig
namespace Go.Proofs.YtnhcgpkcmfelkaaGreat
open Go.RowKit
set_option linter.unusedVariables false
set_option maxRecDepth 100000
attribute [local go_sem ↓] Go.wp_at_zero Go.wp_at_succ

set_option maxHeartbeats 1600000 in
theorem refSat09_is (a b : Int) (w : World) (fa : fitsI a = true) (fb : fitsI b = true) :
    Calls Tryz.prog 94 #[.int .i64 a, .int .i64 b] w fun e w' => e = .returned (.int .i64 (satI a b)) ∧ Below w.heap.size w w' := by
  have Fa := Lib.hid fa
  have Fb := Lib.hid fb
  clear fa fb
  go_enter Tryz.func94, Tryz.ntmps94
  go_wp2_with fail
  refine (of_is _ _ Fa.out).mono ?_
  rintro e w1 ⟨v1, rfl, hB1, hb1⟩
  go_wp2_with fail
  refine (of_is _ _ Fb.out).mono ?_
  rintro e w2 ⟨v2, rfl, hB2, hb2⟩
  have b2 := hb1.trans (hb2.mono hb1.size)
  go_wp2_with fail
  refine (bigAdd_is _ _ _ _ 4 4 _ (hB1.below hb2) hB2 (by decide) (by decide)).mono ?_
  rintro e w3 ⟨v3, rfl, hB3, hb3⟩
  have b3 := b2.trans (hb3.mono b2.size)
  go_wp2_with fail
  refine (int_is _ _ _ _ hB3).mono ?_
  rintro e w4 ⟨rfl, hb4⟩
  have b4 := b3.trans (hb4.mono b3.size)
  clear hB1 hB2 hB3 hb1 hb2 hb3 hb4 b2 b3
  by_cases hf : fitsI (a + b) = true
  · have Hs := Lib.hid (sat_fit hf)
    rw [sumE_fit hf]
    clear hf
    go_wp2_with fail
    go_ret
    rw [Hs.out]
    exact ⟨rfl, b4⟩
  · have hs := sat_not Fa.out Fb.out hf
    rw [sumE_not hf]
    clear hf
    by_cases h0 : a < 0
    · rw [if_pos h0] at hs
      have Hs := Lib.hid hs
      have h0' : decide (a < 0) = true := by simpa using h0
      clear hs h0
      go_wp2_with fail
      go_ret
      rw [Hs.out]
      exact ⟨rfl, b4⟩
    · rw [if_neg h0] at hs
      have Hs := Lib.hid hs
      have h0' : decide (a < 0) = false := by simpa using h0
      clear hs h0
      go_wp2_with fail
      go_ret
      rw [Hs.out]
      exact ⟨rfl, b4⟩


/-- What the first k visits bring on day d. -/
def dayQ (V : List (Int × Int)) (d : Int) : Nat → Int
  | 0 => 0
  | k + 1 => if (nthV V k).1 = d then satI (dayQ V d k) (nthV V k).2 else dayQ V d k
theorem dayQ_fits (V : List (Int × Int)) (d : Int) (k : Nat) : fitsI (dayQ V d k) = true := by
  induction k with
  | zero => exact (by decide : fitsI 0 = true)
  | succ k ih =>
    rw [dayQ]
    split
    · exact satI_fits _ _
    · exact ih
theorem nth_bring {acc : List Int} {p : Int × Int} {d : Nat} (hd : d < acc.length) : nth (bring acc p) d = if p.1 = (d : Int) then satI (nth acc d) p.2 else nth acc d := by
  unfold bring
  by_cases h : 0 ≤ p.1 ∧ p.1 < acc.length
  · rw [if_pos h, nth_set (by omega)]
    by_cases e : p.1 = (d : Int)
    · have : p.1.toNat = d := by omega
      rw [if_pos e, if_pos this, this]
    · rw [if_neg e, if_neg (by omega)]
  · rw [if_neg h, if_neg (by omega)]
theorem dayQ_brings (V : List (Int × Int)) (n d : Nat) (hd : d < n) (k : Nat) (hk : k ≤ V.length) : nth (bringsTo V n k) d = dayQ V d k := by
  induction k with
  | zero =>
    unfold bringsTo
    simp [dayQ, nth, hd]
  | succ k ih =>
    rw [bringsTo_succ V n k (by omega), nth_bring (by rw [bringsTo_len]; exact hd), ih (by omega), dayQ]
theorem brings_day (V : List (Int × Int)) (n : Nat) : bringsOf V n = (List.range n).map fun d : Nat => dayQ V (d : Int) V.length := by
  apply ext_nth
  · rw [brings_len]; simp
  · intro k hk
    rw [brings_len] at hk
    rw [nth_map_range _ _ _ hk]
    have := dayQ_brings V n k hk V.length (Nat.le_refl _)
    unfold bringsTo at this
    rw [List.take_length] at this
    exact this
def daysQ (V : List (Int × Int)) (n : Nat) : List Int := (List.range n).map fun d : Nat => dayQ V (d : Int) V.length
theorem daysQ_succ (V : List (Int × Int)) (n : Nat) : daysQ V (n + 1) = daysQ V n ++ [dayQ V (n : Int) V.length] := by unfold daysQ; rw [List.range_succ, List.map_append]; rfl

set_option maxHeartbeats 1600000 in
theorem refBrings_is (vv : Value) (V : List (Int × Int)) (n : Nat) (w : World) (hV : Vis w vv V) (hVf : ∀ p ∈ V, fitsI p.2 = true) (hn : n ≤ 20) (hVl : V.length ≤ 64) :
    Calls Tryz.prog 72 #[vv, .int .i64 n] w fun e w' => ∃ v, e = .returned v ∧ Own w' w.heap.size v (bringsOf V n) ∧ Below w.heap.size w w' := by
  obtain ⟨a, m, c, rfl, hm, _, hc⟩ := hV.open
  have Hc := Lib.hid hc
  have Hm := Lib.hid hm
  have HVf := Lib.hid hVf
  have hm64 : m ≤ 64 := by omega
  have hn64 : decide (64 < (n : Int)) = false := by simp; omega
  have hn64' : decide (64 < n) = false := by simp; omega
  clear hc hm hV hVf hVl
  go_enter Tryz.func72, Tryz.ntmps72
  go_wp2_with fail
  go_loopw [5, 6] (fun u i wr => ∃ (d : Nat) (x : Value), d ≤ n ∧ x = u ∧ i = .int .i64 d ∧ Own wr w.heap.size x (daysQ V d) ∧ Below w.heap.size w wr) (fun _ i _ => n - (intOf i).toNat)
  case atStart => exact ⟨0, _, Nat.zero_le _, rfl, rfl, Own.nil _ _, Below.refl _ _⟩
  case round =>
    obtain ⟨d, x, hd, rfl, rfl, hown, hb⟩ := hrel
    have Hown := Lib.hid hown
    have Hb := Lib.hid hb
    clear hown
    by_cases hlt : d < n
    · obtain ⟨wo, rfl⟩ : ∃ wo : World, wo = wr := ⟨_, rfl⟩
      have hdn : (d : Int) < (n : Int) := by omega
      go_wp2_with fail
      go_loopw [7, 8] (fun s k wq => ∃ (j : Nat) (Q : Int), j ≤ m ∧ k = .int .i64 j ∧ s = .int .i64 Q ∧ Q = dayQ V d j ∧ Below wo.heap.size wo wq) (fun _ k _ => m - (intOf k).toNat)
      case atStart => exact ⟨0, 0, Nat.zero_le _, rfl, rfl, rfl, Below.refl _ _⟩
      case round =>
        obtain ⟨j, Q, hj, rfl, rfl, hQ, hbq⟩ := hrel
        have HQ := Lib.hid hQ
        have hst : dayQ V d (j + 1) = if (nthV V j).1 = (d : Int) then satI Q (nthV V j).2 else Q := by rw [dayQ, ← hQ]
        have hfQ : fitsI Q = true := by rw [hQ]; exact dayQ_fits _ _ _
        clear hQ
        by_cases hlj : j < m
        · obtain ⟨b, o, rfl, f0, f1⟩ := Hc.out j hlj
          have f0r := cell_below (bel2 hb hbq) f0
          have f1r := cell_below (bel2 hb hbq) f1
          have hfX : fitsI (nthV V j).2 = true := HVf.out _ (by rw [nthV_lt (by rw [Hm.out]; exact hlj)]; exact List.getElem_mem _)
          have hi0 : (0 : Int) ≤ (j : Int) := by omega
          have hi1 : (j : Int) < (m : Int) := by omega
          generalize (nthV V j).1 = D at *
          generalize (nthV V j).2 = X at *
          have Hsat := Lib.hid (refSat09_is Q X wr hfQ hfX)
          have Hbq := Lib.hid hbq
          clear f0 f1 hfX hfQ hbq
          by_cases hD : D = (d : Int)
          · have hD' : (D == (d : Int)) = true := by simpa using hD
            rw [if_pos hD] at hst
            have Hst := Lib.hid hst
            clear hst hD
            go_wp2_with fail
            refine Hsat.out.mono ?_
            rintro e w5 ⟨rfl, hb5⟩
            have Hb5 := Lib.hid (bel2 Hbq.out hb5)
            clear hb5
            go_wp2_with fail
            go_roundw
            case rel => exact ⟨j + 1, _, by omega, by go_num, rfl, Hst.out.symm, Hb5.out⟩
            case measure => simp [intOf]; omega
          · have hD' : (D == (d : Int)) = false := by simpa using hD
            rw [if_neg hD] at hst
            have Hst := Lib.hid hst
            clear hst hD
            go_wp2_with fail
            go_roundw
            case rel => exact ⟨j + 1, _, by omega, by go_num, rfl, Hst.out.symm, Hbq.out⟩
            case measure => simp [intOf]; omega
        · have hjm : j = m := by omega
          have hs := daysQ_succ V d
          rw [Hm.out, ← hjm, ← HQ.out] at hs
          have Hs := Lib.hid hs
          have Hlen : Hid ((daysQ V d).length + 1 ≤ 17592186044416) := Lib.hid (by simp [daysQ]; omega)
          have Hown2 := Lib.hid (Hown.out.below hbq)
          have Hb2 := Lib.hid (hb.trans (hbq.mono hb.size))
          have hszr : w.heap.size ≤ wr.heap.size := Hb2.out.size
          generalize daysQ V d = XS at *
          clear hs hst hfQ
          go_wp2_with (at_builtin; refine wpList_push rfl _ _ rfl wr w.heap.size x XS Q rfl rfl Hown2.out Hlen.out hszr ?_)
          intro v' w5 hown5 g5 hb5
          rw [← Hs.out] at hown5
          have Hown5 := Lib.hid hown5
          have Hb5 := Lib.hid (Hb2.out.trans hb5)
          clear g5 hb5 hown5
          go_wp2_with fail
          go_roundw
          case rel => exact ⟨d + 1, _, by omega, rfl, by go_num, Hown5.out, Hb5.out⟩
          case measure => simp [intOf]; omega
    · have hdn : d = n := by omega
      subst hdn
      have Hr := Lib.hid (brings_day V d)
      go_wp2_with fail
      go_ret
      exact ⟨_, rfl, by rw [Hr.out]; exact Hown.out, hb⟩

set_option maxHeartbeats 3200000 in
theorem refCost_is (kd dm : Int) (pt pv vv : Value) (rt sz st ru hd : Int) (n : Nat) (P : List Int) (V : List (Int × Int)) (w : World) (hkd : kd = 1 ∨ (kd = 2 ∧ TankOk st rt sz ru hd)) (hn : n ≤ 20) (hP : Ints w pv P) (hPb : ∀ d, 0 ≤ priceAt P d ∧ priceAt P d ≤ 1000) (hV : Vis w vv V) (hVl : V.length ≤ 64) (hVf : ∀ p ∈ V, fitsI p.2 = true) :
    Calls Tryz.prog 87 #[.agg #[.int .i64 kd, .int .i64 dm, pt, .int .i64 rt, .int .i64 sz, .int .i64 st, .int .i64 ru, .int .i64 hd], .int .i64 n, pv, vv] w (CostOut w (costV kd st rt sz hd P V n)) := by
  obtain ⟨w1, ew, hb1, hsz1, hcu⟩ := box_cust w kd dm pt rt sz st ru hd
  obtain ⟨a, m, c, rfl, hm, _, hc⟩ := (hV.below hb1).open
  have Hew := Lib.hid ew
  have HP := Lib.hid (hP.below hb1)
  have HV := Lib.hid (hV.below hb1)
  have HPb := Lib.hid hPb
  have Hc := Lib.hid hc
  have Hm := Lib.hid hm
  have Hkd := Lib.hid hkd
  have HVf := Lib.hid hVf
  have hm64 : m ≤ 64 := by omega
  have hsz : w.heap.size ≤ w1.heap.size := hb1.size
  obtain ⟨c0, c1, c2, c3, c4, c5, c6, c7⟩ := hcu
  clear ew hsz1 hP hV hPb hc hm hVl hkd hVf
  go_enter Tryz.func87, Tryz.ntmps87
  go_upto_region 1 with (fail)
  rw [Hew.out]
  go_wp2_with fail
  go_loopw [9, 10] (fun s i wr => ∃ (k : Nat) (Q : Int), k ≤ m ∧ i = .int .i64 k ∧ s = .int .i64 Q ∧ Q = priceV P (V.take k) ∧ Below w1.heap.size w1 wr) (fun _ i _ => m - (intOf i).toNat)
  case atStart => exact ⟨0, 0, Nat.zero_le _, rfl, rfl, by simp [priceV], Below.refl _ _⟩
  case round =>
    obtain ⟨k, Q, hk, rfl, rfl, hQ, hb⟩ := hrel
    have HQ := Lib.hid hQ
    have Hb := Lib.hid hb
    have hQb := priceV_take_bd HPb.out V k (by omega)
    rw [← hQ] at hQb
    clear hQ
    by_cases hlt : k < m
    · obtain ⟨b, o, rfl, f0, f1⟩ := Hc.out k hlt
      have f0r := cell_below hb f0
      have f1r := cell_below hb f1
      have hst := priceV_succ P V k (by rw [Hm.out]; exact hlt)
      rw [← HQ.out] at hst
      generalize (nthV V k).1 = D at *
      generalize (nthV V k).2 = X at *
      have Hpr := Lib.hid (refPrice_is pv P D wr (HP.out.below hb))
      have hp := HPb.out D
      generalize priceAt P D = R at *
      have hw : wrap64 (Q + R) = Q + R := wrap_id (by omega) (by omega)
      have Hst := Lib.hid hst
      have hi0 : (0 : Int) ≤ (k : Int) := by omega
      have hi1 : (k : Int) < (m : Int) := by omega
      clear f0 f1 hst hb
      go_wp2_with fail
      refine Hpr.out.mono ?_
      rintro e w6 ⟨rfl, rfl⟩
      go_wp2_with fail
      go_roundw
      case rel => exact ⟨k + 1, Q + R, by omega, by go_num, rfl, Hst.out.symm, Hb.out⟩
      case measure => simp [intOf]; omega
    · have hQf : Hid (Q = priceV P V) := Lib.hid (by rw [HQ.out, List.take_of_length_le (by rw [Hm.out]; omega)])
      obtain ⟨d0, d1, d2, d3, d4, d5, d6, d7⟩ : IsCust wr w.heap.size kd dm pt rt sz st ru hd := IsCust.below ⟨c0, c1, c2, c3, c4, c5, c6, c7⟩ hb
      have HVr := Lib.hid (HV.out.below hb)
      have hbw := hb1.trans (hb.mono hsz)
      have hszr : w.heap.size ≤ wr.heap.size := hbw.size
      by_cases hk1 : kd = 1
      · have hk1' : (kd == 2) = false := by rw [hk1]; rfl
        have Hres : Hid (costV kd st rt sz hd P V n = Q) := Lib.hid (by unfold costV; rw [if_pos hk1, hQf.out]; omega)
        clear hk1
        go_wp2_with fail
        go_ret
        rw [Hres.out]
        exact ⟨rfl, hbw⟩
      · have hk1' : (kd == 2) = true := by rcases Hkd.out with h | h; exact absurd h hk1; rw [h.1]; rfl
        have T : TankOk st rt sz ru hd := by rcases Hkd.out with h | h; exact absurd h hk1; exact h.2
        have hBr := fun (W : World) (h : Below wr.heap.size wr W) => refBrings_is (.slice a m c) V n W (HVr.out.below h) HVf.out hn (by rw [Hm.out]; exact hm64)
        have HBr := Lib.hid hBr
        obtain ⟨BQ, hBQ⟩ : ∃ BQ, BQ = bringsOf V n := ⟨_, rfl⟩
        rw [← hBQ] at HBr
        have hBl : BQ.length = n := by rw [hBQ]; exact brings_len V n
        have hSm : Small st rt sz BQ := ⟨T.st0, by have := T.st1; have := T.sz1; omega, T.rt0, by have := T.rt1; omega, by omega⟩
        have HNi := Lib.hid (fun (W : World) (qv : Value) (h : Ints W qv BQ) => refNights_is kd dm pt rt sz st ru hd qv BQ W h hSm)
        have hh := held_small T.hd0 T.hd1 (nights_bd T BQ) (by have := nights_len st rt sz BQ; omega)
        have Hres : Hid (costV kd st rt sz hd P V n = Q + hd * (nightsE st rt sz BQ).2.sum) := Lib.hid (by unfold costV; rw [if_neg hk1, hQf.out, hBQ])
        obtain ⟨hh1, hh2, hh3⟩ := hh
        generalize (nightsE st rt sz BQ).2 = NL at *
        generalize (nightsE st rt sz BQ).1 = NE at *
        have HHe := Lib.hid (fun (W : World) (v : Value) (h : Ints W v NL) => refHeld_is kd dm pt rt sz st ru hd v NL W h)
        rw [hh1] at HHe
        generalize hd * NL.sum = HH at *
        have hw : wrap64 (Q + HH) = Q + HH := wrap_id (by omega) (by omega)
        have HB := Lib.hid hbw
        have b0 := Below.refl wr.heap.size wr
        clear hk1 hBr hBQ hBl hSm hh1 hbw hb T
        go_upto_region 7 with fail
        go_cut [11] (fun s11 wx => ∃ v, v = s11 ∧ Ints wx v NL ∧ Below wr.heap.size wr wx)
        case first =>
          go_region_held3 (fun w' => (w'.cell? ⟨w.heap.size, 0, none⟩ = some (.int .i64 kd) ∧ w'.cell? ⟨w.heap.size, 1, none⟩ = some (.int .i64 dm) ∧ w'.cell? ⟨w.heap.size, 2, none⟩ = some pt ∧ w'.cell? ⟨w.heap.size, 3, none⟩ = some (.int .i64 rt) ∧ w'.cell? ⟨w.heap.size, 4, none⟩ = some (.int .i64 sz) ∧ w'.cell? ⟨w.heap.size, 5, none⟩ = some (.int .i64 st) ∧ w'.cell? ⟨w.heap.size, 6, none⟩ = some (.int .i64 ru) ∧ w'.cell? ⟨w.heap.size, 7, none⟩ = some (.int .i64 hd)))
            (first | go_keep | exact cust8_below b5 ⟨d0, d1, d2, d3, d4, d5, d6, d7⟩ | exact cust8_below b6 ⟨d0, d1, d2, d3, d4, d5, d6, d7⟩)
            (first
              | (go_at_call 72; refine (HBr.out _ ?_).mono ?_; (first | exact b0 | exact belDrew _); rintro e w5 ⟨bv, rfl, hown5, hb5⟩; have hI5 := hown5.ints; (first | have b5 := bel2 b0 hb5 | have b5 := bel2 (belDrew wr) hb5))
              | (go_at_call 73; refine (HNi.out _ _ ?_).mono ?_; (first | exact hI5 | exact hI5.below (belDrew _)); rintro e w6 ⟨nv, rfl, hown6, hb6⟩; have hI6 := hown6.ints; (first | have b6 := bel2 b5 hb6 | have b6 := bel2 (bel2 b5 (belDrew _)) hb6)))
          all_goals
            go_wp2_with fail
            go_meet
            exact ⟨nv, rfl, hI6, by first | exact b6 | exact b6.drew⟩
        case rest =>
          obtain ⟨nv, rfl, hI, hbc⟩ := hcut
          obtain ⟨w7, rfl⟩ : ∃ w7 : World, w7 = wc := ⟨_, rfl⟩
          obtain ⟨d0, d1, d2, d3, d4, d5, d6, d7⟩ : IsCust w7 w.heap.size kd dm pt rt sz st ru hd := IsCust.below ⟨d0, d1, d2, d3, d4, d5, d6, d7⟩ hbc
          have HI := Lib.hid hI
          have HB7 := Lib.hid (HB.out.trans (hbc.mono hszr))
          clear hI hbc
          go_wp2_with fail
          refine (HHe.out w7 nv HI.out).mono ?_
          rintro e w8 ⟨rfl, hb8⟩
          have hb9 := HB7.out.trans (hb8.mono HB7.out.size)
          clear hb8
          go_wp2_with fail
          go_ret
          rw [Hres.out]
          exact ⟨rfl, hb9⟩
end Go.Proofs.YtnhcgpkcmfelkaaGreat
