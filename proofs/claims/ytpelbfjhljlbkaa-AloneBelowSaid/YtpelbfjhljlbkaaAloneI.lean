/-
  My own work: alone.Suits: its contract (the rest).
-/
import Derived.Test.YtpelbfjhljlbkaaAloneH
import Derived.Test.YtpelbfjhljlbkaaMStock
namespace Go.Proofs.Ytpelbfjhljlbkaa
open Go.RowKit
set_option linter.unusedVariables false
set_option maxRecDepth 100000
attribute [local go_sem ↓] Go.wp_at_zero Go.wp_at_succ

theorem fits_no {cap : Int} {V : List (Int × Int)} {k : Nat} (hk : k < V.length) (h : cap < (nthV V k).2) : fitsV cap V = false := by
  unfold fitsV
  rw [List.all_eq_false]
  exact ⟨nthV V k, by rw [nthV_lt hk]; exact List.getElem_mem hk, by simp; omega⟩
theorem fits_yes {cap : Int} {V : List (Int × Int)} (h : ∀ j, j < V.length → (nthV V j).2 ≤ cap) : fitsV cap V = true := by
  unfold fitsV
  rw [List.all_eq_true]
  intro x hx
  obtain ⟨j, hj, rfl⟩ := List.getElem_of_mem hx
  have := h j hj
  rw [nthV_lt hj] at this
  simpa using this

set_option maxHeartbeats 6400000 in
theorem suits_is (kd dm : Int) (pt vv : Value) (rt sz st ru hd cap : Int) (n : Nat) (ps : List Nat) (V : List (Int × Int)) (w : World) (hkd : kd = 1 ∨ (kd = 2 ∧ TankOk st rt sz ru hd)) (hn : n ≤ 20) (hp : Words w pt ps) (hps : ∀ p ∈ ps, p < 18446744073709551616) (hpl : ps.length ≤ 1000) (hV : Vis w vv V) (hVl : V.length ≤ 64) (hVf : ∀ p ∈ V, fitsI p.2 = true) :
    Calls Try.prog 19 #[.agg #[.int .i64 kd, .int .i64 dm, pt, .int .i64 rt, .int .i64 sz, .int .i64 st, .int .i64 ru, .int .i64 hd], .int .i64 n, .int .i64 cap, vv] w fun e w' => e = .returned (.bool (suitsV kd dm ps rt sz st ru cap V n)) ∧ Below w.heap.size w w' := by
  obtain ⟨w1, ew, hb1, hsz1, hcu⟩ := box_cust w kd dm pt rt sz st ru hd
  obtain ⟨w2, ew2⟩ : ∃ w2, w1.alloc (.cells #[vv] 30) = w2 := ⟨_, rfl⟩
  have hb2 : Below w1.heap.size w1 w2 := by rw [← ew2]; exact belAlloc _ _
  have hv2 : w2.cell? ⟨w.heap.size + 1, 0, none⟩ = some vv := by rw [← ew2, ← hsz1]; simp [go_sem]
  have hb12 := bel2 hb1 hb2
  have hV2 := hV.below hb12
  have Hcu2 := Lib.hid (hcu.below hb2)
  obtain ⟨a, m, c, hvv, hm, _, hc⟩ := hV2.open
  subst hvv
  have Hp := Lib.hid (hp.below hb12)
  have HV := Lib.hid hV2
  have Hew := Lib.hid ew
  have Hew2 := Lib.hid ew2
  have Hc := Lib.hid hc
  have Hm := Lib.hid hm
  have Hkd := Lib.hid hkd
  have HVf := Lib.hid hVf
  have Hps := Lib.hid hps
  have hm64 : m ≤ 64 := by omega
  have hsz : w.heap.size ≤ w2.heap.size := hb12.size
  obtain ⟨c0, c1, c2, c3, c4, c5, c6, c7⟩ := hcu.below hb2
  have HB := Lib.hid hb12
  clear ew ew2 hp hV hc hm hVl hkd hVf hps hcu hV2 hb1 hb2 hb12
  go_enter Try.func19, Try.ntmps19
  go_upto_region 1 with (fail)
  rw [Hew.out, Hew2.out]
  generalize eg : w.heap.size = g at *
  have Heg := Lib.hid eg
  clear eg hsz1
  go_wp2_with fail
  go_loopw [14] (fun i wr => ∃ k : Nat, k ≤ m ∧ i = .int .i64 k ∧ (∀ j, j < k → (nthV V j).2 ≤ cap) ∧ Below w2.heap.size w2 wr) (fun i _ => m - (intOf i).toNat)
  case atStart => exact ⟨0, Nat.zero_le _, rfl, fun j hj => by omega, Below.refl _ _⟩
  case round =>
    obtain ⟨k, hk, rfl, hall, hb⟩ := hrel
    have Hall := Lib.hid hall
    have Hb := Lib.hid hb
    clear hall
    by_cases hlt : k < m
    · obtain ⟨b, o, rfl, f0, f1⟩ := Hc.out k hlt
      have f0r := cell_below hb f0
      have f1r := cell_below hb f1
      have hi0 : (0 : Int) ≤ (k : Int) := by omega
      have hi1 : (k : Int) < (m : Int) := by omega
      have Hno := Lib.hid (fun (h : cap < (nthV V k).2) => fits_no (V := V) (k := k) (by rw [Hm.out]; exact hlt) h)
      have Hyes : Hid (¬ cap < (nthV V k).2 → ∀ j, j < k + 1 → (nthV V j).2 ≤ cap) := Lib.hid (fun h j hj => by
        rcases Nat.lt_succ_iff_lt_or_eq.1 hj with h' | rfl
        · exact Hall.out j h'
        · omega)
      generalize (nthV V k).1 = D at *
      generalize (nthV V k).2 = X at *
      obtain ⟨w5, ew5⟩ : ∃ w5, wr.alloc (.cells #[.int .i64 D, .int .i64 X] 36) = w5 := ⟨_, rfl⟩
      have hb5 : Below wr.heap.size wr w5 := by rw [← ew5]; exact belAlloc _ _
      have q1 : w5.cell? ⟨wr.heap.size, 1, none⟩ = some (.int .i64 X) := by rw [← ew5]; simp [go_sem]
      have Hb5 := Lib.hid (bel2 hb hb5)
      have Hew5 := Lib.hid ew5
      clear f0 f1 ew5 hb5 hb
      go_upto_region 4 with fail
      rw [Hew5.out]
      by_cases hX : cap < X
      · have hX' : decide (cap < X) = true := by simpa using hX
        have Hf : Hid (suitsV kd dm ps rt sz st ru cap V n = false) := Lib.hid (by unfold suitsV; rw [Hno.out hX]; rfl)
        clear hX
        go_wp2_with fail
        go_ret
        rw [Hf.out]
        exact ⟨rfl, by rw [Heg.out]; exact HB.out.trans (Hb5.out.mono hsz)⟩
      · have hX' : decide (cap < X) = false := by simpa using hX
        have Hy := Lib.hid (Hyes.out hX)
        clear hX
        go_wp2_with fail
        go_roundw
        case rel => exact ⟨k + 1, by omega, by go_num, Hy.out, Hb5.out⟩
        case measure => simp [intOf]; omega
    · have Hfit : Hid (fitsV cap V = true) := Lib.hid (fits_yes (fun j hj => Hall.out j (by rw [Hm.out] at hj; omega)))
      obtain ⟨wo, rfl⟩ : ∃ wo : World, wo = wr := ⟨_, rfl⟩
      obtain ⟨d0, d1, d2, d3, d4, d5, d6, d7⟩ : IsCust wo g kd dm pt rt sz st ru hd := IsCust.below ⟨c0, c1, c2, c3, c4, c5, c6, c7⟩ hb
      have hvr := cell_below hb hv2
      have HVr := Lib.hid (HV.out.below hb)
      have HBr : Hid (Below g w wo) := Lib.hid (HB.out.trans (hb.mono hsz))
      have hszr : g ≤ wo.heap.size := by rw [← Heg.out]; exact HBr.out.size
      by_cases hk1 : kd = 1
      · have hk1' : (kd == 1) = true := by simpa using hk1
        have Hres : Hid (suitsV kd dm ps rt sz st ru cap V n = ps.any (fun p => decide (onV dm p = V))) := Lib.hid (by unfold suitsV; rw [Hfit.out, if_pos hk1, Bool.true_and])
        have HC := Lib.hid (contains_is kd dm pt (.slice a m c) rt sz st ru hd g (g + 1) ps V wo (Hcu2.out.below hb) hvr HVr.out (Hp.out.below hb) Hps.out hpl)
        clear hk1 hb
        go_wp2_with fail
        refine HC.out.mono ?_
        rintro e w5 ⟨rfl, hb5⟩
        have hb6 := HBr.out.trans (hb5.mono hszr)
        clear hb5
        go_wp2_with fail
        go_ret
        rw [Hres.out]
        exact ⟨rfl, by rw [Heg.out]; exact hb6⟩
      · have hk1' : (kd == 1) = false := by simpa using hk1
        have T : TankOk st rt sz ru hd := by rcases Hkd.out with h | h; exact absurd h hk1; exact h.2
        have hclip : (clipI (n : Int) 0 64).toNat = n := by unfold clipI; omega
        have hBr := brings_is (.slice a m c) V n wo HVr.out HVf.out
        rw [hclip] at hBr
        have HBri := Lib.hid hBr
        obtain ⟨BQ, hBQ⟩ : ∃ BQ, BQ = bringsOf V n := ⟨_, rfl⟩
        rw [← hBQ] at HBri
        have hBl : BQ.length = n := by rw [hBQ]; exact brings_len V n
        have hSm : Small st rt sz BQ := ⟨T.st0, by have := T.st1; have := T.sz1; omega, T.rt0, by have := T.rt1; omega, by omega⟩
        have Hres : Hid (suitsV kd dm ps rt sz st ru cap V n = (decide (visitsOf BQ = V) && (holdsE st rt sz ru BQ == 0))) := Lib.hid (by unfold suitsV; rw [Hfit.out, if_neg hk1, Bool.true_and, ← hBQ])
        have HBl := Lib.hid hBl
        have HSm := Lib.hid hSm
        clear hk1 hBr hBQ hBl hSm T hb
        go_wp2_with fail
        refine HBri.out.mono ?_
        rintro e w5 ⟨qv, rfl, hown, hb5⟩
        have HI := Lib.hid hown.ints
        obtain ⟨qa, qn, qc, rfl, _, _, _⟩ := hown.ints.open
        obtain ⟨d0, d1, d2, d3, d4, d5, d6, d7⟩ : IsCust w5 g kd dm pt rt sz st ru hd := IsCust.below ⟨d0, d1, d2, d3, d4, d5, d6, d7⟩ hb5
        have hv5 := cell_below hb5 hvr
        have HV5 := Lib.hid (HVr.out.below hb5)
        have HB5 := Lib.hid (HBr.out.trans (hb5.mono hszr))
        have hsz5 : g ≤ w5.heap.size := by rw [← Heg.out]; exact HB5.out.size
        have HVi := Lib.hid (fun (W : World) (h : Below w5.heap.size w5 W) => visits_is (.slice qa qn qc) BQ W (HI.out.below h) (by rw [HBl.out]; omega))
        have HHo := Lib.hid (fun (W : World) (h : Below w5.heap.size w5 W) => holds_is kd dm pt rt sz st ru hd (.slice qa qn qc) BQ W (HI.out.below h) HSm.out)
        generalize holdsE st rt sz ru BQ = HE at *
        have HEq := Lib.hid (fun (W : World) (x : Value) (hx : Vis W x (visitsOf BQ)) (h : Below w5.heap.size w5 W) => equalV_is x (.slice a m c) (visitsOf BQ) V W hx (HV5.out.below h))
        have b0 := Below.refl w5.heap.size w5
        clear hown hb5 hvr
        cases hE : decide (visitsOf BQ = V) with
        | true =>
          rw [hE] at Hres HEq
          clear hE
          generalize visitsOf BQ = VB at *
          go_upto_region 10 with fail
          have HcuX := Lib.hid (show IsCust w5 g kd dm pt rt sz st ru hd from ⟨d0, d1, d2, d3, d4, d5, d6, d7⟩)
          (first | (go_region_with (first
              | (go_at_call 46; refine (HVi.out _ ?_).mono ?_; (first | exact b0 | exact belDrew _); rintro e w6 ⟨xv, rfl, hown6, hb6⟩; have hI6 := hown6.vis; (first | have b6 := bel2 b0 hb6 | have b6 := bel2 (belDrew w5) hb6); have v6 := cell_below b6 hv5)
              | (go_at_call 44; refine (HEq.out _ _ ?_ ?_).mono ?_; (first | exact hI6 | exact hI6.below (belDrew _)); (first | exact b6 | exact bel2 b6 (belDrew _)); rintro e w7 ⟨rfl, hb7⟩; (first | have b7 := bel2 b6 hb7 | have b7 := bel2 (bel2 b6 (belDrew _)) hb7); obtain ⟨e0, e1, e2, e3, e4, e5, e6, e7⟩ := HcuX.out.below b7)
              | (go_at_call 47; refine (HHo.out _ ?_).mono ?_; (first | exact b7 | exact bel2 b7 (belDrew _)); rintro e w8 ⟨rfl, hb8⟩; (first | have b8 := bel2 b7 hb8 | have b8 := bel2 (bel2 b7 (belDrew _)) hb8)))) | fail)
          all_goals
            have B8 : Hid (Below g w w8) := Lib.hid (HB5.out.trans (b8.mono hsz5))
            clear b8 hb8
            go_wp2_with fail
            go_ret
            rw [Hres.out]
            exact ⟨rfl, by rw [Heg.out]; first | exact B8.out | exact B8.out.drew⟩
        | false =>
          rw [hE] at Hres HEq
          clear hE
          generalize visitsOf BQ = VB at *
          go_upto_region 10 with fail
          have HcuX := Lib.hid (show IsCust w5 g kd dm pt rt sz st ru hd from ⟨d0, d1, d2, d3, d4, d5, d6, d7⟩)
          (first | (go_region_with (first
              | (go_at_call 46; refine (HVi.out _ ?_).mono ?_; (first | exact b0 | exact belDrew _); rintro e w6 ⟨xv, rfl, hown6, hb6⟩; have hI6 := hown6.vis; (first | have b6 := bel2 b0 hb6 | have b6 := bel2 (belDrew w5) hb6); have v6 := cell_below b6 hv5)
              | (go_at_call 44; refine (HEq.out _ _ ?_ ?_).mono ?_; (first | exact hI6 | exact hI6.below (belDrew _)); (first | exact b6 | exact bel2 b6 (belDrew _)); rintro e w7 ⟨rfl, hb7⟩; (first | have b7 := bel2 b6 hb7 | have b7 := bel2 (bel2 b6 (belDrew _)) hb7)))) | fail)
          all_goals
            have B8 : Hid (Below g w w7) := Lib.hid (HB5.out.trans (b7.mono hsz5))
            clear b7 hb7
            go_wp2_with fail
            go_ret
            rw [Hres.out]
            exact ⟨rfl, by rw [Heg.out]; first | exact B8.out | exact B8.out.drew⟩
end Go.Proofs.Ytpelbfjhljlbkaa
