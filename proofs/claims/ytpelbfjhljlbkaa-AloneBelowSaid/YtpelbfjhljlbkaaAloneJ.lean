/-
  My own work: tranterref11.Suits: its contract.
-/
import Derived.Test.YtpelbfjhljlbkaaAloneI
import Derived.Test.YtpelbfjhljlbkaaAloneG
namespace Go.Proofs.Ytpelbfjhljlbkaa
open Go.RowKit
set_option linter.unusedVariables false
set_option maxRecDepth 100000
attribute [local go_sem ↓] Go.wp_at_zero Go.wp_at_succ

set_option maxHeartbeats 6400000 in
theorem refSuits_is (kd dm : Int) (pt vv : Value) (rt sz st ru hd cap : Int) (n : Nat) (ps : List Nat) (V : List (Int × Int)) (w : World) (hkd : kd = 1 ∨ (kd = 2 ∧ TankOk st rt sz ru hd)) (hn : n ≤ 20) (hp : Words w pt ps) (hps : ∀ p ∈ ps, p < 18446744073709551616) (hpl : ps.length ≤ 1000) (hV : Vis w vv V) (hVl : V.length ≤ 64) (hVf : ∀ p ∈ V, fitsI p.2 = true) :
    Calls Try.prog 20 #[.agg #[.int .i64 kd, .int .i64 dm, pt, .int .i64 rt, .int .i64 sz, .int .i64 st, .int .i64 ru, .int .i64 hd], .int .i64 n, .int .i64 cap, vv] w fun e w' => e = .returned (.bool (suitsV kd dm ps rt sz st ru cap V n)) ∧ Below w.heap.size w w' := by
  obtain ⟨w1, ew, hb1, hsz1, hcu⟩ := box_cust w kd dm pt rt sz st ru hd
  obtain ⟨a, m, c, hvv, hm, _, hc⟩ := (hV.below hb1).open
  subst hvv
  have Hp := Lib.hid (hp.below hb1)
  have HV := Lib.hid (hV.below hb1)
  have Hew := Lib.hid ew
  have Hc := Lib.hid hc
  have Hm := Lib.hid hm
  have Hkd := Lib.hid hkd
  have HVf := Lib.hid hVf
  have Hps := Lib.hid hps
  have hm64 : m ≤ 64 := by omega
  have hsz : w.heap.size ≤ w1.heap.size := hb1.size
  obtain ⟨pa, pn, pc, rfl, hpn, _, _, hpc⟩ := Hp.out.open
  have Hpc := Lib.hid hpc
  have Hpn := Lib.hid hpn
  obtain ⟨c0, c1, c2, c3, c4, c5, c6, c7⟩ := hcu
  have HB := Lib.hid hb1
  clear ew hp hV hc hm hVl hkd hVf hps hb1 hpc hpn
  go_enter Try.func20, Try.ntmps20
  go_upto_region 1 with (fail)
  rw [Hew.out]
  generalize eg : w.heap.size = g at *
  have Heg := Lib.hid eg
  clear eg hsz1
  go_wp2_with fail
  go_loopw [9] (fun i wr => ∃ k : Nat, k ≤ m ∧ i = .int .i64 k ∧ (∀ j, j < k → (nthV V j).2 ≤ cap) ∧ Below w1.heap.size w1 wr) (fun i _ => m - (intOf i).toNat)
  case atStart => exact ⟨0, Nat.zero_le _, rfl, fun j hj => by omega, Below.refl _ _⟩
  case round =>
    obtain ⟨k, hk, rfl, hall, hb⟩ := hrel
    have Hall := Lib.hid hall
    have Hb := Lib.hid hb
    clear hall
    by_cases hlt : k < m
    · obtain ⟨b, o, rfl, f0, f1⟩ := Hc.out k hlt
      have f0r := cell_below hb f0
      have f1r := cell_below hb f1
      have hi0 : (0 : Int) ≤ (k : Int) := by omega
      have hi1 : (k : Int) < (m : Int) := by omega
      have Hno := Lib.hid (fun (h : cap < (nthV V k).2) => fits_no (V := V) (k := k) (by rw [Hm.out]; exact hlt) h)
      have Hyes : Hid (¬ cap < (nthV V k).2 → ∀ j, j < k + 1 → (nthV V j).2 ≤ cap) := Lib.hid (fun h j hj => by
        rcases Nat.lt_succ_iff_lt_or_eq.1 hj with h' | rfl
        · exact Hall.out j h'
        · omega)
      generalize (nthV V k).1 = D at *
      generalize (nthV V k).2 = X at *
      clear f0 f1
      by_cases hX : cap < X
      · have hX' : decide (cap < X) = true := by simpa using hX
        have Hf : Hid (suitsV kd dm ps rt sz st ru cap V n = false) := Lib.hid (by unfold suitsV; rw [Hno.out hX]; rfl)
        clear hX
        go_wp2_with fail
        go_ret
        rw [Hf.out]
        exact ⟨rfl, by rw [Heg.out]; exact HB.out.trans (Hb.out.mono hsz)⟩
      · have hX' : decide (cap < X) = false := by simpa using hX
        have Hy := Lib.hid (Hyes.out hX)
        clear hX
        go_wp2_with fail
        go_roundw
        case rel => exact ⟨k + 1, by omega, by go_num, Hy.out, Hb.out⟩
        case measure => simp [intOf]; omega
    · have Hfit : Hid (fitsV cap V = true) := Lib.hid (fits_yes (fun j hj => Hall.out j (by rw [Hm.out] at hj; omega)))
      obtain ⟨wo, rfl⟩ : ∃ wo : World, wo = wr := ⟨_, rfl⟩
      obtain ⟨d0, d1, d2, d3, d4, d5, d6, d7⟩ : IsCust wo g kd dm (.slice pa pn pc) rt sz st ru hd := IsCust.below ⟨c0, c1, c2, c3, c4, c5, c6, c7⟩ hb
      have HVr := Lib.hid (HV.out.below hb)
      have HBr : Hid (Below g w wo) := Lib.hid (HB.out.trans (hb.mono hsz))
      have hszr : g ≤ wo.heap.size := by rw [← Heg.out]; exact HBr.out.size
      by_cases hk1 : kd = 1
      · have hk1' : (kd == 1) = true := by simpa using hk1
        have Hres : Hid (suitsV kd dm ps rt sz st ru cap V n = ps.any (fun p => decide (onV dm p = V))) := Lib.hid (by unfold suitsV; rw [Hfit.out, if_pos hk1, Bool.true_and])
        have HSm := Lib.hid (fun (W : World) (x : Value) (p : Nat) (hx : Vis W x (onV dm p)) (h : Below wo.heap.size wo W) => sameV_is (.slice a m c) x V (onV dm p) W (HVr.out.below h) hx)
        have HPt := Lib.hid (fun (W : World) (p : Nat) (hp : p < 18446744073709551616) => refPattern_is kd dm (.slice pa pn pc) rt sz st ru hd p W hp)
        have Hsym : Hid (∀ p, decide (V = onV dm p) = decide (onV dm p = V)) := Lib.hid (fun p => by rw [decide_eq_decide]; exact eq_comm)
        have HbW := Lib.hid hb
        clear hk1 hb
        go_wp2_with fail
        go_loopw [10, 11] (fun i u wq => ∃ (k : Nat) (x : Value), x = u ∧ k ≤ pn ∧ i = .int .i64 k ∧ (∀ j, j < k → decide (onV dm (nthN ps j) = V) = false) ∧ Below wo.heap.size wo wq) (fun i _ _ => pn - (intOf i).toNat)
        case atStart => exact ⟨0, _, rfl, Nat.zero_le _, rfl, fun j hj => by omega, Below.refl _ _⟩
        case round =>
          obtain ⟨k, x, rfl, hk, rfl, hall, hbq⟩ := hrel
          have Hall := Lib.hid hall
          have Hbq := Lib.hid hbq
          obtain ⟨wp, rfl⟩ : ∃ wp : World, wp = wr := ⟨_, rfl⟩
          clear hall
          obtain ⟨d0, d1, d2, d3, d4, d5, d6, d7⟩ : IsCust wp g kd dm (.slice pa pn pc) rt sz st ru hd := IsCust.below ⟨d0, d1, d2, d3, d4, d5, d6, d7⟩ hbq
          by_cases hlt : k < pn
          · obtain ⟨b, o, rfl, hbl, f0⟩ := Hpc.out k hlt
            have f0r := cell_below (bel2 HbW.out hbq) f0
            have hp64 := Hps.out _ (nthN_mem (show k < ps.length by rw [Hpn.out]; exact hlt))
            have Hyes := Lib.hid (fun (h : decide (onV dm (nthN ps k) = V) = true) => any_yes (ps := ps) (f := fun p => decide (onV dm p = V)) (j := k) (by rw [Hpn.out]; exact hlt) h)
            have Hno : Hid (decide (onV dm (nthN ps k) = V) = false → ∀ j, j < k + 1 → decide (onV dm (nthN ps j) = V) = false) := Lib.hid (fun h j hj => by
              rcases Nat.lt_succ_iff_lt_or_eq.1 hj with h' | rfl
              · exact Hall.out j h'
              · exact h)
            have HPt1 := Lib.hid (fun (W : World) => HPt.out W (nthN ps k) hp64)
            have HSm1 := Lib.hid (fun (W : World) (x : Value) (hx : Vis W x (onV dm (nthN ps k))) (h : Below wp.heap.size wp W) => HSm.out W x (nthN ps k) hx (bel2 hbq h))
            rw [Hsym.out] at HSm1
            generalize decide (onV dm (nthN ps k) = V) = R at *
            generalize nthN ps k = p at *
            have hi0 : (0 : Int) ≤ (k : Int) := by omega
            have hi1 : (k : Int) < (pn : Int) := by omega
            have b0 := Below.refl wp.heap.size wp
            clear f0 hbq
            go_upto_region 10 with fail
            go_cut [11] (fun s11 wx => s11 = .bool R ∧ Below wp.heap.size wp wx)
            case first =>
              go_region_held3 (fun w' => (w'.cell? ⟨g, 0, none⟩ = some (.int .i64 kd) ∧ w'.cell? ⟨g, 1, none⟩ = some (.int .i64 dm) ∧ w'.cell? ⟨g, 2, none⟩ = some (.slice (some ⟨b, o, none⟩) pn pc) ∧ w'.cell? ⟨g, 3, none⟩ = some (.int .i64 rt) ∧ w'.cell? ⟨g, 4, none⟩ = some (.int .i64 sz) ∧ w'.cell? ⟨g, 5, none⟩ = some (.int .i64 st) ∧ w'.cell? ⟨g, 6, none⟩ = some (.int .i64 ru) ∧ w'.cell? ⟨g, 7, none⟩ = some (.int .i64 hd) ∧ w'.cell? ⟨b, o + k, none⟩ = some (.int .u64 (p : Int))))
                (first | go_keep | exact ⟨cell_below b5 d0, cell_below b5 d1, cell_below b5 d2, cell_below b5 d3, cell_below b5 d4, cell_below b5 d5, cell_below b5 d6, cell_below b5 d7, cell_below b5 f0r⟩ | exact ⟨cell_below b6 d0, cell_below b6 d1, cell_below b6 d2, cell_below b6 d3, cell_below b6 d4, cell_below b6 d5, cell_below b6 d6, cell_below b6 d7, cell_below b6 f0r⟩)
                (first
                  | (go_at_call 48; refine (HPt1.out _).mono ?_; rintro e w5 ⟨xv, rfl, hown5, hb5⟩; have hI5 := hown5.vis; (first | have b5 := bel2 b0 hb5 | have b5 := bel2 (belDrew wp) hb5))
                  | (go_at_call 25; refine (HSm1.out _ _ ?_ ?_).mono ?_; (first | exact hI5 | exact hI5.below (belDrew _)); (first | exact b5 | exact bel2 b5 (belDrew _)); rintro e w6 ⟨rfl, hb6⟩; (first | have b6 := bel2 b5 hb6 | have b6 := bel2 (bel2 b5 (belDrew _)) hb6)))
              all_goals
                go_wp2_with fail
                go_meet
                exact ⟨rfl, by first | exact b6 | exact b6.drew⟩
            case rest =>
              obtain ⟨rfl, hbc⟩ := hcut
              obtain ⟨w7, rfl⟩ : ∃ w7 : World, w7 = wc := ⟨_, rfl⟩
              have Hb7 := Lib.hid (bel2 Hbq.out hbc)
              clear hbc d0 d1 d2 d3 d4 d5 d6 d7
              cases R with
              | true =>
                go_wp2_with fail
                go_ret
                rw [Hres.out, Hyes.out (by trivial)]
                exact ⟨rfl, by rw [Heg.out]; exact HBr.out.trans (Hb7.out.mono hszr)⟩
              | false =>
                go_wp2_with fail
                go_roundw
                case rel => exact ⟨k + 1, _, rfl, by omega, by go_num, Hno.out (by trivial), Hb7.out⟩
                case measure => simp [intOf]; omega
          · have Hf : Hid (ps.any (fun p => decide (onV dm p = V)) = false) := Lib.hid (any_no (fun j hj => Hall.out j (by rw [Hpn.out] at hj; omega)))
            go_wp2_with fail
            go_ret
            rw [Hres.out, Hf.out]
            exact ⟨rfl, by rw [Heg.out]; exact HBr.out.trans (hbq.mono hszr)⟩
      · have hk1' : (kd == 1) = false := by simpa using hk1
        have T : TankOk st rt sz ru hd := by rcases Hkd.out with h | h; exact absurd h hk1; exact h.2
        have hBr := refBrings_is (.slice a m c) V n wo HVr.out HVf.out hn (by rw [Hm.out]; exact hm64)
        have HBri := Lib.hid hBr
        obtain ⟨BQ, hBQ⟩ : ∃ BQ, BQ = bringsOf V n := ⟨_, rfl⟩
        rw [← hBQ] at HBri
        have hBl : BQ.length = n := by rw [hBQ]; exact brings_len V n
        have hSm : Small st rt sz BQ := ⟨T.st0, by have := T.st1; have := T.sz1; omega, T.rt0, by have := T.rt1; omega, by omega⟩
        have Hres : Hid (suitsV kd dm ps rt sz st ru cap V n = (decide (visitsOf BQ = V) && (holdsE st rt sz ru BQ == 0))) := Lib.hid (by unfold suitsV; rw [Hfit.out, if_neg hk1, Bool.true_and, ← hBQ])
        have HBl := Lib.hid hBl
        have HSm := Lib.hid hSm
        clear hk1 hBr hBQ hBl hSm T hb
        go_wp2_with fail
        refine HBri.out.mono ?_
        rintro e w5 ⟨qv, rfl, hown, hb5⟩
        have HI := Lib.hid hown.ints
        obtain ⟨qa, qn, qc, rfl, _, _, _⟩ := hown.ints.open
        obtain ⟨d0, d1, d2, d3, d4, d5, d6, d7⟩ : IsCust w5 g kd dm (.slice pa pn pc) rt sz st ru hd := IsCust.below ⟨d0, d1, d2, d3, d4, d5, d6, d7⟩ hb5
        have HV5 := Lib.hid (HVr.out.below hb5)
        have HB5 := Lib.hid (HBr.out.trans (hb5.mono hszr))
        have hsz5 : g ≤ w5.heap.size := by rw [← Heg.out]; exact HB5.out.size
        have HVi := Lib.hid (fun (W : World) (h : Below w5.heap.size w5 W) => refVisits_is (.slice qa qn qc) BQ W (HI.out.below h) (by rw [HBl.out]; omega))
        have HHo := Lib.hid (fun (W : World) (h : Below w5.heap.size w5 W) => refHolds_is kd dm (.slice pa pn pc) rt sz st ru hd (.slice qa qn qc) BQ W (HI.out.below h) HSm.out)
        generalize holdsE st rt sz ru BQ = HE at *
        have HEq := Lib.hid (fun (W : World) (x : Value) (hx : Vis W x (visitsOf BQ)) (h : Below w5.heap.size w5 W) => sameV_is (.slice a m c) x V (visitsOf BQ) W (HV5.out.below h) hx)
        have hsym : decide (V = visitsOf BQ) = decide (visitsOf BQ = V) := by rw [decide_eq_decide]; exact eq_comm
        rw [hsym] at HEq
        have b0 := Below.refl w5.heap.size w5
        clear hown hb5 hsym
        cases hE : decide (visitsOf BQ = V) with
        | true =>
          rw [hE] at Hres HEq
          clear hE
          generalize visitsOf BQ = VB at *
          go_wp2_with fail
          refine (HVi.out _ b0).mono ?_
          rintro e w6 ⟨xv, rfl, hown6, hb6⟩
          have HI6 := Lib.hid hown6.vis
          have Hb6 := Lib.hid hb6
          clear hown6 hb6
          go_wp2_with fail
          refine (HEq.out _ _ HI6.out Hb6.out).mono ?_
          rintro e w7 ⟨rfl, hb7⟩
          have Hb7 := Lib.hid (bel2 Hb6.out hb7)
          obtain ⟨d0, d1, d2, d3, d4, d5, d6, d7⟩ : IsCust w7 g kd dm (.slice pa pn pc) rt sz st ru hd := IsCust.below ⟨d0, d1, d2, d3, d4, d5, d6, d7⟩ (bel2 Hb6.out hb7)
          clear hb7
          go_wp2_with fail
          refine (HHo.out _ Hb7.out).mono ?_
          rintro e w8 ⟨rfl, hb8⟩
          have B8 : Hid (Below g w w8) := Lib.hid (by exact HB5.out.trans ((bel2 Hb7.out hb8).mono hsz5))
          clear hb8
          go_wp2_with fail
          go_ret
          rw [Hres.out]
          exact ⟨rfl, by rw [Heg.out]; exact B8.out⟩
        | false =>
          rw [hE] at Hres HEq
          clear hE
          generalize visitsOf BQ = VB at *
          go_wp2_with fail
          refine (HVi.out _ b0).mono ?_
          rintro e w6 ⟨xv, rfl, hown6, hb6⟩
          have HI6 := Lib.hid hown6.vis
          have Hb6 := Lib.hid hb6
          clear hown6 hb6
          go_wp2_with fail
          refine (HEq.out _ _ HI6.out Hb6.out).mono ?_
          rintro e w7 ⟨rfl, hb7⟩
          have B8 : Hid (Below g w w7) := Lib.hid (by exact HB5.out.trans ((bel2 Hb6.out hb7).mono hsz5))
          clear hb7
          go_wp2_with fail
          go_ret
          rw [Hres.out]
          exact ⟨rfl, by rw [Heg.out]; exact B8.out⟩
end Go.Proofs.Ytpelbfjhljlbkaa
