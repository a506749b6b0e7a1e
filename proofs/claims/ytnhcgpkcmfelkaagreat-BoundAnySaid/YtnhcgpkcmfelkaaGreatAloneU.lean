/-
  My own work: tranterref11.Least, Any: their contracts.
-/
import Derived.Test.YtnhcgpkcmfelkaaGreatAloneT
import Derived.Test.YtnhcgpkcmfelkaaGreatAloneG
import Derived.Test.YtnhcgpkcmfelkaaGreatAloneM
namespace Go.Proofs.YtnhcgpkcmfelkaaGreat
open Go.RowKit
set_option linter.unusedVariables false
set_option maxRecDepth 100000
attribute [local go_sem ↓] Go.wp_at_zero Go.wp_at_succ

/-- The least cost of the first k lists of visits. -/
def leastU (f : List (Int × Int) → Int) (L : List (List (Int × Int))) : Nat → Int
  | 0 => 0
  | k + 1 => if k = 0 ∨ f (nthU L k) < leastU f L k then f (nthU L k) else leastU f L k
theorem leastU_le (f : List (Int × Int) → Int) (L : List (List (Int × Int))) (k j : Nat) (hj : j < k) : leastU f L k ≤ f (nthU L j) := by
  induction k with
  | zero => omega
  | succ k ih =>
    rw [leastU]
    by_cases e : j = k
    · subst e
      split <;> omega
    · have := ih (by omega)
      split <;> omega
theorem leastU_mem (f : List (Int × Int) → Int) (L : List (List (Int × Int))) (k : Nat) (hk : 0 < k) : ∃ j, j < k ∧ leastU f L k = f (nthU L j) := by
  induction k with
  | zero => omega
  | succ k ih =>
    rw [leastU]
    by_cases h : k = 0 ∨ f (nthU L k) < leastU f L k
    · rw [if_pos h]; exact ⟨k, by omega, rfl⟩
    · rw [if_neg h]
      obtain ⟨j, hj, he⟩ := ih (by omega)
      exact ⟨j, by omega, he⟩
theorem leastU_eq {f : List (Int × Int) → Int} {L : List (List (Int × Int))} {V : List (Int × Int)} (hV : V ∈ L) (hle : ∀ U ∈ L, f V ≤ f U) : leastU f L L.length = f V := by
  obtain ⟨i, hi, he⟩ := List.mem_iff_getElem.1 hV
  have h1 := leastU_le f L L.length i hi
  obtain ⟨j, hj, he2⟩ := leastU_mem f L L.length (by omega)
  have h2 := hle _ (nthU_mem hj)
  rw [nthU_lt hi, he] at h1
  omega

set_option maxHeartbeats 3200000 in
theorem least_is (kd dm : Int) (pt pv lv : Value) (rt sz st ru hd : Int) (n : Nat) (P : List Int) (L : List (List (Int × Int))) (w : World) (hkd : kd = 1 ∨ (kd = 2 ∧ TankOk st rt sz ru hd)) (hn : n ≤ 20) (hP : Ints w pv P) (hPb : ∀ d, 0 ≤ priceAt P d ∧ priceAt P d ≤ 1000) (hG : GridV w lv L) (hL : ∀ V ∈ L, V.length ≤ 64 ∧ ∀ p ∈ V, fitsI p.2 = true) :
    Calls Tryz.prog 60 #[.agg #[.int .i64 kd, .int .i64 dm, pt, .int .i64 rt, .int .i64 sz, .int .i64 st, .int .i64 ru, .int .i64 hd], .int .i64 n, pv, lv] w fun e w' => e = .returned (.tuple #[.int .i64 (leastU (fun V => costV kd st rt sz hd P V n) L L.length), .bool (decide (0 < L.length))]) ∧ Below w.heap.size w w' := by
  obtain ⟨w1, ew, hb1, hsz1, hcu⟩ := box_cust w kd dm pt rt sz st ru hd
  obtain ⟨a, m, c, rfl, hm, _, hc⟩ := (hG.below hb1).open
  have Hew := Lib.hid ew
  have Hc := Lib.hid hc
  have Hm := Lib.hid hm
  have HP := Lib.hid (hP.below hb1)
  have HL := Lib.hid hL
  have HC := Lib.hid (fun (W : World) (vv : Value) (V : List (Int × Int)) (h : Below w1.heap.size w1 W) (hV : Vis W vv V) (hVl : V.length ≤ 64) (hVf : ∀ p ∈ V, fitsI p.2 = true) => refCost_is kd dm pt pv vv rt sz st ru hd n P V W hkd hn (HP.out.below h) hPb hV hVl hVf)
  have hsz : w.heap.size ≤ w1.heap.size := hb1.size
  obtain ⟨c0, c1, c2, c3, c4, c5, c6, c7⟩ := hcu
  rw [hm]
  clear ew hsz1 hP hPb hG hL hc hm hkd
  generalize hf : (fun V => costV kd st rt sz hd P V n) = f at *
  have hfv : ∀ V, costV kd st rt sz hd P V n = f V := fun V => by rw [← hf]
  have Hfv := Lib.hid hfv
  clear hf hfv
  go_enter Tryz.func60, Tryz.ntmps60
  go_upto_region 1 with (fail)
  rw [Hew.out]
  go_wp2_with fail
  go_loopw [10, 11, 12] (fun s i q wr => ∃ (k : Nat) (Q : Int) (y : Value), k ≤ m ∧ y = q ∧ i = .int .i64 k ∧ s = .int .i64 Q ∧ Q = leastU f L k ∧ Below w1.heap.size w1 wr) (fun _ i _ _ => m - (intOf i).toNat)
  case atStart => exact ⟨0, 0, _, Nat.zero_le _, rfl, rfl, rfl, rfl, Below.refl _ _⟩
  case round =>
    obtain ⟨k, Q, y, hk, rfl, rfl, rfl, hQ, hb⟩ := hrel
    have HQ := Lib.hid hQ
    have Hb := Lib.hid hb
    obtain ⟨wo, rfl⟩ : ∃ wo : World, wo = wr := ⟨_, rfl⟩
    have hst : leastU f L (k + 1) = if k = 0 ∨ f (nthU L k) < Q then f (nthU L k) else Q := by rw [leastU, ← hQ]
    clear hQ
    by_cases hlt : k < m
    · obtain ⟨b, o, ra, rn, rc, rfl, hbl, f0, hV⟩ := Hc.out k hlt
      have f0 := cell_below hb f0
      obtain ⟨d0, d1, d2, d3, d4, d5, d6, d7⟩ : IsCust wo w.heap.size kd dm pt rt sz st ru hd := IsCust.below ⟨c0, c1, c2, c3, c4, c5, c6, c7⟩ hb
      have hLk := HL.out _ (nthU_mem (show k < L.length by rw [Hm.out]; exact hlt))
      have HC1 := Lib.hid (fun (W : World) (h : Below wo.heap.size wo W) => HC.out W (.slice ra rn rc) (nthU L k) (bel2 hb h) (hV.below (bel2 hb h)) hLk.1 hLk.2)
      rw [Hfv.out] at HC1
      generalize f (nthU L k) = X at *
      have hi0 : (0 : Int) ≤ (k : Int) := by omega
      have hi1 : (k : Int) < (m : Int) := by omega
      have b0 := Below.refl wo.heap.size wo
      clear hb hV hLk
      go_upto_region 5 with fail
      go_cut [12] (fun s12 wx => s12 = .int .i64 X ∧ Below wo.heap.size wo wx)
      case first =>
        go_region_held3 (fun w' => (w'.cell? ⟨w.heap.size, 0, none⟩ = some (.int .i64 kd) ∧ w'.cell? ⟨w.heap.size, 1, none⟩ = some (.int .i64 dm) ∧ w'.cell? ⟨w.heap.size, 2, none⟩ = some pt ∧ w'.cell? ⟨w.heap.size, 3, none⟩ = some (.int .i64 rt) ∧ w'.cell? ⟨w.heap.size, 4, none⟩ = some (.int .i64 sz) ∧ w'.cell? ⟨w.heap.size, 5, none⟩ = some (.int .i64 st) ∧ w'.cell? ⟨w.heap.size, 6, none⟩ = some (.int .i64 ru) ∧ w'.cell? ⟨w.heap.size, 7, none⟩ = some (.int .i64 hd) ∧ w'.cell? ⟨b, o + k, none⟩ = some (.slice ra rn rc)))
          (first | go_keep | exact ⟨cell_below b5 d0, cell_below b5 d1, cell_below b5 d2, cell_below b5 d3, cell_below b5 d4, cell_below b5 d5, cell_below b5 d6, cell_below b5 d7, cell_below b5 f0⟩)
          (first
            | (go_at_call 87; refine (HC1.out _ ?_).mono ?_; (first | exact b0 | exact belDrew _); rintro e w5 ⟨rfl, hb5⟩; (first | have b5 := bel2 b0 hb5 | have b5 := bel2 (belDrew wo) hb5)))
        all_goals
          go_wp2_with fail
          go_meet
          exact ⟨rfl, by first | exact b5 | exact b5.drew⟩
      case rest =>
        obtain ⟨rfl, hbc⟩ := hcut
        obtain ⟨w5, rfl⟩ : ∃ w5 : World, w5 = wc := ⟨_, rfl⟩
        have Hb5 := Lib.hid (bel2 Hb.out hbc)
        clear hbc d0 d1 d2 d3 d4 d5 d6 d7 f0
        have hcase : (((k : Int) == 0) = true ∧ k = 0) ∨ (((k : Int) == 0) = false ∧ decide (X < Q) = true ∧ X < Q) ∨ (((k : Int) == 0) = false ∧ decide (X < Q) = false ∧ ¬ (k = 0 ∨ X < Q)) := by
          by_cases h : k = 0
          · exact .inl ⟨by simp; omega, h⟩
          · by_cases h' : X < Q
            · exact .inr (.inl ⟨by simp; omega, by simpa using h', h'⟩)
            · exact .inr (.inr ⟨by simp; omega, by simpa using h', by omega⟩)
        rcases hcase with ⟨q1, q2⟩ | ⟨q1, q2, q3⟩ | ⟨q1, q2, q3⟩
        · rw [if_pos (.inl q2)] at hst
          have Hst := Lib.hid hst
          clear q2 hst
          go_wp2_with fail
          go_roundw
          case rel => exact ⟨k + 1, X, _, by omega, rfl, by go_num, rfl, Hst.out.symm, Hb5.out⟩
          case measure => simp [intOf]; omega
        · rw [if_pos (.inr q3)] at hst
          have Hst := Lib.hid hst
          clear q3 hst
          go_wp2_with fail
          go_roundw
          case rel => exact ⟨k + 1, X, _, by omega, rfl, by go_num, rfl, Hst.out.symm, Hb5.out⟩
          case measure => simp [intOf]; omega
        · rw [if_neg q3] at hst
          have Hst := Lib.hid hst
          clear q3 hst
          go_wp2_with fail
          go_roundw
          case rel => exact ⟨k + 1, Q, _, by omega, rfl, by go_num, rfl, Hst.out.symm, Hb5.out⟩
          case measure => simp [intOf]; omega
    · have hkm : k = m := by omega
      subst hkm
      clear hst
      go_wp2_with fail
      go_ret2
      refine ⟨?_, hb1.trans (hb.mono hsz)⟩
      rw [← HQ.out]
      simp
end Go.Proofs.YtnhcgpkcmfelkaaGreat
