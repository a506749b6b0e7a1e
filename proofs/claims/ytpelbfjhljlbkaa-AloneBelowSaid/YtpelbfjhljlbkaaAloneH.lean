/-
  My own work: alone.Suits: its contract.
-/
import Derived.Test.YtpelbfjhljlbkaaAloneF
import Derived.Test.YtpelbfjhljlbkaaMAl
import Derived.Test.YtpelbfjhljlbkaaMStock
namespace Go.Proofs.Ytpelbfjhljlbkaa
open Go.RowKit
set_option linter.unusedVariables false
set_option maxRecDepth 100000
attribute [local go_sem ↓] Go.wp_at_zero Go.wp_at_succ

set_option maxHeartbeats 3200000 in
theorem suits1_is (kd dm : Int) (pt vv : Value) (rt sz st ru hd : Int) (gc gv p : Nat) (V : List (Int × Int)) (w : World) (hc : IsCust w gc kd dm pt rt sz st ru hd) (hv : w.cell? ⟨gv, 0, none⟩ = some vv) (hV : Vis w vv V) (hp : p < 18446744073709551616) :
    Calls Try.prog 43 #[.int .u64 p, .pointer (some ⟨gc, 0, none⟩), .pointer (some ⟨gv, 0, none⟩)] w fun e w' => e = .returned (.bool (decide (onV dm p = V))) ∧ Below w.heap.size w w' := by
  obtain ⟨c0, c1, c2, c3, c4, c5, c6, c7⟩ := hc
  obtain ⟨a, m, c, hvv, _, _, _⟩ := hV.open
  subst hvv
  have HV := Lib.hid hV
  have HOn := Lib.hid (fun (W : World) => on_is kd dm pt rt sz st ru hd p W hp)
  have HEq := Lib.hid (fun (W : World) (x : Value) (hx : Vis W x (onV dm p)) (h : Below w.heap.size w W) => equalV_is x (.slice a m c) (onV dm p) V W hx (HV.out.below h))
  have b0 := Below.refl w.heap.size w
  clear hV
  generalize decide (onV dm p = V) = R at *
  go_enter Try.func43, Try.ntmps43
  go_wp2_with fail
  go_region_held3 (fun w' => (w'.cell? ⟨gc, 0, none⟩ = some (.int .i64 kd) ∧ w'.cell? ⟨gc, 1, none⟩ = some (.int .i64 dm) ∧ w'.cell? ⟨gc, 2, none⟩ = some pt ∧ w'.cell? ⟨gc, 3, none⟩ = some (.int .i64 rt) ∧ w'.cell? ⟨gc, 4, none⟩ = some (.int .i64 sz) ∧ w'.cell? ⟨gc, 5, none⟩ = some (.int .i64 st) ∧ w'.cell? ⟨gc, 6, none⟩ = some (.int .i64 ru) ∧ w'.cell? ⟨gc, 7, none⟩ = some (.int .i64 hd) ∧ w'.cell? ⟨gv, 0, none⟩ = some (.slice a m c)))
    (first | go_keep | exact ⟨cell_below b5 c0, cell_below b5 c1, cell_below b5 c2, cell_below b5 c3, cell_below b5 c4, cell_below b5 c5, cell_below b5 c6, cell_below b5 c7, cell_below b5 hv⟩ | exact ⟨cell_below b6 c0, cell_below b6 c1, cell_below b6 c2, cell_below b6 c3, cell_below b6 c4, cell_below b6 c5, cell_below b6 c6, cell_below b6 c7, cell_below b6 hv⟩)
    (first
      | (go_at_call 45; refine (HOn.out _).mono ?_; rintro e w5 ⟨xv, rfl, hown5, hb5⟩; have hI5 := hown5.vis; (first | have b5 := bel2 b0 hb5 | have b5 := bel2 (belDrew w) hb5))
      | (go_at_call 44; refine (HEq.out _ _ ?_ ?_).mono ?_; (first | exact hI5 | exact hI5.below (belDrew _)); (first | exact b5 | exact bel2 b5 (belDrew _)); rintro e w6 ⟨rfl, hb6⟩; (first | have b6 := bel2 b5 hb6 | have b6 := bel2 (bel2 b5 (belDrew _)) hb6)))
  all_goals
    go_wp2_with fail
    go_ret
    exact ⟨rfl, by first | exact b6 | exact b6.drew⟩

theorem any_no {ps : List Nat} {f : Nat → Bool} (h : ∀ j, j < ps.length → f (nthN ps j) = false) : ps.any f = false := by
  rw [List.any_eq_false]
  intro x hx
  obtain ⟨j, hj, rfl⟩ := List.getElem_of_mem hx
  rw [← nthN_lt hj, h j hj]
  simp
theorem any_yes {ps : List Nat} {f : Nat → Bool} {j : Nat} (hj : j < ps.length) (h : f (nthN ps j) = true) : ps.any f = true := by
  rw [List.any_eq_true]
  exact ⟨_, nthN_mem hj, h⟩

set_option maxHeartbeats 3200000 in
theorem index_is (kd dm : Int) (pt vv : Value) (rt sz st ru hd : Int) (gc gv : Nat) (ps : List Nat) (V : List (Int × Int)) (w : World) (hc : IsCust w gc kd dm pt rt sz st ru hd) (hv : w.cell? ⟨gv, 0, none⟩ = some vv) (hV : Vis w vv V) (hp : Words w pt ps) (hps : ∀ p ∈ ps, p < 18446744073709551616) (hpl : ps.length ≤ 1000) :
    Calls Try.prog 75 #[pt, .func (.func 43) #[] #[.pointer (some ⟨gc, 0, none⟩), .pointer (some ⟨gv, 0, none⟩)]] w fun e w' => ∃ i : Int, e = .returned (.int .i64 i) ∧ decide (0 ≤ i) = ps.any (fun p => decide (onV dm p = V)) ∧ Below w.heap.size w w' := by
  obtain ⟨a, n, c, rfl, hn, _, _, hcell⟩ := hp.open
  have HS := Lib.hid (fun (W : World) (p : Nat) (h : Below w.heap.size w W) (hp : p < 18446744073709551616) => suits1_is kd dm (.slice a n c) vv rt sz st ru hd gc gv p V W (hc.below h) (cell_below h hv) (hV.below h) hp)
  have Hcell := Lib.hid hcell
  have Hn := Lib.hid hn
  have Hps := Lib.hid hps
  clear hc hv hV hp hcell hps hn
  go_enter Try.func75, Try.ntmps75
  go_wp2_with fail
  go_loopw [8] (fun i wr => ∃ k : Nat, k ≤ n ∧ i = .int .i64 k ∧ (∀ j, j < k → decide (onV dm (nthN ps j) = V) = false) ∧ Below w.heap.size w wr) (fun i _ => n - (intOf i).toNat)
  case atStart => exact ⟨0, Nat.zero_le _, rfl, fun j hj => by omega, Below.refl _ _⟩
  case round =>
    obtain ⟨k, hk, rfl, hall, hb⟩ := hrel
    have Hall := Lib.hid hall
    have Hb := Lib.hid hb
    clear hall
    by_cases hlt : k < n
    · obtain ⟨b, o, rfl, hbl, f0⟩ := Hcell.out k hlt
      have f0r := cell_below hb f0
      have hp64 := Hps.out _ (nthN_mem (show k < ps.length by rw [Hn.out]; exact hlt))
      have HS1 := Lib.hid (HS.out wr (nthN ps k) hb hp64)
      have Hyes := Lib.hid (fun (h : decide (onV dm (nthN ps k) = V) = true) => any_yes (ps := ps) (f := fun p => decide (onV dm p = V)) (j := k) (by rw [Hn.out]; exact hlt) h)
      have Hno : Hid (decide (onV dm (nthN ps k) = V) = false → ∀ j, j < k + 1 → decide (onV dm (nthN ps j) = V) = false) := Lib.hid (fun h j hj => by
        rcases Nat.lt_succ_iff_lt_or_eq.1 hj with h' | rfl
        · exact Hall.out j h'
        · exact h)
      generalize decide (onV dm (nthN ps k) = V) = R at *
      generalize nthN ps k = p at *
      have hi0 : (0 : Int) ≤ (k : Int) := by omega
      have hi1 : (k : Int) < (n : Int) := by omega
      clear f0 hb
      cases R with
      | true =>
        go_wp2_with fail
        refine HS1.out.mono ?_
        rintro e w5 ⟨rfl, hb5⟩
        have hb6 := bel2 Hb.out hb5
        clear hb5
        go_wp2_with fail
        go_ret
        exact ⟨_, rfl, by rw [Hyes.out (by trivial)]; simp, hb6⟩
      | false =>
        go_wp2_with fail
        refine HS1.out.mono ?_
        rintro e w5 ⟨rfl, hb5⟩
        have hb6 := Lib.hid (bel2 Hb.out hb5)
        clear hb5
        go_wp2_with fail
        go_roundw
        case rel => exact ⟨k + 1, by omega, by go_num, Hno.out (by trivial), hb6.out⟩
        case measure => simp [intOf]; omega
    · have Hf : Hid (ps.any (fun p => decide (onV dm p = V)) = false) := Lib.hid (any_no (fun j hj => Hall.out j (by rw [Hn.out] at hj; omega)))
      go_wp2_with fail
      go_ret
      exact ⟨-1, rfl, by rw [Hf.out]; rfl, hb⟩

set_option maxHeartbeats 800000 in
theorem contains_is (kd dm : Int) (pt vv : Value) (rt sz st ru hd : Int) (gc gv : Nat) (ps : List Nat) (V : List (Int × Int)) (w : World) (hc : IsCust w gc kd dm pt rt sz st ru hd) (hv : w.cell? ⟨gv, 0, none⟩ = some vv) (hV : Vis w vv V) (hp : Words w pt ps) (hps : ∀ p ∈ ps, p < 18446744073709551616) (hpl : ps.length ≤ 1000) :
    Calls Try.prog 42 #[pt, .func (.func 43) #[] #[.pointer (some ⟨gc, 0, none⟩), .pointer (some ⟨gv, 0, none⟩)]] w fun e w' => e = .returned (.bool (ps.any (fun p => decide (onV dm p = V)))) ∧ Below w.heap.size w w' := by
  have H := Lib.hid (index_is kd dm pt vv rt sz st ru hd gc gv ps V w hc hv hV hp hps hpl)
  clear hc hv hV hp hps
  go_enter Try.func42, Try.ntmps42
  go_wp2_with fail
  refine H.out.mono ?_
  rintro e w5 ⟨i, rfl, hi, hb5⟩
  have Hi := Lib.hid hi
  clear hi
  go_wp2_with fail
  go_ret
  rw [← Hi.out]
  exact ⟨rfl, hb5⟩
end Go.Proofs.Ytpelbfjhljlbkaa
