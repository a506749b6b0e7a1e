/-
  My own work: the walk of StockHolds.
-/
import Derived.Test.YthnkjlcdjjhloaaHolds
import Derived.Test.YthnkjlcdjjhloaaLives09
import Derived.Deep.RegionHeld3
namespace Go.Proofs.Ythnkjlcdjjhloaa
open Go.RowKit
set_option linter.unusedVariables false

set_option maxHeartbeats 1600000 in
theorem stockHolds_walk (kd dm : Int) (pt : Value) (rt sz st ru hd : Int) (qv : Value) (q : List Int) (mv : Value) (ms : List Int) (w : World) (hq : Ints w qv q) (hm : Ints w mv ms)
    (h3 : (Lit.int .i64 rt).wf = true) (h4 : (Lit.int .i64 sz).wf = true) (h5 : (Lit.int .i64 st).wf = true) (h6 : (Lit.int .i64 ru).wf = true) (h7 : (Lit.int .i64 hd).wf = true) :
    Calls Try.prog 10 #[.agg #[.int .i64 kd, .int .i64 dm, pt, .int .i64 rt, .int .i64 sz, .int .i64 st, .int .i64 ru, .int .i64 hd], qv, mv] w fun e w' => e = .returned (.bool true) ∧ Below w.heap.size w w' := by
  obtain ⟨w1, ew, hb1, hsz1, hcu⟩ := box_cust w kd dm pt rt sz st ru hd
  have hq1 := hq.below hb1
  have hm1 := hm.below hb1
  have Hew := Lib.hid ew
  have hl0 := hcu.lt
  obtain ⟨c0, c1, c2, c3, c4, c5, c6, c7⟩ := hcu
  clear ew hsz1
  go_enter Try.func10, Try.ntmps10
  go_wp2_with fail
  rw [Hew.out]
  refine (tank_is kd dm pt rt sz st ru hd w1 h3 h4 h5 h6 h7).mono ?_
  rintro e w2 ⟨rfl, hb2⟩
  have hq2 := hq1.below hb2
  have hm2 := hm1.below hb2
  have hbw2 := hb1.trans (hb2.mono hb1.size)
  clear c0 c1 c2 c3 c4 c5 c6 c7 hb1 hb2 hq hq1 hm hm1
  have hsm : ∀ r : List Int, r.length ≤ 20 → Small (rnd st 0 (rnd sz 1 40)) (rnd rt 0 12) (rnd sz 1 40) r := fun r hr => small_tank rt sz st r hr
  have Hsm := Lib.hid hsm
  clear hsm
  generalize rnd st 0 (rnd sz 1 40) = st' at *
  generalize rnd rt 0 12 = rt' at *
  generalize rnd sz 1 40 = sz' at *
  generalize rnd ru 1 2 = ru' at *
  generalize rnd hd 0 9 = hd' at *
  go_wp2_with fail
  obtain ⟨w3, ew3, hb3, hsz3, hcu3⟩ := box_cust w2 2 0 (.slice none 0 0) rt' sz' st' ru' hd'
  rw [ew3]
  clear ew3 hsz3
  have hq3 := hq2.below hb3
  have hm3 := hm2.below hb3
  have hbw3 := hbw2.trans (hb3.mono hbw2.size)
  refine (few_is qv q w3 hq3).mono ?_
  rintro e w3' ⟨qv', rfl, rfl, hq4⟩
  have hlq : (q.take 20).length ≤ 20 := by simp; omega
  generalize q.take 20 = q' at *
  clear hb3 hq3 hq2 hm2 hbw2
  obtain ⟨a, n, c, rfl, hn, _, hcell⟩ := hm3.open
  have Hcell := Lib.hid hcell
  clear hn hcell hm3
  generalize w2.heap.size = g at *
  go_wp2_with fail
  go_loopw [8, 9] (fun u i wr => ∃ (k : Nat) (v : Value) (l : List Int), k ≤ 20 ∧ v = u ∧ i = .int .i64 k ∧ Own wr w3.heap.size v l ∧ l.length ≤ k ∧ Below w3.heap.size w3 wr) (fun _ i _ => 20 - (intOf i).toNat)
  case atStart => exact ⟨0, _, [], Nat.zero_le _, rfl, rfl, Own.nil _ _, by simp, Below.refl _ _⟩
  case round =>
    obtain ⟨k, v, l, hk, rfl, rfl, hown, hl, hb⟩ := hrel
    by_cases hlt : k < n ∧ k < 20
    · obtain ⟨hlt1, hlt2⟩ := hlt
      obtain ⟨b, o, rfl, hc1⟩ := Hcell.out k hlt1
      have hc := cell_below hb hc1
      clear hc1
      by_cases h0 : 0 ≤ nth ms k ∧ nth ms k ≤ 2147483648
      · obtain ⟨h01, h02⟩ := h0
        go_wp2_with (at_builtin; refine wpList_push rfl _ _ rfl wr w3.heap.size v l (nth ms k) rfl rfl hown (by omega) hb.size ?_)
        intro v' w5 hown5 g5 hb5
        have hb5' := hb.trans hb5
        clear hc g5 hb5
        go_wp2_with fail
        go_roundw
        case rel => exact ⟨k + 1, _, _, by omega, rfl, by go_num, hown5, by simp; omega, hb5'⟩
        case measure => simp [intOf]; omega
      · have h0' : nth ms k < 0 ∨ 2147483648 < nth ms k := by omega
        clear h0
        rcases h0' with h | h
        all_goals
          go_wp2_with fail
          go_roundw
          case rel => exact ⟨k + 1, _, l, by omega, rfl, by go_num, hown, by omega, hb⟩
          case measure => simp [intOf]; omega
    · have hexit : ¬ (k < n) ∨ (k < n ∧ ¬ (k < 20)) := by omega
      clear hlt
      have hbr := hbw3.trans (hb.mono hbw3.size)
      have hcr := hcu3.below hb
      obtain ⟨c0, c1, c2, c3, c4, c5, c6, c7⟩ := hcr
      have Hq := Lib.hid (hq4.below hb)
      have Hl := Lib.hid hown.ints
      have hd10 := And.intro c0 (And.intro c1 (And.intro c2 (And.intro c3 (And.intro c4 (And.intro c5 (And.intro c6 (And.intro c7 (Below.refl wr.heap.size wr))))))))
      clear c0 c1 c2 c3 c4 c5 c6 c7 hown hb hcu3 hq4
      generalize hx1 : holdsE st' rt' sz' ru' q' = X1 at *
      generalize hx2 : wrap64 (hd' * sumW l) = X2 at *
      have Hx1 := Lib.hid hx1
      have Hx2 := Lib.hid hx2
      clear hx1 hx2
      rcases hexit with he | ⟨he1, he2⟩
      all_goals
        go_wp2_with fail
        go_region_held3 (fun w' => w'.cell? ⟨g, 0, none⟩ = some (.int .i64 2) ∧ w'.cell? ⟨g, 1, none⟩ = some (.int .i64 0) ∧ w'.cell? ⟨g, 2, none⟩ = some (.slice none 0 0) ∧ w'.cell? ⟨g, 3, none⟩ = some (.int .i64 rt') ∧ w'.cell? ⟨g, 4, none⟩ = some (.int .i64 sz') ∧ w'.cell? ⟨g, 5, none⟩ = some (.int .i64 st') ∧ w'.cell? ⟨g, 6, none⟩ = some (.int .i64 ru') ∧ w'.cell? ⟨g, 7, none⟩ = some (.int .i64 hd') ∧ Below wr.heap.size wr w') (first | exact cust_keep (by assumption) (by assumption) | exact cust_keep (by assumption) (drew_below _))
          (first | (go_at_call 27; refine (holds_is 2 0 (.slice none 0 0) rt' sz' st' ru' hd' _ q' _ ?_ (Hsm.out q' hlq)).mono ?_; exact Hq.out.below (cust_below (by assumption)); rintro e w7 ⟨rfl, hb7⟩; rw [Hx1.out]) | (go_at_call 28; refine (refHolds_is 2 0 (.slice none 0 0) rt' sz' st' ru' hd' _ q' _ ?_ (Hsm.out q' hlq)).mono ?_; exact Hq.out.below (cust_below (by assumption)); rintro e w8 ⟨rfl, hb8⟩; rw [Hx1.out]) | (go_at_call 25; refine (held_is 2 0 (.slice none 0 0) rt' sz' st' ru' hd' _ l _ ?_).mono ?_; exact Hl.out.below (cust_below (by assumption)); rintro e w9 ⟨rfl, hb9⟩; rw [Hx2.out]) | (go_at_call 29; refine (refHeld_is 2 0 (.slice none 0 0) rt' sz' st' ru' hd' _ l _ ?_).mono ?_; exact Hl.out.below (cust_below (by assumption)); rintro e w10 ⟨rfl, hb10⟩; rw [Hx2.out]) | (go_at_call 22; refine (lives09_is _).mono ?_; rintro e w11 ⟨rfl, hb11⟩))
        go_wp2_with fail
        go_ret
        have hc7 := (drew_below wr).trans hb7
        have hc8 := hc7.trans (hb8.mono hc7.size)
        have hc9 := hc8.trans (hb9.mono hc8.size)
        have hc10 := hc9.trans (hb10.mono hc9.size)
        have hc11 := hc10.trans (hb11.mono hc10.size)
        exact ⟨rfl, hbr.trans (hc11.mono hbr.size)⟩
end Go.Proofs.Ythnkjlcdjjhloaa
