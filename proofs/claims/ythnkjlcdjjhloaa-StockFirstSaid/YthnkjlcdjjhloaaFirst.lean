/-
  My own work: the walk of StockFirst.
-/
import Derived.Test.YthnkjlcdjjhloaaStockPl
import Derived.Test.YthnkjlcdjjhloaaLives09
import Derived.Deep.RegionHeld3
namespace Go.Proofs.Ythnkjlcdjjhloaa
open Go.RowKit
set_option linter.unusedVariables false

set_option maxHeartbeats 1600000 in
theorem stockFirst_walk (kd dm : Int) (pt : Value) (rt sz st ru hd : Int) (qv : Value) (q : List Int) (m : Int) (w : World) (hq : Ints w qv q)
    (h3 : (Lit.int .i64 rt).wf = true) (h4 : (Lit.int .i64 sz).wf = true) (h5 : (Lit.int .i64 st).wf = true) (h6 : (Lit.int .i64 ru).wf = true) (h7 : (Lit.int .i64 hd).wf = true) :
    Calls Try.prog 8 #[.agg #[.int .i64 kd, .int .i64 dm, pt, .int .i64 rt, .int .i64 sz, .int .i64 st, .int .i64 ru, .int .i64 hd], qv, .int .i64 m] w fun e w' => e = .returned (.bool true) ∧ Below w.heap.size w w' := by
  obtain ⟨w1, ew, hb1, hsz1, hcu⟩ := box_cust w kd dm pt rt sz st ru hd
  have hq1 := hq.below hb1
  have Hew := Lib.hid ew
  have hl0 := hcu.lt
  obtain ⟨c0, c1, c2, c3, c4, c5, c6, c7⟩ := hcu
  clear ew hsz1
  go_enter Try.func8, Try.ntmps8
  go_wp2_with fail
  rw [Hew.out]
  refine (tank_is kd dm pt rt sz st ru hd w1 h3 h4 h5 h6 h7).mono ?_
  rintro e w2 ⟨rfl, hb2⟩
  have hq2 := hq1.below hb2
  have hbw2 := hb1.trans (hb2.mono hb1.size)
  clear c0 c1 c2 c3 c4 c5 c6 c7 hb1 hb2 hq hq1
  have hsm : ∀ r : List Int, r.length ≤ 20 → Small (rnd st 0 (rnd sz 1 40)) (rnd rt 0 12) (rnd sz 1 40) r := fun r hr => small_tank rt sz st r hr
  have hs40 : rnd sz 1 40 ≤ 40 := (rnd_bd sz 1 40 (by decide)).2
  have hh9 := rnd_bd hd 0 9 (by decide)
  have Hsm := Lib.hid hsm
  have Hs40 := Lib.hid hs40
  have Hh9 := Lib.hid hh9
  clear hsm hs40 hh9
  generalize rnd st 0 (rnd sz 1 40) = st' at *
  generalize rnd rt 0 12 = rt' at *
  generalize rnd sz 1 40 = sz' at *
  generalize rnd ru 1 2 = ru' at *
  generalize rnd hd 0 9 = hd' at *
  go_wp2_with fail
  obtain ⟨w3, ew3, hb3, hsz3, hcu3⟩ := box_cust w2 2 0 (.slice none 0 0) rt' sz' st' ru' hd'
  rw [ew3]
  clear ew3 hsz3
  have hq3 := hq2.below hb3
  have hbw3 := hbw2.trans (hb3.mono hbw2.size)
  refine (few_is qv q w3 hq3).mono ?_
  rintro e w3' ⟨qv', rfl, rfl, hq4⟩
  have hlq : (q.take 20).length ≤ 20 := by simp; omega
  generalize q.take 20 = q' at *
  clear hb3 hq3 hq2 hbw2
  have hq4' := hq4
  obtain ⟨a, n, c, rfl, hn, hmax, _⟩ := hq4.open
  have hcap := hq4.cap.1
  have Hn := Lib.hid hn
  have Hq4 := Lib.hid hq4
  have hn20 : n ≤ 20 := by omega
  clear hn hq4 hlq hmax
  obtain ⟨c0, c1, c2, c3, c4, c5, c6, c7⟩ := hcu3
  go_wp2_with fail
  refine (nights_is 2 0 (.slice none 0 0) rt' sz' st' ru' hd' _ q' w3 hq4' (Hsm.out _ (by rw [Hn.out]; exact hn20))).mono ?_
  rintro e w5 ⟨va, rfl, ha0, hb5⟩
  have ha := ha0.ints
  clear ha0
  have hbw5 := hbw3.trans (hb5.mono hbw3.size)
  have Hq5 := Lib.hid (Hq4.out.below hb5)
  have d0 := cell_below hb5 c0
  have d1 := cell_below hb5 c1
  have d2 := cell_below hb5 c2
  have d3 := cell_below hb5 c3
  have d4 := cell_below hb5 c4
  have d5 := cell_below hb5 c5
  have d6 := cell_below hb5 c6
  have d7 := cell_below hb5 c7
  clear c0 c1 c2 c3 c4 c5 c6 c7 hb5 hq4'
  generalize w2.heap.size = g at *
  by_cases hday : 0 ≤ m ∧ m ≤ n
  rotate_left
  · have hd' : m < 0 ∨ (n : Int) < m := by omega
    clear hday
    rcases hd' with h | h
    all_goals
      generalize nightsE st' rt' sz' q' = r at *
      go_wp2_with fail
      refine (lives09_is w5).mono ?_
      rintro e w7 ⟨rfl, hb7⟩
      go_wp2_with fail
      go_ret
      exact ⟨rfl, hbw5.trans (hb7.mono hbw5.size)⟩
  obtain ⟨h0d, h1d⟩ := hday
  obtain ⟨k, rfl⟩ := Int.eq_ofNat_of_zero_le h0d
  have hkn : k ≤ n := by omega
  clear h0d
  rcases nightsE_cases st' rt' sz' q' with ⟨hE, _⟩ | ⟨hE, _⟩ | ⟨hE, hok, hdays⟩
  iterate 2
    · rw [hE]
      clear hE
      go_wp2_with fail
      refine (lives09_is w5).mono ?_
      rintro e w7 ⟨rfl, hb7⟩
      go_wp2_with fail
      go_ret
      exact ⟨rfl, hbw5.trans (hb7.mono hbw5.size)⟩
  rw [hE] at ha ⊢
  rw [Hn.out] at ha
  have Hok := Lib.hid hok
  have Hdays := Lib.hid hdays
  clear hE hok hdays
  have hkc : (k : Int) ≤ (c : Int) := by omega
  have hkc0 : (0 : Int) ≤ (k : Int) := by omega
  go_wp2_with fail
  have hd8 := And.intro d0 (And.intro d1 (And.intro d2 (And.intro d3 (And.intro d4 (And.intro d5 (And.intro d6 (And.intro d7 (Below.refl w5.heap.size w5))))))))
  clear d0 d1 d2 d3 d4 d5 d6 d7
  go_region_held3 (fun w' => w'.cell? ⟨g, 0, none⟩ = some (.int .i64 2) ∧ w'.cell? ⟨g, 1, none⟩ = some (.int .i64 0) ∧ w'.cell? ⟨g, 2, none⟩ = some (.slice none 0 0) ∧ w'.cell? ⟨g, 3, none⟩ = some (.int .i64 rt') ∧ w'.cell? ⟨g, 4, none⟩ = some (.int .i64 sz') ∧ w'.cell? ⟨g, 5, none⟩ = some (.int .i64 st') ∧ w'.cell? ⟨g, 6, none⟩ = some (.int .i64 ru') ∧ w'.cell? ⟨g, 7, none⟩ = some (.int .i64 hd') ∧ Below w5.heap.size w5 w') (first | exact cust_keep (by assumption) (by assumption) | exact cust_keep (by assumption) (drew_below _))
    (first | (go_at_call 19; refine (nights_is 2 0 (.slice none 0 0) rt' sz' st' ru' hd' _ (q'.take k) _ ?_ ?_).mono ?_; exact (Hq5.out.below (cust_below (by assumption))).take hkn; exact Hsm.out _ (by rw [List.length_take]; omega); rintro e w6 ⟨vb, rfl, hb0, hb6⟩))
  have hE2 := nightsE_take Hok.out Hdays.out k (by rw [Hn.out]; exact hkn)
  rw [Hn.out] at hE2
  rw [hE2] at hb0 ⊢
  have hb5' : Below w5.heap.size w5 w6 := (drew_below w5).trans hb6
  have hbw6 := hbw5.trans (hb5'.mono hbw5.size)
  have hd9 := cust_keep hd8 hb5'
  have hd10 := And.intro hd9.1 (And.intro hd9.2.1 (And.intro hd9.2.2.1 (And.intro hd9.2.2.2.1 (And.intro hd9.2.2.2.2.1 (And.intro hd9.2.2.2.2.2.1 (And.intro hd9.2.2.2.2.2.2.1 (And.intro hd9.2.2.2.2.2.2.2.1 (Below.refl w6.heap.size w6))))))))
  have ha6 := ha.below hb5'
  have hvb := hb0.ints
  have hbds : ∀ x ∈ nightL st' rt' q' n, 0 ≤ x ∧ x ≤ 9007199254740992 := by
    intro x hx
    obtain ⟨j, hj, rfl⟩ := List.getElem_of_mem hx
    rw [nightL_len] at hj
    rw [← nth_lt, nth_nightL _ _ _ _ _ hj]
    exact ⟨morn_nonneg (Hsm.out _ (by rw [Hn.out]; exact hn20)).st0 Hdays.out (j + 1) (by rw [Hn.out]; omega), (morn_bd (Hsm.out _ (by rw [Hn.out]; exact hn20)) Hok.out (j + 1) (by rw [Hn.out]; omega)).2⟩
  have hll : (nightL st' rt' q' n).length = n := nightL_len _ _ _ _
  have Hle : Hid (wrap64 (hd' * sumW ((nightL st' rt' q' n).take k)) ≤ wrap64 (hd' * sumW (nightL st' rt' q' n))) := by
    show _ ≤ _
    have h1 := sum_take_le (fun x hx => (hbds x hx).1) k
    have hs : ∀ l : List Int, (∀ x ∈ l, 0 ≤ x ∧ x ≤ 9007199254740992) → l.length ≤ 20 → sumW l = l.sum ∧ 0 ≤ l.sum ∧ l.sum ≤ 9007199254740992 * 20 := by
      intro l hl h20
      refine ⟨sumW_eq l 9007199254740992 (fun x hx => by have := hl x hx; omega) (by omega) (by omega), ?_, ?_⟩
      · have := (sum_take_le (fun x hx => (hl x hx).1) 0).2; simpa using this
      · have : ∀ l : List Int, (∀ x ∈ l, 0 ≤ x ∧ x ≤ 9007199254740992) → l.sum ≤ 9007199254740992 * l.length := by
          intro l
          induction l with
          | nil => simp
          | cons x l ih =>
            intro h
            have h1 := h x (List.mem_cons_self ..)
            have h2 := ih (fun y hy => h y (List.mem_cons_of_mem _ hy))
            simp only [List.sum_cons, List.length_cons]; omega
        have := this l hl
        omega
    obtain ⟨e1, e2, e3⟩ := hs _ hbds (by omega)
    obtain ⟨f1, f2, f3⟩ := hs ((nightL st' rt' q' n).take k) (fun x hx => hbds x (List.mem_of_mem_take hx)) (by rw [List.length_take]; omega)
    rw [e1, f1]
    have hh := Hh9.out
    have g1 : hd' * ((nightL st' rt' q' n).take k).sum ≤ hd' * (nightL st' rt' q' n).sum := Int.mul_le_mul_of_nonneg_left h1.2 hh.1
    have g2 : 0 ≤ hd' * ((nightL st' rt' q' n).take k).sum := Int.mul_nonneg hh.1 f2
    have g3 : hd' * (nightL st' rt' q' n).sum ≤ 9 * (nightL st' rt' q' n).sum := Int.mul_le_mul_of_nonneg_right hh.2 e2
    rw [wrap_id (by omega) (by omega), wrap_id (by omega) (by omega)]
    exact g1
  obtain ⟨aa, na, ca, rfl, hna, _, _⟩ := ha6.open
  rw [nightL_len] at hna
  subst hna
  have hcaa := ha6.cap.1
  have htk : (nightL st' rt' q' n).length = n := nightL_len _ _ _ _
  have Ha6 := Lib.hid ha6
  have Hvb := Lib.hid hvb
  clear hE2 hb0 ha6 hvb hd8 hd9 hb6 hb5' ha hbds hll htk
  generalize hL : nightL st' rt' q' n = L at *
  generalize hx1 : wrap64 (hd' * sumW (L.take k)) = X1 at *
  generalize hx2 : wrap64 (hd' * sumW L) = X2 at *
  have Hx1 := Lib.hid hx1
  have Hx2 := Lib.hid hx2
  have hle := Hle.out
  have hkca : (k : Int) ≤ (ca : Int) := by omega
  clear hL hx1 hx2
  go_wp2_with fail
  go_region_held3 (fun w' => w'.cell? ⟨g, 0, none⟩ = some (.int .i64 2) ∧ w'.cell? ⟨g, 1, none⟩ = some (.int .i64 0) ∧ w'.cell? ⟨g, 2, none⟩ = some (.slice none 0 0) ∧ w'.cell? ⟨g, 3, none⟩ = some (.int .i64 rt') ∧ w'.cell? ⟨g, 4, none⟩ = some (.int .i64 sz') ∧ w'.cell? ⟨g, 5, none⟩ = some (.int .i64 st') ∧ w'.cell? ⟨g, 6, none⟩ = some (.int .i64 ru') ∧ w'.cell? ⟨g, 7, none⟩ = some (.int .i64 hd') ∧ Below w6.heap.size w6 w') (first | exact cust_keep (by assumption) (by assumption) | exact cust_keep (by assumption) (drew_below _))
    (first | (go_at_call 21; refine (same_is _ _ (L.take k) (L.take k) _ ?_ ?_).mono ?_; exact Hvb.out.below (cust_below (by assumption)); exact (Ha6.out.below (cust_below (by assumption))).take hkn; rintro e w7 ⟨rfl, hb7⟩) | (go_at_call 22; refine (lives09_is _).mono ?_; rintro e w8 ⟨rfl, hb8⟩) | (go_at_call_of 25 (Value.slice aa n ca); refine (held_is 2 0 (.slice none 0 0) rt' sz' st' ru' hd' (.slice aa n ca) L _ ?_).mono ?_; exact (Ha6.out.below (cust_below (by assumption))); rintro e w9 ⟨rfl, hb9⟩; rw [Hx2.out]) | (go_at_call_of 25 vb; refine (held_is 2 0 (.slice none 0 0) rt' sz' st' ru' hd' vb (L.take k) _ ?_).mono ?_; exact (Hvb.out.below (cust_below (by assumption))); rintro e w10 ⟨rfl, hb10⟩; rw [Hx1.out]))
  go_wp2_with fail
  go_ret
  have hc7 := (drew_below w6).trans hb7
  have hc10 := hc7.trans (hb10.mono hc7.size)
  have hc9 := hc10.trans (hb9.mono hc10.size)
  have hc8 := hc9.trans (hb8.mono hc9.size)
  exact ⟨rfl, hbw6.trans (hc8.mono hbw6.size)⟩
end Go.Proofs.Ythnkjlcdjjhloaa
