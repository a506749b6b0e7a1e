/-
  My own work: the walk of StockMore.
-/
import Derived.Test.YthnkjlcdjjhloaaStockPl
import Derived.Test.YthnkjlcdjjhloaaLives09
namespace Go.Proofs.Ythnkjlcdjjhloaa
open Go.RowKit
set_option linter.unusedVariables false

set_option maxHeartbeats 1600000 in
theorem stockMore_walk (kd dm : Int) (pt : Value) (rt sz st ru hd : Int) (qv : Value) (q : List Int) (day : Int) (w : World) (hq : Ints w qv q)
    (h3 : (Lit.int .i64 rt).wf = true) (h4 : (Lit.int .i64 sz).wf = true) (h5 : (Lit.int .i64 st).wf = true) (h6 : (Lit.int .i64 ru).wf = true) (h7 : (Lit.int .i64 hd).wf = true) :
    Calls Try.prog 6 #[.agg #[.int .i64 kd, .int .i64 dm, pt, .int .i64 rt, .int .i64 sz, .int .i64 st, .int .i64 ru, .int .i64 hd], qv, .int .i64 day] w fun e w' => e = .returned (.bool true) ∧ Below w.heap.size w w' := by
  obtain ⟨w1, ew, hb1, hsz1, hcu⟩ := box_cust w kd dm pt rt sz st ru hd
  have hq1 := hq.below hb1
  have Hew := Lib.hid ew
  have hl0 := hcu.lt
  obtain ⟨c0, c1, c2, c3, c4, c5, c6, c7⟩ := hcu
  clear ew hsz1
  go_enter Try.func6, Try.ntmps6
  go_wp2_with fail
  rw [Hew.out]
  refine (tank_is kd dm pt rt sz st ru hd w1 h3 h4 h5 h6 h7).mono ?_
  rintro e w2 ⟨rfl, hb2⟩
  have hq2 := hq1.below hb2
  have hbw2 := hb1.trans (hb2.mono hb1.size)
  clear c0 c1 c2 c3 c4 c5 c6 c7 hb1 hb2 hq hq1
  have hsm : ∀ r : List Int, r.length ≤ 20 → Small (rnd st 0 (rnd sz 1 40)) (rnd rt 0 12) (rnd sz 1 40) r := fun r hr => small_tank rt sz st r hr
  have hs40 : rnd sz 1 40 ≤ 40 := (rnd_bd sz 1 40 (by decide)).2
  have Hsm := Lib.hid hsm
  have Hs40 := Lib.hid hs40
  clear hsm hs40
  generalize rnd st 0 (rnd sz 1 40) = st' at *
  generalize rnd rt 0 12 = rt' at *
  generalize rnd sz 1 40 = sz' at *
  generalize rnd ru 1 2 = ru' at *
  generalize rnd hd 0 9 = hd' at *
  go_wp2_with fail
  obtain ⟨w3, ew3, hb3, hsz3, hcu3⟩ := box_cust w2 2 0 (.slice none 0 0) rt' sz' st' ru' hd'
  rw [ew3]
  clear ew3 hsz3
  have hq3 := hq2.below hb3
  have hbw3 := hbw2.trans (hb3.mono hbw2.size)
  refine (few_is qv q w3 hq3).mono ?_
  rintro e w3' ⟨qv', rfl, rfl, hq4⟩
  have hlq : (q.take 20).length ≤ 20 := by simp; omega
  generalize q.take 20 = q' at *
  clear hb3 hq3 hq2 hbw2
  obtain ⟨a, n, c, rfl, hn, hmax, hcell⟩ := hq4.open
  have Hn := Lib.hid hn
  have Hcell := Lib.hid hcell
  have Hq4 := Lib.hid hq4
  have hn20 : n ≤ 20 := by omega
  clear hn hcell hq4 hlq hmax
  obtain ⟨c0, c1, c2, c3, c4, c5, c6, c7⟩ := hcu3
  by_cases hday : 0 ≤ day ∧ day < n
  rotate_left
  · have hd' : day < 0 ∨ (n : Int) ≤ day := by omega
    clear hday
    rcases hd' with h | h
    all_goals
      go_wp2_with fail
      refine (lives09_is w3).mono ?_
      rintro e w7 ⟨rfl, hb7⟩
      go_wp2_with fail
      go_ret
      exact ⟨rfl, hbw3.trans (hb7.mono hbw3.size)⟩
  obtain ⟨h0d, h1d⟩ := hday
  obtain ⟨dd, rfl⟩ := Int.eq_ofNat_of_zero_le h0d
  have hdn : dd < n := by omega
  clear h0d
  go_wp2_with (at_builtin; go_loud (refine wpList_pushAll rfl _ _ rfl w3 w3.heap.size (.slice none 0 0) [] q' rfl (.slice a n c) rfl Hq4.out (by rw [Hn.out]; omega) (Own.nil _ _) (by rw [Hn.out]; simp; omega) (Nat.le_refl _) ?_))
  intro mv w4 hown4 _ hb4
  have hbw4 := hbw3.trans (hb4.mono hbw3.size)
  have hq5 := Hq4.out.below hb4
  have c0' := cell_below hb4 c0
  have c1' := cell_below hb4 c1
  have c2' := cell_below hb4 c2
  have c3' := cell_below hb4 c3
  have c4' := cell_below hb4 c4
  have c5' := cell_below hb4 c5
  have c6' := cell_below hb4 c6
  have c7' := cell_below hb4 c7
  have hg3 : w2.heap.size < w3.heap.size := World.block_lt_of_cell? w3 _ c0
  have hs4 := hb4.size
  clear c0 c1 c2 c3 c4 c5 c6 c7 hb4
  obtain ⟨mg, mc, rfl, hmg1, hmg2, hmc, hmcell⟩ := hown4.out (by rw [Hn.out]; omega)
  rw [Hn.out] at hown4 hmc hmcell ⊢
  have Hown4 := Lib.hid hown4
  have Hmcell := Lib.hid hmcell
  clear hown4 hmcell
  go_wp2_with fail
  refine (nights_is 2 0 (.slice none 0 0) rt' sz' st' ru' hd' _ q' w4 hq5 (Hsm.out _ (by rw [Hn.out]; exact hn20))).mono ?_
  rintro e w5 ⟨va, rfl, ha, hb5⟩
  have hbw5 := hbw4.trans (hb5.mono hbw4.size)
  have Hb5 := Lib.hid hb5
  have d0 := cell_below hb5 c0'
  have d1 := cell_below hb5 c1'
  have d2 := cell_below hb5 c2'
  have d3 := cell_below hb5 c3'
  have d4 := cell_below hb5 c4'
  have d5 := cell_below hb5 c5'
  have d6 := cell_below hb5 c6'
  have d7 := cell_below hb5 c7'
  clear c0' c1' c2' c3' c4' c5' c6' c7' hb5 hq5
  rcases nightsE_cases st' rt' sz' q' with ⟨hE, _⟩ | ⟨hE, _⟩ | ⟨hE, hok, hdays⟩
  iterate 2
    · rw [hE]
      clear hE
      go_wp2_with fail
      refine (lives09_is w5).mono ?_
      rintro e w7 ⟨rfl, hb7⟩
      go_wp2_with fail
      go_ret
      exact ⟨rfl, hbw5.trans (hb7.mono hbw5.size)⟩
  rw [hE] at ha ⊢
  rw [Hn.out] at ha
  clear hE
  have Hok := Lib.hid hok
  have Hdays := Lib.hid hdays
  have hown5 := Hown4.out.below Hb5.out
  obtain ⟨hc5, hf5⟩ := Hmcell.out dd hdn
  have hc6 := cell_below Hb5.out hc5
  have hf6 := (Hb5.out.frozen (p := ⟨mg, 0 + dd, none⟩) hmg2).trans hf5
  have hs5 := Hb5.out.size
  simp only [Nat.zero_add] at hc6 hf6
  clear hok hdays hc5 hf5
  have hb40 : 0 ≤ nth q' dd ∧ nth q' dd ≤ 40 := by
    have h1 := nth_okQ Hok.out (k := dd) (by rw [Hn.out]; exact hdn)
    have h2 := okDay_bd (Hdays.out dd (by rw [Hn.out]; exact hdn))
    have h3 := morn_nonneg (Hsm.out _ (by rw [Hn.out]; exact hn20)).st0 Hdays.out dd (by rw [Hn.out]; omega)
    have h4 := Hs40.out
    unfold noon at h2
    omega
  obtain ⟨hb40a, hb40b⟩ := hb40
  have hown6 := hown5.set dd (nth q' dd + 1) (by rw [Hn.out]; exact hdn)
  simp only [Nat.zero_add] at hown6
  have g6 := grownBy_setCell w5 ⟨mg, dd, none⟩ (.int .i64 (nth q' dd + 1))
  have hb6 := hbw5.grown g6 hbw5.size (fun k hk => by have := hbw3.size; simp at hk; omega)
  have ha6 := ha.kept g6 (ha.not hmg2)
  have hs6 := g6.size
  have e0 := cell_grown g6 d0 (by show w2.heap.size ≠ mg; omega)
  have e1 := cell_grown g6 d1 (by show w2.heap.size ≠ mg; omega)
  have e2 := cell_grown g6 d2 (by show w2.heap.size ≠ mg; omega)
  have e3 := cell_grown g6 d3 (by show w2.heap.size ≠ mg; omega)
  have e4 := cell_grown g6 d4 (by show w2.heap.size ≠ mg; omega)
  have e5 := cell_grown g6 d5 (by show w2.heap.size ≠ mg; omega)
  have e6 := cell_grown g6 d6 (by show w2.heap.size ≠ mg; omega)
  have e7 := cell_grown g6 d7 (by show w2.heap.size ≠ mg; omega)
  have Ht := Lib.hid (And.intro hown6 (And.intro ha6 (And.intro hb6 hs6)))
  have He := Lib.hid (And.intro e0 (And.intro e1 (And.intro e2 (And.intro e3 (And.intro e4 (And.intro e5 (And.intro e6 e7)))))))
  clear hown6 ha6 hb6 hs6 e0 e1 e2 e3 e4 e5 e6 e7 g6 ha
  go_wp2_with fail
  generalize w5.setCell ⟨mg, dd, none⟩ (.int .i64 (nth q' dd + 1)) = w6 at *
  clear d0 d1 d2 d3 d4 d5 d6 d7 hc6 hf6
  obtain ⟨hown6, ha6, hb6, hs6⟩ := Ht.out
  obtain ⟨e0, e1, e2, e3, e4, e5, e6, e7⟩ := He.out
  have hokm : (q'.set dd (nth q' dd + 1)).all okQ = true := okQ_set Hok.out (by simp [okQ]; omega)
  have hlm : (q'.set dd (nth q' dd + 1)).length = n := by rw [List.length_set]; exact Hn.out
  refine (nights_is 2 0 (.slice none 0 0) rt' sz' st' ru' hd' _ (q'.set dd (nth q' dd + 1)) w6 hown6.ints (Hsm.out _ (by rw [hlm]; exact hn20))).mono ?_
  rintro e w7 ⟨vb, rfl, hb, hb7⟩
  have ha7 := ha6.below hb7
  have hbw7 := hb6.trans (hb7.mono hb6.size)
  clear e0 e1 e2 e3 e4 e5 e6 e7 hb7 hb6 ha6 hown6
  have Hokm := Lib.hid hokm
  have Hlm := Lib.hid hlm
  clear hokm hlm
  rcases nightsE_cases st' rt' sz' (q'.set dd (nth q' dd + 1)) with ⟨hE, hbad⟩ | ⟨hE, _⟩ | ⟨hE, hok', hdays'⟩
  · rw [Hokm.out] at hbad
    cases hbad
  · rw [hE]
    clear hE
    go_wp2_with fail
    refine (lives09_is w7).mono ?_
    rintro e w8 ⟨rfl, hb8⟩
    go_wp2_with fail
    go_ret
    exact ⟨rfl, hbw7.trans (hb8.mono hbw7.size)⟩
  rw [hE] at hb ⊢
  rw [Hlm.out] at hb
  have Hdays' := Lib.hid hdays'
  clear hE hok' hdays'
  obtain ⟨aa, na, ca, rfl, hna, _, hcella⟩ := ha7.ints.open
  obtain ⟨ab, nb, cb, rfl, hnb, _, hcellb⟩ := hb.ints.open
  rw [nightL_len] at hna hnb
  subst hna
  subst hnb
  have Hca := Lib.hid hcella
  have Hcb := Lib.hid hcellb
  clear hcella hcellb ha7 hb
  go_wp2_with fail
  go_loopw [13] (fun i wr => ∃ k : Nat, k ≤ n ∧ i = .int .i64 k ∧ Below w7.heap.size w7 wr) (fun i _ => n - (intOf i).toNat)
  case atStart => exact ⟨0, Nat.zero_le _, rfl, Below.refl _ _⟩
  case round =>
    obtain ⟨k, hk, rfl, hb⟩ := hrel
    have hbwr := hbw7.trans (hb.mono hbw7.size)
    by_cases hlt : k < n
    · obtain ⟨b1, o1, rfl, hx0⟩ := Hca.out k hlt
      obtain ⟨b2, o2, rfl, hy0⟩ := Hcb.out k hlt
      have hx := cell_below hb hx0
      have hy := cell_below hb hy0
      clear hx0 hy0
      rw [nth_nightL _ _ _ _ _ hlt] at hx hy
      have hm := morn_set st' rt' q' dd (nth q' dd + 1) (by rw [Hn.out]; exact hdn) (k + 1)
      have hbd := morn_bd (Hsm.out _ (by rw [Hn.out]; exact hn20)) Hok.out (k + 1) (by rw [Hn.out]; omega)
      rw [show nth q' dd + 1 - nth q' dd = 1 by omega] at hm
      rw [hm] at hy
      clear hm
      generalize morn st' rt' q' (k + 1) = mm at *
      have hi0 : (0 : Int) ≤ (k : Int) := by omega
      have hi1 : (k : Int) < (n : Int) := by omega
      obtain ⟨hbd1, hbd2⟩ := hbd
      by_cases hkd : dd ≤ k
      · rw [if_pos (by omega)] at hy
        have hne : (mm + 1 != mm + 1) = false := by simp
        go_wp2_with fail
        go_quiet (fail)
        go_wp2_with fail
        go_roundw
        case rel => exact ⟨k + 1, by omega, by go_num, below_drewN hb nq⟩
        case measure => simp [intOf]; omega
      · rw [if_neg (by omega), Int.add_zero] at hy
        have hne : (mm != mm) = false := by simp
        go_wp2_with fail
        go_quiet (fail)
        go_wp2_with fail
        go_roundw
        case rel => exact ⟨k + 1, by omega, by go_num, below_drewN hb nq⟩
        case measure => simp [intOf]; omega
    · go_wp2_with fail
      refine (lives09_is wr).mono ?_
      rintro e w8 ⟨rfl, hb8⟩
      go_wp2_with fail
      go_ret
      exact ⟨rfl, hbwr.trans (hb8.mono hbwr.size)⟩
end Go.Proofs.Ythnkjlcdjjhloaa
