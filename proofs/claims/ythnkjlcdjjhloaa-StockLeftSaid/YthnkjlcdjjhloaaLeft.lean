/-
  My own work: the walk of StockLeft.
-/
import Derived.Test.YthnkjlcdjjhloaaStockPl
import Derived.Test.YthnkjlcdjjhloaaLives09
import Derived.Test.YthnkjlcdjjhloaaBrings
namespace Go.Proofs.Ythnkjlcdjjhloaa
open Go.RowKit
set_option linter.unusedVariables false

theorem nth_replicate (N k : Nat) : nth (List.replicate N 0) k = 0 := by
  unfold nth
  by_cases h : k < N
  · simp [h]
  · simp [h]
theorem satI_zero {x : Int} (h : fitsI x = true) : satI 0 x = x := by unfold satI; rw [Int.zero_add, if_pos h]

/-- What the bringings of the first k days are again. -/
theorem bringsOf_visitsTo (q : List Int) (hq : ∀ x ∈ q, 0 ≤ x ∧ fitsI x = true) (k : Nat) (hk : k ≤ q.length) :
    bringsOf (visitsTo q k) q.length = q.take k ++ List.replicate (q.length - k) 0 := by
  induction k with
  | zero => simp [visitsTo, bringsOf]
  | succ k ih =>
    have ih := ih (by omega)
    have hm := hq _ (nth_mem (xs := q) (k := k) (by omega))
    have hlen : (q.take k ++ List.replicate (q.length - k) 0).length = q.length := by simp; omega
    have hnk : nth (q.take k ++ List.replicate (q.length - k) 0) k = 0 := by
      unfold nth
      rw [List.getD_eq_getElem?_getD, List.getElem?_append_right (by simp; omega)]
      have : k - (q.take k).length = 0 := by simp; omega
      rw [this, List.getElem?_replicate]
      split <;> rfl
    have hset : ∀ y : Int, (q.take k ++ List.replicate (q.length - k) 0).set k y = q.take k ++ [y] ++ List.replicate (q.length - (k + 1)) 0 := by
      intro y
      rw [List.set_append_right _ _ (by simp; omega)]
      have : k - (q.take k).length = 0 := by simp; omega
      rw [this, show q.length - k = (q.length - (k + 1)) + 1 by omega, List.replicate_succ]
      simp
    rw [visitsTo, take_succ_nth q k (by omega)]
    split
    · rename_i h
      unfold bringsOf at ih ⊢
      rw [List.foldl_append, ih]
      simp only [List.foldl_cons, List.foldl_nil, bring]
      rw [if_pos (by rw [hlen]; omega), Int.toNat_natCast, hnk, satI_zero hm.2, hset]
    · rename_i h
      rw [ih]
      have h0 : nth q k = 0 := by omega
      have := hset 0
      rw [h0, ← this]
      apply List.ext_getElem
      · simp
      · intro i h1 h2
        rw [List.getElem_set]
        split
        · rename_i e
          subst e
          have hn := hnk
          rw [nth_lt (by rw [hlen]; omega)] at hn
          exact hn
        · rfl
theorem brings_visits (q : List Int) (hq : q.all okQ = true) (h20 : q.length ≤ 20) : bringsOf (visitsOf q) (clipI (q.length : Int) 0 64).toNat = q := by
  have : (clipI (q.length : Int) 0 64).toNat = q.length := by unfold clipI; omega
  rw [this]
  unfold visitsOf
  rw [bringsOf_visitsTo q (fun x hx => ?_) q.length (Nat.le_refl _)]
  · simp
  · have := List.all_eq_true.1 hq x hx
    simp only [okQ, Bool.and_eq_true, decide_eq_true_eq] at this
    exact ⟨this.1, fitsI_iff.2 (by omega)⟩
theorem visitsTo_fits (q : List Int) (hq : q.all okQ = true) (k : Nat) (hk : k ≤ q.length) : ∀ p ∈ visitsTo q k, fitsI p.2 = true := by
  induction k with
  | zero => simp [visitsTo]
  | succ k ih =>
    unfold visitsTo
    have ih := ih (by omega)
    have := nth_okQ hq (k := k) (by omega)
    split
    · intro p hp
      rcases List.mem_append.1 hp with h | h
      · exact ih p h
      · simp at h; subst h; exact fitsI_iff.2 (by simp only []; omega)
    · exact ih

set_option maxHeartbeats 1600000 in
theorem stockLeft_walk (kd dm : Int) (pt : Value) (rt sz st ru hd : Int) (qv : Value) (q : List Int) (w : World) (hq : Ints w qv q)
    (h3 : (Lit.int .i64 rt).wf = true) (h4 : (Lit.int .i64 sz).wf = true) (h5 : (Lit.int .i64 st).wf = true) (h6 : (Lit.int .i64 ru).wf = true) (h7 : (Lit.int .i64 hd).wf = true) :
    Calls Try.prog 12 #[.agg #[.int .i64 kd, .int .i64 dm, pt, .int .i64 rt, .int .i64 sz, .int .i64 st, .int .i64 ru, .int .i64 hd], qv] w fun e w' => e = .returned (.bool true) ∧ Below w.heap.size w w' := by
  obtain ⟨w1, ew, hb1, hsz1, hcu⟩ := box_cust w kd dm pt rt sz st ru hd
  have hq1 := hq.below hb1
  have Hew := Lib.hid ew
  have hl0 := hcu.lt
  obtain ⟨c0, c1, c2, c3, c4, c5, c6, c7⟩ := hcu
  clear ew hsz1
  go_enter Try.func12, Try.ntmps12
  go_wp2_with fail
  rw [Hew.out]
  refine (tank_is kd dm pt rt sz st ru hd w1 h3 h4 h5 h6 h7).mono ?_
  rintro e w2 ⟨rfl, hb2⟩
  have hq2 := hq1.below hb2
  have hbw2 := hb1.trans (hb2.mono hb1.size)
  clear c0 c1 c2 c3 c4 c5 c6 c7 hb1 hb2 hq hq1
  have hsm : ∀ r : List Int, r.length ≤ 20 → Small (rnd st 0 (rnd sz 1 40)) (rnd rt 0 12) (rnd sz 1 40) r := fun r hr => small_tank rt sz st r hr
  have Hsm := Lib.hid hsm
  clear hsm
  generalize rnd st 0 (rnd sz 1 40) = st' at *
  generalize rnd rt 0 12 = rt' at *
  generalize rnd sz 1 40 = sz' at *
  generalize rnd ru 1 2 = ru' at *
  generalize rnd hd 0 9 = hd' at *
  go_wp2_with fail
  obtain ⟨w3, ew3, hb3, hsz3, hcu3⟩ := box_cust w2 2 0 (.slice none 0 0) rt' sz' st' ru' hd'
  rw [ew3]
  clear ew3 hsz3
  have hq3 := hq2.below hb3
  have hbw3 := hbw2.trans (hb3.mono hbw2.size)
  refine (few_is qv q w3 hq3).mono ?_
  rintro e w3' ⟨qv', rfl, rfl, hq4⟩
  have hlq : (q.take 20).length ≤ 20 := by simp; omega
  generalize q.take 20 = q' at *
  clear hb3 hq3 hq2 hbw2
  obtain ⟨c0, c1, c2, c3, c4, c5, c6, c7⟩ := hcu3
  go_wp2_with fail
  refine (nights_is 2 0 (.slice none 0 0) rt' sz' st' ru' hd' _ q' w3 hq4 (Hsm.out _ hlq)).mono ?_
  rintro e w5 ⟨va, rfl, ha0, hb5⟩
  have ha := ha0.ints
  clear ha0
  have hbw5 := hbw3.trans (hb5.mono hbw3.size)
  have hq5 := hq4.below hb5
  have d3 := cell_below hb5 c3
  have d4 := cell_below hb5 c4
  have d5 := cell_below hb5 c5
  clear c0 c1 c2 c3 c4 c5 c6 c7 hb5 hq4
  generalize w2.heap.size = g at *
  rcases nightsE_cases st' rt' sz' q' with ⟨hE, _⟩ | ⟨hE, _⟩ | ⟨hE, hok, hdays⟩
  iterate 2
    · rw [hE] at ha ⊢
      obtain ⟨aa, na, ca, rfl, hna, _, _⟩ := ha.open
      simp only [List.length_nil] at hna
      subst hna
      clear hE hq5 ha
      go_wp2_with fail
      refine (lives09_is w5).mono ?_
      rintro e w7 ⟨rfl, hb7⟩
      go_wp2_with fail
      go_ret
      exact ⟨rfl, hbw5.trans (hb7.mono hbw5.size)⟩
  rw [hE] at ha ⊢
  obtain ⟨a, n, c, rfl, hn, hmax, hcell⟩ := hq5.open
  have Hq5 := Lib.hid hq5
  rw [hn] at ha
  obtain ⟨aa, na, ca, rfl, hna, _, hcella⟩ := ha.open
  rw [nightL_len] at hna
  subst hna
  have hn20 : n ≤ 20 := by omega
  have Hn := Lib.hid hn
  have Hok := Lib.hid hok
  have Hdays := Lib.hid hdays
  have Hcell := Lib.hid hcell
  have Hcella := Lib.hid hcella
  have Hlq := Lib.hid hlq
  have Hf : Hid (∀ k, k ≤ n → 0 ≤ morn st' rt' q' k) := fun k hk => morn_nonneg (Hsm.out _ Hlq.out).st0 Hdays.out k (by rw [Hn.out]; exact hk)
  clear hE hok hdays hn hcell hcella hlq hq5 ha hmax
  go_wp2_with fail
  rw [show st' = morn st' rt' q' 0 by simp [morn]]
  go_loopw [8, 9] (fun t i wr => ∃ (k : Nat), k ≤ n ∧ i = .int .i64 k ∧ t = .int .i64 (morn st' rt' q' k) ∧ Below w5.heap.size w5 wr) (fun _ i _ => n - (intOf i).toNat)
  case atStart => exact ⟨0, Nat.zero_le _, rfl, rfl, Below.refl _ _⟩
  case round =>
    obtain ⟨k, hk, rfl, rfl, hb⟩ := hrel
    have hbr := hbw5.trans (hb.mono hbw5.size)
    by_cases hlt : k < n
    · obtain ⟨b1, o1, rfl, hx0⟩ := Hcell.out k hlt
      obtain ⟨b2, o2, rfl, hy0⟩ := Hcella.out k hlt
      rw [nth_nightL _ _ _ _ _ hlt] at hy0
      have hx := cell_below hb hx0
      have hy := cell_below hb hy0
      have r3 := cell_below hb d3
      have r4 := cell_below hb d4
      obtain ⟨e1, e2⟩ := noon_wrap (Hsm.out _ Hlq.out) Hok.out k (by rw [Hn.out]; exact hlt)
      have e1' : IntKind.i64.wrap (morn st' rt' q' k + nth q' k) = noon st' rt' q' k := by rw [IntWalk.i64_left]; exact e1
      have e2' : IntKind.i64.wrap (noon st' rt' q' k - rt') = morn st' rt' q' (k + 1) := by rw [IntWalk.i64_left]; exact e2
      have hne : (morn st' rt' q' (k + 1) != morn st' rt' q' (k + 1)) = false := by simp
      have hnn : ¬ morn st' rt' q' (k + 1) < 0 := by have := Hf.out (k + 1) (by omega); omega
      have hns : ¬ sz' < morn st' rt' q' (k + 1) := by
        have h1 := (okDay_bd (Hdays.out k (by rw [Hn.out]; exact hlt))).1
        have h2 := (Hsm.out _ Hlq.out).rt0
        rw [morn_succ _ _ _ _ (by rw [Hn.out]; exact hlt)]
        omega
      have hi0 : (0 : Int) ≤ (k : Int) := by omega
      have hi1 : (k : Int) < (n : Int) := by omega
      clear hx0 hy0
      go_wp2_with fail
      go_quiet (fail)
      clear e1' e2' e1 e2
      go_wp2_with fail
      go_roundw
      case rel => exact ⟨k + 1, by omega, by go_num, rfl, below_drewN hb nq⟩
      case measure => simp [intOf]; omega
    · have hq6 := Hq5.out.below hb
      have Hq6 := Lib.hid hq6
      clear hq6
      go_wp2_with fail
      refine (visits_is _ q' wr Hq6.out (by have := Hlq.out; omega)).mono ?_
      rintro e w6 ⟨vv, rfl, hvv, hb6⟩
      have Hq7 := Lib.hid (Hq6.out.below hb6)
      have hvv' := hvv.vis
      have hbw6 := hbr.trans (hb6.mono hbr.size)
      clear hvv hb6
      go_wp2_with fail
      refine (brings_is vv (visitsOf q') n w6 hvv' (fun p hp => visitsTo_fits q' Hok.out q'.length (Nat.le_refl _) p hp)).mono ?_
      rintro e w7 ⟨bv, rfl, hbv, hb7⟩
      have hbb : bringsOf (visitsOf q') (clipI (n : Int) 0 64).toNat = q' := by
        have := brings_visits q' Hok.out Hlq.out
        rw [Hn.out] at this
        exact this
      rw [hbb] at hbv
      have Hq8 := Lib.hid (Hq7.out.below hb7)
      have hbv' := hbv.ints
      have hbw7 := hbw6.trans (hb7.mono hbw6.size)
      clear hbv hb7 hbb hvv'
      go_wp2_with fail
      refine (same_is bv _ q' q' w7 hbv' Hq8.out).mono ?_
      rintro e w8 ⟨rfl, hb8⟩
      have hbw8 := hbw7.trans (hb8.mono hbw7.size)
      rw [show decide (q' = q') = true by simp]
      clear hbv' hb8
      go_wp2_with fail
      refine (lives09_is w8).mono ?_
      rintro e w9 ⟨rfl, hb9⟩
      go_wp2_with fail
      go_ret
      exact ⟨rfl, hbw8.trans (hb9.mono hbw8.size)⟩
end Go.Proofs.Ythnkjlcdjjhloaa
