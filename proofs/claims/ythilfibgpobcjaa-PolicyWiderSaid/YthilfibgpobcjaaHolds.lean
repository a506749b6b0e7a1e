/-
  My own work: stock.Holds, and the references' Holds and Held.
-/
import Derived.Test.YthilfibgpobcjaaStockPl
import Derived.Test.YthilfibgpobcjaaStock2
import Derived.Test.YthilfibgpobcjaaStock3
import Derived.Deep.RegionHeld3
namespace Go.Proofs.Ythilfibgpobcjaa
open Go.RowKit
set_option linter.unusedVariables false

/-- By FillUp: a bringing on this day fills the tank. -/
def fillsUp (st rt sz : Int) (q : List Int) (k : Nat) : Bool := decide (nth q k ≤ 0) || decide (noon st rt q k = sz)
def holdsE (st rt sz ru : Int) (q : List Int) : Int :=
  if (nightsE st rt sz q).1 = 0 then (if ru = 1 then (if (List.range q.length).all (fillsUp st rt sz q) = true then 0 else 9) else 0) else (nightsE st rt sz q).1

theorem holdsE_err {st rt sz ru : Int} {q : List Int} (h : (nightsE st rt sz q).1 ≠ 0) : holdsE st rt sz ru q = (nightsE st rt sz q).1 := by unfold holdsE; rw [if_neg h]
theorem holdsE_any {st rt sz ru : Int} {q : List Int} (h : (nightsE st rt sz q).1 = 0) (hr : ru ≠ 1) : holdsE st rt sz ru q = 0 := by unfold holdsE; rw [if_pos h, if_neg hr]
theorem holdsE_bad {st rt sz ru : Int} {q : List Int} {k : Nat} (h : (nightsE st rt sz q).1 = 0) (hr : ru = 1) (hk : k < q.length) (hb : fillsUp st rt sz q k = false) : holdsE st rt sz ru q = 9 := by
  unfold holdsE; rw [if_pos h, if_pos hr, if_neg]
  intro h'
  have := List.all_eq_true.1 h' k (by simpa using hk)
  rw [hb] at this; cases this
theorem holdsE_ok {st rt sz ru : Int} {q : List Int} (h : (nightsE st rt sz q).1 = 0) (hr : ru = 1) (hb : ∀ k, k < q.length → fillsUp st rt sz q k = true) : holdsE st rt sz ru q = 0 := by
  unfold holdsE; rw [if_pos h, if_pos hr, if_pos]
  rw [List.all_eq_true]
  intro j hj
  exact hb j (by simpa using hj)

set_option maxHeartbeats 1600000 in
theorem holds_is (kd dm : Int) (pt : Value) (rt sz st ru hd : Int) (qv : Value) (q : List Int) (w : World) (hq : Ints w qv q) (hs : Small st rt sz q) :
    Calls Try.prog 64 #[.agg #[.int .i64 kd, .int .i64 dm, pt, .int .i64 rt, .int .i64 sz, .int .i64 st, .int .i64 ru, .int .i64 hd], qv] w fun e w' =>
      e = .returned (.int .i64 (holdsE st rt sz ru q)) ∧ Below w.heap.size w w' := by
  obtain ⟨w1, ew, hb1, hsz1, hcu⟩ := box_cust w kd dm pt rt sz st ru hd
  have hq1 := hq.below hb1
  obtain ⟨a, n, c, rfl, hn, hmax, hcell⟩ := hq1.open
  have Hn := Lib.hid hn
  have Hs := Lib.hid hs
  have Hew := Lib.hid ew
  have hlen : n ≤ 1048576 := by have := hs.len; omega
  have hl0 := hcu.lt
  clear hn hmax hq hs ew hsz1 hcell
  obtain ⟨c0, c1, c2, c3, c4, c5, c6, c7⟩ := hcu
  go_enter Try.func64, Try.ntmps64
  go_wp2_with fail
  rw [Hew.out]
  refine (nights_is kd dm pt rt sz st ru hd _ q w1 hq1 Hs.out).mono ?_
  rintro e w2 ⟨v, rfl, _, hb2⟩
  have hq2 := hq1.below hb2
  have hcu2 : IsCust w2 w.heap.size kd dm pt rt sz st ru hd := IsCust.below ⟨c0, c1, c2, c3, c4, c5, c6, c7⟩ hb2
  have hbw2 := hb1.trans (hb2.mono hb1.size)
  have hl2 := hcu2.lt
  clear c0 c1 c2 c3 c4 c5 c6 c7 hb2 hb1 hq1
  obtain ⟨c0, c1, c2, c3, c4, c5, c6, c7⟩ := hcu2
  have hcell : Hid (∀ k, k < n → ∃ b o, a = some ⟨b, o, none⟩ ∧ b < w2.heap.size ∧ w2.cell? ⟨b, o + k, none⟩ = some (.int .i64 (nth q k))) := by
    obtain ⟨a', n', c', he, hn', _, hc⟩ := hq2.open
    simp only [Value.slice.injEq] at he
    obtain ⟨rfl, rfl, rfl⟩ := he
    intro k hk
    obtain ⟨b, o, h1, h2⟩ := hc k hk
    exact ⟨b, o, h1, World.block_lt_of_cell? w2 _ h2, h2⟩
  clear hq2
  by_cases hE : (nightsE st rt sz q).1 = 0
  rotate_left
  · have Hh : Hid (holdsE st rt sz ru q = (nightsE st rt sz q).1) := holdsE_err hE
    generalize (nightsE st rt sz q).1 = r at *
    have hr : (r != 0) = true := by simpa using hE
    go_wp2_with fail
    go_ret
    rw [Hh.out]
    exact ⟨rfl, hbw2⟩
  have HE := Lib.hid hE
  rw [hE]
  clear hE
  by_cases hr : ru = 1
  rotate_left
  · have Hh : Hid (holdsE st rt sz ru q = 0) := holdsE_any HE.out hr
    have hr' : (ru != 1) = true := by simpa using hr
    go_wp2_with fail
    go_ret
    rw [Hh.out]
    exact ⟨rfl, hbw2⟩
  have hr' : (ru != 1) = false := by simpa using hr
  have Hr := Lib.hid hr
  clear hr
  obtain ⟨hok, hdays⟩ : q.all okQ = true ∧ ∀ k, k < q.length → okDay st rt sz q k = true := by
    rcases nightsE_cases st rt sz q with ⟨h, _⟩ | ⟨h, _⟩ | ⟨_, h1, h2⟩
    · have := HE.out; rw [h] at this; cases this
    · have := HE.out; rw [h] at this; cases this
    · exact ⟨h1, h2⟩
  have Hok := Lib.hid hok
  have Hdays := Lib.hid hdays
  clear hok hdays
  go_wp2_with fail
  refine (day_is kd dm pt rt sz st ru hd _).mono ?_
  rintro e w3 ⟨gt, gc, rfl, lgt, lgc, hday, hb3⟩
  rw [show st = morn st rt q 0 by simp [morn]] at hday
  have d4 := cell_below hb3 c4
  clear c0 c1 c2 c3 c4 c5 c6 c7
  go_wp2_with fail
  go_loopw [28] (fun i wr => ∃ k : Nat, k ≤ n ∧ i = .int .i64 k ∧ IsDay wr gt gc (morn st rt q k) rt ∧ Below w2.heap.size w2 wr ∧ wr.cell? ⟨w.heap.size, 4, none⟩ = some (.int .i64 sz) ∧ ∀ j, j < k → fillsUp st rt sz q j = true) (fun i _ => n - (intOf i).toNat)
  case atStart => exact ⟨0, Nat.zero_le _, rfl, hday, hb3, d4, fun j hj => by omega⟩
  case round =>
    clear d4 hday hb3
    obtain ⟨k, hk, rfl, hd, hb, d4, hall⟩ := hrel
    have Hall := Lib.hid hall
    clear hall
    by_cases hlt : k < n
    · obtain ⟨b, o, rfl, hlb, hc1⟩ := hcell.out k hlt
      have hc := cell_lt hb hlb hc1
      have hcall := day1_is (nth q k) gt gc (morn st rt q k) rt wr hd
      obtain ⟨e1, e2⟩ := noon_wrap Hs.out Hok.out k (by rw [Hn.out]; exact hlt)
      rw [e1, e2] at hcall
      have Hcall := Lib.hid hcall
      have hltd := hd.lt
      clear hcall e1 e2 hc1 hd
      by_cases h0 : 0 < nth q k
      · by_cases h1 : noon st rt q k = sz
        · have Hf : Hid (fillsUp st rt sz q k = true) := by show _ = _; simp [fillsUp, h1]
          have h2 : (noon st rt q k != sz) = false := by simpa using h1
          clear h1
          go_wp2_with fail
          refine Hcall.out.mono ?_
          rintro e w4 ⟨rfl, hd4, g4⟩
          have d4' := cell_grown g4 d4 (by show w.heap.size ≠ gt; omega)
          have hb4 := hb.grown g4 hb.size (fun k hk => by simp at hk; omega)
          clear d4 hc g4
          go_wp2_with fail
          go_roundw
          case rel => exact ⟨k + 1, by omega, by go_num, hd4, hb4, d4', fun j hj => by rcases Nat.lt_succ_iff_lt_or_eq.1 hj with h | rfl; exact Hall.out j h; exact Hf.out⟩
          case measure => simp [intOf]; omega
        · have Hf : Hid (holdsE st rt sz ru q = 9) := holdsE_bad HE.out Hr.out (k := k) (by rw [Hn.out]; exact hlt) (by simp [fillsUp, h1]; omega)
          have h2 : (noon st rt q k != sz) = true := by simpa using h1
          clear h1
          go_wp2_with fail
          refine Hcall.out.mono ?_
          rintro e w4 ⟨rfl, hd4, g4⟩
          have d4' := cell_grown g4 d4 (by show w.heap.size ≠ gt; omega)
          have hb4 := hb.grown g4 hb.size (fun k hk => by simp at hk; omega)
          clear d4 hc g4
          go_wp2_with fail
          go_ret
          rw [Hf.out]
          exact ⟨rfl, hbw2.trans (hb4.mono hbw2.size)⟩
      · have Hf : Hid (fillsUp st rt sz q k = true) := by show _ = _; simp [fillsUp]; omega
        go_wp2_with fail
        refine Hcall.out.mono ?_
        rintro e w4 ⟨rfl, hd4, g4⟩
        have d4' := cell_grown g4 d4 (by show w.heap.size ≠ gt; omega)
        have hb4 := hb.grown g4 hb.size (fun k hk => by simp at hk; omega)
        clear d4 hc g4
        go_wp2_with fail
        go_roundw
        case rel => exact ⟨k + 1, by omega, by go_num, hd4, hb4, d4', fun j hj => by rcases Nat.lt_succ_iff_lt_or_eq.1 hj with h | rfl; exact Hall.out j h; exact Hf.out⟩
        case measure => simp [intOf]; omega
    · have Hf : Hid (holdsE st rt sz ru q = 0) := holdsE_ok HE.out Hr.out (fun j hj => Hall.out j (by rw [Hn.out] at hj; omega))
      go_wp2_with fail
      go_ret
      rw [Hf.out]
      exact ⟨rfl, hbw2.trans (hb.mono hbw2.size)⟩

set_option maxHeartbeats 1600000 in
theorem refHolds_is (kd dm : Int) (pt : Value) (rt sz st ru hd : Int) (qv : Value) (q : List Int) (w : World) (hq : Ints w qv q) (hs : Small st rt sz q) :
    Calls Try.prog 56 #[.agg #[.int .i64 kd, .int .i64 dm, pt, .int .i64 rt, .int .i64 sz, .int .i64 st, .int .i64 ru, .int .i64 hd], qv] w fun e w' =>
      e = .returned (.int .i64 (holdsE st rt sz ru q)) ∧ Below w.heap.size w w' := by
  obtain ⟨w1, ew, hb1, hsz1, hcu⟩ := box_cust w kd dm pt rt sz st ru hd
  have hq1 := hq.below hb1
  obtain ⟨a, n, c, rfl, hn, hmax, hcell⟩ := hq1.open
  have Hn := Lib.hid hn
  have Hs := Lib.hid hs
  have Hew := Lib.hid ew
  have hlen : n ≤ 1048576 := by have := hs.len; omega
  have hl0 := hcu.lt
  clear hn hmax hq hs ew hsz1 hcell
  obtain ⟨c0, c1, c2, c3, c4, c5, c6, c7⟩ := hcu
  go_enter Try.func56, Try.ntmps56
  go_wp2_with fail
  rw [Hew.out]
  refine (refNights_is kd dm pt rt sz st ru hd _ q w1 hq1 Hs.out).mono ?_
  rintro e w2 ⟨v, rfl, hv, hb2⟩
  have hq2 := hq1.below hb2
  have hcu2 : IsCust w2 w.heap.size kd dm pt rt sz st ru hd := IsCust.below ⟨c0, c1, c2, c3, c4, c5, c6, c7⟩ hb2
  have hbw2 := hb1.trans (hb2.mono hb1.size)
  have hl2 := hcu2.lt
  clear c0 c1 c2 c3 c4 c5 c6 c7 hb2 hb1 hq1
  obtain ⟨c0, c1, c2, c3, c4, c5, c6, c7⟩ := hcu2
  have hcell : Hid (∀ k, k < n → ∃ b o, a = some ⟨b, o, none⟩ ∧ w2.cell? ⟨b, o + k, none⟩ = some (.int .i64 (nth q k))) := by
    obtain ⟨a', n', c', he, hn', _, hc⟩ := hq2.open
    simp only [Value.slice.injEq] at he
    obtain ⟨rfl, rfl, rfl⟩ := he
    exact hc
  clear hq2
  by_cases hE : (nightsE st rt sz q).1 = 0
  rotate_left
  · have Hh : Hid (holdsE st rt sz ru q = (nightsE st rt sz q).1) := holdsE_err hE
    generalize (nightsE st rt sz q).1 = r at *
    have hr : (r != 0) = true := by simpa using hE
    clear hv
    go_wp2_with fail
    go_ret
    rw [Hh.out]
    exact ⟨rfl, hbw2⟩
  have HE := Lib.hid hE
  rw [hE]
  clear hE
  obtain ⟨hE2, hok, hdays⟩ : nightsE st rt sz q = (0, nightL st rt q n) ∧ q.all okQ = true ∧ ∀ k, k < q.length → okDay st rt sz q k = true := by
    rcases nightsE_cases st rt sz q with ⟨h, _⟩ | ⟨h, _⟩ | ⟨h, h1, h2⟩
    · have := HE.out; rw [h] at this; cases this
    · have := HE.out; rw [h] at this; cases this
    · rw [Hn.out] at h
      exact ⟨h, h1, h2⟩
  rw [hE2] at hv
  obtain ⟨av, nv, cv, rfl, hnv, _, hcv⟩ := hv.ints.open
  rw [nightL_len] at hnv
  subst hnv
  have Hcv := Lib.hid hcv
  have Hok := Lib.hid hok
  have Hdays := Lib.hid hdays
  clear hok hdays hcv hv hE2
  go_wp2_with fail
  go_loopw [7] (fun i wr => ∃ k : Nat, k ≤ n ∧ i = .int .i64 k ∧ Below w2.heap.size w2 wr ∧ (ru = 1 → ∀ j, j < k → fillsUp st rt sz q j = true)) (fun i _ => n - (intOf i).toNat)
  case atStart => exact ⟨0, Nat.zero_le _, rfl, Below.refl _ _, fun _ j hj => by omega⟩
  case round =>
    obtain ⟨k, hk, rfl, hb, hall⟩ := hrel
    have Hall := Lib.hid hall
    have d3 := cell_below hb c3
    have d4 := cell_below hb c4
    have d6 := cell_below hb c6
    clear hall
    by_cases hlt : k < n
    · obtain ⟨b, o, rfl, hc1⟩ := hcell.out k hlt
      obtain ⟨b2, o2, rfl, hc2⟩ := Hcv.out k hlt
      rw [nth_nightL _ _ _ _ _ hlt] at hc2
      have e1 := cell_below hb hc1
      have e2 := cell_below hb hc2
      clear hc1 hc2
      have hi0 : (0 : Int) ≤ (k : Int) := by omega
      have hi1 : (k : Int) < (n : Int) := by omega
      by_cases hr : ru = 1
      · have hr' : (ru == 1) = true := by simpa using hr
        have Hr := Lib.hid hr
        clear hr
        by_cases h0 : 0 < nth q k
        · have h0' : decide (0 < nth q k) = true := by simpa using h0
          have hw : wrap64 (morn st rt q (k + 1) + rt) = noon st rt q k := by
            obtain ⟨e1, e2⟩ := noon_wrap Hs.out Hok.out k (by rw [Hn.out]; exact hlt)
            rw [morn_succ _ _ _ _ (by rw [Hn.out]; exact hlt)]
            have h1 := morn_bd Hs.out Hok.out k (by rw [Hn.out]; omega)
            have h2 := nth_okQ Hok.out (k := k) (by rw [Hn.out]; exact hlt)
            rw [show noon st rt q k - rt + rt = noon st rt q k by omega]
            unfold noon
            exact wrap_id (by omega) (by omega)
          by_cases h1 : noon st rt q k = sz
          · have Hf : Hid (fillsUp st rt sz q k = true) := by show _ = _; simp [fillsUp, h1]
            have h2 : (noon st rt q k != sz) = false := by simpa using h1
            clear h1
            go_wp2_with fail
            go_quiet (fail)
            go_wp2_with fail
            go_roundw
            case rel => exact ⟨k + 1, by omega, by go_num, below_drewN hb nq, fun _ j hj => by rcases Nat.lt_succ_iff_lt_or_eq.1 hj with h | rfl; exact Hall.out Hr.out j h; exact Hf.out⟩
            case measure => simp [intOf]; omega
          · have Hf : Hid (holdsE st rt sz ru q = 9) := holdsE_bad HE.out Hr.out (k := k) (by rw [Hn.out]; exact hlt) (by simp [fillsUp, h1]; omega)
            have h2 : (noon st rt q k != sz) = true := by simpa using h1
            clear h1
            go_wp2_with fail
            go_quiet (fail)
            go_wp2_with fail
            go_ret
            rw [Hf.out]
            exact ⟨rfl, hbw2.trans (below_drewN (hb.mono hbw2.size) nq)⟩
        · have Hf : Hid (fillsUp st rt sz q k = true) := by show _ = _; simp [fillsUp]; omega
          have h0' : decide (0 < nth q k) = false := by simpa using h0
          clear h0
          go_wp2_with fail
          go_quiet (fail)
          go_wp2_with fail
          go_roundw
          case rel => exact ⟨k + 1, by omega, by go_num, below_drewN hb nq, fun _ j hj => by rcases Nat.lt_succ_iff_lt_or_eq.1 hj with h | rfl; exact Hall.out Hr.out j h; exact Hf.out⟩
          case measure => simp [intOf]; omega
      · have hr' : (ru == 1) = false := by simpa using hr
        have Hr := Lib.hid hr
        clear hr
        go_wp2_with fail
        go_quiet (fail)
        go_wp2_with fail
        go_roundw
        case rel => exact ⟨k + 1, by omega, by go_num, below_drewN hb nq, fun h => absurd h Hr.out⟩
        case measure => simp [intOf]; omega
    · have Hf : Hid (holdsE st rt sz ru q = 0) := by
        by_cases hr : ru = 1
        · exact holdsE_ok HE.out hr (fun j hj => Hall.out hr j (by rw [Hn.out] at hj; omega))
        · exact holdsE_any HE.out hr
      go_wp2_with fail
      go_ret
      rw [Hf.out]
      exact ⟨rfl, hbw2.trans (hb.mono hbw2.size)⟩
end Go.Proofs.Ythilfibgpobcjaa
