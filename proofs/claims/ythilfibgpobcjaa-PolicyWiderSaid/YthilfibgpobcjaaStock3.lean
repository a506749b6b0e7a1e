/-
  My own work: tranterref09.Nights computes what stock.Nights does.
-/
import Derived.Test.YthilfibgpobcjaaStock2
namespace Go.Proofs.Ythilfibgpobcjaa
open Go.RowKit
set_option linter.unusedVariables false

/-- What came up to day d (exclusive k). -/
def came (st : Int) (q : List Int) (k : Nat) : Int := st + (q.take k).sum
theorem came_succ (st : Int) (q : List Int) (k : Nat) (h : k < q.length) : came st q (k + 1) = came st q k + nth q k := by
  unfold came; rw [sum_take_succ q k h]; omega
theorem came_noon (st rt : Int) (q : List Int) (k : Nat) (h : k < q.length) : came st q (k + 1) - rt * k = noon st rt q k := by
  unfold came noon morn; rw [sum_take_succ q k h]; omega
theorem came_bd {st rt sz : Int} {q : List Int} (hs : Small st rt sz q) (h : q.all okQ = true) (k : Nat) : 0 ≤ came st q k ∧ came st q k ≤ 9007199254740992 := by
  have h1 := sum_bd q h k
  have h3 := hs.len
  have h4 := hs.st0
  have h5 := hs.st1
  unfold came
  omega

set_option maxHeartbeats 1600000 in
theorem refNights_is (kd dm : Int) (pt : Value) (rt sz st ru hd : Int) (qv : Value) (q : List Int) (w : World) (hq : Ints w qv q) (hs : Small st rt sz q) :
    Calls Try.prog 41 #[.agg #[.int .i64 kd, .int .i64 dm, pt, .int .i64 rt, .int .i64 sz, .int .i64 st, .int .i64 ru, .int .i64 hd], qv] w fun e w' =>
      ∃ v, e = .returned (.tuple #[v, .int .i64 (nightsE st rt sz q).1]) ∧ Own w' w.heap.size v (nightsE st rt sz q).2 ∧ Below w.heap.size w w' := by
  obtain ⟨w1, ew, hb1, hsz1, hcu⟩ := box_cust w kd dm pt rt sz st ru hd
  have hq1 := hq.below hb1
  obtain ⟨a, n, c, rfl, hn, hmax, hcell⟩ := hq1.open
  have Hn := Lib.hid hn
  have Hs := Lib.hid hs
  have Hew := Lib.hid ew
  have hlen : n ≤ 1048576 := by have := hs.len; omega
  have Hcell := Lib.hid hcell
  have hl0 := hcu.lt
  clear hn hmax hq hq1 hs ew hsz1 hcell
  go_enter Try.func41, Try.ntmps41
  go_wp2_with fail
  rw [Hew.out]
  go_loop [6] (fun i => ∃ k : Nat, k ≤ n ∧ i = .int .i64 k ∧ ∀ j, j < k → okQ (nth q j) = true) (fun i => n - (intOf i).toNat)
  case atStart => exact ⟨0, Nat.zero_le _, rfl, fun j hj => by omega⟩
  case round =>
    obtain ⟨k, hk, rfl, hall⟩ := hrel
    have Hall := Lib.hid hall
    clear hall
    by_cases hlt : k < n
    · obtain ⟨b, o, rfl, hc⟩ := Hcell.out k hlt
      by_cases h1 : nth q k < 0
      · have Hb : Hid (nightsE st rt sz q = (1, [])) := nightsE_bad (k := k) (by rw [Hn.out]; exact hlt) (by simp [okQ]; omega)
        go_wp2_with fail
        go_ret2
        rw [Hb.out]
        exact ⟨_, rfl, Own.nil _ _, hb1⟩
      by_cases h2 : 2147483648 < nth q k
      · have Hb : Hid (nightsE st rt sz q = (1, [])) := nightsE_bad (k := k) (by rw [Hn.out]; exact hlt) (by simp [okQ]; omega)
        go_wp2_with fail
        go_ret2
        rw [Hb.out]
        exact ⟨_, rfl, Own.nil _ _, hb1⟩
      · go_wp2_with fail
        go_round
        case rel => exact ⟨k + 1, by omega, by go_num, fun j hj => by rcases Nat.lt_succ_iff_lt_or_eq.1 hj with h | rfl; exact Hall.out j h; simp [okQ]; omega⟩
        case measure => simp [intOf]; omega
    · have hkn : k = n := by omega
      have hall : q.all okQ = true := all_okQ (by rw [Hn.out, ← hkn]; exact Hall.out)
      have Hall2 := Lib.hid hall
      clear hall hkn
      go_wp2_with fail
      go_loopw [7, 8] (fun u i wr => ∃ (k : Nat) (v : Value), k ≤ n ∧ v = u ∧ i = .int .i64 k ∧ Own wr w1.heap.size v (nightL st rt q k) ∧ Below w1.heap.size w1 wr ∧ ∀ j, j < k → okDay st rt sz q j = true) (fun _ i _ => n - (intOf i).toNat)
      case atStart => exact ⟨0, _, Nat.zero_le _, rfl, rfl, Own.nil _ _, Below.refl _ _, fun j hj => by omega⟩
      case round =>
        obtain ⟨d, v, hd, rfl, rfl, hown, hb, hall⟩ := hrel
        have Hall3 := Lib.hid hall
        clear hall
        by_cases hlt : d < n
        · have r3 := cell_lt hb hl0 hcu.c3
          have r4 := cell_lt hb hl0 hcu.c4
          have r5 := cell_lt hb hl0 hcu.c5
          obtain ⟨wo, ewo⟩ : ∃ wo : World, wo = wr := ⟨_, rfl⟩
          subst ewo
          go_wp2_with fail
          go_loop [9, 10] (fun s i => ∃ j : Nat, j ≤ d + 1 ∧ i = .int .i64 j ∧ s = .int .i64 (came st q j)) (fun _ i => d + 1 - (intOf i).toNat)
          case atStart => exact ⟨0, by omega, rfl, by simp [came]⟩
          case round =>
            obtain ⟨j, hj, rfl, rfl⟩ := hrel
            by_cases hjd : j ≤ d
            · obtain ⟨b, o, rfl, hc0⟩ := Hcell.out j (by omega)
              have hc := cell_below hb hc0
              have hcs : wrap64 (came st q j + nth q j) = came st q (j + 1) := by
                rw [came_succ st q j (by rw [Hn.out]; omega)]
                have := came_bd Hs.out Hall2.out (j + 1)
                rw [came_succ st q j (by rw [Hn.out]; omega)] at this
                exact wrap_id (by omega) (by omega)
              clear hc0
              go_wp2_with fail
              go_round
              case rel => exact ⟨j + 1, by omega, by go_num, by rw [hcs]⟩
              case measure => simp [intOf]; omega
            · have hj' : j = d + 1 := by omega
              subst hj'
              clear hjd hj
              have hm : wrap64 (rt * (d : Int)) = rt * d := by
                have := mul_bd rt d Hs.out.rt0 Hs.out.rt1 (by omega)
                exact wrap_id (by omega) (by omega)
              have hno : wrap64 (came st q (d + 1) - rt * d) = noon st rt q d := by
                rw [came_noon st rt q d (by rw [Hn.out]; omega)]
                have := morn_bd Hs.out Hall2.out (d + 1) (by rw [Hn.out]; omega)
                rw [morn_succ _ _ _ _ (by rw [Hn.out]; omega)] at this
                have h3 := Hs.out.rt0
                have h4 := Hs.out.rt1
                exact wrap_id (by omega) (by omega)
              obtain ⟨_, e2⟩ := noon_wrap Hs.out Hall2.out d (by rw [Hn.out]; exact hlt)
              by_cases h3 : sz < noon st rt q d
              · have Hb : Hid (nightsE st rt sz q = (8, [])) := nightsE_dry (k := d) Hall2.out (by rw [Hn.out]; exact hlt) (by simp [okDay]; omega)
                go_wp2_with fail
                go_ret2
                rw [Hb.out]
                exact ⟨_, rfl, Own.nil _ _, hb1.trans (hb.mono hb1.size)⟩
              have hms : morn st rt q (d + 1) = noon st rt q d - rt := morn_succ _ _ _ _ (by rw [Hn.out]; omega)
              by_cases h4 : morn st rt q (d + 1) < 0
              · have Hb : Hid (nightsE st rt sz q = (8, [])) := nightsE_dry (k := d) Hall2.out (by rw [Hn.out]; exact hlt) (by simp [okDay]; omega)
                clear hms
                go_wp2_with fail
                go_ret2
                rw [Hb.out]
                exact ⟨_, rfl, Own.nil _ _, hb1.trans (hb.mono hb1.size)⟩
              · have Hok : Hid (okDay st rt sz q d = true) := by show _ = _; simp [okDay]; omega
                clear hms
                go_wp2_with (at_builtin; refine wpList_push rfl _ _ rfl wo w1.heap.size v (nightL st rt q d) (morn st rt q (d + 1)) rfl rfl hown (by rw [nightL_len]; omega) hb.size ?_)
                intro v' w5 hown5 g5 hb5
                rw [← nightL_succ] at hown5
                have hb5' := hb.trans hb5
                clear r3 r4 r5 g5 hb5
                go_wp2_with fail
                go_roundw
                case rel => exact ⟨d + 1, _, by omega, rfl, by go_num, hown5, hb5', fun j hj => by rcases Nat.lt_succ_iff_lt_or_eq.1 hj with h | rfl; exact Hall3.out j h; exact Hok.out⟩
                case measure => simp [intOf]; omega
        · have hkn : d = n := by omega
          have Hb : Hid (nightsE st rt sz q = (0, nightL st rt q d)) := by
            have := nightsE_ok (st := st) (rt := rt) (sz := sz) Hall2.out (fun j hj => Hall3.out j (by rw [hkn, ← Hn.out]; exact hj))
            rw [Hn.out, ← hkn] at this
            exact this
          clear hkn
          go_wp2_with fail
          go_ret2
          rw [Hb.out]
          exact ⟨_, rfl, hown.mono (by omega), hb1.trans (hb.mono hb1.size)⟩
end Go.Proofs.Ythilfibgpobcjaa
