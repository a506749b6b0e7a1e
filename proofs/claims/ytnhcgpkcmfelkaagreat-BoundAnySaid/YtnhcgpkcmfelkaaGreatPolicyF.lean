/-
  My own work: tranterref10.Way: its contract.
-/
import Derived.Test.YtnhcgpkcmfelkaaGreatMPol
namespace Go.Proofs.YtnhcgpkcmfelkaaGreat
open Go.RowKit
set_option linter.unusedVariables false
set_option maxRecDepth 100000

set_option maxHeartbeats 3200000 in
theorem refLate_is (kd dm : Int) (pt : Value) (rt sz st ru hd : Int) (n : Nat) (cap : Int) (w : World) (hs0 : 0 ≤ sz) (hs1 : sz ≤ 1000000) (hst0 : 0 ≤ st) (hst1 : st ≤ 1000000) (hrt0 : 0 ≤ rt) (hrt1 : rt ≤ 1000000) (hn : n ≤ 1000) :
    Calls Tryz.prog 91 #[.agg #[.int .i64 kd, .int .i64 dm, pt, .int .i64 rt, .int .i64 sz, .int .i64 st, .int .i64 ru, .int .i64 hd], .int .i64 n, .int .i64 cap, .bool true] w (WayOut true rt sz st ru cap n w) := by
  obtain ⟨w1, ew, hb1, hsz1, hcu⟩ := box_cust w kd dm pt rt sz st ru hd
  have Hew := Lib.hid ew
  have Hcu := Lib.hid hcu
  have hl0 := hcu.lt
  have hc5 := hcu.c5
  have hsmall : Small st rt sz (wayQ true sz ru rt cap st n) := ⟨hst0, by omega, hrt0, by omega, by rw [wayQ_len]; omega⟩
  have Hsmall := Lib.hid hsmall
  clear ew hcu hsmall hsz1
  go_enter Tryz.func91, Tryz.ntmps91
  go_wp2_with fail
  rw [Hew.out]
  go_wp2_with fail
  clear hc5
  generalize eg : w.heap.size = g at *
  have Heg := Lib.hid eg
  have Hb1 := Lib.hid hb1
  clear eg hb1
  go_loopw [10, 11, 12] (fun u t i wr => ∃ (k : Nat) (v : Value) (T : Int), k ≤ n ∧ i = .int .i64 k ∧ v = u ∧ t = .int .i64 T ∧ T = wayT true sz ru rt cap st k ∧ Own wr w1.heap.size v (wayQ true sz ru rt cap st k) ∧ Below w1.heap.size w1 wr) (fun _ _ i _ => n - (intOf i).toNat)
  case atStart => exact ⟨0, _, st, Nat.zero_le _, rfl, rfl, rfl, rfl, Own.nil _ _, Below.refl _ _⟩
  case round =>
    obtain ⟨k, v, T, hk, rfl, rfl, rfl, hT, hown, hb⟩ := hrel
    by_cases hlt : k < n
    · have hbd := wayT_bd (late := true) (ru := ru) (cap := cap) (st := st) hs0 hrt0 k
      have hbr := bring_bd (late := true) (ru := ru) (rt := rt) (cap := cap) T hs0
      rw [← hT] at hbd
      have m1 : rt * (k : Int) ≤ 1000000 * 1000 := Int.mul_le_mul hrt1 (by omega) (by omega) (by omega)
      have m2 : sz * (k : Int) ≤ 1000000 * 1000 := Int.mul_le_mul hs1 (by omega) (by omega) (by omega)
      have hT0 : -1000000000 ≤ T := by omega
      have hT1 : T ≤ 1001000000 := by omega
      have Hq := Lib.hid (wayQ_succ (late := true) (sz := sz) (ru := ru) (rt := rt) (cap := cap) (st := st) k)
      have Ht := Lib.hid (wayT_succ (late := true) (sz := sz) (ru := ru) (rt := rt) (cap := cap) (st := st) k)
      rw [← hT] at Hq Ht
      obtain ⟨B, hB⟩ : ∃ B, B = bringI true sz ru rt cap T := ⟨_, rfl⟩
      rw [← hB] at hbr Hq Ht
      have HT := Lib.hid hT
      obtain ⟨hB0, hB1⟩ := hbr
      obtain ⟨c0, c1, c2, c3, c4, c5, c6, c7⟩ := Hcu.out.below hb
      clear hT hbd m1 m2
      by_cases h1 : rt ≤ T
      · have HB : Hid (B = 0) := Lib.hid (by rw [hB]; unfold bringI; rw [if_pos ⟨rfl, h1⟩])
        have h1' : decide (T < rt) = false := by simp; omega
        have hB00 : B = 0 := HB.out
        subst hB00
        clear h1 hB
        go_wp2_with (at_builtin; refine wpList_push rfl _ _ rfl wr w1.heap.size v (wayQ true sz ru rt cap st k) 0 rfl rfl hown (by rw [wayQ_len]; omega) hb.size ?_)
        intro v' w5 hown5 g5 hb5
        rw [← Hq.out] at hown5
        have hb5' := hb.trans hb5
        have hc3' := (Hcu.out.below hb5').c3
        clear g5 hb5 hown hb c0 c1 c2 c3 c4 c5 c6 c7
        go_wp2_with fail
        go_roundw
        case rel => exact ⟨k + 1, _, T + 0 - rt, by omega, by go_num, rfl, by first | rfl | (congr 1; omega), Ht.out.symm, hown5, hb5'⟩
        case measure => simp [intOf]; omega
      · have h1' : decide (T < rt) = true := by simp; omega
        by_cases h0 : T < 0
        · have h0' : decide (T < 0) = true := by simpa using h0
          have Hcall := Lib.hid (refMost_is kd dm pt rt sz st ru hd 0 cap wr hs0 (by omega) (by omega) (by omega))
          have HB : Hid (mostI sz ru 0 cap = B) := Lib.hid (by rw [hB]; unfold bringI; rw [if_neg (by simp; omega), show max T 0 = 0 by omega])
          clear hB
          go_wp2_with fail
          refine Hcall.out.mono ?_
          rintro e w2 ⟨rfl, hb2⟩
          rw [HB.out]
          have hbw2 := hb.trans (hb2.mono hb.size)
          have hown2 := hown.below hb2
          have hc3 := (Hcu.out.below hbw2).c3
          clear hb hb2 hown c0 c1 c2 c3 c4 c5 c6 c7
          go_wp2_with (at_builtin; refine wpList_push rfl _ _ rfl w2 w1.heap.size v (wayQ true sz ru rt cap st k) B rfl rfl hown2 (by rw [wayQ_len]; omega) hbw2.size ?_)
          intro v' w5 hown5 g5 hb5
          rw [← Hq.out] at hown5
          have hb5' := hbw2.trans hb5
          have hc3' := (Hcu.out.below hb5').c3
          clear g5 hb5 hown2 hc3 hbw2
          go_wp2_with fail
          go_roundw
          case rel => exact ⟨k + 1, _, T + B - rt, by omega, by go_num, rfl, by first | rfl | (congr 1; omega), Ht.out.symm, hown5, hb5'⟩
          case measure => simp [intOf]; omega
        · have h0' : decide (T < 0) = false := by simpa using h0
          have Hcall := Lib.hid (refMost_is kd dm pt rt sz st ru hd T cap wr hs0 (by omega) (by omega) (by omega))
          have HB : Hid (mostI sz ru T cap = B) := Lib.hid (by rw [hB]; unfold bringI; rw [if_neg (by simp; omega), show max T 0 = T by omega])
          clear hB
          go_wp2_with fail
          refine Hcall.out.mono ?_
          rintro e w2 ⟨rfl, hb2⟩
          rw [HB.out]
          have hbw2 := hb.trans (hb2.mono hb.size)
          have hown2 := hown.below hb2
          have hc3 := (Hcu.out.below hbw2).c3
          clear hb hb2 hown c0 c1 c2 c3 c4 c5 c6 c7
          go_wp2_with (at_builtin; refine wpList_push rfl _ _ rfl w2 w1.heap.size v (wayQ true sz ru rt cap st k) B rfl rfl hown2 (by rw [wayQ_len]; omega) hbw2.size ?_)
          intro v' w5 hown5 g5 hb5
          rw [← Hq.out] at hown5
          have hb5' := hbw2.trans hb5
          have hc3' := (Hcu.out.below hb5').c3
          clear g5 hb5 hown2 hc3 hbw2
          go_wp2_with fail
          go_roundw
          case rel => exact ⟨k + 1, _, T + B - rt, by omega, by go_num, rfl, by first | rfl | (congr 1; omega), Ht.out.symm, hown5, hb5'⟩
          case measure => simp [intOf]; omega
    · have hkn : k = n := by omega
      subst hkn
      obtain ⟨c0, c1, c2, c3, c4, c5, c6, c7⟩ := Hcu.out.below hb
      have Hh := Lib.hid (refHolds_is kd dm pt rt sz st ru hd v (wayQ true sz ru rt cap st k) wr hown.ints Hsmall.out)
      have Hb := Lib.hid hb
      have Hown := Lib.hid hown
      have hsz : g ≤ w1.heap.size := by have := Hb1.out.size; rw [Heg.out] at this; exact this
      clear hT hown hb
      go_wp2_with fail
      refine Hh.out.mono ?_
      rintro e w6 ⟨rfl, hb6⟩
      have b6 := Lib.hid (Hb.out.trans (hb6.mono Hb.out.size))
      have o6 := Lib.hid ((Hown.out.below hb6).mono hsz)
      clear hb6 c0 c1 c2 c3 c4 c5 c6 c7
      go_wp2_with fail
      go_ret2
      exact ⟨_, rfl, by rw [Heg.out]; exact o6.out, by rw [Heg.out]; exact Hb1.out.trans (b6.out.mono hsz)⟩

set_option maxHeartbeats 3200000 in
theorem refDaily_is (kd dm : Int) (pt : Value) (rt sz st ru hd : Int) (n : Nat) (cap : Int) (w : World) (hs0 : 0 ≤ sz) (hs1 : sz ≤ 1000000) (hst0 : 0 ≤ st) (hst1 : st ≤ 1000000) (hrt0 : 0 ≤ rt) (hrt1 : rt ≤ 1000000) (hn : n ≤ 1000) :
    Calls Tryz.prog 91 #[.agg #[.int .i64 kd, .int .i64 dm, pt, .int .i64 rt, .int .i64 sz, .int .i64 st, .int .i64 ru, .int .i64 hd], .int .i64 n, .int .i64 cap, .bool false] w (WayOut false rt sz st ru cap n w) := by
  obtain ⟨w1, ew, hb1, hsz1, hcu⟩ := box_cust w kd dm pt rt sz st ru hd
  have Hew := Lib.hid ew
  have Hcu := Lib.hid hcu
  have hl0 := hcu.lt
  have hc5 := hcu.c5
  have hsmall : Small st rt sz (wayQ false sz ru rt cap st n) := ⟨hst0, by omega, hrt0, by omega, by rw [wayQ_len]; omega⟩
  have Hsmall := Lib.hid hsmall
  clear ew hcu hsmall hsz1
  go_enter Tryz.func91, Tryz.ntmps91
  go_wp2_with fail
  rw [Hew.out]
  go_wp2_with fail
  clear hc5
  generalize eg : w.heap.size = g at *
  have Heg := Lib.hid eg
  have Hb1 := Lib.hid hb1
  clear eg hb1
  go_loopw [10, 11, 12] (fun u t i wr => ∃ (k : Nat) (v : Value) (T : Int), k ≤ n ∧ i = .int .i64 k ∧ v = u ∧ t = .int .i64 T ∧ T = wayT false sz ru rt cap st k ∧ Own wr w1.heap.size v (wayQ false sz ru rt cap st k) ∧ Below w1.heap.size w1 wr) (fun _ _ i _ => n - (intOf i).toNat)
  case atStart => exact ⟨0, _, st, Nat.zero_le _, rfl, rfl, rfl, rfl, Own.nil _ _, Below.refl _ _⟩
  case round =>
    obtain ⟨k, v, T, hk, rfl, rfl, rfl, hT, hown, hb⟩ := hrel
    by_cases hlt : k < n
    · have hbd := wayT_bd (late := false) (ru := ru) (cap := cap) (st := st) hs0 hrt0 k
      have hbr := bring_bd (late := false) (ru := ru) (rt := rt) (cap := cap) T hs0
      rw [← hT] at hbd
      have m1 : rt * (k : Int) ≤ 1000000 * 1000 := Int.mul_le_mul hrt1 (by omega) (by omega) (by omega)
      have m2 : sz * (k : Int) ≤ 1000000 * 1000 := Int.mul_le_mul hs1 (by omega) (by omega) (by omega)
      have hT0 : -1000000000 ≤ T := by omega
      have hT1 : T ≤ 1001000000 := by omega
      have Hq := Lib.hid (wayQ_succ (late := false) (sz := sz) (ru := ru) (rt := rt) (cap := cap) (st := st) k)
      have Ht := Lib.hid (wayT_succ (late := false) (sz := sz) (ru := ru) (rt := rt) (cap := cap) (st := st) k)
      rw [← hT] at Hq Ht
      obtain ⟨B, hB⟩ : ∃ B, B = bringI false sz ru rt cap T := ⟨_, rfl⟩
      rw [← hB] at hbr Hq Ht
      have HT := Lib.hid hT
      obtain ⟨hB0, hB1⟩ := hbr
      obtain ⟨c0, c1, c2, c3, c4, c5, c6, c7⟩ := Hcu.out.below hb
      clear hT hbd m1 m2
      by_cases h0 : T < 0
      · have h0' : decide (T < 0) = true := by simpa using h0
        have Hcall := Lib.hid (refMost_is kd dm pt rt sz st ru hd 0 cap wr hs0 (by omega) (by omega) (by omega))
        have HB : Hid (mostI sz ru 0 cap = B) := Lib.hid (by rw [hB]; unfold bringI; rw [if_neg (by simp), show max T 0 = 0 by omega])
        clear hB
        go_wp2_with fail
        refine Hcall.out.mono ?_
        rintro e w2 ⟨rfl, hb2⟩
        rw [HB.out]
        have hbw2 := hb.trans (hb2.mono hb.size)
        have hown2 := hown.below hb2
        have hc3 := (Hcu.out.below hbw2).c3
        clear hb hb2 hown c0 c1 c2 c3 c4 c5 c6 c7
        go_wp2_with (at_builtin; refine wpList_push rfl _ _ rfl w2 w1.heap.size v (wayQ false sz ru rt cap st k) B rfl rfl hown2 (by rw [wayQ_len]; omega) hbw2.size ?_)
        intro v' w5 hown5 g5 hb5
        rw [← Hq.out] at hown5
        have hb5' := hbw2.trans hb5
        have hc3' := (Hcu.out.below hb5').c3
        clear g5 hb5 hown2 hc3 hbw2
        go_wp2_with fail
        go_roundw
        case rel => exact ⟨k + 1, _, T + B - rt, by omega, by go_num, rfl, by first | rfl | (congr 1; omega), Ht.out.symm, hown5, hb5'⟩
        case measure => simp [intOf]; omega
      · have h0' : decide (T < 0) = false := by simpa using h0
        have Hcall := Lib.hid (refMost_is kd dm pt rt sz st ru hd T cap wr hs0 (by omega) (by omega) (by omega))
        have HB : Hid (mostI sz ru T cap = B) := Lib.hid (by rw [hB]; unfold bringI; rw [if_neg (by simp), show max T 0 = T by omega])
        clear hB
        go_wp2_with fail
        refine Hcall.out.mono ?_
        rintro e w2 ⟨rfl, hb2⟩
        rw [HB.out]
        have hbw2 := hb.trans (hb2.mono hb.size)
        have hown2 := hown.below hb2
        have hc3 := (Hcu.out.below hbw2).c3
        clear hb hb2 hown c0 c1 c2 c3 c4 c5 c6 c7
        go_wp2_with (at_builtin; refine wpList_push rfl _ _ rfl w2 w1.heap.size v (wayQ false sz ru rt cap st k) B rfl rfl hown2 (by rw [wayQ_len]; omega) hbw2.size ?_)
        intro v' w5 hown5 g5 hb5
        rw [← Hq.out] at hown5
        have hb5' := hbw2.trans hb5
        have hc3' := (Hcu.out.below hb5').c3
        clear g5 hb5 hown2 hc3 hbw2
        go_wp2_with fail
        go_roundw
        case rel => exact ⟨k + 1, _, T + B - rt, by omega, by go_num, rfl, by first | rfl | (congr 1; omega), Ht.out.symm, hown5, hb5'⟩
        case measure => simp [intOf]; omega
    · have hkn : k = n := by omega
      subst hkn
      obtain ⟨c0, c1, c2, c3, c4, c5, c6, c7⟩ := Hcu.out.below hb
      have Hh := Lib.hid (refHolds_is kd dm pt rt sz st ru hd v (wayQ false sz ru rt cap st k) wr hown.ints Hsmall.out)
      have Hb := Lib.hid hb
      have Hown := Lib.hid hown
      have hsz : g ≤ w1.heap.size := by have := Hb1.out.size; rw [Heg.out] at this; exact this
      clear hT hown hb
      go_wp2_with fail
      refine Hh.out.mono ?_
      rintro e w6 ⟨rfl, hb6⟩
      have b6 := Lib.hid (Hb.out.trans (hb6.mono Hb.out.size))
      have o6 := Lib.hid ((Hown.out.below hb6).mono hsz)
      clear hb6 c0 c1 c2 c3 c4 c5 c6 c7
      go_wp2_with fail
      go_ret2
      exact ⟨_, rfl, by rw [Heg.out]; exact o6.out, by rw [Heg.out]; exact Hb1.out.trans (b6.out.mono hsz)⟩

end Go.Proofs.YtnhcgpkcmfelkaaGreat
