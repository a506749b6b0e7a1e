/-
  My own work: the two ways of policy, and tranterref10.Way: their contracts.
-/
import Derived.Test.YthilfibgpobcjaaPolicyA
namespace Go.Proofs.Ythilfibgpobcjaa
open Go.RowKit
set_option linter.unusedVariables false

set_option maxHeartbeats 800000 in
theorem late1_is (kd dm : Int) (pt : Value) (rt sz st ru hd : Int) (gc gk : Nat) (there cap : Int) (w : World) (hc : IsCust w gc kd dm pt rt sz st ru hd) (hk : IsNum w gk cap) (hs0 : 0 ≤ sz) (hs1 : sz ≤ 4294967296) (ht0 : -9007199254740992 ≤ there) (ht1 : there ≤ 9007199254740992) :
    Calls Try.prog 55 #[.int .i64 there, .pointer (some ⟨gc, 0, none⟩), .pointer (some ⟨gk, 0, none⟩)] w fun e w' => e = .returned (.int .i64 (bringI true sz ru rt cap there)) ∧ Below w.heap.size w w' := by
  obtain ⟨c0, c1, c2, c3, c4, c5, c6, c7⟩ := hc
  unfold IsNum at hk
  by_cases h1 : rt ≤ there
  · have Hb : Hid (bringI true sz ru rt cap there = 0) := Lib.hid (by unfold bringI; rw [if_pos ⟨rfl, h1⟩])
    have h1' : decide (rt ≤ there) = true := by simpa using h1
    clear h1
    go_enter Try.func55, Try.ntmps55
    go_wp2_with fail
    go_ret
    exact ⟨ret_int Hb.out.symm, Below.refl _ _⟩
  by_cases h0 : there < 0
  · have hm : max there 0 = 0 := by omega
    have Hb : Hid (bringI true sz ru rt cap there = mostI sz ru 0 cap) := Lib.hid (by unfold bringI; rw [if_neg (by simp; omega), hm])
    clear hm
    have h1' : decide (rt ≤ there) = false := by simp; omega
    clear h1
    go_enter Try.func55, Try.ntmps55
    go_wp2_with fail
    refine (most_is kd dm pt rt sz st ru hd 0 cap w hs0 hs1 (by omega) (by omega)).mono ?_
    rintro e w1 ⟨rfl, hb1⟩
    go_wp2_with fail
    go_ret
    exact ⟨ret_int Hb.out.symm, hb1⟩
  · have hm : max there 0 = there := by omega
    have Hb : Hid (bringI true sz ru rt cap there = mostI sz ru there cap) := Lib.hid (by unfold bringI; rw [if_neg (by simp; omega), hm])
    clear hm
    have h1' : decide (rt ≤ there) = false := by simp; omega
    clear h1
    go_enter Try.func55, Try.ntmps55
    go_wp2_with fail
    refine (most_is kd dm pt rt sz st ru hd there cap w hs0 hs1 (by omega) (by omega)).mono ?_
    rintro e w1 ⟨rfl, hb1⟩
    go_wp2_with fail
    go_ret
    exact ⟨ret_int Hb.out.symm, hb1⟩

set_option maxHeartbeats 800000 in
theorem daily1_is (kd dm : Int) (pt : Value) (rt sz st ru hd : Int) (gc gk : Nat) (there cap : Int) (w : World) (hc : IsCust w gc kd dm pt rt sz st ru hd) (hk : IsNum w gk cap) (hs0 : 0 ≤ sz) (hs1 : sz ≤ 4294967296) (ht0 : -9007199254740992 ≤ there) (ht1 : there ≤ 9007199254740992) :
    Calls Try.prog 57 #[.int .i64 there, .pointer (some ⟨gc, 0, none⟩), .pointer (some ⟨gk, 0, none⟩)] w fun e w' => e = .returned (.int .i64 (bringI false sz ru rt cap there)) ∧ Below w.heap.size w w' := by
  obtain ⟨c0, c1, c2, c3, c4, c5, c6, c7⟩ := hc
  unfold IsNum at hk
  by_cases h0 : there < 0
  · have hm : max there 0 = 0 := by omega
    have Hb : Hid (bringI false sz ru rt cap there = mostI sz ru 0 cap) := Lib.hid (by unfold bringI; rw [if_neg (by simp), hm])
    clear hm
    go_enter Try.func57, Try.ntmps57
    go_wp2_with fail
    refine (most_is kd dm pt rt sz st ru hd 0 cap w hs0 hs1 (by omega) (by omega)).mono ?_
    rintro e w1 ⟨rfl, hb1⟩
    go_wp2_with fail
    go_ret
    exact ⟨ret_int Hb.out.symm, hb1⟩
  · have hm : max there 0 = there := by omega
    have Hb : Hid (bringI false sz ru rt cap there = mostI sz ru there cap) := Lib.hid (by unfold bringI; rw [if_neg (by simp), hm])
    clear hm
    go_enter Try.func57, Try.ntmps57
    go_wp2_with fail
    refine (most_is kd dm pt rt sz st ru hd there cap w hs0 hs1 (by omega) (by omega)).mono ?_
    rintro e w1 ⟨rfl, hb1⟩
    go_wp2_with fail
    go_ret
    exact ⟨ret_int Hb.out.symm, hb1⟩

/-- What a way answers. -/
def WayOut (late : Bool) (rt sz st ru cap : Int) (n : Nat) (w : World) (e : Ending) (w' : World) : Prop :=
  ∃ v, e = .returned (.tuple #[v, .bool (holdsE st rt sz ru (wayQ late sz ru rt cap st n) == 0)]) ∧ Own w' w.heap.size v (wayQ late sz ru rt cap st n) ∧ Below w.heap.size w w'

set_option maxHeartbeats 1600000 in
theorem wayLate_is (kd dm : Int) (pt : Value) (rt sz st ru hd : Int) (gc gk n : Nat) (cap : Int) (w : World) (hc : IsCust w gc kd dm pt rt sz st ru hd) (hk : IsNum w gk cap) (hs0 : 0 ≤ sz) (hs1 : sz ≤ 1000000) (hst0 : 0 ≤ st) (hst1 : st ≤ 1000000) (hrt0 : 0 ≤ rt) (hrt1 : rt ≤ 1000000) (hn : n ≤ 1000) :
    Calls Try.prog 54 #[.agg #[.int .i64 kd, .int .i64 dm, pt, .int .i64 rt, .int .i64 sz, .int .i64 st, .int .i64 ru, .int .i64 hd], .int .i64 n, .func (.func 55) #[] #[.pointer (some ⟨gc, 0, none⟩), .pointer (some ⟨gk, 0, none⟩)]] w (WayOut true rt sz st ru cap n w) := by
  obtain ⟨w1, ew, hb1, hsz1, hcu⟩ := box_cust w kd dm pt rt sz st ru hd
  have Hew := Lib.hid ew
  have Hc := Lib.hid (hc.below hb1)
  have Hk := Lib.hid (hk.below hb1)
  have Hcu := Lib.hid hcu
  have hl0 := hcu.lt
  have hc5 := hcu.c5
  have hsmall : Small st rt sz (wayQ true sz ru rt cap st n) := ⟨hst0, by omega, hrt0, by omega, by rw [wayQ_len]; omega⟩
  have Hsmall := Lib.hid hsmall
  clear ew hc hk hcu hsmall hsz1
  go_enter Try.func54, Try.ntmps54
  go_wp2_with fail
  rw [Hew.out]
  go_wp2_with fail
  clear hc5
  generalize eg : w.heap.size = g at *
  have Heg := Lib.hid eg
  have Hb1 := Lib.hid hb1
  clear eg hb1
  go_loopw [8, 9, 14] (fun u t i wr => ∃ (k : Nat) (v : Value) (T : Int), k ≤ n ∧ i = .int .i64 k ∧ v = u ∧ t = .int .i64 T ∧ T = wayT true sz ru rt cap st k ∧ Own wr w1.heap.size v (wayQ true sz ru rt cap st k) ∧ Below w1.heap.size w1 wr) (fun _ _ i _ => n - (intOf i).toNat)
  case atStart => exact ⟨0, _, st, Nat.zero_le _, rfl, rfl, rfl, rfl, Own.nil _ _, Below.refl _ _⟩
  case round =>
    obtain ⟨k, v, T, hk, rfl, rfl, rfl, hT, hown, hb⟩ := hrel
    by_cases hlt : k < n
    · have hbd := wayT_bd (late := true) (ru := ru) (cap := cap) (st := st) hs0 hrt0 k
      have hbr := bring_bd (late := true) (ru := ru) (rt := rt) (cap := cap) T hs0
      rw [← hT] at hbd
      have m1 : rt * (k : Int) ≤ 1000000 * 1000 := Int.mul_le_mul hrt1 (by omega) (by omega) (by omega)
      have m2 : sz * (k : Int) ≤ 1000000 * 1000 := Int.mul_le_mul hs1 (by omega) (by omega) (by omega)
      have hT0 : -1000000000 ≤ T := by omega
      have hT1 : T ≤ 1001000000 := by omega
      have Hq := Lib.hid (wayQ_succ (late := true) (sz := sz) (ru := ru) (rt := rt) (cap := cap) (st := st) k)
      have Ht := Lib.hid (wayT_succ (late := true) (sz := sz) (ru := ru) (rt := rt) (cap := cap) (st := st) k)
      rw [← hT] at Hq Ht
      obtain ⟨B, hB⟩ : ∃ B, B = bringI true sz ru rt cap T := ⟨_, rfl⟩
      have Hcall := Lib.hid (late1_is kd dm pt rt sz st ru hd gc gk T cap wr (Hc.out.below hb) (Hk.out.below hb) hs0 (by omega) (by omega) (by omega))
      rw [← hB] at Hcall hbr Hq Ht
      have HT := Lib.hid hT
      obtain ⟨hB0, hB1⟩ := hbr
      clear hT hbd m1 m2 hB
      go_wp2_with fail
      refine Hcall.out.mono ?_
      rintro e w2 ⟨rfl, hb2⟩
      have hbw2 := hb.trans (hb2.mono hb.size)
      have hown2 := hown.below hb2
      have hc3 := (Hcu.out.below hbw2).c3
      clear hb hb2 hown
      go_wp2_with (at_builtin; refine wpList_push rfl _ _ rfl w2 w1.heap.size v (wayQ true sz ru rt cap st k) B rfl rfl hown2 (by rw [wayQ_len]; omega) hbw2.size ?_)
      intro v' w5 hown5 g5 hb5
      rw [← Hq.out] at hown5
      have hb5' := hbw2.trans hb5
      have hc3' := (Hcu.out.below hb5').c3
      clear g5 hb5 hown2 hc3 hbw2
      go_wp2_with fail
      go_roundw
      case rel => exact ⟨k + 1, _, T + B - rt, by omega, by go_num, rfl, by first | rfl | (congr 1; omega), Ht.out.symm, hown5, hb5'⟩
      case measure => simp [intOf]; omega
    · have hkn : k = n := by omega
      subst hkn
      obtain ⟨c0, c1, c2, c3, c4, c5, c6, c7⟩ := Hcu.out.below hb
      have Hh := Lib.hid (holds_is kd dm pt rt sz st ru hd v (wayQ true sz ru rt cap st k) wr hown.ints Hsmall.out)
      have Hb := Lib.hid hb
      have Hown := Lib.hid hown
      have hsz : g ≤ w1.heap.size := by have := Hb1.out.size; rw [Heg.out] at this; exact this
      clear hT hown hb
      go_wp2_with fail
      refine Hh.out.mono ?_
      rintro e w6 ⟨rfl, hb6⟩
      have b6 := Lib.hid (Hb.out.trans (hb6.mono Hb.out.size))
      have o6 := Lib.hid ((Hown.out.below hb6).mono hsz)
      clear hb6 c0 c1 c2 c3 c4 c5 c6 c7
      go_wp2_with fail
      go_ret2
      exact ⟨_, rfl, by rw [Heg.out]; exact o6.out, by rw [Heg.out]; exact Hb1.out.trans (b6.out.mono hsz)⟩

set_option maxHeartbeats 1600000 in
theorem wayDaily_is (kd dm : Int) (pt : Value) (rt sz st ru hd : Int) (gc gk n : Nat) (cap : Int) (w : World) (hc : IsCust w gc kd dm pt rt sz st ru hd) (hk : IsNum w gk cap) (hs0 : 0 ≤ sz) (hs1 : sz ≤ 1000000) (hst0 : 0 ≤ st) (hst1 : st ≤ 1000000) (hrt0 : 0 ≤ rt) (hrt1 : rt ≤ 1000000) (hn : n ≤ 1000) :
    Calls Try.prog 54 #[.agg #[.int .i64 kd, .int .i64 dm, pt, .int .i64 rt, .int .i64 sz, .int .i64 st, .int .i64 ru, .int .i64 hd], .int .i64 n, .func (.func 57) #[] #[.pointer (some ⟨gc, 0, none⟩), .pointer (some ⟨gk, 0, none⟩)]] w (WayOut false rt sz st ru cap n w) := by
  obtain ⟨w1, ew, hb1, hsz1, hcu⟩ := box_cust w kd dm pt rt sz st ru hd
  have Hew := Lib.hid ew
  have Hc := Lib.hid (hc.below hb1)
  have Hk := Lib.hid (hk.below hb1)
  have Hcu := Lib.hid hcu
  have hl0 := hcu.lt
  have hc5 := hcu.c5
  have hsmall : Small st rt sz (wayQ false sz ru rt cap st n) := ⟨hst0, by omega, hrt0, by omega, by rw [wayQ_len]; omega⟩
  have Hsmall := Lib.hid hsmall
  clear ew hc hk hcu hsmall hsz1
  go_enter Try.func54, Try.ntmps54
  go_wp2_with fail
  rw [Hew.out]
  go_wp2_with fail
  clear hc5
  generalize eg : w.heap.size = g at *
  have Heg := Lib.hid eg
  have Hb1 := Lib.hid hb1
  clear eg hb1
  go_loopw [8, 9, 14] (fun u t i wr => ∃ (k : Nat) (v : Value) (T : Int), k ≤ n ∧ i = .int .i64 k ∧ v = u ∧ t = .int .i64 T ∧ T = wayT false sz ru rt cap st k ∧ Own wr w1.heap.size v (wayQ false sz ru rt cap st k) ∧ Below w1.heap.size w1 wr) (fun _ _ i _ => n - (intOf i).toNat)
  case atStart => exact ⟨0, _, st, Nat.zero_le _, rfl, rfl, rfl, rfl, Own.nil _ _, Below.refl _ _⟩
  case round =>
    obtain ⟨k, v, T, hk, rfl, rfl, rfl, hT, hown, hb⟩ := hrel
    by_cases hlt : k < n
    · have hbd := wayT_bd (late := false) (ru := ru) (cap := cap) (st := st) hs0 hrt0 k
      have hbr := bring_bd (late := false) (ru := ru) (rt := rt) (cap := cap) T hs0
      rw [← hT] at hbd
      have m1 : rt * (k : Int) ≤ 1000000 * 1000 := Int.mul_le_mul hrt1 (by omega) (by omega) (by omega)
      have m2 : sz * (k : Int) ≤ 1000000 * 1000 := Int.mul_le_mul hs1 (by omega) (by omega) (by omega)
      have hT0 : -1000000000 ≤ T := by omega
      have hT1 : T ≤ 1001000000 := by omega
      have Hq := Lib.hid (wayQ_succ (late := false) (sz := sz) (ru := ru) (rt := rt) (cap := cap) (st := st) k)
      have Ht := Lib.hid (wayT_succ (late := false) (sz := sz) (ru := ru) (rt := rt) (cap := cap) (st := st) k)
      rw [← hT] at Hq Ht
      obtain ⟨B, hB⟩ : ∃ B, B = bringI false sz ru rt cap T := ⟨_, rfl⟩
      have Hcall := Lib.hid (daily1_is kd dm pt rt sz st ru hd gc gk T cap wr (Hc.out.below hb) (Hk.out.below hb) hs0 (by omega) (by omega) (by omega))
      rw [← hB] at Hcall hbr Hq Ht
      have HT := Lib.hid hT
      obtain ⟨hB0, hB1⟩ := hbr
      clear hT hbd m1 m2 hB
      go_wp2_with fail
      refine Hcall.out.mono ?_
      rintro e w2 ⟨rfl, hb2⟩
      have hbw2 := hb.trans (hb2.mono hb.size)
      have hown2 := hown.below hb2
      have hc3 := (Hcu.out.below hbw2).c3
      clear hb hb2 hown
      go_wp2_with (at_builtin; refine wpList_push rfl _ _ rfl w2 w1.heap.size v (wayQ false sz ru rt cap st k) B rfl rfl hown2 (by rw [wayQ_len]; omega) hbw2.size ?_)
      intro v' w5 hown5 g5 hb5
      rw [← Hq.out] at hown5
      have hb5' := hbw2.trans hb5
      have hc3' := (Hcu.out.below hb5').c3
      clear g5 hb5 hown2 hc3 hbw2
      go_wp2_with fail
      go_roundw
      case rel => exact ⟨k + 1, _, T + B - rt, by omega, by go_num, rfl, by first | rfl | (congr 1; omega), Ht.out.symm, hown5, hb5'⟩
      case measure => simp [intOf]; omega
    · have hkn : k = n := by omega
      subst hkn
      obtain ⟨c0, c1, c2, c3, c4, c5, c6, c7⟩ := Hcu.out.below hb
      have Hh := Lib.hid (holds_is kd dm pt rt sz st ru hd v (wayQ false sz ru rt cap st k) wr hown.ints Hsmall.out)
      have Hb := Lib.hid hb
      have Hown := Lib.hid hown
      have hsz : g ≤ w1.heap.size := by have := Hb1.out.size; rw [Heg.out] at this; exact this
      clear hT hown hb
      go_wp2_with fail
      refine Hh.out.mono ?_
      rintro e w6 ⟨rfl, hb6⟩
      have b6 := Lib.hid (Hb.out.trans (hb6.mono Hb.out.size))
      have o6 := Lib.hid ((Hown.out.below hb6).mono hsz)
      clear hb6 c0 c1 c2 c3 c4 c5 c6 c7
      go_wp2_with fail
      go_ret2
      exact ⟨_, rfl, by rw [Heg.out]; exact o6.out, by rw [Heg.out]; exact Hb1.out.trans (b6.out.mono hsz)⟩

set_option maxHeartbeats 800000 in
theorem late_is (kd dm : Int) (pt : Value) (rt sz st ru hd : Int) (n : Nat) (cap : Int) (w : World) (hs0 : 0 ≤ sz) (hs1 : sz ≤ 1000000) (hst0 : 0 ≤ st) (hst1 : st ≤ 1000000) (hrt0 : 0 ≤ rt) (hrt1 : rt ≤ 1000000) (hn : n ≤ 1000) :
    Calls Try.prog 37 #[.agg #[.int .i64 kd, .int .i64 dm, pt, .int .i64 rt, .int .i64 sz, .int .i64 st, .int .i64 ru, .int .i64 hd], .int .i64 n, .int .i64 cap] w (WayOut true rt sz st ru cap n w) := by
  obtain ⟨w1, ew, hb1, hsz1, hcu⟩ := box_cust w kd dm pt rt sz st ru hd
  obtain ⟨w2, ew2⟩ : ∃ w2, w1.alloc (.cells #[.int .i64 cap] 3) = w2 := ⟨_, rfl⟩
  have hb2 : Below w1.heap.size w1 w2 := by rw [← ew2]; exact (Below.refl _ _).alloc (Nat.le_refl _) _
  have hk : IsNum w2 w1.heap.size cap := by unfold IsNum; rw [← ew2]; simp [go_sem]
  have hcu2 := hcu.below hb2
  have Hc := Lib.hid hcu2
  obtain ⟨c0, c1, c2, c3, c4, c5, c6, c7⟩ := hcu2
  have Hb := Lib.hid (hb1.trans (hb2.mono hb1.size))
  have hk' : IsNum w2 (w.heap.size + 1) cap := by rw [← hsz1]; exact hk
  have Hk := Lib.hid hk'
  have Hew := Lib.hid ew
  have Hew2 := Lib.hid ew2
  have hl0 : w.heap.size < w2.heap.size := World.block_lt_of_cell? w2 _ c0
  have hle := Lib.hid (hb1.trans (hb2.mono hb1.size)).size
  clear ew ew2 hcu hb1 hb2 hk hk' hsz1
  go_enter Try.func37, Try.ntmps37
  go_wp2_with fail
  rw [Hew.out, Hew2.out]
  go_wp2_with fail
  refine (wayLate_is kd dm pt rt sz st ru hd w.heap.size (w.heap.size + 1) n cap w2 Hc.out Hk.out hs0 hs1 hst0 hst1 hrt0 hrt1 hn).mono ?_
  rintro e w3 ⟨v, rfl, hown, hb3⟩
  have o3 := Lib.hid (hown.mono hle.out)
  have b3 := Lib.hid (Hb.out.trans (hb3.mono hle.out))
  clear hown hb3 c0 c1 c2 c3 c4 c5 c6 c7
  obtain ⟨OKB, hO⟩ : ∃ b, b = (holdsE st rt sz ru (wayQ true sz ru rt cap st n) == 0) := ⟨_, rfl⟩
  rw [← hO]
  have HO := Lib.hid hO
  clear hO
  go_wp2_with fail
  go_ret2
  exact ⟨v, by rw [← HO.out]; rfl, o3.out, b3.out⟩

set_option maxHeartbeats 800000 in
theorem daily_is (kd dm : Int) (pt : Value) (rt sz st ru hd : Int) (n : Nat) (cap : Int) (w : World) (hs0 : 0 ≤ sz) (hs1 : sz ≤ 1000000) (hst0 : 0 ≤ st) (hst1 : st ≤ 1000000) (hrt0 : 0 ≤ rt) (hrt1 : rt ≤ 1000000) (hn : n ≤ 1000) :
    Calls Try.prog 39 #[.agg #[.int .i64 kd, .int .i64 dm, pt, .int .i64 rt, .int .i64 sz, .int .i64 st, .int .i64 ru, .int .i64 hd], .int .i64 n, .int .i64 cap] w (WayOut false rt sz st ru cap n w) := by
  obtain ⟨w1, ew, hb1, hsz1, hcu⟩ := box_cust w kd dm pt rt sz st ru hd
  obtain ⟨w2, ew2⟩ : ∃ w2, w1.alloc (.cells #[.int .i64 cap] 3) = w2 := ⟨_, rfl⟩
  have hb2 : Below w1.heap.size w1 w2 := by rw [← ew2]; exact (Below.refl _ _).alloc (Nat.le_refl _) _
  have hk : IsNum w2 w1.heap.size cap := by unfold IsNum; rw [← ew2]; simp [go_sem]
  have hcu2 := hcu.below hb2
  have Hc := Lib.hid hcu2
  obtain ⟨c0, c1, c2, c3, c4, c5, c6, c7⟩ := hcu2
  have Hb := Lib.hid (hb1.trans (hb2.mono hb1.size))
  have hk' : IsNum w2 (w.heap.size + 1) cap := by rw [← hsz1]; exact hk
  have Hk := Lib.hid hk'
  have Hew := Lib.hid ew
  have Hew2 := Lib.hid ew2
  have hl0 : w.heap.size < w2.heap.size := World.block_lt_of_cell? w2 _ c0
  have hle := Lib.hid (hb1.trans (hb2.mono hb1.size)).size
  clear ew ew2 hcu hb1 hb2 hk hk' hsz1
  go_enter Try.func39, Try.ntmps39
  go_wp2_with fail
  rw [Hew.out, Hew2.out]
  go_wp2_with fail
  refine (wayDaily_is kd dm pt rt sz st ru hd w.heap.size (w.heap.size + 1) n cap w2 Hc.out Hk.out hs0 hs1 hst0 hst1 hrt0 hrt1 hn).mono ?_
  rintro e w3 ⟨v, rfl, hown, hb3⟩
  have o3 := Lib.hid (hown.mono hle.out)
  have b3 := Lib.hid (Hb.out.trans (hb3.mono hle.out))
  clear hown hb3 c0 c1 c2 c3 c4 c5 c6 c7
  obtain ⟨OKB, hO⟩ : ∃ b, b = (holdsE st rt sz ru (wayQ false sz ru rt cap st n) == 0) := ⟨_, rfl⟩
  rw [← hO]
  have HO := Lib.hid hO
  clear hO
  go_wp2_with fail
  go_ret2
  exact ⟨v, by rw [← HO.out]; rfl, o3.out, b3.out⟩

end Go.Proofs.Ythilfibgpobcjaa
