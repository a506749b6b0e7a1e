/-
  My own work: policy.Most, tranterref10.Most, and the closures of the two ways: their contracts.
  My own work: the two ways of policy, and tranterref10.Way: their contracts.
  My own work: policy.fills: its contract.
  My own work: tranterref10.Way, policy.Can, lives of layer 10: their contracts.
  My own work: the walks of PolicyMost and PolicyWays.
  My own work: policy.Wants, Forced (of a tank): their contracts; the walk of PolicyWider.
-/
import Derived.Test.YtnhcgpkcmfelkaaGreatMStock
import Derived.Deep.LoopGhost
import Derived.WalkMore
import Derived.Deep.RegionHeld3
import Derived.Test.YtnhcgpkcmfelkaaGreatMNum
import Derived.Deep.RegionWith
namespace Go.Proofs.YtnhcgpkcmfelkaaGreat
section
open Go.RowKit
set_option linter.unusedVariables false
set_option maxRecDepth 100000

theorem ret_int {a b : Int} (h : a = b) : Ending.returned (.int .i64 a) = .returned (.int .i64 b) := by rw [h]

set_option maxHeartbeats 800000 in
theorem most_is (kd dm : Int) (pt : Value) (rt sz st ru hd there cap : Int) (w : World) (hs0 : 0 ≤ sz) (hs1 : sz ≤ 4294967296) (ht0 : 0 ≤ there) (ht1 : there ≤ 9007199254740992) :
    Calls Tryz.prog 117 #[.agg #[.int .i64 kd, .int .i64 dm, pt, .int .i64 rt, .int .i64 sz, .int .i64 st, .int .i64 ru, .int .i64 hd], .int .i64 there, .int .i64 cap] w fun e w' =>
      e = .returned (.int .i64 (mostI sz ru there cap)) ∧ Below w.heap.size w w' := by
  obtain ⟨w1, ew, hb1, hsz1, hcu⟩ := box_cust w kd dm pt rt sz st ru hd
  obtain ⟨c0, c1, c2, c3, c4, c5, c6, c7⟩ := hcu
  have Hew := Lib.hid ew
  have l0 : w.heap.size < w1.heap.size := by omega
  clear ew
  by_cases h1 : sz - there < 1
  · have Hm : Hid (mostI sz ru there cap = 0) := Lib.hid (by unfold mostI; rw [if_pos (.inl h1)])
    have h1' : decide (sz - there < 1) = true := by simpa using h1
    clear h1
    go_enter Tryz.func117, Tryz.ntmps117
    go_wp2_with fail
    rw [Hew.out]
    go_wp2_with fail
    go_ret
    exact ⟨ret_int Hm.out.symm, hb1⟩
  have h1' : decide (sz - there < 1) = false := by simpa using h1
  by_cases h2 : cap < 0
  · have Hm : Hid (mostI sz ru there cap = 0) := Lib.hid (by unfold mostI; rw [if_pos (.inr h2)])
    have h2' : decide (cap < 0) = true := by simpa using h2
    clear h1 h2
    go_enter Tryz.func117, Tryz.ntmps117
    go_wp2_with fail
    rw [Hew.out]
    go_wp2_with fail
    go_ret
    exact ⟨ret_int Hm.out.symm, hb1⟩
  have h2' : decide (cap < 0) = false := by simpa using h2
  by_cases h3 : sz - there ≤ cap
  · have Hm : Hid (mostI sz ru there cap = sz - there) := Lib.hid (by unfold mostI; rw [if_neg (by omega), if_pos h3])
    have h3' : decide (sz - there ≤ cap) = true := by simpa using h3
    clear h1 h2 h3
    go_enter Tryz.func117, Tryz.ntmps117
    go_wp2_with fail
    rw [Hew.out]
    go_wp2_with fail
    go_ret
    exact ⟨ret_int Hm.out.symm, hb1⟩
  have h3' : decide (sz - there ≤ cap) = false := by simpa using h3
  by_cases h4 : ru = 1
  · have Hm : Hid (mostI sz ru there cap = 0) := Lib.hid (by unfold mostI; rw [if_neg (by omega), if_neg h3, if_pos h4])
    have h4' : (ru == 1) = true := by simpa using h4
    clear h1 h2 h3 h4
    go_enter Tryz.func117, Tryz.ntmps117
    go_wp2_with fail
    rw [Hew.out]
    go_wp2_with fail
    go_ret
    exact ⟨ret_int Hm.out.symm, hb1⟩
  · have Hm : Hid (mostI sz ru there cap = cap) := Lib.hid (by unfold mostI; rw [if_neg (by omega), if_neg h3, if_neg h4])
    have h4' : (ru == 1) = false := by simpa using h4
    clear h1 h2 h3 h4
    go_enter Tryz.func117, Tryz.ntmps117
    go_wp2_with fail
    rw [Hew.out]
    go_wp2_with fail
    go_ret
    exact ⟨ret_int Hm.out.symm, hb1⟩

set_option maxHeartbeats 800000 in
theorem refMost_is (kd dm : Int) (pt : Value) (rt sz st ru hd there cap : Int) (w : World) (hs0 : 0 ≤ sz) (hs1 : sz ≤ 4294967296) (ht0 : 0 ≤ there) (ht1 : there ≤ 9007199254740992) :
    Calls Tryz.prog 108 #[.agg #[.int .i64 kd, .int .i64 dm, pt, .int .i64 rt, .int .i64 sz, .int .i64 st, .int .i64 ru, .int .i64 hd], .int .i64 there, .int .i64 cap] w fun e w' =>
      e = .returned (.int .i64 (mostI sz ru there cap)) ∧ Below w.heap.size w w' := by
  obtain ⟨w1, ew, hb1, hsz1, hcu⟩ := box_cust w kd dm pt rt sz st ru hd
  obtain ⟨c0, c1, c2, c3, c4, c5, c6, c7⟩ := hcu
  have Hew := Lib.hid ew
  have l0 : w.heap.size < w1.heap.size := by omega
  obtain ⟨R, hR⟩ : ∃ R, R = (if sz - there < 0 then 0 else sz - there) := ⟨_, rfl⟩
  obtain ⟨C, hC⟩ : ∃ C, C = (if cap < 0 then 0 else cap) := ⟨_, rfl⟩
  have hm : mostI sz ru there cap = if R ≤ C then R else if ru = 1 then 0 else C := by
    unfold mostI
    rw [hR, hC]
    split <;> split <;> (try split) <;> (try split) <;> (try split) <;> (try split) <;> omega
  have Hm := Lib.hid hm
  clear ew hm
  by_cases h1 : sz - there < 0
  · rw [if_pos h1] at hR
    have h1' : decide (sz - there < 0) = true := by simpa using h1
    subst hR
    by_cases h2 : cap < 0
    · rw [if_pos h2] at hC
      have h2' : decide (cap < 0) = true := by simpa using h2
      subst hC
      clear h1 h2
      go_enter Tryz.func108, Tryz.ntmps108
      go_wp2_with fail
      rw [Hew.out]
      go_wp2_with fail
      go_ret
      exact ⟨ret_int (by rw [Hm.out]; rfl), hb1⟩
    · rw [if_neg h2] at hC
      have h2' : decide (cap < 0) = false := by simpa using h2
      subst hC
      have h3 : decide ((0 : Int) ≤ C) = true := by simp; omega
      have hC0 : 0 ≤ C := by omega
      clear h1 h2
      go_enter Tryz.func108, Tryz.ntmps108
      go_wp2_with fail
      rw [Hew.out]
      go_wp2_with fail
      go_ret
      exact ⟨ret_int (by rw [Hm.out, if_pos hC0]), hb1⟩
  · rw [if_neg h1] at hR
    have h1' : decide (sz - there < 0) = false := by simpa using h1
    have Hr := Lib.hid hR
    have hcc : ∃ C', C = C' ∧ (cap < 0 ∧ C' = 0 ∨ ¬ cap < 0 ∧ C' = cap) := ⟨C, rfl, by by_cases h2 : cap < 0; rw [if_pos h2] at hC; exact .inl ⟨h2, hC⟩; rw [if_neg h2] at hC; exact .inr ⟨h2, hC⟩⟩
    obtain ⟨C', rfl, hcc⟩ := hcc
    clear hC h1
    rcases hcc with ⟨h2, hC⟩ | ⟨h2, hC⟩
    · have h2' : decide (cap < 0) = true := by simpa using h2
      subst hC
      by_cases h3 : R ≤ 0
      · have h3' : decide (sz - there ≤ 0) = true := by rw [← Hr.out]; simpa using h3
        have Hm2 : Hid (mostI sz ru there cap = R) := Lib.hid (by rw [Hm.out, if_pos h3])
        clear h2 h3 hR
        go_enter Tryz.func108, Tryz.ntmps108
        go_wp2_with fail
        rw [Hew.out]
        go_wp2_with fail
        go_ret
        exact ⟨ret_int (by rw [Hm2.out, Hr.out]), hb1⟩
      · have h3' : decide (sz - there ≤ 0) = false := by rw [← Hr.out]; simpa using h3
        have Hm2 : Hid (mostI sz ru there cap = 0) := Lib.hid (by rw [Hm.out, if_neg h3]; split <;> rfl)
        clear h2 h3 hR
        by_cases h4 : ru = 1
        · have h4' : (ru == 1) = true := by simpa using h4
          clear h4
          go_enter Tryz.func108, Tryz.ntmps108
          go_wp2_with fail
          rw [Hew.out]
          go_wp2_with fail
          go_ret
          exact ⟨ret_int Hm2.out.symm, hb1⟩
        · have h4' : (ru == 1) = false := by simpa using h4
          clear h4
          go_enter Tryz.func108, Tryz.ntmps108
          go_wp2_with fail
          rw [Hew.out]
          go_wp2_with fail
          go_ret
          exact ⟨ret_int Hm2.out.symm, hb1⟩
    · have h2' : decide (cap < 0) = false := by simpa using h2
      subst hC
      by_cases h3 : R ≤ C
      · have h3' : decide (sz - there ≤ C) = true := by rw [← Hr.out]; simpa using h3
        have Hm2 : Hid (mostI sz ru there C = R) := Lib.hid (by rw [Hm.out, if_pos h3])
        clear h2 h3 hR
        go_enter Tryz.func108, Tryz.ntmps108
        go_wp2_with fail
        rw [Hew.out]
        go_wp2_with fail
        go_ret
        exact ⟨ret_int (by rw [Hm2.out, Hr.out]), hb1⟩
      · have h3' : decide (sz - there ≤ C) = false := by rw [← Hr.out]; simpa using h3
        by_cases h4 : ru = 1
        · have h4' : (ru == 1) = true := by simpa using h4
          have Hm2 : Hid (mostI sz ru there C = 0) := Lib.hid (by rw [Hm.out, if_neg h3, if_pos h4])
          clear h2 h3 hR h4
          go_enter Tryz.func108, Tryz.ntmps108
          go_wp2_with fail
          rw [Hew.out]
          go_wp2_with fail
          go_ret
          exact ⟨ret_int Hm2.out.symm, hb1⟩
        · have h4' : (ru == 1) = false := by simpa using h4
          have Hm2 : Hid (mostI sz ru there C = C) := Lib.hid (by rw [Hm.out, if_neg h3, if_neg h4])
          clear h2 h3 hR h4
          go_enter Tryz.func108, Tryz.ntmps108
          go_wp2_with fail
          rw [Hew.out]
          go_wp2_with fail
          go_ret
          exact ⟨ret_int Hm2.out.symm, hb1⟩

/-- A number that is captured. -/
def IsNum (w : World) (g : Nat) (x : Int) : Prop := w.cell? ⟨g, 0, none⟩ = some (.int .i64 x)
theorem IsNum.below {w w' : World} {g : Nat} {x : Int} (h : IsNum w g x) (hb : Below w.heap.size w w') : IsNum w' g x := cell_below hb h
end

section
open Go.RowKit
set_option linter.unusedVariables false
set_option maxRecDepth 100000

set_option maxHeartbeats 800000 in
theorem late1_is (kd dm : Int) (pt : Value) (rt sz st ru hd : Int) (gc gk : Nat) (there cap : Int) (w : World) (hc : IsCust w gc kd dm pt rt sz st ru hd) (hk : IsNum w gk cap) (hs0 : 0 ≤ sz) (hs1 : sz ≤ 4294967296) (ht0 : -9007199254740992 ≤ there) (ht1 : there ≤ 9007199254740992) :
    Calls Tryz.prog 132 #[.int .i64 there, .pointer (some ⟨gc, 0, none⟩), .pointer (some ⟨gk, 0, none⟩)] w fun e w' => e = .returned (.int .i64 (bringI true sz ru rt cap there)) ∧ Below w.heap.size w w' := by
  obtain ⟨c0, c1, c2, c3, c4, c5, c6, c7⟩ := hc
  unfold IsNum at hk
  by_cases h1 : rt ≤ there
  · have Hb : Hid (bringI true sz ru rt cap there = 0) := Lib.hid (by unfold bringI; rw [if_pos ⟨rfl, h1⟩])
    have h1' : decide (rt ≤ there) = true := by simpa using h1
    clear h1
    go_enter Tryz.func132, Tryz.ntmps132
    go_wp2_with fail
    go_ret
    exact ⟨ret_int Hb.out.symm, Below.refl _ _⟩
  by_cases h0 : there < 0
  · have hm : max there 0 = 0 := by omega
    have Hb : Hid (bringI true sz ru rt cap there = mostI sz ru 0 cap) := Lib.hid (by unfold bringI; rw [if_neg (by simp; omega), hm])
    clear hm
    have h1' : decide (rt ≤ there) = false := by simp; omega
    clear h1
    go_enter Tryz.func132, Tryz.ntmps132
    go_wp2_with fail
    refine (most_is kd dm pt rt sz st ru hd 0 cap w hs0 hs1 (by omega) (by omega)).mono ?_
    rintro e w1 ⟨rfl, hb1⟩
    go_wp2_with fail
    go_ret
    exact ⟨ret_int Hb.out.symm, hb1⟩
  · have hm : max there 0 = there := by omega
    have Hb : Hid (bringI true sz ru rt cap there = mostI sz ru there cap) := Lib.hid (by unfold bringI; rw [if_neg (by simp; omega), hm])
    clear hm
    have h1' : decide (rt ≤ there) = false := by simp; omega
    clear h1
    go_enter Tryz.func132, Tryz.ntmps132
    go_wp2_with fail
    refine (most_is kd dm pt rt sz st ru hd there cap w hs0 hs1 (by omega) (by omega)).mono ?_
    rintro e w1 ⟨rfl, hb1⟩
    go_wp2_with fail
    go_ret
    exact ⟨ret_int Hb.out.symm, hb1⟩

set_option maxHeartbeats 800000 in
theorem daily1_is (kd dm : Int) (pt : Value) (rt sz st ru hd : Int) (gc gk : Nat) (there cap : Int) (w : World) (hc : IsCust w gc kd dm pt rt sz st ru hd) (hk : IsNum w gk cap) (hs0 : 0 ≤ sz) (hs1 : sz ≤ 4294967296) (ht0 : -9007199254740992 ≤ there) (ht1 : there ≤ 9007199254740992) :
    Calls Tryz.prog 131 #[.int .i64 there, .pointer (some ⟨gc, 0, none⟩), .pointer (some ⟨gk, 0, none⟩)] w fun e w' => e = .returned (.int .i64 (bringI false sz ru rt cap there)) ∧ Below w.heap.size w w' := by
  obtain ⟨c0, c1, c2, c3, c4, c5, c6, c7⟩ := hc
  unfold IsNum at hk
  by_cases h0 : there < 0
  · have hm : max there 0 = 0 := by omega
    have Hb : Hid (bringI false sz ru rt cap there = mostI sz ru 0 cap) := Lib.hid (by unfold bringI; rw [if_neg (by simp), hm])
    clear hm
    go_enter Tryz.func131, Tryz.ntmps131
    go_wp2_with fail
    refine (most_is kd dm pt rt sz st ru hd 0 cap w hs0 hs1 (by omega) (by omega)).mono ?_
    rintro e w1 ⟨rfl, hb1⟩
    go_wp2_with fail
    go_ret
    exact ⟨ret_int Hb.out.symm, hb1⟩
  · have hm : max there 0 = there := by omega
    have Hb : Hid (bringI false sz ru rt cap there = mostI sz ru there cap) := Lib.hid (by unfold bringI; rw [if_neg (by simp), hm])
    clear hm
    go_enter Tryz.func131, Tryz.ntmps131
    go_wp2_with fail
    refine (most_is kd dm pt rt sz st ru hd there cap w hs0 hs1 (by omega) (by omega)).mono ?_
    rintro e w1 ⟨rfl, hb1⟩
    go_wp2_with fail
    go_ret
    exact ⟨ret_int Hb.out.symm, hb1⟩

/-- What a way answers. -/
def WayOut (late : Bool) (rt sz st ru cap : Int) (n : Nat) (w : World) (e : Ending) (w' : World) : Prop :=
  ∃ v, e = .returned (.tuple #[v, .bool (holdsE st rt sz ru (wayQ late sz ru rt cap st n) == 0)]) ∧ Own w' w.heap.size v (wayQ late sz ru rt cap st n) ∧ Below w.heap.size w w'

set_option maxHeartbeats 1600000 in
theorem wayLate_is (kd dm : Int) (pt : Value) (rt sz st ru hd : Int) (gc gk n : Nat) (cap : Int) (w : World) (hc : IsCust w gc kd dm pt rt sz st ru hd) (hk : IsNum w gk cap) (hs0 : 0 ≤ sz) (hs1 : sz ≤ 1000000) (hst0 : 0 ≤ st) (hst1 : st ≤ 1000000) (hrt0 : 0 ≤ rt) (hrt1 : rt ≤ 1000000) (hn : n ≤ 1000) :
    Calls Tryz.prog 130 #[.agg #[.int .i64 kd, .int .i64 dm, pt, .int .i64 rt, .int .i64 sz, .int .i64 st, .int .i64 ru, .int .i64 hd], .int .i64 n, .func (.func 132) #[] #[.pointer (some ⟨gc, 0, none⟩), .pointer (some ⟨gk, 0, none⟩)]] w (WayOut true rt sz st ru cap n w) := by
  obtain ⟨w1, ew, hb1, hsz1, hcu⟩ := box_cust w kd dm pt rt sz st ru hd
  have Hew := Lib.hid ew
  have Hc := Lib.hid (hc.below hb1)
  have Hk := Lib.hid (hk.below hb1)
  have Hcu := Lib.hid hcu
  have hl0 := hcu.lt
  have hc5 := hcu.c5
  have hsmall : Small st rt sz (wayQ true sz ru rt cap st n) := ⟨hst0, by omega, hrt0, by omega, by rw [wayQ_len]; omega⟩
  have Hsmall := Lib.hid hsmall
  clear ew hc hk hcu hsmall hsz1
  go_enter Tryz.func130, Tryz.ntmps130
  go_wp2_with fail
  rw [Hew.out]
  go_wp2_with fail
  clear hc5
  generalize eg : w.heap.size = g at *
  have Heg := Lib.hid eg
  have Hb1 := Lib.hid hb1
  clear eg hb1
  go_loopw [8, 9, 14] (fun u t i wr => ∃ (k : Nat) (v : Value) (T : Int), k ≤ n ∧ i = .int .i64 k ∧ v = u ∧ t = .int .i64 T ∧ T = wayT true sz ru rt cap st k ∧ Own wr w1.heap.size v (wayQ true sz ru rt cap st k) ∧ Below w1.heap.size w1 wr) (fun _ _ i _ => n - (intOf i).toNat)
  case atStart => exact ⟨0, _, st, Nat.zero_le _, rfl, rfl, rfl, rfl, Own.nil _ _, Below.refl _ _⟩
  case round =>
    obtain ⟨k, v, T, hk, rfl, rfl, rfl, hT, hown, hb⟩ := hrel
    by_cases hlt : k < n
    · have hbd := wayT_bd (late := true) (ru := ru) (cap := cap) (st := st) hs0 hrt0 k
      have hbr := bring_bd (late := true) (ru := ru) (rt := rt) (cap := cap) T hs0
      rw [← hT] at hbd
      have m1 : rt * (k : Int) ≤ 1000000 * 1000 := Int.mul_le_mul hrt1 (by omega) (by omega) (by omega)
      have m2 : sz * (k : Int) ≤ 1000000 * 1000 := Int.mul_le_mul hs1 (by omega) (by omega) (by omega)
      have hT0 : -1000000000 ≤ T := by omega
      have hT1 : T ≤ 1001000000 := by omega
      have Hq := Lib.hid (wayQ_succ (late := true) (sz := sz) (ru := ru) (rt := rt) (cap := cap) (st := st) k)
      have Ht := Lib.hid (wayT_succ (late := true) (sz := sz) (ru := ru) (rt := rt) (cap := cap) (st := st) k)
      rw [← hT] at Hq Ht
      obtain ⟨B, hB⟩ : ∃ B, B = bringI true sz ru rt cap T := ⟨_, rfl⟩
      have Hcall := Lib.hid (late1_is kd dm pt rt sz st ru hd gc gk T cap wr (Hc.out.below hb) (Hk.out.below hb) hs0 (by omega) (by omega) (by omega))
      rw [← hB] at Hcall hbr Hq Ht
      have HT := Lib.hid hT
      obtain ⟨hB0, hB1⟩ := hbr
      clear hT hbd m1 m2 hB
      go_wp2_with fail
      refine Hcall.out.mono ?_
      rintro e w2 ⟨rfl, hb2⟩
      have hbw2 := hb.trans (hb2.mono hb.size)
      have hown2 := hown.below hb2
      have hc3 := (Hcu.out.below hbw2).c3
      clear hb hb2 hown
      go_wp2_with (at_builtin; refine wpList_push rfl _ _ rfl w2 w1.heap.size v (wayQ true sz ru rt cap st k) B rfl rfl hown2 (by rw [wayQ_len]; omega) hbw2.size ?_)
      intro v' w5 hown5 g5 hb5
      rw [← Hq.out] at hown5
      have hb5' := hbw2.trans hb5
      have hc3' := (Hcu.out.below hb5').c3
      clear g5 hb5 hown2 hc3 hbw2
      go_wp2_with fail
      go_roundw
      case rel => exact ⟨k + 1, _, T + B - rt, by omega, by go_num, rfl, by first | rfl | (congr 1; omega), Ht.out.symm, hown5, hb5'⟩
      case measure => simp [intOf]; omega
    · have hkn : k = n := by omega
      subst hkn
      obtain ⟨c0, c1, c2, c3, c4, c5, c6, c7⟩ := Hcu.out.below hb
      have Hh := Lib.hid (holds_is kd dm pt rt sz st ru hd v (wayQ true sz ru rt cap st k) wr hown.ints Hsmall.out)
      have Hb := Lib.hid hb
      have Hown := Lib.hid hown
      have hsz : g ≤ w1.heap.size := by have := Hb1.out.size; rw [Heg.out] at this; exact this
      clear hT hown hb
      go_wp2_with fail
      refine Hh.out.mono ?_
      rintro e w6 ⟨rfl, hb6⟩
      have b6 := Lib.hid (Hb.out.trans (hb6.mono Hb.out.size))
      have o6 := Lib.hid ((Hown.out.below hb6).mono hsz)
      clear hb6 c0 c1 c2 c3 c4 c5 c6 c7
      go_wp2_with fail
      go_ret2
      exact ⟨_, rfl, by rw [Heg.out]; exact o6.out, by rw [Heg.out]; exact Hb1.out.trans (b6.out.mono hsz)⟩

set_option maxHeartbeats 1600000 in
theorem wayDaily_is (kd dm : Int) (pt : Value) (rt sz st ru hd : Int) (gc gk n : Nat) (cap : Int) (w : World) (hc : IsCust w gc kd dm pt rt sz st ru hd) (hk : IsNum w gk cap) (hs0 : 0 ≤ sz) (hs1 : sz ≤ 1000000) (hst0 : 0 ≤ st) (hst1 : st ≤ 1000000) (hrt0 : 0 ≤ rt) (hrt1 : rt ≤ 1000000) (hn : n ≤ 1000) :
    Calls Tryz.prog 130 #[.agg #[.int .i64 kd, .int .i64 dm, pt, .int .i64 rt, .int .i64 sz, .int .i64 st, .int .i64 ru, .int .i64 hd], .int .i64 n, .func (.func 131) #[] #[.pointer (some ⟨gc, 0, none⟩), .pointer (some ⟨gk, 0, none⟩)]] w (WayOut false rt sz st ru cap n w) := by
  obtain ⟨w1, ew, hb1, hsz1, hcu⟩ := box_cust w kd dm pt rt sz st ru hd
  have Hew := Lib.hid ew
  have Hc := Lib.hid (hc.below hb1)
  have Hk := Lib.hid (hk.below hb1)
  have Hcu := Lib.hid hcu
  have hl0 := hcu.lt
  have hc5 := hcu.c5
  have hsmall : Small st rt sz (wayQ false sz ru rt cap st n) := ⟨hst0, by omega, hrt0, by omega, by rw [wayQ_len]; omega⟩
  have Hsmall := Lib.hid hsmall
  clear ew hc hk hcu hsmall hsz1
  go_enter Tryz.func130, Tryz.ntmps130
  go_wp2_with fail
  rw [Hew.out]
  go_wp2_with fail
  clear hc5
  generalize eg : w.heap.size = g at *
  have Heg := Lib.hid eg
  have Hb1 := Lib.hid hb1
  clear eg hb1
  go_loopw [8, 9, 14] (fun u t i wr => ∃ (k : Nat) (v : Value) (T : Int), k ≤ n ∧ i = .int .i64 k ∧ v = u ∧ t = .int .i64 T ∧ T = wayT false sz ru rt cap st k ∧ Own wr w1.heap.size v (wayQ false sz ru rt cap st k) ∧ Below w1.heap.size w1 wr) (fun _ _ i _ => n - (intOf i).toNat)
  case atStart => exact ⟨0, _, st, Nat.zero_le _, rfl, rfl, rfl, rfl, Own.nil _ _, Below.refl _ _⟩
  case round =>
    obtain ⟨k, v, T, hk, rfl, rfl, rfl, hT, hown, hb⟩ := hrel
    by_cases hlt : k < n
    · have hbd := wayT_bd (late := false) (ru := ru) (cap := cap) (st := st) hs0 hrt0 k
      have hbr := bring_bd (late := false) (ru := ru) (rt := rt) (cap := cap) T hs0
      rw [← hT] at hbd
      have m1 : rt * (k : Int) ≤ 1000000 * 1000 := Int.mul_le_mul hrt1 (by omega) (by omega) (by omega)
      have m2 : sz * (k : Int) ≤ 1000000 * 1000 := Int.mul_le_mul hs1 (by omega) (by omega) (by omega)
      have hT0 : -1000000000 ≤ T := by omega
      have hT1 : T ≤ 1001000000 := by omega
      have Hq := Lib.hid (wayQ_succ (late := false) (sz := sz) (ru := ru) (rt := rt) (cap := cap) (st := st) k)
      have Ht := Lib.hid (wayT_succ (late := false) (sz := sz) (ru := ru) (rt := rt) (cap := cap) (st := st) k)
      rw [← hT] at Hq Ht
      obtain ⟨B, hB⟩ : ∃ B, B = bringI false sz ru rt cap T := ⟨_, rfl⟩
      have Hcall := Lib.hid (daily1_is kd dm pt rt sz st ru hd gc gk T cap wr (Hc.out.below hb) (Hk.out.below hb) hs0 (by omega) (by omega) (by omega))
      rw [← hB] at Hcall hbr Hq Ht
      have HT := Lib.hid hT
      obtain ⟨hB0, hB1⟩ := hbr
      clear hT hbd m1 m2 hB
      go_wp2_with fail
      refine Hcall.out.mono ?_
      rintro e w2 ⟨rfl, hb2⟩
      have hbw2 := hb.trans (hb2.mono hb.size)
      have hown2 := hown.below hb2
      have hc3 := (Hcu.out.below hbw2).c3
      clear hb hb2 hown
      go_wp2_with (at_builtin; refine wpList_push rfl _ _ rfl w2 w1.heap.size v (wayQ false sz ru rt cap st k) B rfl rfl hown2 (by rw [wayQ_len]; omega) hbw2.size ?_)
      intro v' w5 hown5 g5 hb5
      rw [← Hq.out] at hown5
      have hb5' := hbw2.trans hb5
      have hc3' := (Hcu.out.below hb5').c3
      clear g5 hb5 hown2 hc3 hbw2
      go_wp2_with fail
      go_roundw
      case rel => exact ⟨k + 1, _, T + B - rt, by omega, by go_num, rfl, by first | rfl | (congr 1; omega), Ht.out.symm, hown5, hb5'⟩
      case measure => simp [intOf]; omega
    · have hkn : k = n := by omega
      subst hkn
      obtain ⟨c0, c1, c2, c3, c4, c5, c6, c7⟩ := Hcu.out.below hb
      have Hh := Lib.hid (holds_is kd dm pt rt sz st ru hd v (wayQ false sz ru rt cap st k) wr hown.ints Hsmall.out)
      have Hb := Lib.hid hb
      have Hown := Lib.hid hown
      have hsz : g ≤ w1.heap.size := by have := Hb1.out.size; rw [Heg.out] at this; exact this
      clear hT hown hb
      go_wp2_with fail
      refine Hh.out.mono ?_
      rintro e w6 ⟨rfl, hb6⟩
      have b6 := Lib.hid (Hb.out.trans (hb6.mono Hb.out.size))
      have o6 := Lib.hid ((Hown.out.below hb6).mono hsz)
      clear hb6 c0 c1 c2 c3 c4 c5 c6 c7
      go_wp2_with fail
      go_ret2
      exact ⟨_, rfl, by rw [Heg.out]; exact o6.out, by rw [Heg.out]; exact Hb1.out.trans (b6.out.mono hsz)⟩

set_option maxHeartbeats 800000 in
theorem late_is (kd dm : Int) (pt : Value) (rt sz st ru hd : Int) (n : Nat) (cap : Int) (w : World) (hs0 : 0 ≤ sz) (hs1 : sz ≤ 1000000) (hst0 : 0 ≤ st) (hst1 : st ≤ 1000000) (hrt0 : 0 ≤ rt) (hrt1 : rt ≤ 1000000) (hn : n ≤ 1000) :
    Calls Tryz.prog 122 #[.agg #[.int .i64 kd, .int .i64 dm, pt, .int .i64 rt, .int .i64 sz, .int .i64 st, .int .i64 ru, .int .i64 hd], .int .i64 n, .int .i64 cap] w (WayOut true rt sz st ru cap n w) := by
  obtain ⟨w1, ew, hb1, hsz1, hcu⟩ := box_cust w kd dm pt rt sz st ru hd
  obtain ⟨w2, ew2⟩ : ∃ w2, w1.alloc (.cells #[.int .i64 cap] 3) = w2 := ⟨_, rfl⟩
  have hb2 : Below w1.heap.size w1 w2 := by rw [← ew2]; exact (Below.refl _ _).alloc (Nat.le_refl _) _
  have hk : IsNum w2 w1.heap.size cap := by unfold IsNum; rw [← ew2]; simp [go_sem]
  have hcu2 := hcu.below hb2
  have Hc := Lib.hid hcu2
  obtain ⟨c0, c1, c2, c3, c4, c5, c6, c7⟩ := hcu2
  have Hb := Lib.hid (hb1.trans (hb2.mono hb1.size))
  have hk' : IsNum w2 (w.heap.size + 1) cap := by rw [← hsz1]; exact hk
  have Hk := Lib.hid hk'
  have Hew := Lib.hid ew
  have Hew2 := Lib.hid ew2
  have hl0 : w.heap.size < w2.heap.size := World.block_lt_of_cell? w2 _ c0
  have hle := Lib.hid (hb1.trans (hb2.mono hb1.size)).size
  clear ew ew2 hcu hb1 hb2 hk hk' hsz1
  go_enter Tryz.func122, Tryz.ntmps122
  go_wp2_with fail
  rw [Hew.out, Hew2.out]
  go_wp2_with fail
  refine (wayLate_is kd dm pt rt sz st ru hd w.heap.size (w.heap.size + 1) n cap w2 Hc.out Hk.out hs0 hs1 hst0 hst1 hrt0 hrt1 hn).mono ?_
  rintro e w3 ⟨v, rfl, hown, hb3⟩
  have o3 := Lib.hid (hown.mono hle.out)
  have b3 := Lib.hid (Hb.out.trans (hb3.mono hle.out))
  clear hown hb3 c0 c1 c2 c3 c4 c5 c6 c7
  obtain ⟨OKB, hO⟩ : ∃ b, b = (holdsE st rt sz ru (wayQ true sz ru rt cap st n) == 0) := ⟨_, rfl⟩
  rw [← hO]
  have HO := Lib.hid hO
  clear hO
  go_wp2_with fail
  go_ret2
  exact ⟨v, by rw [← HO.out]; rfl, o3.out, b3.out⟩

set_option maxHeartbeats 800000 in
theorem daily_is (kd dm : Int) (pt : Value) (rt sz st ru hd : Int) (n : Nat) (cap : Int) (w : World) (hs0 : 0 ≤ sz) (hs1 : sz ≤ 1000000) (hst0 : 0 ≤ st) (hst1 : st ≤ 1000000) (hrt0 : 0 ≤ rt) (hrt1 : rt ≤ 1000000) (hn : n ≤ 1000) :
    Calls Tryz.prog 120 #[.agg #[.int .i64 kd, .int .i64 dm, pt, .int .i64 rt, .int .i64 sz, .int .i64 st, .int .i64 ru, .int .i64 hd], .int .i64 n, .int .i64 cap] w (WayOut false rt sz st ru cap n w) := by
  obtain ⟨w1, ew, hb1, hsz1, hcu⟩ := box_cust w kd dm pt rt sz st ru hd
  obtain ⟨w2, ew2⟩ : ∃ w2, w1.alloc (.cells #[.int .i64 cap] 3) = w2 := ⟨_, rfl⟩
  have hb2 : Below w1.heap.size w1 w2 := by rw [← ew2]; exact (Below.refl _ _).alloc (Nat.le_refl _) _
  have hk : IsNum w2 w1.heap.size cap := by unfold IsNum; rw [← ew2]; simp [go_sem]
  have hcu2 := hcu.below hb2
  have Hc := Lib.hid hcu2
  obtain ⟨c0, c1, c2, c3, c4, c5, c6, c7⟩ := hcu2
  have Hb := Lib.hid (hb1.trans (hb2.mono hb1.size))
  have hk' : IsNum w2 (w.heap.size + 1) cap := by rw [← hsz1]; exact hk
  have Hk := Lib.hid hk'
  have Hew := Lib.hid ew
  have Hew2 := Lib.hid ew2
  have hl0 : w.heap.size < w2.heap.size := World.block_lt_of_cell? w2 _ c0
  have hle := Lib.hid (hb1.trans (hb2.mono hb1.size)).size
  clear ew ew2 hcu hb1 hb2 hk hk' hsz1
  go_enter Tryz.func120, Tryz.ntmps120
  go_wp2_with fail
  rw [Hew.out, Hew2.out]
  go_wp2_with fail
  refine (wayDaily_is kd dm pt rt sz st ru hd w.heap.size (w.heap.size + 1) n cap w2 Hc.out Hk.out hs0 hs1 hst0 hst1 hrt0 hrt1 hn).mono ?_
  rintro e w3 ⟨v, rfl, hown, hb3⟩
  have o3 := Lib.hid (hown.mono hle.out)
  have b3 := Lib.hid (Hb.out.trans (hb3.mono hle.out))
  clear hown hb3 c0 c1 c2 c3 c4 c5 c6 c7
  obtain ⟨OKB, hO⟩ : ∃ b, b = (holdsE st rt sz ru (wayQ false sz ru rt cap st n) == 0) := ⟨_, rfl⟩
  rw [← hO]
  have HO := Lib.hid hO
  clear hO
  go_wp2_with fail
  go_ret2
  exact ⟨v, by rw [← HO.out]; rfl, o3.out, b3.out⟩
end

section
open Go.RowKit
set_option linter.unusedVariables false
set_option maxRecDepth 100000

theorem fillNow_succ (st sz ru rt cap : Int) (S d j : Nat) : fillNow st sz ru rt cap S d (j + 1) = (fillNow st sz ru rt cap S d j || fillLast st sz ru rt cap S d ((j : Int) - 1)) := any_succ _ j
theorem endNow_succ (st sz rt : Int) (S n j : Nat) : endNow st sz rt S n (j + 1) = (endNow st sz rt S n j || okLast st sz rt S n ((j : Int) - 1)) := any_succ _ j
theorem fillNow_le (st sz ru rt cap : Int) (S d j k : Nat) (hjk : j ≤ k) (h : fillNow st sz ru rt cap S d j = true) : fillNow st sz ru rt cap S d k = true := by
  unfold fillNow at *
  rw [List.any_eq_true] at *
  obtain ⟨i, hi, hf⟩ := h
  refine ⟨i, ?_, hf⟩
  simp at hi ⊢
  omega
theorem endNow_le (st sz rt : Int) (S n j k : Nat) (hjk : j ≤ k) (h : endNow st sz rt S n j = true) : endNow st sz rt S n k = true := by
  unfold endNow at *
  rw [List.any_eq_true] at *
  obtain ⟨i, hi, hf⟩ := h
  refine ⟨i, ?_, hf⟩
  simp at hi ⊢
  omega
theorem fillSet_yes {st sz ru rt cap : Int} {d j : Nat} (hj : j ≤ d) (h : fillLast st sz ru rt cap (fillSet st sz ru rt cap d) d ((j : Int) - 1) = true) : fillSet st sz ru rt cap (d + 1) = withN (fillSet st sz ru rt cap d) d := by
  rw [fillSet, if_pos]
  apply fillNow_le st sz ru rt cap _ d (j + 1) (d + 1) (by omega)
  rw [fillNow_succ, h, Bool.or_true]
theorem fillSet_no {st sz ru rt cap : Int} {d : Nat} (h : fillNow st sz ru rt cap (fillSet st sz ru rt cap d) d (d + 1) = false) : fillSet st sz ru rt cap (d + 1) = fillSet st sz ru rt cap d := by
  rw [fillSet, if_neg (by rw [h]; simp)]

/-- What a place of a fill says: is it to be passed over, and what is there. -/
theorem okLast_none (st sz rt : Int) (S d : Nat) : okLast st sz rt S d (((0 : Nat) : Int) - 1) = decide (0 ≤ st - rt * d) ∧ thereI st sz rt d (((0 : Nat) : Int) - 1) = st - rt * d := by
  unfold okLast thereI
  simp
theorem okLast_some (st sz rt : Int) (S d i : Nat) : okLast st sz rt S d (((i + 1 : Nat) : Int) - 1) = (decide (0 ≤ sz - rt * ((d : Int) - i)) && S.testBit i) ∧ thereI st sz rt d (((i + 1 : Nat) : Int) - 1) = sz - rt * ((d : Int) - i) := by
  have e : ((i + 1 : Nat) : Int) - 1 = (i : Int) := by omega
  unfold okLast thereI
  rw [e, if_pos (by omega), Int.toNat_natCast]
  have : ¬ (i : Int) < 0 := by omega
  simp [this]

def FillsOut (w : World) (b : Bool) (e : Ending) (w' : World) : Prop := e = .returned (.bool b) ∧ Below w.heap.size w w'
end

section
open Go.RowKit
set_option linter.unusedVariables false
set_option maxRecDepth 100000

def canB (st sz ru rt cap : Int) (n : Nat) : Bool := if ru = 1 then fillsB st sz 1 rt cap n else holdsE st rt sz ru (wayQ false sz ru rt cap st n) == 0

theorem live_late : wayQ true 6 1 2 9 3 3 = [0, 5, 0] := by decide +kernel
theorem live_holds : (holdsE 3 2 6 1 [0, 5, 0] == 0) = true := by decide +kernel
theorem live_can : canB 3 6 1 2 9 3 = true := by decide +kernel
end

section
open Go.RowKit
set_option linter.unusedVariables false
set_option maxRecDepth 100000

theorem cust_keep {w0 w w' : World} {g : Nat} {v0 v1 v2 v3 v4 v5 v6 v7 : Value}
    (h : w.cell? ⟨g, 0, none⟩ = some v0 ∧ w.cell? ⟨g, 1, none⟩ = some v1 ∧ w.cell? ⟨g, 2, none⟩ = some v2 ∧ w.cell? ⟨g, 3, none⟩ = some v3 ∧ w.cell? ⟨g, 4, none⟩ = some v4 ∧ w.cell? ⟨g, 5, none⟩ = some v5 ∧ w.cell? ⟨g, 6, none⟩ = some v6 ∧ w.cell? ⟨g, 7, none⟩ = some v7 ∧ Below w0.heap.size w0 w) (hb : Below w.heap.size w w') :
    w'.cell? ⟨g, 0, none⟩ = some v0 ∧ w'.cell? ⟨g, 1, none⟩ = some v1 ∧ w'.cell? ⟨g, 2, none⟩ = some v2 ∧ w'.cell? ⟨g, 3, none⟩ = some v3 ∧ w'.cell? ⟨g, 4, none⟩ = some v4 ∧ w'.cell? ⟨g, 5, none⟩ = some v5 ∧ w'.cell? ⟨g, 6, none⟩ = some v6 ∧ w'.cell? ⟨g, 7, none⟩ = some v7 ∧ Below w0.heap.size w0 w' := by
  obtain ⟨h0, h1, h2, h3, h4, h5, h6, h7, h8⟩ := h
  exact ⟨cell_below hb h0, cell_below hb h1, cell_below hb h2, cell_below hb h3, cell_below hb h4, cell_below hb h5, cell_below hb h6, cell_below hb h7, h8.trans (hb.mono h8.size)⟩
theorem drew_below (w : World) : Below w.heap.size w w.drew := below_drewN (Below.refl _ w) 1
theorem below_two {a b c : World} (h : Below a.heap.size a b) (k : Below b.heap.size b c) : Below a.heap.size a c := h.trans (k.mono h.size)

/-- A tank that may be: what tranterref09.Tank answers of any customer. -/
theorem tank_small (rt sz st ru : Int) : 0 ≤ rnd rt 0 12 ∧ rnd rt 0 12 ≤ 12 ∧ 1 ≤ rnd sz 1 40 ∧ rnd sz 1 40 ≤ 40 ∧ 0 ≤ rnd st 0 (rnd sz 1 40) ∧ rnd st 0 (rnd sz 1 40) ≤ rnd sz 1 40 ∧ (rnd ru 1 2 = 1 ∨ rnd ru 1 2 = 2) := by
  have h1 := rnd_bd rt 0 12 (by decide)
  have h2 := rnd_bd sz 1 40 (by decide)
  have h3 := rnd_bd st 0 (rnd sz 1 40) (by omega)
  have h4 := rnd_bd ru 1 2 (by decide)
  omega
end

section
open Go.RowKit
set_option linter.unusedVariables false
set_option maxRecDepth 100000

theorem ceilE_pos (a b : Int) (ha : 0 < a) (hb : 0 < b) : ceilE a b = (ceilI a b, true) := by
  have hn : noQuo a b = false := by
    unfold noQuo
    rw [beq_eq_false_iff_ne.2 (show b ≠ 0 by omega), beq_eq_false_iff_ne.2 (show a ≠ -9223372036854775808 by omega)]
    rfl
  unfold ceilE ceilI
  rw [hn, if_neg (by simp), decide_eq_false (show ¬ a < 0 by omega), decide_eq_false (show ¬ b < 0 by omega)]
  rw [Int.tdiv_eq_ediv_of_nonneg (by omega), Int.tmod_eq_emod_of_nonneg (by omega)]
  have h1 := Int.mul_ediv_add_emod a b
  have h2 := Int.emod_nonneg a (show b ≠ 0 by omega)
  have h3 := Int.emod_lt_of_pos a hb
  have h4 : a + b - 1 = (a % b + b - 1) + b * (a / b) := by omega
  rw [h4, Int.add_mul_ediv_left _ _ (show b ≠ 0 by omega)]
  by_cases h0 : a % b = 0
  · have h6 : (b - 1) / b = 0 := Int.ediv_eq_zero_of_lt (by omega) (by omega)
    rw [h0, show (0 : Int) + b - 1 = b - 1 by omega, h6]
    simp
  · have h5 : (a % b + b - 1) / b = 1 := by
      rw [show a % b + b - 1 = (a % b - 1) + b * 1 by omega, Int.add_mul_ediv_left _ _ (show b ≠ 0 by omega), Int.ediv_eq_zero_of_lt (by omega) (by omega)]
      rfl
    rw [h5]
    simp [h0]
    omega

set_option maxHeartbeats 800000 in
theorem wants_is (kd dm : Int) (pt : Value) (rt sz st ru hd : Int) (n : Nat) (w : World) (hst0 : 0 ≤ st) (hst1 : st ≤ 1000000) (hrt0 : 0 ≤ rt) (hrt1 : rt ≤ 1000000) (hn : n ≤ 64) :
    Calls Tryz.prog 55 #[.agg #[.int .i64 kd, .int .i64 dm, pt, .int .i64 rt, .int .i64 sz, .int .i64 st, .int .i64 ru, .int .i64 hd], .int .i64 n] w fun e w' =>
      e = .returned (.int .i64 (wantsI rt st n)) ∧ Below w.heap.size w w' := by
  obtain ⟨w1, ew, hb1, hsz1, hcu⟩ := box_cust w kd dm pt rt sz st ru hd
  obtain ⟨c0, c1, c2, c3, c4, c5, c6, c7⟩ := hcu
  have Hew := Lib.hid ew
  have l0 : w.heap.size < w1.heap.size := by omega
  obtain ⟨M, hM⟩ : ∃ M, M = rt * (n : Int) := ⟨_, rfl⟩
  have hM0 : 0 ≤ M := by rw [hM]; exact Int.mul_nonneg hrt0 (by omega)
  have hM1 : M ≤ 64000000 := by rw [hM]; exact Int.le_trans (Int.mul_le_mul hrt1 (show (n : Int) ≤ 64 by omega) (by omega) (by omega)) (by decide)
  have hM' : rt * (n : Int) = M := hM.symm
  have hw : wantsI rt st n = max (M - st) 0 := by unfold wantsI; rw [hM]
  clear ew hsz1 hM
  by_cases h : M - st < 0
  · have Hw : Hid (wantsI rt st n = 0) := Lib.hid (by rw [hw]; omega)
    have h' : decide (M - st < 0) = true := by simpa using h
    clear hw
    go_enter Tryz.func55, Tryz.ntmps55
    go_wp2_with fail
    rw [Hew.out]
    go_wp2_with fail
    go_ret
    exact ⟨ret_int Hw.out.symm, hb1⟩
  · have Hw : Hid (wantsI rt st n = M - st) := Lib.hid (by rw [hw]; omega)
    have h' : decide (M - st < 0) = false := by simpa using h
    clear hw
    go_enter Tryz.func55, Tryz.ntmps55
    go_wp2_with fail
    rw [Hew.out]
    go_wp2_with fail
    go_ret
    exact ⟨ret_int Hw.out.symm, hb1⟩

set_option maxRecDepth 100000 in
set_option maxHeartbeats 3200000 in
theorem forced_is (dm : Int) (pt : Value) (rt sz st ru hd : Int) (n : Nat) (cap : Int) (w : World) (hs0 : 1 ≤ sz) (hs1 : sz ≤ 1000000) (hst0 : 0 ≤ st) (hst1 : st ≤ 1000000) (hrt0 : 0 ≤ rt) (hrt1 : rt ≤ 1000000) (hn : n ≤ 64) :
    Calls Tryz.prog 54 #[.agg #[.int .i64 2, .int .i64 dm, pt, .int .i64 rt, .int .i64 sz, .int .i64 st, .int .i64 ru, .int .i64 hd], .int .i64 n, .int .i64 cap] w fun e w' =>
      e = .returned (.int .i64 (forcedI rt st sz n cap)) ∧ Below w.heap.size w w' := by
  obtain ⟨w1, ew, hb1, hsz1, hcu⟩ := box_cust w 2 dm pt rt sz st ru hd
  have Hew := Lib.hid ew
  have Hcu := Lib.hid hcu
  obtain ⟨c0, c1, c2, c3, c4, c5, c6, c7⟩ := hcu
  have l0 : w.heap.size < w1.heap.size := World.block_lt_of_cell? w1 _ c0
  have Hwa := Lib.hid (wants_is 2 dm pt rt sz st ru hd n w1 hst0 hst1 hrt0 hrt1 hn)
  have hwb : 0 ≤ wantsI rt st n ∧ wantsI rt st n ≤ 64000000 := by
    have : rt * (n : Int) ≤ 64000000 := Int.le_trans (Int.mul_le_mul hrt1 (show (n : Int) ≤ 64 by omega) (by omega) (by omega)) (by decide)
    unfold wantsI
    omega
  have hf : forcedI rt st sz n cap = if wantsI rt st n = 0 then 0 else if min cap sz < 1 then (n : Int) else min (ceilI (wantsI rt st n) (min cap sz)) n := rfl
  generalize wantsI rt st n = WA at *
  obtain ⟨hw0, hw1⟩ := hwb
  have Hf := Lib.hid hf
  have Hb1 := Lib.hid hb1
  clear ew hsz1 hf hb1
  go_enter Tryz.func54, Tryz.ntmps54
  go_wp2_with fail
  rw [Hew.out]
  go_wp2_with fail
  refine Hwa.out.mono ?_
  rintro e w2 ⟨rfl, hb2⟩
  have b2 := Lib.hid (Hb1.out.trans (hb2.mono Hb1.out.size))
  have hcu2 := Hcu.out.below hb2
  clear hb2 c0 c1 c2 c3 c4 c5 c6 c7
  obtain ⟨c0, c1, c2, c3, c4, c5, c6, c7⟩ := hcu2
  by_cases h0 : WA = 0
  · have hr := Hf.out
    rw [if_pos h0] at hr
    have Hr := Lib.hid hr
    have h0' : (WA == 0) = true := by simpa using h0
    clear h0 hr
    go_wp2_with fail
    go_ret
    exact ⟨ret_int Hr.out.symm, b2.out⟩
  · have h0' : (WA == 0) = false := by simpa using h0
    have hr := Hf.out
    rw [if_neg h0] at hr
    have hm : ∃ m, min cap sz = m ∧ ((cap ≤ sz ∧ m = cap) ∨ (sz < cap ∧ m = sz)) := ⟨_, rfl, by omega⟩
    obtain ⟨m, hm, hm2⟩ := hm
    rw [hm] at hr
    by_cases h1 : m < 1
    · rw [if_pos h1] at hr
      have Hr := Lib.hid hr
      have h1' : decide (m < 1) = true := by simpa using h1
      rcases hm2 with ⟨g1, rfl⟩ | ⟨g1, rfl⟩
      · have g3 : ¬ sz < m := by omega
        clear h0 hr hm
        go_wp2_with fail
        go_ret
        exact ⟨ret_int Hr.out.symm, b2.out⟩
      · omega
    · rw [if_neg h1] at hr
      have h1' : decide (m < 1) = false := by simpa using h1
      have hc := ceil_is WA m w2 (fitsI_iff.2 (by omega))
      rw [ceilE_pos WA m (by omega) (by omega)] at hc
      have Hc := Lib.hid hc
      have hV : ∃ V, V = ceilI WA m := ⟨_, rfl⟩
      obtain ⟨V, hV⟩ := hV
      rw [← hV] at hr Hc
      have hfin : ∃ F, min V (n : Int) = F ∧ ((V ≤ (n : Int) ∧ F = V) ∨ ((n : Int) < V ∧ F = (n : Int))) := ⟨_, rfl, by omega⟩
      obtain ⟨F, hF, hF2⟩ := hfin
      rw [hF] at hr
      have Hr := Lib.hid hr
      have HF2 := Lib.hid hF2
      have HF := Lib.hid hF
      clear hr hc hV hF hF2 h0
      rcases hm2 with ⟨g1, rfl⟩ | ⟨g1, rfl⟩
      · have g3 : ¬ sz < m := by omega
        have g4 : min m sz = m := by omega
        clear hm
        go_wp2_with fail
        refine Hc.out.mono ?_
        rintro e w' ⟨rfl, rfl⟩
        rcases HF2.out with ⟨f1, rfl⟩ | ⟨f1, rfl⟩
        · go_wp2_with fail
          go_ret
          exact ⟨ret_int (by rw [Hr.out]), b2.out⟩
        · go_wp2_with fail
          go_ret
          exact ⟨ret_int (by rw [Hr.out]), b2.out⟩
      · have g4 : min cap m = m := by omega
        clear hm
        go_wp2_with fail
        refine Hc.out.mono ?_
        rintro e w' ⟨rfl, rfl⟩
        rcases HF2.out with ⟨f1, rfl⟩ | ⟨f1, rfl⟩
        · go_wp2_with fail
          go_ret
          exact ⟨ret_int (by rw [Hr.out]), b2.out⟩
        · go_wp2_with fail
          go_ret
          exact ⟨ret_int (by rw [Hr.out]), b2.out⟩

/-- What could be brought can be with a greater capacity. -/
theorem can_wider (S Z U R a b : Int) (n : Nat) (hn : n ≤ 64) (r0 : 0 ≤ R) (z1 : Z ≤ 2147483648) (s0 : 0 ≤ S) (s1 : S ≤ Z) (hu : U = 1 ∨ U = 2) (ha : 0 ≤ a) (hab : a ≤ b) (h : canB S Z U R a n = true) : canB S Z U R b n = true := by
  unfold canB at *
  rcases hu with rfl | rfl
  · rw [if_pos rfl] at *
    exact fillsB_mono S Z R a b n hn ha hab h
  · rw [if_neg (by decide)] at *
    rw [beq_iff_eq, holdsE_zero] at *
    have hok := nightsE_zero h
    rw [wayQ_len] at hok
    have hl := daily_wider Z R a b S n ha hab s0 s1 r0 hok
    have hq2 := way_okQ (late := false) (ru := 2) (rt := R) (cap := b) (st := S) (show 0 ≤ Z by omega) z1 n
    rw [nightsE_ok (st := S) (rt := R) (sz := Z) hq2 (by rw [wayQ_len]; intro j hj; exact (hl j (by omega)).2.2.2 hj)]
end

end Go.Proofs.YtnhcgpkcmfelkaaGreat
