/-
  My own work: policy.Most, tranterref10.Most, and the closures of the two ways: their contracts.
-/
import Derived.Test.YthilfibgpobcjaaPolicyPl
namespace Go.Proofs.Ythilfibgpobcjaa
open Go.RowKit
set_option linter.unusedVariables false

theorem ret_int {a b : Int} (h : a = b) : Ending.returned (.int .i64 a) = .returned (.int .i64 b) := by rw [h]

set_option maxHeartbeats 800000 in
theorem most_is (kd dm : Int) (pt : Value) (rt sz st ru hd there cap : Int) (w : World) (hs0 : 0 ≤ sz) (hs1 : sz ≤ 4294967296) (ht0 : 0 ≤ there) (ht1 : there ≤ 9007199254740992) :
    Calls Try.prog 34 #[.agg #[.int .i64 kd, .int .i64 dm, pt, .int .i64 rt, .int .i64 sz, .int .i64 st, .int .i64 ru, .int .i64 hd], .int .i64 there, .int .i64 cap] w fun e w' =>
      e = .returned (.int .i64 (mostI sz ru there cap)) ∧ Below w.heap.size w w' := by
  obtain ⟨w1, ew, hb1, hsz1, hcu⟩ := box_cust w kd dm pt rt sz st ru hd
  obtain ⟨c0, c1, c2, c3, c4, c5, c6, c7⟩ := hcu
  have Hew := Lib.hid ew
  have l0 : w.heap.size < w1.heap.size := by omega
  clear ew
  by_cases h1 : sz - there < 1
  · have Hm : Hid (mostI sz ru there cap = 0) := Lib.hid (by unfold mostI; rw [if_pos (.inl h1)])
    have h1' : decide (sz - there < 1) = true := by simpa using h1
    clear h1
    go_enter Try.func34, Try.ntmps34
    go_wp2_with fail
    rw [Hew.out]
    go_wp2_with fail
    go_ret
    exact ⟨ret_int Hm.out.symm, hb1⟩
  have h1' : decide (sz - there < 1) = false := by simpa using h1
  by_cases h2 : cap < 0
  · have Hm : Hid (mostI sz ru there cap = 0) := Lib.hid (by unfold mostI; rw [if_pos (.inr h2)])
    have h2' : decide (cap < 0) = true := by simpa using h2
    clear h1 h2
    go_enter Try.func34, Try.ntmps34
    go_wp2_with fail
    rw [Hew.out]
    go_wp2_with fail
    go_ret
    exact ⟨ret_int Hm.out.symm, hb1⟩
  have h2' : decide (cap < 0) = false := by simpa using h2
  by_cases h3 : sz - there ≤ cap
  · have Hm : Hid (mostI sz ru there cap = sz - there) := Lib.hid (by unfold mostI; rw [if_neg (by omega), if_pos h3])
    have h3' : decide (sz - there ≤ cap) = true := by simpa using h3
    clear h1 h2 h3
    go_enter Try.func34, Try.ntmps34
    go_wp2_with fail
    rw [Hew.out]
    go_wp2_with fail
    go_ret
    exact ⟨ret_int Hm.out.symm, hb1⟩
  have h3' : decide (sz - there ≤ cap) = false := by simpa using h3
  by_cases h4 : ru = 1
  · have Hm : Hid (mostI sz ru there cap = 0) := Lib.hid (by unfold mostI; rw [if_neg (by omega), if_neg h3, if_pos h4])
    have h4' : (ru == 1) = true := by simpa using h4
    clear h1 h2 h3 h4
    go_enter Try.func34, Try.ntmps34
    go_wp2_with fail
    rw [Hew.out]
    go_wp2_with fail
    go_ret
    exact ⟨ret_int Hm.out.symm, hb1⟩
  · have Hm : Hid (mostI sz ru there cap = cap) := Lib.hid (by unfold mostI; rw [if_neg (by omega), if_neg h3, if_neg h4])
    have h4' : (ru == 1) = false := by simpa using h4
    clear h1 h2 h3 h4
    go_enter Try.func34, Try.ntmps34
    go_wp2_with fail
    rw [Hew.out]
    go_wp2_with fail
    go_ret
    exact ⟨ret_int Hm.out.symm, hb1⟩

set_option maxHeartbeats 800000 in
theorem refMost_is (kd dm : Int) (pt : Value) (rt sz st ru hd there cap : Int) (w : World) (hs0 : 0 ≤ sz) (hs1 : sz ≤ 4294967296) (ht0 : 0 ≤ there) (ht1 : there ≤ 9007199254740992) :
    Calls Try.prog 35 #[.agg #[.int .i64 kd, .int .i64 dm, pt, .int .i64 rt, .int .i64 sz, .int .i64 st, .int .i64 ru, .int .i64 hd], .int .i64 there, .int .i64 cap] w fun e w' =>
      e = .returned (.int .i64 (mostI sz ru there cap)) ∧ Below w.heap.size w w' := by
  obtain ⟨w1, ew, hb1, hsz1, hcu⟩ := box_cust w kd dm pt rt sz st ru hd
  obtain ⟨c0, c1, c2, c3, c4, c5, c6, c7⟩ := hcu
  have Hew := Lib.hid ew
  have l0 : w.heap.size < w1.heap.size := by omega
  obtain ⟨R, hR⟩ : ∃ R, R = (if sz - there < 0 then 0 else sz - there) := ⟨_, rfl⟩
  obtain ⟨C, hC⟩ : ∃ C, C = (if cap < 0 then 0 else cap) := ⟨_, rfl⟩
  have hm : mostI sz ru there cap = if R ≤ C then R else if ru = 1 then 0 else C := by
    unfold mostI
    rw [hR, hC]
    split <;> split <;> (try split) <;> (try split) <;> (try split) <;> (try split) <;> omega
  have Hm := Lib.hid hm
  clear ew hm
  by_cases h1 : sz - there < 0
  · rw [if_pos h1] at hR
    have h1' : decide (sz - there < 0) = true := by simpa using h1
    subst hR
    by_cases h2 : cap < 0
    · rw [if_pos h2] at hC
      have h2' : decide (cap < 0) = true := by simpa using h2
      subst hC
      clear h1 h2
      go_enter Try.func35, Try.ntmps35
      go_wp2_with fail
      rw [Hew.out]
      go_wp2_with fail
      go_ret
      exact ⟨ret_int (by rw [Hm.out]; rfl), hb1⟩
    · rw [if_neg h2] at hC
      have h2' : decide (cap < 0) = false := by simpa using h2
      subst hC
      have h3 : decide ((0 : Int) ≤ C) = true := by simp; omega
      have hC0 : 0 ≤ C := by omega
      clear h1 h2
      go_enter Try.func35, Try.ntmps35
      go_wp2_with fail
      rw [Hew.out]
      go_wp2_with fail
      go_ret
      exact ⟨ret_int (by rw [Hm.out, if_pos hC0]), hb1⟩
  · rw [if_neg h1] at hR
    have h1' : decide (sz - there < 0) = false := by simpa using h1
    have Hr := Lib.hid hR
    have hcc : ∃ C', C = C' ∧ (cap < 0 ∧ C' = 0 ∨ ¬ cap < 0 ∧ C' = cap) := ⟨C, rfl, by by_cases h2 : cap < 0; rw [if_pos h2] at hC; exact .inl ⟨h2, hC⟩; rw [if_neg h2] at hC; exact .inr ⟨h2, hC⟩⟩
    obtain ⟨C', rfl, hcc⟩ := hcc
    clear hC h1
    rcases hcc with ⟨h2, hC⟩ | ⟨h2, hC⟩
    · have h2' : decide (cap < 0) = true := by simpa using h2
      subst hC
      by_cases h3 : R ≤ 0
      · have h3' : decide (sz - there ≤ 0) = true := by rw [← Hr.out]; simpa using h3
        have Hm2 : Hid (mostI sz ru there cap = R) := Lib.hid (by rw [Hm.out, if_pos h3])
        clear h2 h3 hR
        go_enter Try.func35, Try.ntmps35
        go_wp2_with fail
        rw [Hew.out]
        go_wp2_with fail
        go_ret
        exact ⟨ret_int (by rw [Hm2.out, Hr.out]), hb1⟩
      · have h3' : decide (sz - there ≤ 0) = false := by rw [← Hr.out]; simpa using h3
        have Hm2 : Hid (mostI sz ru there cap = 0) := Lib.hid (by rw [Hm.out, if_neg h3]; split <;> rfl)
        clear h2 h3 hR
        by_cases h4 : ru = 1
        · have h4' : (ru == 1) = true := by simpa using h4
          clear h4
          go_enter Try.func35, Try.ntmps35
          go_wp2_with fail
          rw [Hew.out]
          go_wp2_with fail
          go_ret
          exact ⟨ret_int Hm2.out.symm, hb1⟩
        · have h4' : (ru == 1) = false := by simpa using h4
          clear h4
          go_enter Try.func35, Try.ntmps35
          go_wp2_with fail
          rw [Hew.out]
          go_wp2_with fail
          go_ret
          exact ⟨ret_int Hm2.out.symm, hb1⟩
    · have h2' : decide (cap < 0) = false := by simpa using h2
      subst hC
      by_cases h3 : R ≤ C
      · have h3' : decide (sz - there ≤ C) = true := by rw [← Hr.out]; simpa using h3
        have Hm2 : Hid (mostI sz ru there C = R) := Lib.hid (by rw [Hm.out, if_pos h3])
        clear h2 h3 hR
        go_enter Try.func35, Try.ntmps35
        go_wp2_with fail
        rw [Hew.out]
        go_wp2_with fail
        go_ret
        exact ⟨ret_int (by rw [Hm2.out, Hr.out]), hb1⟩
      · have h3' : decide (sz - there ≤ C) = false := by rw [← Hr.out]; simpa using h3
        by_cases h4 : ru = 1
        · have h4' : (ru == 1) = true := by simpa using h4
          have Hm2 : Hid (mostI sz ru there C = 0) := Lib.hid (by rw [Hm.out, if_neg h3, if_pos h4])
          clear h2 h3 hR h4
          go_enter Try.func35, Try.ntmps35
          go_wp2_with fail
          rw [Hew.out]
          go_wp2_with fail
          go_ret
          exact ⟨ret_int Hm2.out.symm, hb1⟩
        · have h4' : (ru == 1) = false := by simpa using h4
          have Hm2 : Hid (mostI sz ru there C = C) := Lib.hid (by rw [Hm.out, if_neg h3, if_neg h4])
          clear h2 h3 hR h4
          go_enter Try.func35, Try.ntmps35
          go_wp2_with fail
          rw [Hew.out]
          go_wp2_with fail
          go_ret
          exact ⟨ret_int Hm2.out.symm, hb1⟩

/-- A number that is captured. -/
def IsNum (w : World) (g : Nat) (x : Int) : Prop := w.cell? ⟨g, 0, none⟩ = some (.int .i64 x)
theorem IsNum.below {w w' : World} {g : Nat} {x : Int} (h : IsNum w g x) (hb : Below w.heap.size w w') : IsNum w' g x := cell_below hb h
end Go.Proofs.Ythilfibgpobcjaa
