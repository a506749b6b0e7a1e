/-
  My own work: alone.Solve, policy.Keeps, tranterref10.Keeps, policy.fewest, Forced (of patterns): their contracts.
-/
import Derived.Test.YtnhcgpkcmfelkaaGreatAloneM
import Derived.Test.YtnhcgpkcmfelkaaGreatDaysD
namespace Go.Proofs.YtnhcgpkcmfelkaaGreat
open Go.RowKit
set_option linter.unusedVariables false
set_option maxRecDepth 100000
attribute [local go_sem ↓] Go.wp_at_zero Go.wp_at_succ

set_option maxHeartbeats 800000 in
theorem solve1_is (dm : Int) (pt pv : Value) (rt sz st ru hd cap : Int) (n : Nat) (ps : List Nat) (P : List Int) (w : World) (hp : Words w pt ps) (hps : ∀ p ∈ ps, p < 18446744073709551616) (hpl : ps.length ≤ 1000) (hP : Ints w pv P) (hPf : ∀ x ∈ P, fitsI x = true) :
    Calls Tryz.prog 83 #[.agg #[.int .i64 1, .int .i64 dm, pt, .int .i64 rt, .int .i64 sz, .int .i64 st, .int .i64 ru, .int .i64 hd], .int .i64 n, .int .i64 cap, pv] w (SolveOut w (patV dm cap ps P) (patOk dm cap ps P)) := by
  obtain ⟨w1, ew, hb1, hsz1, hcu⟩ := box_cust w 1 dm pt rt sz st ru hd
  have Hew := Lib.hid ew
  have H := Lib.hid (pattern_is 1 dm pt pv rt sz st ru hd cap ps P w1 (hp.below hb1) hps hpl (hP.below hb1) hPf)
  obtain ⟨c0, c1, c2, c3, c4, c5, c6, c7⟩ := hcu
  clear ew hsz1 hp hps hP hPf
  go_enter Tryz.func83, Tryz.ntmps83
  go_upto_region 1 with (fail)
  rw [Hew.out]
  go_wp2_with fail
  refine H.out.mono ?_
  rintro e w2 ⟨v, rfl, hown, hb2⟩
  have Hown := Lib.hid (hown.mono hb1.size)
  have Hb2 := Lib.hid (hb1.trans (hb2.mono hb1.size))
  clear hown hb2
  go_wp2_with fail
  go_ret2
  exact ⟨v, rfl, Hown.out, Hb2.out⟩

set_option maxHeartbeats 800000 in
theorem solveW_is (dm : Int) (pt pv : Value) (rt sz st hd cap : Int) (n : Nat) (P : List Int) (w : World) (T : TankOk st rt sz 2 hd) (hn : n ≤ 20) (hP : Ints w pv P) (hPb : ∀ d, 0 ≤ priceAt P d ∧ priceAt P d ≤ 1000) :
    Calls Tryz.prog 83 #[.agg #[.int .i64 2, .int .i64 dm, pt, .int .i64 rt, .int .i64 sz, .int .i64 st, .int .i64 2, .int .i64 hd], .int .i64 n, .int .i64 cap, pv] w (SolveOut w (anyV st sz rt hd cap P n) (anyB st sz rt hd cap P n)) := by
  obtain ⟨w1, ew, hb1, hsz1, hcu⟩ := box_cust w 2 dm pt rt sz st 2 hd
  have Hew := Lib.hid ew
  have H := Lib.hid (ways_is dm pt pv rt sz st hd cap n P w1 T hn (hP.below hb1) hPb)
  obtain ⟨c0, c1, c2, c3, c4, c5, c6, c7⟩ := hcu
  clear ew hsz1 hP hPb T
  go_enter Tryz.func83, Tryz.ntmps83
  go_upto_region 1 with (fail)
  rw [Hew.out]
  go_wp2_with fail
  refine H.out.mono ?_
  rintro e w2 ⟨v, rfl, hown, hb2⟩
  have Hown := Lib.hid (hown.mono hb1.size)
  have Hb2 := Lib.hid (hb1.trans (hb2.mono hb1.size))
  clear hown hb2
  go_wp2_with fail
  go_ret2
  exact ⟨v, rfl, Hown.out, Hb2.out⟩

set_option maxHeartbeats 800000 in
theorem solveF_is (dm : Int) (pt pv : Value) (rt sz st hd cap : Int) (n : Nat) (P : List Int) (w : World) (T : TankOk st rt sz 1 hd) (hn : n ≤ 20) (hP : Ints w pv P) (hPb : ∀ d, 0 ≤ priceAt P d ∧ priceAt P d ≤ 1000) :
    Calls Tryz.prog 83 #[.agg #[.int .i64 2, .int .i64 dm, pt, .int .i64 rt, .int .i64 sz, .int .i64 st, .int .i64 1, .int .i64 hd], .int .i64 n, .int .i64 cap, pv] w (FillPost st sz rt hd cap P n w) := by
  obtain ⟨w1, ew, hb1, hsz1, hcu⟩ := box_cust w 2 dm pt rt sz st 1 hd
  have Hew := Lib.hid ew
  have H := Lib.hid (fill_is 2 dm pt pv rt sz st hd cap n P w1 T hn (hP.below hb1) hPb)
  obtain ⟨c0, c1, c2, c3, c4, c5, c6, c7⟩ := hcu
  clear ew hsz1 hP hPb T
  go_enter Tryz.func83, Tryz.ntmps83
  go_upto_region 1 with (fail)
  rw [Hew.out]
  go_wp2_with fail
  refine H.out.mono ?_
  rintro e w2 h
  have key : ∀ (V : List (Int × Int)) (b : Bool), SolveOut w1 V b e w2 → ∃ v, e = .returned (.tuple #[v, .bool b]) ∧ SolveOut w V b e w2 := fun V b ⟨v, h1, h2, h3⟩ => ⟨v, h1, v, h1, h2.mono hb1.size, hb1.trans (h3.mono hb1.size)⟩
  rcases h with ⟨hst, h⟩ | ⟨s, S, hst, hbit, hok, hcost, h⟩
  · obtain ⟨v, rfl, h'⟩ := key _ _ h
    have Hst := Lib.hid hst
    have H' := Lib.hid h'
    clear h h' hst
    go_wp2_with fail
    go_ret2
    exact .inl ⟨Hst.out, H'.out⟩
  · obtain ⟨v, rfl, h'⟩ := key _ _ h
    have Hp := Lib.hid (show FillPost st sz rt hd cap P n w _ w2 from .inr ⟨s, S, hst, hbit, hok, hcost, h'⟩)
    clear h h' hst hbit hok hcost
    go_wp2_with fail
    go_ret2
    exact Hp.out

/-- What it costs to hold at least. -/
def keepsTo (st rt : Int) : Nat → Int
  | 0 => 0
  | k + 1 => keepsTo st rt k + max (st - rt * ((k : Int) + 1)) 0
def keepsI (st rt hd : Int) (n : Nat) : Int := hd * keepsTo st rt n
theorem keeps_bd {st rt sz ru hd : Int} (T : TankOk st rt sz ru hd) (k : Nat) : 0 ≤ keepsTo st rt k ∧ keepsTo st rt k ≤ 100 * k := by
  induction k with
  | zero => simp [keepsTo]
  | succ k ih =>
    have := T.st1; have := T.sz1
    have := Int.mul_nonneg T.rt0 (show (0 : Int) ≤ (k : Int) + 1 by omega)
    rw [keepsTo]
    omega
theorem keepsI_bd {st rt sz ru hd : Int} (T : TankOk st rt sz ru hd) {n : Nat} (hn : n ≤ 64) : 0 ≤ keepsI st rt hd n ∧ keepsI st rt hd n ≤ 1000000 := by
  have h1 := keeps_bd T n
  have h2 := T.hd0
  have h3 := T.hd1
  unfold keepsI
  have h4 := Int.mul_nonneg h2 h1.1
  have h5 : hd * keepsTo st rt n ≤ 100 * 6400 := Int.mul_le_mul h3 (by omega) h1.1 (by omega)
  omega
end Go.Proofs.YtnhcgpkcmfelkaaGreat
