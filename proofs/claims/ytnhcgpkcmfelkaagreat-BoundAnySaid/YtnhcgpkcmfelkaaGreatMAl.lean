/-
  My own work: alone.on, tranterref11.Pattern, alone.priceOf, tranterref11.price, Visits: their contracts.
  My own work: prices of a day, the morning's rest, visits, and whether lists are the same: their contracts.
  My own work: slices.Equal of visits, alone.rest: their contracts.
  My own work: alone.filled: its contract.
  My own work: layer 11, plainly: the bounds of what steps cost; a block of steps.
-/
import Derived.Test.YtnhcgpkcmfelkaaGreatMPl
import Derived.Test.YtnhcgpkcmfelkaaGreatMOwn
import Derived.Deep.RegionLaw
import Derived.Deep.DrawnRows
import Derived.Deep.DeepCutAuto
import Derived.Deep.QuietTactic
import Derived.BigQuiet
import Derived.Deep.CutBlock
import Derived.Test.YtnhcgpkcmfelkaaGreatMGood
namespace Go.Proofs.YtnhcgpkcmfelkaaGreat
section
open Go.RowKit
set_option linter.unusedVariables false
set_option maxRecDepth 100000
attribute [local go_sem ↓] Go.wp_at_zero Go.wp_at_succ

def VisOut (w : World) (V : List (Int × Int)) (e : Ending) (w' : World) : Prop := ∃ v, e = .returned v ∧ OwnV w' w.heap.size v V ∧ Below w.heap.size w w'
theorem OwnV.kept {w w' : World} {B : Nat} {v : Value} {xs : List (Int × Int)} {r : Option Nat} (h : OwnV w B v xs) (hg : w.grownBy w' r) (hne : v.ownBlock = none ∨ v.ownBlock ≠ r) : OwnV w' B v xs := World.ownsRow.kept h hg hne

theorem on_step (dm : Int) (xs : List Int) (k : Nat) (h : k < xs.length) : ((xs.take (k + 1)).map fun d => (d, dm)) = ((xs.take k).map fun d => (d, dm)) ++ [(nth xs k, dm)] := by
  rw [take_succ_nth xs k h, List.map_append]; rfl

set_option maxHeartbeats 800000 in
theorem on_is (kd dm : Int) (pt : Value) (rt sz st ru hd : Int) (s : Nat) (w : World) (hs : s < 18446744073709551616) :
    Calls Tryz.prog 115 #[.agg #[.int .i64 kd, .int .i64 dm, pt, .int .i64 rt, .int .i64 sz, .int .i64 st, .int .i64 ru, .int .i64 hd], .int .u64 s] w (VisOut w (onV dm s)) := by
  obtain ⟨w1, ew, hb1, hsz1, hcu⟩ := box_cust w kd dm pt rt sz st ru hd
  have Hew := Lib.hid ew
  have c1 := hcu.c1
  have hsz : w.heap.size ≤ w1.heap.size := hb1.size
  clear ew hsz1 hcu
  go_enter Tryz.func115, Tryz.ntmps115
  go_upto_region 2 with (fail)
  rw [Hew.out]
  go_wp2_with fail
  refine (all_is s _ hs).mono ?_
  rintro e w2 ⟨lv, rfl, hown, hb2⟩
  obtain ⟨a, n, c, rfl, hn, _, hc⟩ := hown.ints.open
  have hn64 : n ≤ 64 := by rw [← hn]; exact allUpto_len _ _ _
  have Hc := Lib.hid hc
  have Hn := Lib.hid hn
  have Hb2 := Lib.hid hb2
  have d1 := cell_below hb2 c1
  have hsz2 : w1.heap.size ≤ w2.heap.size := hb2.size
  clear hown hc hn hb2
  go_wp2_with fail
  go_loopw [5, 11] (fun u i wr => ∃ (k : Nat) (v : Value), k ≤ n ∧ v = u ∧ i = .int .i64 k ∧ OwnV wr w2.heap.size v (((allUpto s 0 64).take k).map fun d => (d, dm)) ∧ Below w2.heap.size w2 wr) (fun _ i _ => n - (intOf i).toNat)
  case atStart => exact ⟨0, _, Nat.zero_le _, rfl, rfl, OwnV.nil _ _, Below.refl _ _⟩
  case round =>
    obtain ⟨k, v, hk, rfl, rfl, hown, hb⟩ := hrel
    have Hown := Lib.hid hown
    have Hb := Lib.hid hb
    have d1r := cell_below hb d1
    have hszr : w2.heap.size ≤ wr.heap.size := hb.size
    clear hown
    by_cases hlt : k < n
    · obtain ⟨b, o, rfl, f0⟩ := Hc.out k hlt
      have f0r := cell_below hb f0
      have hi0 : (0 : Int) ≤ (k : Int) := by omega
      have hi1 : (k : Int) < (n : Int) := by omega
      have Hst := Lib.hid (on_step dm (allUpto s 0 64) k (by rw [Hn.out]; exact hlt))
      have Hlen : Hid ((((allUpto s 0 64).take k).map fun d => (d, dm)).length + 1 ≤ 8796093022208) := Lib.hid (by rw [List.length_map, List.length_take]; omega)
      generalize (((allUpto s 0 64).take k).map fun d => (d, dm)) = X at *
      generalize nth (allUpto s 0 64) k = D at *
      clear f0 hb
      go_wp2_with (at_builtin; refine wpList_pushV rfl _ _ rfl wr w2.heap.size v X D dm rfl rfl Hown.out Hlen.out hszr ?_)
      intro v' w5 hown5 g5 hb5
      rw [← Hst.out] at hown5
      have Hown5 := Lib.hid hown5
      have Hb5 := Lib.hid (Hb.out.trans hb5)
      clear g5 hb5 hown5
      go_wp2_with fail
      go_roundw
      case rel => exact ⟨k + 1, _, by omega, rfl, by go_num, Hown5.out, Hb5.out⟩
      case measure => simp [intOf]; omega
    · have Hs : Hid ((((allUpto s 0 64).take k).map fun d => (d, dm)) = onV dm s) := Lib.hid (by unfold onV; rw [List.take_of_length_le (by rw [Hn.out]; omega)])
      go_wp2_with fail
      go_ret
      exact ⟨_, rfl, by rw [← Hs.out]; exact Hown.out.mono (by omega), hb1.trans ((Hb2.out.trans (Hb.out.mono hsz2)).mono hsz)⟩

set_option maxRecDepth 100000 in
set_option maxHeartbeats 1600000 in
theorem refPattern_is (kd dm : Int) (pt : Value) (rt sz st ru hd : Int) (s : Nat) (w : World) (hs : s < 18446744073709551616) :
    Calls Tryz.prog 88 #[.agg #[.int .i64 kd, .int .i64 dm, pt, .int .i64 rt, .int .i64 sz, .int .i64 st, .int .i64 ru, .int .i64 hd], .int .u64 s] w (VisOut w (onV dm s)) := by
  obtain ⟨w1, ew, hb1, hsz1, hcu⟩ := box_cust w kd dm pt rt sz st ru hd
  have Hew := Lib.hid ew
  have c1 := hcu.c1
  have hsz : w.heap.size ≤ w1.heap.size := hb1.size
  clear ew hsz1 hcu
  go_enter Tryz.func88, Tryz.ntmps88
  go_upto_region 2 with (fail)
  rw [Hew.out]
  go_wp2_with fail
  refine (refAll_is s _ hs).mono ?_
  rintro e w2 ⟨lv, rfl, hown, hb2⟩
  obtain ⟨a, n, c, rfl, hn, _, hc⟩ := hown.ints.open
  have hn64 : n ≤ 64 := by rw [← hn]; exact allUpto_len _ _ _
  have Hc := Lib.hid hc
  have Hn := Lib.hid hn
  have Hb2 := Lib.hid hb2
  have d1 := cell_below hb2 c1
  have hsz2 : w1.heap.size ≤ w2.heap.size := hb2.size
  clear hown hc hn hb2
  go_wp2_with fail
  go_loopw [5, 7] (fun u i wr => ∃ (k : Nat) (v : Value), k ≤ n ∧ v = u ∧ i = .int .i64 k ∧ OwnV wr w2.heap.size v (((allUpto s 0 64).take k).map fun d => (d, dm)) ∧ Below w2.heap.size w2 wr) (fun _ i _ => n - (intOf i).toNat)
  case atStart => exact ⟨0, _, Nat.zero_le _, rfl, rfl, OwnV.nil _ _, Below.refl _ _⟩
  case round =>
    obtain ⟨k, v, hk, rfl, rfl, hown, hb⟩ := hrel
    have Hown := Lib.hid hown
    have Hb := Lib.hid hb
    have d1r := cell_below hb d1
    have hszr : w2.heap.size ≤ wr.heap.size := hb.size
    clear hown
    by_cases hlt : k < n
    · obtain ⟨b, o, rfl, f0⟩ := Hc.out k hlt
      have f0r := cell_below hb f0
      have hi0 : (0 : Int) ≤ (k : Int) := by omega
      have hi1 : (k : Int) < (n : Int) := by omega
      have Hst := Lib.hid (on_step dm (allUpto s 0 64) k (by rw [Hn.out]; exact hlt))
      have Hlen : Hid ((((allUpto s 0 64).take k).map fun d => (d, dm)).length + 1 ≤ 1000000000000) := Lib.hid (by rw [List.length_map, List.length_take]; omega)
      generalize (((allUpto s 0 64).take k).map fun d => (d, dm)) = X at *
      generalize nth (allUpto s 0 64) k = D at *
      clear f0 hb
      go_upto_region 6 with fail
      go_region_law (first
        | (refine step_pushN (by rfl) (.tmp 16) (.tmp 24) 72 76 _ 2 16 Tryz.underlying72 info_visit rfl (by decide) (by decide) (by rfl) _ w2.heap.size v X.length (visCells X) [.int .i64 D, .int .i64 dm] wr.heap.size (by rfl) (by rfl) (by exact Lies.new wr [.int .i64 D, .int .i64 dm] _) rfl (by intro u hu; simp at hu; rcases hu with rfl | rfl <;> rfl) (by exact World.ownsRow.alloc Hown.out _) Hlen.out (by simp [World.drew]; omega) ?_; intro g6 cap6 w6 hrow6 hg6 hb6 hat6 hge6 hlt6))
      all_goals
        have hown6 : OwnV w6 w2.heap.size (.slice (some ⟨g6, 0, none⟩) (X.length + 1) cap6) (X ++ [(D, dm)]) := by
          unfold OwnV
          rw [visCells_append, List.length_append]
          exact hrow6
        rw [← Hst.out] at hown6
        have Hown6 := Lib.hid hown6
        have Hb6 : Hid (Below w2.heap.size w2 w6) := Lib.hid (Hb.out.trans (((Below.refl _ wr).alloc hszr _).drew.trans hb6))
        clear hown6 hrow6 hg6 hb6 hat6
        go_wp2_with fail
        go_roundw
        case rel => exact ⟨k + 1, _, by omega, rfl, by go_num, Hown6.out, Hb6.out⟩
        case measure => simp [intOf]; omega
    · have Hs : Hid ((((allUpto s 0 64).take k).map fun d => (d, dm)) = onV dm s) := Lib.hid (by unfold onV; rw [List.take_of_length_le (by rw [Hn.out]; omega)])
      go_wp2_with fail
      go_ret
      exact ⟨_, rfl, by rw [← Hs.out]; exact Hown.out.mono (by omega), hb1.trans ((Hb2.out.trans (Hb.out.mono hsz2)).mono hsz)⟩
end

section
open Go.RowKit
set_option linter.unusedVariables false
set_option maxRecDepth 100000

theorem price_out {P : List Int} {d : Int} (h : d < 0 ∨ (P.length : Int) ≤ d) : priceAt P d = 0 := by unfold priceAt; rw [if_neg (by omega)]
theorem price_in {P : List Int} {d : Nat} (h : d < P.length) : priceAt P (d : Int) = nth P d := by unfold priceAt; rw [if_pos (by omega), Int.toNat_natCast]

set_option maxHeartbeats 800000 in
theorem priceOf_is (pv : Value) (P : List Int) (d : Int) (w : World) (hp : Ints w pv P) :
    Calls Tryz.prog 85 #[pv, .int .i64 d] w fun e w' => e = .returned (.int .i64 (priceAt P d)) ∧ w = w' := by
  obtain ⟨a, n, c, rfl, hn, _, hc⟩ := hp.open
  by_cases h0 : d < 0
  · have Hr := Lib.hid (price_out (P := P) (.inl h0))
    have h0' : decide (d < 0) = true := by simpa using h0
    clear h0 hc hp
    go_enter Tryz.func85, Tryz.ntmps85
    go_wp2_with fail
    go_ret
    rw [Hr.out]
    exact ⟨rfl, rfl⟩
  · have h0' : decide (d < 0) = false := by simpa using h0
    by_cases h1 : (n : Int) ≤ d
    · have Hr := Lib.hid (price_out (P := P) (d := d) (.inr (by omega)))
      have h1' : decide ((n : Int) ≤ d) = true := by simpa using h1
      clear h0 h1 hc hp
      go_enter Tryz.func85, Tryz.ntmps85
      go_wp2_with fail
      go_ret
      rw [Hr.out]
      exact ⟨rfl, rfl⟩
    · have h1' : decide ((n : Int) ≤ d) = false := by simpa using h1
      obtain ⟨D, rfl⟩ := Int.eq_ofNat_of_zero_le (show 0 ≤ d by omega)
      obtain ⟨b, o, rfl, f0⟩ := hc D (by omega)
      have Hr := Lib.hid (price_in (P := P) (d := D) (by omega))
      have hi0 : (0 : Int) ≤ (D : Int) := by omega
      have hi1 : (D : Int) < (n : Int) := by omega
      have hi2 : D < n := by omega
      have hi3 : decide (n ≤ D) = false := by simp; omega
      clear h0 h1 hc hp
      go_enter Tryz.func85, Tryz.ntmps85
      go_wp2_with fail
      go_ret
      rw [Hr.out]
      exact ⟨rfl, rfl⟩

set_option maxHeartbeats 800000 in
theorem refPrice_is (pv : Value) (P : List Int) (d : Int) (w : World) (hp : Ints w pv P) :
    Calls Tryz.prog 62 #[pv, .int .i64 d] w fun e w' => e = .returned (.int .i64 (priceAt P d)) ∧ w = w' := by
  obtain ⟨a, n, c, rfl, hn, _, hc⟩ := hp.open
  by_cases h0 : d < 0
  · have Hr := Lib.hid (price_out (P := P) (.inl h0))
    have h0' : decide (d < 0) = true := by simpa using h0
    clear h0 hc hp
    go_enter Tryz.func62, Tryz.ntmps62
    go_wp2_with fail
    go_ret
    rw [Hr.out]
    exact ⟨rfl, rfl⟩
  · have h0' : decide (d < 0) = false := by simpa using h0
    by_cases h1 : (n : Int) ≤ d
    · have Hr := Lib.hid (price_out (P := P) (d := d) (.inr (by omega)))
      have h1' : decide ((n : Int) ≤ d) = true := by simpa using h1
      clear h0 h1 hc hp
      go_enter Tryz.func62, Tryz.ntmps62
      go_wp2_with fail
      go_ret
      rw [Hr.out]
      exact ⟨rfl, rfl⟩
    · have h1' : decide ((n : Int) ≤ d) = false := by simpa using h1
      obtain ⟨D, rfl⟩ := Int.eq_ofNat_of_zero_le (show 0 ≤ d by omega)
      obtain ⟨b, o, rfl, f0⟩ := hc D (by omega)
      have Hr := Lib.hid (price_in (P := P) (d := D) (by omega))
      have hi0 : (0 : Int) ≤ (D : Int) := by omega
      have hi1 : (D : Int) < (n : Int) := by omega
      have hi2 : D < n := by omega
      have hi3 : decide (n ≤ D) = false := by simp; omega
      clear h0 h1 hc hp
      go_enter Tryz.func62, Tryz.ntmps62
      go_wp2_with fail
      go_ret
      rw [Hr.out]
      exact ⟨rfl, rfl⟩

set_option maxHeartbeats 800000 in
theorem refVisits_is (qv : Value) (q : List Int) (w : World) (hq : Ints w qv q) (hlen : q.length ≤ 1048576) :
    Calls Tryz.prog 90 #[qv] w fun e w' => ∃ v, e = .returned v ∧ OwnV w' w.heap.size v (visitsOf q) ∧ Below w.heap.size w w' := by
  obtain ⟨a, n, c, rfl, hn, hmax, hcell⟩ := hq.open
  have Hn := Lib.hid hn
  have Hcell := Lib.hid hcell
  have hl : n ≤ 1048576 := by omega
  clear hn hcell hq hmax hlen
  go_enter Tryz.func90, Tryz.ntmps90
  go_wp2_with fail
  go_loopw [3, 4] (fun u i wr => ∃ (k : Nat) (v : Value), k ≤ n ∧ v = u ∧ i = .int .i64 k ∧ OwnV wr w.heap.size v (visitsTo q k) ∧ Below w.heap.size w wr) (fun _ i _ => n - (intOf i).toNat)
  case atStart => exact ⟨0, _, Nat.zero_le _, rfl, rfl, OwnV.nil _ _, Below.refl _ _⟩
  case round =>
    obtain ⟨k, v, hk, rfl, rfl, hown, hb⟩ := hrel
    by_cases hlt : k < n
    · obtain ⟨b, o, rfl, hc0⟩ := Hcell.out k hlt
      have hc := cell_below hb hc0
      clear hc0
      by_cases h0 : 0 < nth q k
      · have Hs : Hid (visitsTo q (k + 1) = visitsTo q k ++ [((k : Int), nth q k)]) := by show _ = _; rw [visitsTo, if_pos h0]
        go_wp2_with (at_builtin; refine wpList_pushV rfl _ _ rfl wr w.heap.size v (visitsTo q k) k (nth q k) rfl rfl hown (by have := visitsTo_len q k; omega) hb.size ?_)
        intro v' w5 hown5 g5 hb5
        rw [← Hs.out] at hown5
        have hb5' := hb.trans hb5
        clear hc g5 hb5
        go_wp2_with fail
        go_roundw
        case rel => exact ⟨k + 1, _, by omega, rfl, by go_num, hown5, hb5'⟩
        case measure => simp [intOf]; omega
      · have Hs : Hid (visitsTo q (k + 1) = visitsTo q k) := by show _ = _; rw [visitsTo, if_neg h0]
        go_wp2_with fail
        go_roundw
        case rel => exact ⟨k + 1, _, by omega, rfl, by go_num, by rw [Hs.out]; exact hown, hb⟩
        case measure => simp [intOf]; omega
    · have Hs : Hid (visitsOf q = visitsTo q k) := by show _ = _; unfold visitsOf; rw [Hn.out]; congr 1; omega
      go_wp2_with fail
      go_ret
      rw [Hs.out]
      exact ⟨_, rfl, hown, hb⟩

theorem ext_nthV {xs ys : List (Int × Int)} (hl : xs.length = ys.length) (h : ∀ k, k < xs.length → nthV xs k = nthV ys k) : xs = ys := by
  apply List.ext_getElem hl
  intro k h1 h2
  have := h k h1
  rw [nthV_lt h1, nthV_lt h2] at this
  exact this
end

section
open Go.RowKit
set_option linter.unusedVariables false
set_option maxRecDepth 100000

/-- What is there at night, from a morning on. -/
def nightsR (base rt : Int) (n : Nat) : List Int := (List.range n).map fun (j : Nat) => base - rt * ((j : Int) + 1)
theorem nightsR_succ (base rt : Int) (n : Nat) : nightsR base rt (n + 1) = nightsR base rt n ++ [base - rt * ((n : Int) + 1)] := by
  unfold nightsR; rw [List.range_succ, List.map_append]; rfl
theorem nightsR_len (base rt : Int) (n : Nat) : (nightsR base rt n).length = n := by simp [nightsR]
theorem nightsR_sum (base rt : Int) (n : Nat) : (nightsR base rt n).sum = heldTo base rt n := by
  induction n with
  | zero => rfl
  | succ n ih => rw [nightsR_succ, List.sum_append, ih, heldTo]; simp
theorem mul_le_64 {rt : Int} (h0 : 0 ≤ rt) (h1 : rt ≤ 100) {k : Nat} (hk : k ≤ 65) : 0 ≤ rt * (k : Int) ∧ rt * (k : Int) ≤ 6500 := by
  have h2 := Int.mul_nonneg h0 (show (0 : Int) ≤ (k : Int) by omega)
  have h3 : rt * (k : Int) ≤ 100 * 65 := Int.mul_le_mul h1 (by omega) (by omega) (by omega)
  omega
theorem nightsR_bd {base rt : Int} (hb0 : 0 ≤ base) (hb1 : base ≤ 100) (h0 : 0 ≤ rt) (h1 : rt ≤ 100) {n : Nat} (hn : n ≤ 64) : ∀ x ∈ nightsR base rt n, -10000 ≤ x ∧ x ≤ 10000 := by
  intro x hx
  obtain ⟨j, hj, rfl⟩ := List.mem_map.1 hx
  rw [List.mem_range] at hj
  have := mul_le_64 h0 h1 (show j + 1 ≤ 65 by omega)
  rw [Int.natCast_succ] at this
  omega
theorem sum_bd2 {l : List Int} {b : Int} (h : ∀ x ∈ l, -b ≤ x ∧ x ≤ b) : -(b * l.length) ≤ l.sum ∧ l.sum ≤ b * l.length := by
  induction l with
  | nil => simp
  | cons x l ih =>
    have h1 := h x (List.mem_cons_self ..)
    have h2 := ih (fun y hy => h y (List.mem_cons_of_mem _ hy))
    have e : b * ((x :: l).length : Int) = b * (l.length : Int) + b := by rw [List.length_cons, Int.natCast_succ, Int.mul_add, Int.mul_one]
    rw [e, List.sum_cons]
    omega
/-- What it costs to hold small numbers of nights does not wrap. -/
theorem held_small {hd : Int} (h0 : 0 ≤ hd) (h1 : hd ≤ 100) {l : List Int} (hl : ∀ x ∈ l, -10000 ≤ x ∧ x ≤ 10000) (hn : l.length ≤ 64) : wrap64 (hd * sumW l) = hd * l.sum ∧ -100000000 ≤ hd * l.sum ∧ hd * l.sum ≤ 100000000 := by
  have e := sumW_eq l 10000 hl (by omega) (by decide)
  have hb := sum_bd2 hl
  have h2 : hd * l.sum ≤ 100 * 640000 := by
    have a1 : hd * l.sum ≤ hd * 640000 := Int.mul_le_mul_of_nonneg_left (by omega) h0
    have a2 : hd * 640000 ≤ 100 * 640000 := Int.mul_le_mul_of_nonneg_right h1 (by decide)
    omega
  have h3 : -(100 * 640000) ≤ hd * l.sum := by
    have a1 : hd * (-640000) ≤ hd * l.sum := Int.mul_le_mul_of_nonneg_left (by omega) h0
    have a2 : hd * 640000 ≤ 100 * 640000 := Int.mul_le_mul_of_nonneg_right h1 (by decide)
    have a3 : hd * (-640000) = -(hd * 640000) := by rw [Int.mul_neg]
    omega
  rw [e]
  exact ⟨wrap_id (by omega) (by omega), by omega, by omega⟩

def RestOut (w : World) (a b : Int) (e : Ending) (w' : World) : Prop := e = .returned (.tuple #[.int .i64 a, .int .i64 b]) ∧ Below w.heap.size w w'

set_option maxHeartbeats 1600000 in
theorem rest_is (kd dm : Int) (pt : Value) (rt sz st ru hd last : Int) (d : Nat) (w : World) (T : TankOk st rt sz ru hd) (hl : -1 ≤ last) (hld : last < d) (hd64 : d ≤ 64) :
    Calls Tryz.prog 116 #[.agg #[.int .i64 kd, .int .i64 dm, pt, .int .i64 rt, .int .i64 sz, .int .i64 st, .int .i64 ru, .int .i64 hd], .int .i64 last, .int .i64 d] w (RestOut w (thereI st sz rt d last) (heldI st sz rt hd d last)) := by
  obtain ⟨w1, ew, hb1, hsz1, hcu⟩ := box_cust w kd dm pt rt sz st ru hd
  obtain ⟨base, n, hn64, hb0, hbb, Hnb, hth, hhe⟩ : ∃ (base : Int) (n : Nat), n ≤ 64 ∧ 0 ≤ base ∧ base ≤ 100 ∧ ((last < 0 ∧ base = st ∧ n = d) ∨ (0 ≤ last ∧ base = sz ∧ (n : Int) = (d : Int) - last)) ∧ thereI st sz rt d last = base - rt * n ∧ heldI st sz rt hd d last = hd * heldTo base rt n := by
    have := T.st0; have := T.st1; have := T.sz0; have := T.sz1
    by_cases h : last < 0
    · refine ⟨st, d, hd64, by omega, by omega, .inl ⟨h, rfl, rfl⟩, ?_, ?_⟩
      · unfold thereI; rw [if_neg (by omega)]
      · unfold heldI; rw [if_neg (by omega)]
    · refine ⟨sz, d - last.toNat, by omega, by omega, by omega, .inr ⟨by omega, rfl, by omega⟩, ?_, ?_⟩
      · unfold thereI; rw [if_pos (by omega), show ((d - last.toNat : Nat) : Int) = (d : Int) - last by omega]
      · unfold heldI; rw [if_pos (by omega)]
  rw [hth, hhe]
  have hrt0 := T.rt0
  have hrt1 := T.rt1
  have Hh := Lib.hid (held_small T.hd0 T.hd1 (nightsR_bd hb0 hbb hrt0 hrt1 hn64) (by rw [nightsR_len]; exact hn64))
  rw [nightsR_sum] at Hh
  have Hew := Lib.hid ew
  have HNb := Lib.hid Hnb
  obtain ⟨c0, c1, c2, c3, c4, c5, c6, c7⟩ := hcu
  have hsz : w.heap.size ≤ w1.heap.size := hb1.size
  clear ew hsz1 T hth hhe Hnb
  go_enter Tryz.func116, Tryz.ntmps116
  go_upto_region 1 with (fail)
  rw [Hew.out]
  go_upto_if 17 with fail
  go_cut [8, 9] (fun s8 s9 wx => s8 = .int .i64 base ∧ s9 = .int .i64 n ∧ w1 = wx)
  case first =>
    rcases HNb.out with ⟨h1, rfl, rfl⟩ | ⟨h1, rfl, h2⟩
    · have h1' : decide (last < 0) = true := by simpa using h1
      clear h1
      rw [h1']
      go_wp2_with fail
      go_meet
      exact ⟨rfl, rfl, rfl⟩
    · have h1' : decide (last < 0) = false := by simpa using h1
      have hw : (d : Int) - last = (n : Int) := by omega
      have Hw := Lib.hid hw
      clear hw
      clear h1 h2
      rw [h1']
      go_wp2_with fail
      go_meet
      exact ⟨rfl, by rw [Hw.out], rfl⟩
  case rest =>
    obtain ⟨rfl, rfl, rfl⟩ := hcut
    obtain ⟨w2, rfl⟩ : ∃ w2 : World, w2 = w1 := ⟨_, rfl⟩
    go_wp2_with fail
    go_loopw [8, 10, 22] (fun t u i wr => ∃ (k : Nat) (x : Value), k ≤ n ∧ x = u ∧ i = .int .i64 k ∧ t = .int .i64 (base - rt * k) ∧ Own wr w2.heap.size x (nightsR base rt k) ∧ Below w2.heap.size w2 wr) (fun _ _ i _ => n - (intOf i).toNat)
    case atStart => exact ⟨0, _, Nat.zero_le _, rfl, rfl, by simp, Own.nil _ _, Below.refl _ _⟩
    case round =>
      obtain ⟨k, x, hk, rfl, rfl, rfl, hown, hb⟩ := hrel
      have Hown := Lib.hid hown
      have Hb := Lib.hid hb
      obtain ⟨d0, d1, d2, d3, d4, d5, d6, d7⟩ : IsCust wr w.heap.size kd dm pt rt sz st ru hd := IsCust.below ⟨c0, c1, c2, c3, c4, c5, c6, c7⟩ hb
      have hszr : w2.heap.size ≤ wr.heap.size := hb.size
      clear hown hb
      by_cases hlt : k < n
      · have hm1 := mul_le_64 hrt0 hrt1 (show k ≤ 65 by omega)
        have hm2 := mul_le_64 hrt0 hrt1 (show k + 1 ≤ 65 by omega)
        have e2 : rt * ((k + 1 : Nat) : Int) = rt * k + rt := by rw [Int.natCast_succ, Int.mul_add, Int.mul_one]
        have Hst := Lib.hid (nightsR_succ base rt k)
        have Hlen : Hid ((nightsR base rt k).length + 1 ≤ 17592186044416) := Lib.hid (by rw [nightsR_len]; omega)
        obtain ⟨X, hX⟩ : ∃ X, X = base - rt * k := ⟨_, rfl⟩
        obtain ⟨Y, hY⟩ : ∃ Y, Y = base - rt * ((k + 1 : Nat) : Int) := ⟨_, rfl⟩
        have hw : wrap64 (X - rt) = Y := by rw [wrap_id (by omega) (by omega)]; omega
        rw [show (base - rt * ((k : Int) + 1)) = Y by rw [hY, Int.natCast_succ]] at Hst
        rw [← hX]
        have HY := Lib.hid hY
        have hi0 : (0 : Int) ≤ (k : Int) := by omega
        have hi1 : (k : Int) < (n : Int) := by omega
        generalize nightsR base rt k = XS at *
        clear hX hY hm1 hm2 e2
        go_wp2_with (at_builtin; refine wpList_push rfl _ _ rfl wr w2.heap.size x XS Y rfl rfl Hown.out Hlen.out hszr ?_)
        intro v' w5 hown5 g5 hb5
        rw [← Hst.out] at hown5
        have Hown5 := Lib.hid hown5
        have Hb5 := Lib.hid (Hb.out.trans hb5)
        clear g5 hb5 hown5
        go_wp2_with fail
        go_roundw
        case rel => exact ⟨k + 1, _, by omega, rfl, by go_num, by rw [HY.out], Hown5.out, Hb5.out⟩
        case measure => simp [intOf]; omega
      · have hkn : k = n := by omega
        subst hkn
        have HO := Lib.hid Hown.out.ints
        go_wp2_with fail
        refine (held_is kd dm pt rt sz st ru hd x (nightsR base rt k) wr HO.out).mono ?_
        rintro e w6 ⟨rfl, hb6⟩
        have Hb6 := Lib.hid ((hb1.trans (Hb.out.mono hsz)).trans (hb6.mono (by omega)))
        rw [Hh.out.1]
        clear hb6
        go_wp2_with fail
        go_ret2
        exact ⟨rfl, Hb6.out⟩
end

section
open Go.RowKit
set_option linter.unusedVariables false
set_option maxRecDepth 100000
attribute [local go_sem ↓] Go.wp_at_zero Go.wp_at_succ

theorem there_bd {st sz rt ru hd : Int} (T : TankOk st rt sz ru hd) (S k : Nat) (hk : k ≤ 65) : -6500 ≤ tS st sz rt S k ∧ tS st sz rt S k ≤ 100 := by
  have h1 := tS_ge (st := st) (sz := sz) (rt := rt) (S := S) T.st0 (by have := T.sz0; omega) T.rt0 k
  have h2 := tS_le (st := st) (sz := sz) (rt := rt) (S := S) T.st1 T.rt0 k
  have h3 := mul_le_64 T.rt0 T.rt1 hk
  have := T.sz1
  omega

set_option maxHeartbeats 1600000 in
theorem filled_is (kd dm : Int) (pt : Value) (rt sz st ru hd : Int) (S : Nat) (w : World) (T : TankOk st rt sz ru hd) (hS : S < 18446744073709551616) :
    Calls Tryz.prog 119 #[.agg #[.int .i64 kd, .int .i64 dm, pt, .int .i64 rt, .int .i64 sz, .int .i64 st, .int .i64 ru, .int .i64 hd], .int .u64 S] w (VisOut w (fillV st sz rt S)) := by
  obtain ⟨w1, ew, hb1, hsz1, hcu⟩ := box_cust w kd dm pt rt sz st ru hd
  have Hew := Lib.hid ew
  have hsz : w.heap.size ≤ w1.heap.size := hb1.size
  have HT := Lib.hid T
  clear ew hsz1 T
  obtain ⟨c0, c1, c2, c3, c4, c5, c6, c7⟩ := hcu
  go_enter Tryz.func119, Tryz.ntmps119
  go_upto_region 3 with (fail)
  rw [Hew.out]
  go_wp2_with fail
  refine (all_is S _ hS).mono ?_
  rintro e w2 ⟨lv, rfl, hown, hb2⟩
  obtain ⟨a, n, c, rfl, hn, _, hc⟩ := hown.ints.open
  have hn64 : n ≤ 64 := by rw [← hn]; exact allUpto_len _ _ _
  have Hc := Lib.hid hc
  have Hn := Lib.hid hn
  have Hb2 := Lib.hid hb2
  have hsz2 : w1.heap.size ≤ w2.heap.size := hb2.size
  obtain ⟨c0, c1, c2, c3, c4, c5, c6, c7⟩ : IsCust w2 w.heap.size kd dm pt rt sz st ru hd := IsCust.below ⟨c0, c1, c2, c3, c4, c5, c6, c7⟩ hb2
  clear hown hc hn hb2
  go_wp2_with fail
  go_loopw [5, 6, 14] (fun u l i wr => ∃ (k : Nat) (v : Value), k ≤ n ∧ v = u ∧ i = .int .i64 k ∧ l = .int .i64 (prevI S k) ∧ OwnV wr w2.heap.size v (((allUpto S 0 64).take k).map fun d => (d, sz - tS st sz rt S d.toNat)) ∧ Below w2.heap.size w2 wr) (fun _ _ i _ => n - (intOf i).toNat)
  case atStart => exact ⟨0, _, Nat.zero_le _, rfl, rfl, rfl, OwnV.nil _ _, Below.refl _ _⟩
  case round =>
    obtain ⟨k, v, hk, rfl, rfl, rfl, hown, hb⟩ := hrel
    have Hown := Lib.hid hown
    have Hb := Lib.hid hb
    have hszr : w2.heap.size ≤ wr.heap.size := hb.size
    clear hown
    by_cases hlt : k < n
    · obtain ⟨b, o, rfl, f0⟩ := Hc.out k hlt
      have f0r := cell_below hb f0
      obtain ⟨d0, d1, d2, d3, d4, d5, d6, d7⟩ : IsCust wr w.heap.size kd dm pt rt sz st ru hd := IsCust.below ⟨c0, c1, c2, c3, c4, c5, c6, c7⟩ hb
      have hi0 : (0 : Int) ≤ (k : Int) := by omega
      have hi1 : (k : Int) < (n : Int) := by omega
      have hlen : k < (allUpto S 0 64).length := by rw [Hn.out]; exact hlt
      have hst := fillV_step st sz rt S k hlen
      obtain ⟨_, hD0, hD1⟩ := all_bit S hlen
      have hpb := prev_bd S hlen
      have hpl := prev_last S hlen
      have hps := prev_succ S k
      have Hlen : Hid ((((allUpto S 0 64).take k).map fun d => (d, sz - tS st sz rt S d.toNat)).length + 1 ≤ 8796093022208) := Lib.hid (by rw [List.length_map, List.length_take]; omega)
      generalize (((allUpto S 0 64).take k).map fun d => (d, sz - tS st sz rt S d.toNat)) = X at *
      obtain ⟨D, hD⟩ := Int.eq_ofNat_of_zero_le hD0
      rw [hD] at f0r hst hpb hpl hps hD1
      rw [Int.toNat_natCast] at hst hpl
      have hR := rest_is kd dm pt rt sz st ru hd (prevI S k) D wr HT.out hpb.1 hpb.2 (by omega)
      have htb := there_bd HT.out S D (by omega)
      rw [tS_there, hpl] at htb
      generalize heldI st sz rt hd D (prevI S k) = HH at *
      generalize thereI st sz rt D (prevI S k) = TT at *
      obtain ⟨Y, hY⟩ : ∃ Y, Y = sz - TT := ⟨_, rfl⟩
      have hszb := HT.out.sz1
      have hszb0 := HT.out.sz0
      have hw : wrap64 (sz - TT) = Y := by rw [wrap_id (by omega) (by omega)]; exact hY.symm
      rw [← hY] at hst
      have Hst := Lib.hid hst
      have Hps := Lib.hid hps
      have HR := Lib.hid hR
      obtain ⟨PP, hPP⟩ : ∃ PP, PP = prevI S k := ⟨_, rfl⟩
      rw [← hPP] at HR ⊢
      clear f0 hst hps hpb hpl hD hD0 hY hR htb hlen hPP
      go_wp2_with fail
      refine HR.out.mono ?_
      rintro e w4 ⟨rfl, hb4⟩
      have q4 := cell_below hb4 d4
      have Hb4 := Lib.hid hb4
      have hsz4 : wr.heap.size ≤ w4.heap.size := hb4.size
      clear hb4
      go_wp2_with (at_builtin; refine wpList_pushV rfl _ _ rfl w4 w2.heap.size v X D Y rfl rfl (Hown.out.below Hb4.out) Hlen.out (by omega) ?_)
      intro v' w5 hown5 g5 hb5
      rw [← Hst.out] at hown5
      have Hown5 := Lib.hid hown5
      have Hb5 := Lib.hid ((Hb.out.trans (Hb4.out.mono hszr)).trans hb5)
      clear g5 hb5 hown5
      go_wp2_with fail
      go_roundw
      case rel => exact ⟨k + 1, _, by omega, rfl, by go_num, by rw [Hps.out], Hown5.out, Hb5.out⟩
      case measure => simp [intOf]; omega
    · have Hs : Hid ((((allUpto S 0 64).take k).map fun d => (d, sz - tS st sz rt S d.toNat)) = fillV st sz rt S) := Lib.hid (by unfold fillV; rw [List.take_of_length_le (by rw [Hn.out]; omega)])
      go_wp2_with fail
      go_ret
      exact ⟨_, rfl, by rw [← Hs.out]; exact Hown.out.mono (by omega), hb1.trans ((Hb2.out.trans (Hb.out.mono hsz2)).mono hsz)⟩
end

section
open Go.RowKit
set_option linter.unusedVariables false
set_option maxRecDepth 100000

theorem held_bd {st sz rt ru hd : Int} (T : TankOk st rt sz ru hd) {d : Nat} {last : Int} (hl : -1 ≤ last) (hld : last < d) (hd64 : d ≤ 64) : -100000000 ≤ heldI st sz rt hd d last ∧ heldI st sz rt hd d last ≤ 100000000 := by
  have := T.st0; have := T.st1; have := T.sz0; have := T.sz1
  have key : ∀ (base : Int) (n : Nat), n ≤ 64 → 0 ≤ base → base ≤ 100 → -100000000 ≤ hd * heldTo base rt n ∧ hd * heldTo base rt n ≤ 100000000 := fun base n h1 h2 h3 => by
    have := held_small T.hd0 T.hd1 (nightsR_bd h2 h3 T.rt0 T.rt1 h1) (by rw [nightsR_len]; exact h1)
    rw [nightsR_sum] at this
    exact this.2
  unfold heldI
  split
  · exact key sz _ (by omega) (by omega) (by omega)
  · exact key st d hd64 (by omega) (by omega)
theorem cand_bd {st sz rt ru hd cap : Int} {P : List Int} {n d : Nat} {last : Int} {x : Int × Int} (T : TankOk st rt sz ru hd) (hP : ∀ d, 0 ≤ priceAt P d ∧ priceAt P d ≤ 1000) (hl : -1 ≤ last) (hld : last < d) (hd64 : d ≤ 64) {f : Nat → Option (Int × Int)}
    (hf : 0 ≤ last → ∀ y, f last.toNat = some y → -(200000000 * (d : Int)) ≤ y.1 ∧ y.1 ≤ 200000000 * (d : Int)) (h : candE st sz rt hd cap P n f d last = some x) : -(200000000 * ((d : Int) + 1)) ≤ x.1 ∧ x.1 ≤ 200000000 * ((d : Int) + 1) := by
  have h1 := held_bd T hl hld hd64
  have h2 := hP (d : Int)
  have h4 : -(200000000 * (d : Int)) ≤ (if 0 ≤ last then ((f last.toNat).getD (0, 0)).1 else 0) ∧ (if 0 ≤ last then ((f last.toNat).getD (0, 0)).1 else 0) ≤ 200000000 * (d : Int) := by
    split
    · rename_i h0
      cases hy : f last.toNat with
      | none => simp; omega
      | some y => exact hf h0 y hy
    · omega
  have h3 : 0 ≤ (if d < n then priceAt P (d : Int) else 0) ∧ (if d < n then priceAt P (d : Int) else 0) ≤ 1000 := by
    split
    · exact h2
    · omega
  unfold candE at h
  split at h
  · simp at h
  · split at h
    · simp at h
    · simp only [Option.some.injEq] at h
      rw [← h]
      simp only []
      generalize (if d < n then priceAt P (d : Int) else 0) = z at *
      generalize (if 0 ≤ last then ((f last.toNat).getD (0, 0)).1 else 0) = y at *
      omega
theorem stp_bd {st sz rt ru hd cap : Int} {P : List Int} {n : Nat} (T : TankOk st rt sz ru hd) (hP : ∀ d, 0 ≤ priceAt P d ∧ priceAt P d ≤ 1000) : ∀ d, d ≤ 64 → ∀ s, stp st sz rt hd cap P n d = some s → -(200000000 * ((d : Int) + 1)) ≤ s.1 ∧ s.1 ≤ 200000000 * ((d : Int) + 1) := by
  intro d
  induction d using Nat.strongRecOn with
  | _ d ih =>
    intro hd64 s hs
    rw [stp_eq] at hs
    obtain ⟨j, hj, hc⟩ := stepUpto_mem hs
    refine cand_bd T hP (by omega) (by omega) hd64 (fun h0 y hy => ?_) hc
    have := ih _ (show ((j : Int) - 1).toNat < d by omega) (by omega) y hy
    omega
theorem upto_bd {st sz rt ru hd cap : Int} {P : List Int} {n : Nat} (T : TankOk st rt sz ru hd) (hP : ∀ d, 0 ≤ priceAt P d ∧ priceAt P d ≤ 1000) {d m : Nat} (hd64 : d ≤ 64) (hm : m ≤ d + 1) {s : Int × Int} (h : stepUpto st sz rt hd cap P n (stp st sz rt hd cap P n) d m = some s) : -(200000000 * ((d : Int) + 1)) ≤ s.1 ∧ s.1 ≤ 200000000 * ((d : Int) + 1) := by
  obtain ⟨j, hj, hc⟩ := stepUpto_mem h
  refine cand_bd T hP (by omega) (by omega) hd64 (fun h0 y hy => ?_) hc
  have := stp_bd T hP _ (show ((j : Int) - 1).toNat ≤ 64 by omega) y hy
  omega

/-- The block g holds the steps F. -/
structure StepsAt (w : World) (g : Nat) (F : Nat → Option (Int × Int)) : Prop where
  c0 : ∀ i, i < 65 → w.cell? ⟨g, i * 3, none⟩ = some (.bool (F i).isSome)
  c1 : ∀ i, i < 65 → w.cell? ⟨g, i * 3 + 1, none⟩ = some (.int .i64 ((F i).getD (0, 0)).1)
  c2 : ∀ i, i < 65 → w.cell? ⟨g, i * 3 + 2, none⟩ = some (.int .i64 ((F i).getD (0, 0)).2)
  fr : ∀ j, w.frozen? ⟨g, j, none⟩ = false
theorem StepsAt.lt {w : World} {g : Nat} {F : Nat → Option (Int × Int)} (h : StepsAt w g F) : g < w.heap.size := World.block_lt_of_cell? w _ (h.c0 0 (by decide))
theorem StepsAt.below {w w' : World} {g : Nat} {F : Nat → Option (Int × Int)} (h : StepsAt w g F) (hb : Below w.heap.size w w') : StepsAt w' g F :=
  ⟨fun i hi => cell_below hb (h.c0 i hi), fun i hi => cell_below hb (h.c1 i hi), fun i hi => cell_below hb (h.c2 i hi), fun j => frozen_below hb h.lt (h.fr j)⟩
theorem StepsAt.other {w : World} {g : Nat} {F : Nat → Option (Int × Int)} (h : StepsAt w g F) (p : Addr) (v : Value) (hne : g ≠ p.block) : StepsAt (w.setCell p v) g F := by
  have key : ∀ o, (w.setCell p v).cell? ⟨g, o, none⟩ = w.cell? ⟨g, o, none⟩ := fun o => World.cell?_setCell_other _ _ _ _ (fun e => by first | exact hne (congrArg Addr.block e) | exact hne (congrArg Addr.block e).symm)
  exact ⟨fun i hi => (key _).trans (h.c0 i hi), fun i hi => (key _).trans (h.c1 i hi), fun i hi => (key _).trans (h.c2 i hi), fun j => (World.frozen?_setCell _ _ _ _).trans (h.fr j)⟩
theorem StepsAt.congr {w : World} {g : Nat} {F G : Nat → Option (Int × Int)} (h : StepsAt w g F) (he : ∀ i, i < 65 → F i = G i) : StepsAt w g G :=
  ⟨fun i hi => by rw [← he i hi]; exact h.c0 i hi, fun i hi => by rw [← he i hi]; exact h.c1 i hi, fun i hi => by rw [← he i hi]; exact h.c2 i hi, h.fr⟩
theorem set_far {w : World} {g a b : Nat} {v u : Value} (h : w.cell? ⟨g, b, none⟩ = some u) (hne : a ≠ b) : (w.setCell ⟨g, a, none⟩ v).cell? ⟨g, b, none⟩ = some u :=
  (World.cell?_setCell_other _ _ _ _ (fun e => by first | exact hne (congrArg Addr.off e) | exact hne (congrArg Addr.off e).symm)).trans h
theorem StepsAt.set {w : World} {g : Nat} {F : Nat → Option (Int × Int)} (h : StepsAt w g F) (d : Nat) (hd : d < 65) (c l : Int) :
    StepsAt (((w.setCell ⟨g, d * 3, none⟩ (.bool true)).setCell ⟨g, d * 3 + 1, none⟩ (.int .i64 c)).setCell ⟨g, d * 3 + 2, none⟩ (.int .i64 l)) g (fun i => if i = d then some (c, l) else F i) := by
  have f0 := h.c0 d hd
  have f1 := h.c1 d hd
  have f2 := h.c2 d hd
  refine ⟨fun i hi => ?_, fun i hi => ?_, fun i hi => ?_, fun j => ?_⟩
  · by_cases e : i = d
    · subst e
      rw [if_pos rfl]
      exact set_far (set_far (World.cell?_setCell_same _ _ _ f0) (by omega)) (by omega)
    · rw [if_neg e]
      exact set_far (set_far (set_far (h.c0 i hi) (by omega)) (by omega)) (by omega)
  · by_cases e : i = d
    · subst e
      rw [if_pos rfl]
      exact set_far (World.cell?_setCell_same _ _ _ (set_far f1 (by omega))) (by omega)
    · rw [if_neg e]
      exact set_far (set_far (set_far (h.c1 i hi) (by omega)) (by omega)) (by omega)
  · by_cases e : i = d
    · subst e
      rw [if_pos rfl]
      exact World.cell?_setCell_same _ _ _ (set_far (set_far f2 (by omega)) (by omega))
    · rw [if_neg e]
      exact set_far (set_far (set_far (h.c2 i hi) (by omega)) (by omega)) (by omega)
  · rw [World.frozen?_setCell, World.frozen?_setCell, World.frozen?_setCell]
    exact h.fr j
theorem flat3_at (u0 u1 u2 : Value) (n i j : Nat) (hi : i < n) (hj : j < 3) : ((List.range n).flatMap fun _ => [u0, u1, u2])[i * 3 + j]? = [u0, u1, u2][j]? := by
  induction n with
  | zero => omega
  | succ n ih =>
    have hl : ((List.range n).flatMap fun _ => [u0, u1, u2]).length = 3 * n := by
      clear ih hi
      induction n with
      | zero => rfl
      | succ n ih => rw [List.range_succ, List.flatMap_append, List.length_append, ih]; simp; omega
    rw [List.range_succ, List.flatMap_append]
    by_cases e : i < n
    · rw [List.getElem?_append_left (by rw [hl]; omega)]
      exact ih e
    · have : i = n := by omega
      subst this
      rw [List.getElem?_append_right (by rw [hl]; omega), hl, show i * 3 + j - 3 * i = j by omega]
      rfl
theorem zero_steps : Tryz.zeroCells152.toList = (List.range 65).flatMap fun _ => [Value.bool false, .int .i64 0, .int .i64 0] := by kernel_rfl
theorem StepsAt.new (w : World) (t : TypeId) : StepsAt (w.alloc (.cells Tryz.zeroCells152 t)) w.heap.size (fun _ => none) := by
  have key : ∀ i j, i < 65 → j < 3 → (w.alloc (.cells Tryz.zeroCells152 t)).cell? ⟨w.heap.size, i * 3 + j, none⟩ = [Value.bool false, .int .i64 0, .int .i64 0][j]? := fun i j hi hj => by
    rw [World.cell?_alloc_new, ← Array.getElem?_toList, zero_steps, flat3_at _ _ _ 65 i j hi hj]
  exact ⟨fun i hi => key i 0 hi (by decide), fun i hi => key i 1 hi (by decide), fun i hi => key i 2 hi (by decide), fun j => by simp [go_sem]⟩
end

end Go.Proofs.YtnhcgpkcmfelkaaGreat
