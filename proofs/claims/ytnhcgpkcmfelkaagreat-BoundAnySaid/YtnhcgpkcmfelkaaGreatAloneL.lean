/-
  My own work: tranterlaw11.round, tranterref11.Prices, alone.carried, alone.pattern: their contracts.
-/
import Derived.Test.YtnhcgpkcmfelkaaGreatAloneK
import Derived.Test.YtnhcgpkcmfelkaaGreatAloneE
import Derived.Test.YtnhcgpkcmfelkaaGreatMAl
import Derived.Test.YtnhcgpkcmfelkaaGreatMPol
namespace Go.Proofs.YtnhcgpkcmfelkaaGreat
open Go.RowKit
set_option linter.unusedVariables false
set_option maxRecDepth 100000
attribute [local go_sem ↓] Go.wp_at_zero Go.wp_at_succ

/-- Prices from 0 to 99, made of any. -/
def price1 (x : Int) : Int := (if x < 0 then -(x + 1) else x) % 100
theorem price1_bd (x : Int) : 0 ≤ price1 x ∧ price1 x ≤ 99 := by
  unfold price1
  have h1 := Int.emod_nonneg (if x < 0 then -(x + 1) else x) (show (100 : Int) ≠ 0 by decide)
  have h2 := Int.emod_lt_of_pos (if x < 0 then -(x + 1) else x) (show (0 : Int) < 100 by decide)
  omega
def pricesL (l : List Int) (k : Nat) : List Int := (l.take k).map price1
theorem pricesL_succ (l : List Int) (k : Nat) (h : k < l.length) : pricesL l (k + 1) = pricesL l k ++ [price1 (nth l k)] := by
  unfold pricesL
  rw [take_succ_nth l k h, List.map_append]; rfl
theorem prices_bd (l : List Int) (k : Nat) : ∀ x ∈ pricesL l k, 0 ≤ x ∧ x ≤ 99 := by
  intro x hx
  obtain ⟨y, _, rfl⟩ := List.mem_map.1 hx
  exact price1_bd y
theorem prices_fits (l : List Int) (k : Nat) : ∀ x ∈ pricesL l k, fitsI x = true := fun x hx => by
  have := prices_bd l k x hx
  exact fitsI_iff.2 (by omega)
theorem priceAt_bd {P : List Int} (h : ∀ x ∈ P, 0 ≤ x ∧ x ≤ 1000) : ∀ d, 0 ≤ priceAt P d ∧ priceAt P d ≤ 1000 := by
  intro d
  unfold priceAt
  split
  · rename_i hd
    exact h _ (nth_mem (by omega))
  · omega

/-- The patterns that may be carried. -/
def carriedL (dm cap : Int) (ps : List Nat) : List Nat := ps.filter fun p => decide (p = 0) || decide (dm ≤ cap)
theorem carried_yes {dm cap : Int} {ps : List Nat} {k : Nat} (h : k < ps.length) (hc : nthN ps k = 0 ∨ dm ≤ cap) : carriedL dm cap (ps.take (k + 1)) = carriedL dm cap (ps.take k) ++ [nthN ps k] := by
  unfold carriedL
  rw [List.take_succ_eq_append_getElem h, List.filter_append, nthN_lt h]
  rw [nthN_lt h] at hc
  simp
  exact hc
theorem carried_no {dm cap : Int} {ps : List Nat} {k : Nat} (h : k < ps.length) (hc : ¬ (nthN ps k = 0 ∨ dm ≤ cap)) : carriedL dm cap (ps.take (k + 1)) = carriedL dm cap (ps.take k) := by
  unfold carriedL
  rw [List.take_succ_eq_append_getElem h, List.filter_append]
  rw [nthN_lt h] at hc
  simp
  omega

set_option maxHeartbeats 1600000 in
theorem carried_is (kd dm : Int) (pt : Value) (rt sz st ru hd cap : Int) (ps : List Nat) (w : World) (hp : Words w pt ps) (hpl : ps.length ≤ 1000) :
    Calls Tryz.prog 113 #[.agg #[.int .i64 kd, .int .i64 dm, pt, .int .i64 rt, .int .i64 sz, .int .i64 st, .int .i64 ru, .int .i64 hd], .int .i64 cap] w fun e w' => ∃ v, e = .returned v ∧ OwnW w' w.heap.size v (carriedL dm cap ps) ∧ Below w.heap.size w w' := by
  obtain ⟨w1, ew, hb1, hsz1, hcu⟩ := box_cust w kd dm pt rt sz st ru hd
  obtain ⟨a, n, c, rfl, hn, _, _, hc⟩ := (hp.below hb1).open
  have Hew := Lib.hid ew
  have Hc := Lib.hid hc
  have Hn := Lib.hid hn
  have hn1000 : n ≤ 1000 := by omega
  have hsz : w.heap.size ≤ w1.heap.size := hb1.size
  have c1 := hcu.c1
  have c2 := hcu.c2
  clear ew hsz1 hcu hn hc hp hpl
  go_enter Tryz.func113, Tryz.ntmps113
  go_upto_region 1 with (fail)
  rw [Hew.out]
  go_wp2_with fail
  go_loopw [5, 11] (fun u i wr => ∃ (k : Nat) (x : Value), k ≤ n ∧ x = u ∧ i = .int .i64 k ∧ OwnW wr w1.heap.size x (carriedL dm cap (ps.take k)) ∧ Below w1.heap.size w1 wr) (fun _ i _ => n - (intOf i).toNat)
  case atStart => exact ⟨0, _, Nat.zero_le _, rfl, rfl, OwnW.nil _ _, Below.refl _ _⟩
  case round =>
    obtain ⟨k, x, hk, rfl, rfl, hown, hb⟩ := hrel
    have Hown := Lib.hid hown
    have Hb := Lib.hid hb
    have hszr : w1.heap.size ≤ wr.heap.size := hb.size
    have d1 := cell_below hb c1
    clear hown
    by_cases hlt : k < n
    · obtain ⟨b, o, rfl, hbl, f0⟩ := Hc.out k hlt
      have f0r := cell_below hb f0
      have hi0 : (0 : Int) ≤ (k : Int) := by omega
      have hi1 : (k : Int) < (n : Int) := by omega
      have Hyes := Lib.hid (fun (h : nthN ps k = 0 ∨ dm ≤ cap) => carried_yes (dm := dm) (cap := cap) (ps := ps) (k := k) (by rw [Hn.out]; exact hlt) h)
      have Hno := Lib.hid (fun (h : ¬ (nthN ps k = 0 ∨ dm ≤ cap)) => carried_no (dm := dm) (cap := cap) (ps := ps) (k := k) (by rw [Hn.out]; exact hlt) h)
      have Hlen : Hid ((carriedL dm cap (ps.take k)).length + 1 ≤ 1000000000000) := Lib.hid (by
        have h1 := List.length_filter_le (fun p => decide (p = 0) || decide (dm ≤ cap)) (ps.take k)
        have h2 := List.length_take_le k ps
        unfold carriedL
        omega)
      generalize carriedL dm cap (ps.take k) = XS at *
      generalize nthN ps k = p at *
      clear f0 hb
      have hcase : (((p : Int) == 0) = true ∧ p = 0) ∨ (((p : Int) == 0) = false ∧ decide (dm ≤ cap) = true ∧ dm ≤ cap) ∨ (((p : Int) == 0) = false ∧ decide (dm ≤ cap) = false ∧ ¬ (p = 0 ∨ dm ≤ cap)) := by
        by_cases h : p = 0
        · exact .inl ⟨by simp; omega, h⟩
        · by_cases h' : dm ≤ cap
          · exact .inr (.inl ⟨by simp; omega, by simpa using h', h'⟩)
          · exact .inr (.inr ⟨by simp; omega, by simpa using h', by omega⟩)
      rcases hcase with ⟨q1, q2⟩ | ⟨q1, q2, q3⟩ | ⟨q1, q2, q3⟩
      · have Hst := Lib.hid (Hyes.out (.inl q2))
        clear q2
        go_wp2_with (at_builtin; refine wpList_pushW rfl _ _ rfl wr w1.heap.size x XS p rfl rfl Hown.out Hlen.out hszr ?_)
        intro g5 c5 w5 hown5 hg5 hb5 _ _
        rw [← Hst.out] at hown5
        have Hown5 := Lib.hid hown5
        have Hb5 := Lib.hid (Hb.out.trans hb5)
        clear hg5 hb5 hown5
        go_wp2_with fail
        go_roundw
        case rel => exact ⟨k + 1, _, by omega, rfl, by go_num, Hown5.out, Hb5.out⟩
        case measure => simp [intOf]; omega
      · have Hst := Lib.hid (Hyes.out (.inr q3))
        clear q3
        go_wp2_with (at_builtin; refine wpList_pushW rfl _ _ rfl wr w1.heap.size x XS p rfl rfl Hown.out Hlen.out hszr ?_)
        intro g5 c5 w5 hown5 hg5 hb5 _ _
        rw [← Hst.out] at hown5
        have Hown5 := Lib.hid hown5
        have Hb5 := Lib.hid (Hb.out.trans hb5)
        clear hg5 hb5 hown5
        go_wp2_with fail
        go_roundw
        case rel => exact ⟨k + 1, _, by omega, rfl, by go_num, Hown5.out, Hb5.out⟩
        case measure => simp [intOf]; omega
      · have Hst := Lib.hid (Hno.out q3)
        clear q3
        go_wp2_with fail
        go_roundw
        case rel => exact ⟨k + 1, _, by omega, rfl, by go_num, by rw [Hst.out]; exact Hown.out, Hb.out⟩
        case measure => simp [intOf]; omega
    · have Hall : Hid (ps.take k = ps) := Lib.hid (List.take_of_length_le (by rw [Hn.out]; omega))
      go_wp2_with fail
      go_ret
      exact ⟨_, rfl, by rw [← Hall.out]; exact Hown.out.mono hsz, hb1.trans (hb.mono hsz)⟩
end Go.Proofs.YtnhcgpkcmfelkaaGreat
