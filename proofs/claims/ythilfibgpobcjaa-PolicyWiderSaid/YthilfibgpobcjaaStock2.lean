/-
  My own work: the references' Nights, Tank, round, few, Same; stock.Held: their contracts.
-/
import Derived.Test.YthilfibgpobcjaaStock
namespace Go.Proofs.Ythilfibgpobcjaa
open Go.RowKit
set_option linter.unusedVariables false

set_option maxHeartbeats 800000 in
theorem same_is (va vb : Value) (xs ys : List Int) (w : World) (ha : Ints w va xs) (hb : Ints w vb ys) :
    Calls Try.prog 40 #[va, vb] w fun e w' => e = .returned (.bool (decide (xs = ys))) ∧ Below w.heap.size w w' := by
  obtain ⟨a, n, c, rfl, hn, hmax, hcell⟩ := ha.open
  obtain ⟨a', n', c', rfl, hn', hmax', hcell'⟩ := hb.open
  have Hn := Lib.hid hn
  have Hn' := Lib.hid hn'
  have Hcell := Lib.hid hcell
  have Hcell' := Lib.hid hcell'
  clear hn hn' ha hb hcell hcell' hmax'
  by_cases hne : n = n'
  · subst hne
    go_enter Try.func40, Try.ntmps40
    go_wp2_with fail
    go_loopw [5] (fun i wr => ∃ k : Nat, k ≤ n ∧ i = .int .i64 k ∧ Below w.heap.size w wr ∧ ∀ j, j < k → nth xs j = nth ys j) (fun i _ => n - (intOf i).toNat)
    case atStart => exact ⟨0, Nat.zero_le _, rfl, Below.refl _ _, fun j hj => by omega⟩
    case round =>
      obtain ⟨k, hk, rfl, hbw, hall⟩ := hrel
      have Hall := Lib.hid hall
      clear hall
      by_cases hlt : k < n
      · obtain ⟨b, o, rfl, hc0⟩ := Hcell.out k hlt
        obtain ⟨b', o', rfl, hc0'⟩ := Hcell'.out k hlt
        have hc := cell_below hbw hc0
        have hc' := cell_below hbw hc0'
        clear hc0 hc0'
        have hi0 : (0 : Int) ≤ (k : Int) := by omega
        have hi1 : (k : Int) < (n : Int) := by omega
        by_cases he : nth xs k = nth ys k
        · have heq : (nth xs k != nth ys k) = false := by simp [he]
          have He := Lib.hid he
          clear he
          go_wp2_with fail
          go_quiet (fail)
          go_wp2_with fail
          go_roundw
          case rel => exact ⟨k + 1, by omega, by go_num, below_drewN hbw nq, fun j hj => by rcases Nat.lt_succ_iff_lt_or_eq.1 hj with h | rfl; exact Hall.out j h; exact He.out⟩
          case measure => simp [intOf]; omega
        · have heq : (nth xs k != nth ys k) = true := by simp [he]
          have Hb : Hid (decide (xs = ys) = false) := by
            show _ = _
            simp only [decide_eq_false_iff_not]
            rintro rfl
            exact he rfl
          clear he
          go_wp2_with fail
          go_quiet (fail)
          go_wp2_with fail
          go_ret
          rw [Hb.out]
          exact ⟨rfl, below_drewN hbw nq⟩
      · have Hb : Hid (decide (xs = ys) = true) := by
          show _ = _
          simp only [decide_eq_true_eq]
          exact ext_nth (by rw [Hn.out, Hn'.out]) (fun j hj => Hall.out j (by rw [Hn.out] at hj; omega))
        go_wp2_with fail
        go_ret
        rw [Hb.out]
        exact ⟨rfl, hbw⟩
  · have Hb : Hid (decide (xs = ys) = false) := by
      show _ = _
      simp only [decide_eq_false_iff_not]
      rintro rfl
      exact hne (by rw [← Hn.out, ← Hn'.out])
    go_enter Try.func40, Try.ntmps40
    go_wp2_with fail
    go_ret
    rw [Hb.out]
    exact ⟨rfl, Below.refl _ _⟩

def rnd (n least most : Int) : Int := least + (if n < 0 then -(n + 1) else n) % (most - least + 1)

theorem rnd_neg (n l m : Int) (hn : (Lit.int .i64 n).wf = true) (h : n < 0) (hl : 0 ≤ l) (hlm : l ≤ m) (hm : m ≤ 1099511627776) :
    wrap64 (l + (wrap64 (-wrap64 (n + 1))).tmod (m - l + 1)) = rnd n l m := by
  have hb := wf_i64 hn
  rw [show wrap64 (n + 1) = n + 1 by unfold wrap64; omega, show wrap64 (-(n + 1)) = -(n + 1) by unfold wrap64; omega, Int.tmod_eq_emod_of_nonneg (by omega)]
  unfold rnd
  rw [if_pos h]
  have h1 := Int.emod_nonneg (-(n + 1)) (b := m - l + 1) (by omega)
  have h2 := Int.emod_lt_of_pos (-(n + 1)) (b := m - l + 1) (by omega)
  generalize -(n + 1) % (m - l + 1) = x at *
  unfold wrap64; omega
theorem rnd_pos (n l m : Int) (h : 0 ≤ n) (hl : 0 ≤ l) (hlm : l ≤ m) (hm : m ≤ 1099511627776) : wrap64 (l + n % (m - l + 1)) = rnd n l m := by
  unfold rnd
  rw [if_neg (by omega)]
  have h1 := Int.emod_nonneg n (b := m - l + 1) (by omega)
  have h2 := Int.emod_lt_of_pos n (b := m - l + 1) (by omega)
  generalize n % (m - l + 1) = x at *
  unfold wrap64; omega
theorem rnd_bd (n l m : Int) (hlm : l ≤ m) : l ≤ rnd n l m ∧ rnd n l m ≤ m := by
  unfold rnd
  have h1 := Int.emod_nonneg (if n < 0 then -(n + 1) else n) (b := m - l + 1) (by omega)
  have h2 := Int.emod_lt_of_pos (if n < 0 then -(n + 1) else n) (b := m - l + 1) (by omega)
  omega

theorem round_is (n l m : Int) (w : World) (hn : (Lit.int .i64 n).wf = true) (hl : 0 ≤ l) (hlm : l ≤ m) (hm : m ≤ 1099511627776) :
    Calls Try.prog 53 #[.int .i64 n, .int .i64 l, .int .i64 m] w fun e w' => e = .returned (.int .i64 (rnd n l m)) ∧ w = w' := by
  by_cases h : n < 0
  · go_enter Try.func53, Try.ntmps53
    go_wp2_with fail
    go_ret
    rw [← rnd_neg n l m hn h hl hlm hm]
    exact ⟨rfl, rfl⟩
  · go_enter Try.func53, Try.ntmps53
    go_wp2_with fail
    go_ret
    rw [← rnd_pos n l m (by omega) hl hlm hm]
    exact ⟨rfl, rfl⟩
end Go.Proofs.Ythilfibgpobcjaa
