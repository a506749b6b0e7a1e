/-
  My own work: the references' Nights, Tank, round, few, Same; stock.Held: their contracts.
-/
import Derived.Test.YthnkjlcdjjhloaaStock
namespace Go.Proofs.Ythnkjlcdjjhloaa
open Go.RowKit
set_option linter.unusedVariables false

set_option maxHeartbeats 800000 in
theorem same_is (va vb : Value) (xs ys : List Int) (w : World) (ha : Ints w va xs) (hb : Ints w vb ys) :
    Calls Try.prog 21 #[va, vb] w fun e w' => e = .returned (.bool (decide (xs = ys))) ∧ Below w.heap.size w w' := by
  obtain ⟨a, n, c, rfl, hn, hmax, hcell⟩ := ha.open
  obtain ⟨a', n', c', rfl, hn', hmax', hcell'⟩ := hb.open
  have Hn := Lib.hid hn
  have Hn' := Lib.hid hn'
  have Hcell := Lib.hid hcell
  have Hcell' := Lib.hid hcell'
  clear hn hn' ha hb hcell hcell' hmax'
  by_cases hne : n = n'
  · subst hne
    go_enter Try.func21, Try.ntmps21
    go_wp2_with fail
    go_loopw [5] (fun i wr => ∃ k : Nat, k ≤ n ∧ i = .int .i64 k ∧ Below w.heap.size w wr ∧ ∀ j, j < k → nth xs j = nth ys j) (fun i _ => n - (intOf i).toNat)
    case atStart => exact ⟨0, Nat.zero_le _, rfl, Below.refl _ _, fun j hj => by omega⟩
    case round =>
      obtain ⟨k, hk, rfl, hbw, hall⟩ := hrel
      have Hall := Lib.hid hall
      clear hall
      by_cases hlt : k < n
      · obtain ⟨b, o, rfl, hc0⟩ := Hcell.out k hlt
        obtain ⟨b', o', rfl, hc0'⟩ := Hcell'.out k hlt
        have hc := cell_below hbw hc0
        have hc' := cell_below hbw hc0'
        clear hc0 hc0'
        have hi0 : (0 : Int) ≤ (k : Int) := by omega
        have hi1 : (k : Int) < (n : Int) := by omega
        by_cases he : nth xs k = nth ys k
        · have heq : (nth xs k != nth ys k) = false := by simp [he]
          have He := Lib.hid he
          clear he
          go_wp2_with fail
          go_quiet (fail)
          go_wp2_with fail
          go_roundw
          case rel => exact ⟨k + 1, by omega, by go_num, below_drewN hbw nq, fun j hj => by rcases Nat.lt_succ_iff_lt_or_eq.1 hj with h | rfl; exact Hall.out j h; exact He.out⟩
          case measure => simp [intOf]; omega
        · have heq : (nth xs k != nth ys k) = true := by simp [he]
          have Hb : Hid (decide (xs = ys) = false) := by
            show _ = _
            simp only [decide_eq_false_iff_not]
            rintro rfl
            exact he rfl
          clear he
          go_wp2_with fail
          go_quiet (fail)
          go_wp2_with fail
          go_ret
          rw [Hb.out]
          exact ⟨rfl, below_drewN hbw nq⟩
      · have Hb : Hid (decide (xs = ys) = true) := by
          show _ = _
          simp only [decide_eq_true_eq]
          exact ext_nth (by rw [Hn.out, Hn'.out]) (fun j hj => Hall.out j (by rw [Hn.out] at hj; omega))
        go_wp2_with fail
        go_ret
        rw [Hb.out]
        exact ⟨rfl, hbw⟩
  · have Hb : Hid (decide (xs = ys) = false) := by
      show _ = _
      simp only [decide_eq_false_iff_not]
      rintro rfl
      exact hne (by rw [← Hn.out, ← Hn'.out])
    go_enter Try.func21, Try.ntmps21
    go_wp2_with fail
    go_ret
    rw [Hb.out]
    exact ⟨rfl, Below.refl _ _⟩

def rnd (n least most : Int) : Int := least + (if n < 0 then -(n + 1) else n) % (most - least + 1)

theorem rnd_neg (n l m : Int) (hn : (Lit.int .i64 n).wf = true) (h : n < 0) (hl : 0 ≤ l) (hlm : l ≤ m) (hm : m ≤ 1099511627776) :
    wrap64 (l + (wrap64 (-wrap64 (n + 1))).tmod (m - l + 1)) = rnd n l m := by
  have hb := wf_i64 hn
  rw [show wrap64 (n + 1) = n + 1 by unfold wrap64; omega, show wrap64 (-(n + 1)) = -(n + 1) by unfold wrap64; omega, Int.tmod_eq_emod_of_nonneg (by omega)]
  unfold rnd
  rw [if_pos h]
  have h1 := Int.emod_nonneg (-(n + 1)) (b := m - l + 1) (by omega)
  have h2 := Int.emod_lt_of_pos (-(n + 1)) (b := m - l + 1) (by omega)
  generalize -(n + 1) % (m - l + 1) = x at *
  unfold wrap64; omega
theorem rnd_pos (n l m : Int) (h : 0 ≤ n) (hl : 0 ≤ l) (hlm : l ≤ m) (hm : m ≤ 1099511627776) : wrap64 (l + n % (m - l + 1)) = rnd n l m := by
  unfold rnd
  rw [if_neg (by omega)]
  have h1 := Int.emod_nonneg n (b := m - l + 1) (by omega)
  have h2 := Int.emod_lt_of_pos n (b := m - l + 1) (by omega)
  generalize n % (m - l + 1) = x at *
  unfold wrap64; omega
theorem rnd_bd (n l m : Int) (hlm : l ≤ m) : l ≤ rnd n l m ∧ rnd n l m ≤ m := by
  unfold rnd
  have h1 := Int.emod_nonneg (if n < 0 then -(n + 1) else n) (b := m - l + 1) (by omega)
  have h2 := Int.emod_lt_of_pos (if n < 0 then -(n + 1) else n) (b := m - l + 1) (by omega)
  omega

theorem round_is (n l m : Int) (w : World) (hn : (Lit.int .i64 n).wf = true) (hl : 0 ≤ l) (hlm : l ≤ m) (hm : m ≤ 1099511627776) :
    Calls Try.prog 32 #[.int .i64 n, .int .i64 l, .int .i64 m] w fun e w' => e = .returned (.int .i64 (rnd n l m)) ∧ w = w' := by
  by_cases h : n < 0
  · go_enter Try.func32, Try.ntmps32
    go_wp2_with fail
    go_ret
    rw [← rnd_neg n l m hn h hl hlm hm]
    exact ⟨rfl, rfl⟩
  · go_enter Try.func32, Try.ntmps32
    go_wp2_with fail
    go_ret
    rw [← rnd_pos n l m (by omega) hl hlm hm]
    exact ⟨rfl, rfl⟩

theorem few_is (v : Value) (xs : List Int) (w : World) (h : Ints w v xs) :
    Calls Try.prog 18 #[v] w fun e w' => ∃ v', e = .returned v' ∧ w = w' ∧ Ints w v' (xs.take 20) := by
  obtain ⟨a, n, c, rfl, hn, hmax, _⟩ := h.open
  have hcap := h.cap.1
  have Hn := Lib.hid hn
  have H := Lib.hid h
  clear hn h
  by_cases hlt : 20 < n
  · have hc20 : 20 ≤ c := by omega
    go_enter Try.func18, Try.ntmps18
    go_wp2_with fail
    go_ret
    exact ⟨_, rfl, rfl, H.out.take (by omega)⟩
  · go_enter Try.func18, Try.ntmps18
    go_wp2_with fail
    go_ret
    exact ⟨_, rfl, rfl, by rw [List.take_of_length_le (by rw [Hn.out]; omega)]; exact H.out⟩

def sumW (xs : List Int) : Int := xs.foldl (fun a x => wrap64 (a + x)) 0
theorem sumW_from (l : List Int) (b : Int) (h : ∀ x ∈ l, -b ≤ x ∧ x ≤ b) (a : Int) (c : Nat) (ha : -(b * c) ≤ a ∧ a ≤ b * c) (hc : b * (c + l.length : Nat) ≤ 9223372036854775807) (hb : 0 ≤ b) :
    l.foldl (fun a x => wrap64 (a + x)) a = a + l.sum := by
  induction l generalizing a c with
  | nil => simp
  | cons x l ih =>
    have hx := h x (List.mem_cons_self ..)
    have e : b * ((c + 1 + l.length : Nat) : Int) = b * ((c + (x :: l).length : Nat) : Int) := by
      congr 2; simp; omega
    have e2 : b * ((c + 1 : Nat) : Int) = b * c + b := by rw [Int.natCast_succ, Int.mul_add, Int.mul_one]
    have e3 : b * ((c + 1 : Nat) : Int) ≤ b * ((c + 1 + l.length : Nat) : Int) := Int.mul_le_mul_of_nonneg_left (by omega) hb
    rw [e] at e3
    simp only [List.foldl_cons, List.sum_cons]
    rw [wrap_id (by omega) (by omega), ih (fun y hy => h y (List.mem_cons_of_mem _ hy)) (a + x) (c + 1) (by rw [e2]; omega) (by rw [e]; exact hc)]
    omega
theorem sumW_eq (l : List Int) (b : Int) (h : ∀ x ∈ l, -b ≤ x ∧ x ≤ b) (hc : b * (l.length : Nat) ≤ 9223372036854775807) (hb : 0 ≤ b) : sumW l = l.sum := by
  unfold sumW
  rw [sumW_from l b h 0 0 (by simp) (by simpa using hc) hb]
  omega

theorem held_is (kd dm : Int) (pt : Value) (rt sz st ru hd : Int) (v : Value) (xs : List Int) (w : World) (h : Ints w v xs) :
    Calls Try.prog 25 #[.agg #[.int .i64 kd, .int .i64 dm, pt, .int .i64 rt, .int .i64 sz, .int .i64 st, .int .i64 ru, .int .i64 hd], v] w fun e w' =>
      e = .returned (.int .i64 (wrap64 (hd * sumW xs))) ∧ Below w.heap.size w w' := by
  obtain ⟨w1, ew, hb1, hsz1, hcu⟩ := box_cust w kd dm pt rt sz st ru hd
  have hq1 := h.below hb1
  obtain ⟨a, n, c, rfl, hn, hmax, hcell⟩ := hq1.open
  have Hn := Lib.hid hn
  have Hew := Lib.hid ew
  have Hcell := Lib.hid hcell
  have r7 := hcu.c7
  clear hn h hcell hq1 ew hsz1
  go_enter Try.func25, Try.ntmps25
  go_wp2_with fail
  rw [Hew.out]
  go_loop [5, 10] (fun s i => ∃ k : Nat, k ≤ n ∧ i = .int .i64 k ∧ s = .int .i64 (sumW (xs.take k))) (fun _ i => n - (intOf i).toNat)
  case atStart => exact ⟨0, Nat.zero_le _, rfl, rfl⟩
  case round =>
    obtain ⟨k, hk, rfl, rfl⟩ := hrel
    by_cases hlt : k < n
    · obtain ⟨b, o, rfl, hc⟩ := Hcell.out k hlt
      have Hs : Hid (sumW (xs.take (k + 1)) = wrap64 (sumW (xs.take k) + nth xs k)) := by
        show _ = _
        rw [take_succ_nth xs k (by rw [Hn.out]; exact hlt)]; simp [sumW]
      go_wp2_with fail
      go_round
      case rel => exact ⟨k + 1, by omega, by go_num, by rw [Hs.out]⟩
      case measure => simp [intOf]; omega
    · have Hs : Hid (xs.take k = xs) := by
        show _ = _
        rw [List.take_of_length_le]; rw [Hn.out]; omega
      go_wp2_with fail
      go_ret
      rw [Hs.out]
      exact ⟨rfl, hb1⟩
end Go.Proofs.Ythnkjlcdjjhloaa
