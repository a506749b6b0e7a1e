/-
  My own work: days.among, All, Next, Of; tranterref02.All, Next, Same: their contracts.
-/
import Derived.Test.YthiiodagihlggaaDaysB
import Derived.Deep.QuietTactic
import Derived.BigQuiet
namespace Go.Proofs.Ythiiodagihlggaa
open Go.RowKit
set_option linter.unusedVariables false

/-- The days of a set from m on and below d, rising. -/
def allUpto (s m d : Nat) : List Int := ((List.range d).filter fun k => decide (m ≤ k) && s.testBit k).map Int.ofNat
theorem allUpto_start (s m d : Nat) (h : d ≤ m) : allUpto s m d = [] := by
  unfold allUpto
  rw [List.map_eq_nil_iff, List.filter_eq_nil_iff]
  intro k hk
  simp at hk
  simp; omega
theorem allUpto_yes (s m d : Nat) (h : m ≤ d) (hb : s.testBit d = true) : allUpto s m (d + 1) = allUpto s m d ++ [(d : Int)] := by
  unfold allUpto
  rw [List.range_succ, List.filter_append, List.map_append]
  simp [h, hb]
theorem allUpto_no (s m d : Nat) (hb : s.testBit d = false) : allUpto s m (d + 1) = allUpto s m d := by
  unfold allUpto
  rw [List.range_succ, List.filter_append, List.map_append]
  simp [hb]
theorem allUpto_len (s m d : Nat) : (allUpto s m d).length ≤ d := by
  unfold allUpto
  rw [List.length_map]
  have := List.length_filter_le (fun k => decide (m ≤ k) && s.testBit k) (List.range d)
  rwa [List.length_range] at this

def ListOut (w : World) (xs : List Int) (e : Ending) (w' : World) : Prop := ∃ v, e = .returned v ∧ Own w' w.heap.size v xs ∧ Below w.heap.size w w'

set_option maxHeartbeats 800000 in
theorem among_nat (s m : Nat) (w : World) (hs : s < 18446744073709551616) : Calls Try.prog 33 #[.func (.func 18) #[.int .u64 s] #[], .int .i64 m] w (ListOut w (allUpto s m 64)) := by
  have hd : ¬ (m : Int) < 0 := by omega
  have hm : m = m := rfl
  go_enter Try.func33, Try.ntmps33
  go_wp2_with fail
  go_loopw [5, 6] (fun v i wr => ∃ (k : Nat) (u : Value), i = .int .i64 k ∧ u = v ∧ m ≤ k ∧ (k ≤ 64 ∨ k = m) ∧ Own wr w.heap.size u (allUpto s m k) ∧ Below w.heap.size w wr) (fun _ i _ => 64 - (intOf i).toNat)
  case atStart => exact ⟨m, _, rfl, rfl, Nat.le_refl _, .inr rfl, by rw [allUpto_start s m m (Nat.le_refl _)]; exact Own.nil _ _, Below.refl _ _⟩
  case round =>
    obtain ⟨k, v, rfl, rfl, hmk, hk, hown, hb⟩ := hrel
    by_cases hlt : k < 64
    · have Hmk := Lib.hid hmk
      have Hm := Lib.hid hm
      clear hk hmk hm
      have hh := has_is s (k : Int) wr hs
      have hhb : hasB s (k : Int) = s.testBit k := by
        unfold hasB thereB
        rw [decide_eq_true (by omega), decide_eq_true (by omega)]
        simp
      rw [hhb] at hh
      clear hhb
      cases ht : s.testBit k with
      | true =>
        rw [ht] at hh
        have Hh := Lib.hid hh
        have Hy := Lib.hid (allUpto_yes s m k Hmk.out ht)
        have Hl := Lib.hid (allUpto_len s m k)
        clear hh ht
        go_wp2_with fail
        refine Hh.out.mono ?_
        rintro e w1 ⟨rfl, rfl⟩
        go_wp2_with (at_builtin; refine wpList_push rfl _ _ rfl wr w.heap.size v (allUpto s m k) (k : Int) rfl rfl hown (by have := Hl.out; omega) hb.size ?_)
        intro v' w5 hown5 g5 hb5
        rw [← Hy.out] at hown5
        have hb5' := hb.trans hb5
        clear g5 hb5 hown
        go_wp2_with fail
        go_roundw
        case rel => exact ⟨k + 1, _, by go_num, rfl, by have := Hmk.out; omega, .inl (by omega), hown5, hb5'⟩
        case measure => simp [intOf]; omega
      | false =>
        rw [ht] at hh
        have Hh := Lib.hid hh
        have Hy := Lib.hid (allUpto_no s m k ht)
        clear hh ht
        go_wp2_with fail
        refine Hh.out.mono ?_
        rintro e w1 ⟨rfl, rfl⟩
        go_wp2_with fail
        go_roundw
        case rel => exact ⟨k + 1, _, by go_num, rfl, by have := Hmk.out; omega, .inl (by omega), by rw [Hy.out]; exact hown, hb⟩
        case measure => simp [intOf]; omega
    · have hfin : allUpto s m k = allUpto s m 64 := by
        rcases hk with h | h
        · rw [show k = 64 by omega]
        · rw [allUpto_start s m k (by omega), allUpto_start s m 64 (by omega)]
      rw [hfin] at hown
      clear hfin hk hmk
      have Hm := Lib.hid hm
      clear hm
      go_wp2_with fail
      go_ret
      exact ⟨_, rfl, hown, hb⟩

set_option maxHeartbeats 800000 in
theorem among_neg (s : Nat) (d : Int) (w : World) (hs : s < 18446744073709551616) (hd : d < 0) : Calls Try.prog 33 #[.func (.func 18) #[.int .u64 s] #[], .int .i64 d] w (ListOut w (allUpto s 0 64)) := by
  obtain ⟨m, hm⟩ : ∃ m : Nat, m = 0 := ⟨0, rfl⟩
  rw [← hm]
  go_enter Try.func33, Try.ntmps33
  go_wp2_with fail
  rw [show Value.int .i64 0 = .int .i64 (m : Int) by rw [hm]; rfl]
  go_loopw [5, 6] (fun v i wr => ∃ (k : Nat) (u : Value), i = .int .i64 k ∧ u = v ∧ m ≤ k ∧ (k ≤ 64 ∨ k = m) ∧ Own wr w.heap.size u (allUpto s m k) ∧ Below w.heap.size w wr) (fun _ i _ => 64 - (intOf i).toNat)
  case atStart => exact ⟨m, _, rfl, rfl, Nat.le_refl _, .inr rfl, by rw [allUpto_start s m m (Nat.le_refl _)]; exact Own.nil _ _, Below.refl _ _⟩
  case round =>
    obtain ⟨k, v, rfl, rfl, hmk, hk, hown, hb⟩ := hrel
    by_cases hlt : k < 64
    · have Hmk := Lib.hid hmk
      have Hm := Lib.hid hm
      clear hk hmk hm
      have hh := has_is s (k : Int) wr hs
      have hhb : hasB s (k : Int) = s.testBit k := by
        unfold hasB thereB
        rw [decide_eq_true (by omega), decide_eq_true (by omega)]
        simp
      rw [hhb] at hh
      clear hhb
      cases ht : s.testBit k with
      | true =>
        rw [ht] at hh
        have Hh := Lib.hid hh
        have Hy := Lib.hid (allUpto_yes s m k Hmk.out ht)
        have Hl := Lib.hid (allUpto_len s m k)
        clear hh ht
        go_wp2_with fail
        refine Hh.out.mono ?_
        rintro e w1 ⟨rfl, rfl⟩
        go_wp2_with (at_builtin; refine wpList_push rfl _ _ rfl wr w.heap.size v (allUpto s m k) (k : Int) rfl rfl hown (by have := Hl.out; omega) hb.size ?_)
        intro v' w5 hown5 g5 hb5
        rw [← Hy.out] at hown5
        have hb5' := hb.trans hb5
        clear g5 hb5 hown
        go_wp2_with fail
        go_roundw
        case rel => exact ⟨k + 1, _, by go_num, rfl, by have := Hmk.out; omega, .inl (by omega), hown5, hb5'⟩
        case measure => simp [intOf]; omega
      | false =>
        rw [ht] at hh
        have Hh := Lib.hid hh
        have Hy := Lib.hid (allUpto_no s m k ht)
        clear hh ht
        go_wp2_with fail
        refine Hh.out.mono ?_
        rintro e w1 ⟨rfl, rfl⟩
        go_wp2_with fail
        go_roundw
        case rel => exact ⟨k + 1, _, by go_num, rfl, by have := Hmk.out; omega, .inl (by omega), by rw [Hy.out]; exact hown, hb⟩
        case measure => simp [intOf]; omega
    · have hfin : allUpto s m k = allUpto s m 64 := by
        rcases hk with h | h
        · rw [show k = 64 by omega]
        · rw [allUpto_start s m k (by omega), allUpto_start s m 64 (by omega)]
      rw [hfin] at hown
      clear hfin hk hmk
      have Hm := Lib.hid hm
      clear hm
      go_wp2_with fail
      go_ret
      exact ⟨_, rfl, hown, hb⟩

set_option maxHeartbeats 800000 in
theorem among_is (s : Nat) (d : Int) (w : World) (hs : s < 18446744073709551616) : Calls Try.prog 33 #[.func (.func 18) #[.int .u64 s] #[], .int .i64 d] w (ListOut w (allUpto s d.toNat 64)) := by
  have H : ∃ m : Nat, d.toNat = m ∧ max d 0 = (m : Int) := ⟨d.toNat, rfl, by omega⟩
  obtain ⟨m, hm, hmx⟩ := H
  rw [hm]
  by_cases hd : d < 0
  · have hm0 : m = 0 := by omega
    subst hm0
    clear hmx hm
    exact among_neg s d w hs hd
  · have hdm : d = (m : Int) := by omega
    subst hdm
    clear hmx hm hd
    exact among_nat s m w hs

theorem all_is (s : Nat) (w : World) (hs : s < 18446744073709551616) : Calls Try.prog 13 #[.int .u64 s] w (ListOut w (allUpto s 0 64)) := by
  go_enter Try.func13, Try.ntmps13
  go_wp2_with fail
  refine (among_is s 0 w hs).mono ?_
  rintro e w1 ⟨v, rfl, hown, hb⟩
  go_wp2_with fail
  go_ret
  exact ⟨_, rfl, hown, hb⟩

set_option maxHeartbeats 800000 in
theorem refAll_is (s : Nat) (w : World) (hs : s < 18446744073709551616) : Calls Try.prog 29 #[.int .u64 s] w (ListOut w (allUpto s 0 64)) := by
  go_enter Try.func29, Try.ntmps29
  go_wp2_with fail
  refine (bits_is s w hs).mono ?_
  rintro e w1 ⟨g, c, rfl, hown1, hb1⟩
  obtain ⟨a, n1, c1, he, _, _, hcell⟩ := hown1.ints.open
  simp only [Value.slice.injEq] at he
  obtain ⟨rfl, rfl, rfl⟩ := he
  have hcell' : ∀ k, k < 64 → w1.cell? ⟨g, k, none⟩ = some (.int .i64 (bitI s k)) := fun k hk => by
    obtain ⟨b, o, he, hc⟩ := hcell k hk
    simp only [Option.some.injEq, Addr.mk.injEq, and_true] at he
    obtain ⟨rfl, rfl⟩ := he
    rw [nth_bits s k hk, Nat.zero_add] at hc
    exact hc
  have hgl : g < w1.heap.size := World.block_lt_of_cell? w1 _ (hcell' 0 (by decide))
  have Hcell := Lib.hid hcell'
  have Hb1 := Lib.hid hb1
  have hsz : w.heap.size ≤ w1.heap.size := hb1.size
  clear hcell hcell' hown1 hb1
  go_wp2_with fail
  go_loopw [3, 5] (fun v i wr => ∃ (k : Nat) (u : Value), i = .int .i64 k ∧ u = v ∧ k ≤ 64 ∧ Own wr w1.heap.size u (allUpto s 0 k) ∧ Below w1.heap.size w1 wr) (fun _ i _ => 64 - (intOf i).toNat)
  case atStart => exact ⟨0, _, rfl, rfl, by decide, Own.nil _ _, Below.refl _ _⟩
  case round =>
    obtain ⟨k, v, rfl, rfl, hk, hown, hb⟩ := hrel
    by_cases hlt : k < 64
    · have hc := cell_lt hb hgl (Hcell.out k hlt)
      have hbi := bitI_one s k
      obtain ⟨B, hB⟩ : ∃ B, B = bitI s k := ⟨_, rfl⟩
      rw [← hB] at hc hbi
      have hk0 : (0 : Int) ≤ (k : Int) := by omega
      clear hB hk
      cases ht : s.testBit k with
      | true =>
        rw [ht] at hbi
        have Hy := Lib.hid (allUpto_yes s 0 k (Nat.zero_le _) ht)
        have Hl := Lib.hid (allUpto_len s 0 k)
        clear ht
        go_wp2_with (at_builtin; refine wpList_push rfl _ _ rfl wr w1.heap.size v (allUpto s 0 k) (k : Int) rfl rfl hown (by have := Hl.out; omega) hb.size ?_)
        intro v' w5 hown5 g5 hb5
        rw [← Hy.out] at hown5
        have hb5' := hb.trans hb5
        clear g5 hb5 hown hbi hc
        go_wp2_with fail
        go_roundw
        case rel => exact ⟨k + 1, _, by go_num, rfl, by omega, hown5, hb5'⟩
        case measure => simp [intOf]; omega
      | false =>
        rw [ht] at hbi
        have Hy := Lib.hid (allUpto_no s 0 k ht)
        clear ht
        go_wp2_with fail
        go_roundw
        case rel => exact ⟨k + 1, _, by go_num, rfl, by omega, by rw [Hy.out]; exact hown, hb⟩
        case measure => simp [intOf]; omega
    · have hk64 : k = 64 := by omega
      subst hk64
      go_wp2_with fail
      go_ret
      exact ⟨_, rfl, hown.mono hsz, Hb1.out.trans (hb.mono hsz)⟩

/-- The first day of a set from m on; -1, where there is none. -/
def nextI (s : Nat) (d : Int) : Int := (allUpto s d.toNat 64).headD (-1)
theorem allUpto_filter (s : Nat) (d : Int) (n : Nat) : allUpto s d.toNat n = (allUpto s 0 n).filter fun x => decide (d ≤ x) := by
  unfold allUpto
  rw [List.filter_map, List.filter_filter]
  congr 1
  apply List.filter_congr
  intro k _
  have : decide (d.toNat ≤ k) = decide (d ≤ (k : Int)) := by rw [decide_eq_decide]; omega
  simp [Function.comp, this]
theorem next_found (xs : List Int) (d : Int) (k : Nat) (hk : k < xs.length) (h0 : (xs.take k).filter (fun x => decide (d ≤ x)) = []) (h1 : d ≤ nth xs k) : (xs.filter fun x => decide (d ≤ x)).headD (-1) = nth xs k := by
  conv => lhs; rw [← List.take_append_drop k xs, List.filter_append, h0]
  rw [List.nil_append, List.drop_eq_getElem_cons hk, ← nth_lt hk, List.filter_cons, if_pos (by simpa using h1)]
  rfl
theorem next_more (xs : List Int) (d : Int) (k : Nat) (hk : k < xs.length) (h0 : (xs.take k).filter (fun x => decide (d ≤ x)) = []) (h1 : ¬ d ≤ nth xs k) : (xs.take (k + 1)).filter (fun x => decide (d ≤ x)) = [] := by
  rw [take_succ_nth xs k hk, List.filter_append, h0]
  simp; omega

set_option maxHeartbeats 800000 in
theorem refNext_is (s : Nat) (d : Int) (w : World) (hs : s < 18446744073709551616) : Calls Try.prog 30 #[.int .u64 s, .int .i64 d] w fun e w' => e = .returned (.int .i64 (nextI s d)) ∧ Below w.heap.size w w' := by
  have Hn : Hid (nextI s d = ((allUpto s 0 64).filter fun x => decide (d ≤ x)).headD (-1)) := Lib.hid (by unfold nextI; rw [allUpto_filter])
  go_enter Try.func30, Try.ntmps30
  go_wp2_with fail
  refine (refAll_is s w hs).mono ?_
  rintro e w1 ⟨v, rfl, hown1, hb1⟩
  obtain ⟨a, n, c, rfl, hn, hmax, hcell⟩ := hown1.ints.open
  have Hcell := Lib.hid hcell
  have Hl := Lib.hid hn
  clear hcell hn hown1
  go_wp2_with fail
  go_loop [6] (fun i => ∃ (k : Nat), i = .int .i64 k ∧ k ≤ n ∧ ((allUpto s 0 64).take k).filter (fun x => decide (d ≤ x)) = []) (fun i => n - (intOf i).toNat)
  case atStart => exact ⟨0, rfl, Nat.zero_le _, rfl⟩
  case round =>
    obtain ⟨k, rfl, hk, h0⟩ := hrel
    by_cases hlt : k < n
    · obtain ⟨b, o, rfl, hc⟩ := Hcell.out k hlt
      have hk0 : (0 : Int) ≤ (k : Int) := by omega
      have hk1 : (k : Int) < (n : Int) := by omega
      by_cases hd : d ≤ nth (allUpto s 0 64) k
      · have Hf := Lib.hid (next_found _ d k (by rw [Hl.out]; exact hlt) h0 hd)
        have hd' : decide (d ≤ nth (allUpto s 0 64) k) = true := by simpa using hd
        clear h0 hd
        go_wp2_with fail
        go_ret
        rw [Hn.out, Hf.out]
        exact ⟨rfl, hb1⟩
      · have Hf := Lib.hid (next_more _ d k (by rw [Hl.out]; exact hlt) h0 hd)
        have hd' : decide (d ≤ nth (allUpto s 0 64) k) = false := by simpa using hd
        clear h0 hd
        go_wp2_with fail
        go_round
        case rel => exact ⟨k + 1, by go_num, by omega, Hf.out⟩
        case measure => simp [intOf]; omega
    · have hkn : k = n := by omega
      subst hkn
      rw [List.take_of_length_le (by rw [Hl.out]; exact Nat.le_refl _)] at h0
      have Hf := Lib.hid h0
      clear h0
      go_wp2_with fail
      go_ret
      rw [Hn.out, Hf.out]
      exact ⟨rfl, hb1⟩

theorem next_is (s : Nat) (d : Int) (w : World) (hs : s < 18446744073709551616) : Calls Try.prog 21 #[.int .u64 s, .int .i64 d] w fun e w' => e = .returned (.int .i64 (nextI s d)) ∧ Below w.heap.size w w' := by
  go_enter Try.func21, Try.ntmps21
  go_wp2_with fail
  refine (among_is s d w hs).mono ?_
  rintro e w1 ⟨v, rfl, hown1, hb1⟩
  obtain ⟨a, n, c, rfl, hn, hmax, hcell⟩ := hown1.ints.open
  have Hn : Hid (nextI s d = (allUpto s d.toNat 64).headD (-1)) := Lib.hid rfl
  generalize allUpto s d.toNat 64 = xs at *
  cases xs with
  | nil =>
    simp only [List.length_nil] at hn
    subst hn
    clear hcell hown1
    go_wp2_with fail
    go_ret
    rw [Hn.out]
    exact ⟨rfl, hb1⟩
  | cons x xs =>
    simp only [List.length_cons] at hn
    obtain ⟨b, o, rfl, hc⟩ := hcell 0 (by omega)
    rw [Nat.add_zero, show nth (x :: xs) 0 = x from rfl] at hc
    have h0 : ((n : Int) == 0) = false := by rw [beq_eq_false_iff_ne]; omega
    have h1 : (0 : Int) < (n : Int) := by omega
    have h2 : 0 < n := by omega
    clear hcell hown1 hn
    go_wp2_with fail
    go_ret
    rw [Hn.out]
    exact ⟨rfl, hb1⟩

set_option maxHeartbeats 800000 in
theorem same_is (va vb : Value) (xs ys : List Int) (w : World) (ha : Ints w va xs) (hb : Ints w vb ys) : Calls Try.prog 28 #[va, vb] w fun e w' => e = .returned (.bool (decide (xs = ys))) ∧ Below w.heap.size w w' := by
  obtain ⟨a, n, c, rfl, hn, hmax, hcell⟩ := ha.open
  obtain ⟨a', n', c', rfl, hn', hmax', hcell'⟩ := hb.open
  have Hn := Lib.hid hn
  have Hn' := Lib.hid hn'
  have Hcell := Lib.hid hcell
  have Hcell' := Lib.hid hcell'
  clear hn hn' ha hb hcell hcell' hmax'
  by_cases hne : n = n'
  rotate_left
  · have hne' : ((n : Int) != (n' : Int)) = true := by rw [bne_iff_ne]; omega
    have Hc : Hid (decide (xs = ys) = false) := Lib.hid (decide_eq_false (by intro e; rw [e, Hn'.out] at Hn; exact hne Hn.out.symm))
    clear hne
    go_enter Try.func28, Try.ntmps28
    go_wp2_with fail
    go_ret
    rw [Hc.out]
    exact ⟨rfl, Below.refl _ _⟩
  · subst hne
    go_enter Try.func28, Try.ntmps28
    go_wp2_with fail
    go_loopw [5] (fun i wr => ∃ k : Nat, k ≤ n ∧ i = .int .i64 (k : Int) ∧ (∀ j, j < k → nth xs j = nth ys j) ∧ Below w.heap.size w wr) (fun i _ => n - (intOf i).toNat)
    case atStart => exact ⟨0, Nat.zero_le _, rfl, fun j hj => absurd hj (by omega), Below.refl _ _⟩
    case round =>
      obtain ⟨k, hk, rfl, hd, hbw⟩ := hrel
      have Hd := Lib.hid hd
      clear hd
      by_cases hlt : k < n
      · obtain ⟨b, o, rfl, hc0⟩ := Hcell.out k hlt
        obtain ⟨b', o', rfl, hc0'⟩ := Hcell'.out k hlt
        have hc := cell_below hbw hc0
        have hc' := cell_below hbw hc0'
        have hk0 : (0 : Int) ≤ (k : Int) := by omega
        have hk1 : (k : Int) < (n : Int) := by omega
        clear hc0 hc0'
        by_cases h1 : nth xs k = nth ys k
        · have h1' : (nth xs k != nth ys k) = false := by simpa using h1
          have Heq := Lib.hid h1
          clear h1
          go_wp2_with fail
          go_quiet (fail)
          go_wp2_with fail
          go_roundw
          case rel => exact ⟨k + 1, by omega, by go_num, fun j hj => by by_cases h : j < k; exact Hd.out j h; rw [show j = k by omega]; exact Heq.out, below_drewN hbw _⟩
          case measure => simp [intOf]; omega
        · have h1' : (nth xs k != nth ys k) = true := by simpa using h1
          have Hc : Hid (decide (xs = ys) = false) := Lib.hid (decide_eq_false (by intro e; rw [e] at h1; exact h1 rfl))
          clear h1
          go_wp2_with fail
          go_quiet (fail)
          go_wp2_with fail
          go_ret
          rw [Hc.out]
          exact ⟨rfl, below_drewN hbw _⟩
      · have Hc : Hid (decide (xs = ys) = true) := Lib.hid (decide_eq_true (ext_nth (by rw [Hn.out, Hn'.out]) (fun k hk => Hd.out k (by rw [Hn.out] at hk; omega))))
        go_wp2_with fail
        go_ret
        rw [Hc.out]
        exact ⟨rfl, hbw⟩

/-- The set of days. -/
def ofUpto (xs : List Int) (k : Nat) : Nat := (xs.take k).foldl withN 0
theorem ofUpto_succ (xs : List Int) (k : Nat) (h : k < xs.length) : ofUpto xs (k + 1) = withN (ofUpto xs k) (nth xs k) := by
  unfold ofUpto
  rw [take_succ_nth xs k h, List.foldl_append]
  rfl
theorem foldl_with_lt (xs : List Int) : ∀ s, s < 18446744073709551616 → xs.foldl withN s < 18446744073709551616 := by
  induction xs with
  | nil => intro s h; exact h
  | cons x xs ih => intro s h; exact ih _ (with_lt x h)
theorem ofUpto_lt (xs : List Int) (k : Nat) : ofUpto xs k < 18446744073709551616 := foldl_with_lt _ _ (by decide)

set_option maxHeartbeats 800000 in
theorem daysOf_is (v : Value) (xs : List Int) (w : World) (hv : Ints w v xs) : Calls Try.prog 12 #[v] w fun e w' => e = .returned (.int .u64 (ofUpto xs xs.length)) ∧ w = w' := by
  obtain ⟨a, n, c, rfl, hn, hmax, hcell⟩ := hv.open
  rw [hn]
  have Hn := Lib.hid hn
  have Hcell := Lib.hid hcell
  clear hn hcell hv
  go_enter Try.func12, Try.ntmps12
  go_wp2_with fail
  go_loop [3, 8] (fun x i => ∃ k S : Nat, k ≤ n ∧ i = .int .i64 k ∧ x = .int .u64 (S : Int) ∧ S = ofUpto xs k) (fun _ i => n - (intOf i).toNat)
  case atStart => exact ⟨0, 0, Nat.zero_le _, rfl, rfl, rfl⟩
  case round =>
    obtain ⟨k, S, hk, rfl, rfl, hS⟩ := hrel
    by_cases hlt : k < n
    · obtain ⟨b, o, rfl, hc⟩ := Hcell.out k hlt
      have hk0 : (0 : Int) ≤ (k : Int) := by omega
      have hk1 : (k : Int) < (n : Int) := by omega
      have Hs : Hid (withN S (nth xs k) = ofUpto xs (k + 1)) := Lib.hid (by rw [hS]; exact (ofUpto_succ xs k (by rw [Hn.out]; exact hlt)).symm)
      have hlS := Lib.hid (show S < 18446744073709551616 by rw [hS]; exact ofUpto_lt _ _)
      clear hS
      go_wp2_with fail
      refine (with_is S (nth xs k) _ hlS.out).mono ?_
      rintro e w' ⟨rfl, rfl⟩
      go_wp2_with fail
      go_round
      case rel => exact ⟨k + 1, _, by omega, by go_num, rfl, Hs.out⟩
      case measure => simp [intOf]; omega
    · have hkn : k = n := by omega
      subst hkn
      have HS := Lib.hid hS
      clear hS
      go_wp2_with fail
      go_ret
      rw [HS.out]
      exact ⟨rfl, rfl⟩
end Go.Proofs.Ythiiodagihlggaa
