/-
  My own work: tranterref01.plus, minus, size: their contracts.
-/
import Derived.Test.YthiiodagihlggaaBigPl
import Derived.RegionTactic
import Derived.Deep.QuietTactic
import Derived.BigQuiet
namespace Go.Proofs.Ythiiodagihlggaa
open Go.RowKit
set_option linter.unusedVariables false

/-- One digit more of a sum. -/
theorem plus_step (xs ys cs : List Int) (k : Nat) (cy t : Int) (hx : Dg xs) (hy : Dg ys) (hc : Dg cs) (hl : cs.length = k) (h0 : 0 ≤ cy) (h1 : cy ≤ 1) (ht : t = cy + nth xs k + nth ys k)
    (hv : dval cs + pw k * cy = dval (xs.take k) + dval (ys.take k)) :
    Dg (cs ++ [t % 65536]) ∧ 0 ≤ t / 65536 ∧ t / 65536 ≤ 1 ∧ dval (cs ++ [t % 65536]) + pw (k + 1) * (t / 65536) = dval (xs.take (k + 1)) + dval (ys.take (k + 1)) := by
  have b1 := nth_dg hx k
  have b2 := nth_dg hy k
  refine ⟨hc.snoc (by omega) (by omega), by omega, by omega, ?_⟩
  rw [dval_snoc, hl, dval_take_succ, dval_take_succ, pw]
  have e : t % 65536 + 65536 * (t / 65536) = t := by omega
  have : pw k * (t % 65536) + 65536 * pw k * (t / 65536) = pw k * cy + pw k * nth xs k + pw k * nth ys k := by
    rw [Int.mul_comm 65536 (pw k), Int.mul_assoc, ← Int.mul_add, e, ht, Int.mul_add, Int.mul_add]
  omega

set_option maxHeartbeats 1600000 in
theorem plus_is (va vb : Value) (xs ys : List Int) (w : World) (ha : Ints w va xs) (hb : Ints w vb ys) (hx : Dg xs) (hy : Dg ys) (hlx : xs.length ≤ 1000) (hly : ys.length ≤ 1000) :
    Calls Try.prog 44 #[va, vb] w fun e w' => ∃ v cs, e = .returned v ∧ Own w' w.heap.size v cs ∧ Dg cs ∧ dval cs = dval xs + dval ys ∧ cs.length ≤ max xs.length ys.length + 1 ∧ Below w.heap.size w w' := by
  obtain ⟨a, n, c, rfl, hn, _, hcell⟩ := ha.open
  obtain ⟨a', n', c', rfl, hn', _, hcell'⟩ := hb.open
  have Hn := Lib.hid hn
  have Hn' := Lib.hid hn'
  have Hcell := Lib.hid hcell
  have Hcell' := Lib.hid hcell'
  have Hx := Lib.hid hx
  have Hy := Lib.hid hy
  have hl1 : n ≤ 1000 := by omega
  have hl2 : n' ≤ 1000 := by omega
  obtain ⟨M, hM⟩ : ∃ M, M = max n n' := ⟨_, rfl⟩
  have hM1 : n ≤ M := by omega
  have hM2 : n' ≤ M := by omega
  have hM3 : M ≤ 1000 := by omega
  have HM := Lib.hid hM
  clear hn hn' ha hb hcell hcell' hx hy hlx hly hM
  go_enter Try.func44, Try.ntmps44
  go_wp2_with fail
  go_loopw [5, 6, 7] (fun u t i wr => ∃ (k : Nat) (v : Value) (cs : List Int) (cy : Int), k ≤ M + 1 ∧ v = u ∧ i = .int .i64 k ∧ t = .int .i64 cy ∧ 0 ≤ cy ∧ cy ≤ 1 ∧ (k = M + 1 → cy = 0) ∧ Own wr w.heap.size v cs ∧ cs.length = k ∧ Dg cs ∧
      dval cs + pw k * cy = dval (xs.take k) + dval (ys.take k) ∧ Below w.heap.size w wr) (fun _ _ i _ => M + 1 - (intOf i).toNat)
  case atStart => exact ⟨0, _, [], 0, Nat.zero_le _, rfl, rfl, rfl, by omega, by omega, fun h => rfl, Own.nil _ _, rfl, Dg.nil, by simp [dval], Below.refl _ _⟩
  case round =>
    obtain ⟨k, v, cs, cy, hk, rfl, rfl, rfl, hc0, hc1, hend, hown, hl, hdg, hv, hb⟩ := hrel
    have Hend := Lib.hid hend
    have Hl := Lib.hid hl
    have Hdg := Lib.hid hdg
    have Hv := Lib.hid hv
    clear hend hl hdg hv
    obtain ⟨A, hA⟩ : ∃ A, A = nth xs k := ⟨_, rfl⟩
    obtain ⟨B, hB⟩ : ∃ B, B = nth ys k := ⟨_, rfl⟩
    have bA := nth_dg Hx.out k
    have bB := nth_dg Hy.out k
    rw [← hA] at bA
    rw [← hB] at bB
    obtain ⟨bA1, bA2⟩ := bA
    obtain ⟨bB1, bB2⟩ := bB
    by_cases h1 : k < n
    · obtain ⟨b, o, rfl, hcx0⟩ := Hcell.out k h1
      have hcx := cell_below hb hcx0
      rw [← hA] at hcx
      have HA := Lib.hid hA
      clear hcx0 hA
      by_cases h2 : k < n'
      · obtain ⟨b', o', rfl, hcy0⟩ := Hcell'.out k h2
        have hcy := cell_below hb hcy0
        rw [← hB] at hcy
        have HB := Lib.hid hB
        clear hcy0 hB
        have hst := Lib.hid (plus_step xs ys cs k cy (cy + A + B) Hx.out Hy.out Hdg.out Hl.out hc0 hc1 (by rw [HA.out, HB.out]) Hv.out)
        go_wp2_with (at_builtin; refine wpList_push rfl _ _ rfl wr w.heap.size v cs ((cy + A + B) % 65536) rfl rfl hown (by have := Hl.out; omega) hb.size ?_)
        intro v' w5 hown5 g5 hb5
        have hb5' := hb.trans hb5
        have hlen5 : (cs ++ [(cy + A + B) % 65536]).length = k + 1 := by rw [List.length_append, Hl.out]; rfl
        have Hf := Lib.hid hlen5
        clear hcx hcy g5 hb5 hlen5
        go_wp2_with fail
        go_roundw
        case rel => exact ⟨k + 1, _, _, (cy + A + B) / 65536, by omega, rfl, by go_num, rfl, hst.out.2.1, hst.out.2.2.1, fun h => by omega, hown5, Hf.out, hst.out.1, hst.out.2.2.2, hb5'⟩
        case measure => simp [intOf]; omega
      · have hB0 : B = 0 := by rw [hB]; exact nth_over (by rw [Hn'.out]; omega)
        rw [hB0] at hB
        have HB := Lib.hid hB
        have HA' := HA.out
        clear hB hB0 HA
        have HA := Lib.hid HA'
        clear HA'
        have hst := Lib.hid (plus_step xs ys cs k cy (cy + A) Hx.out Hy.out Hdg.out Hl.out hc0 hc1 (by rw [HA.out, ← HB.out]; omega) Hv.out)
        go_wp2_with (at_builtin; refine wpList_push rfl _ _ rfl wr w.heap.size v cs ((cy + A) % 65536) rfl rfl hown (by have := Hl.out; omega) hb.size ?_)
        intro v' w5 hown5 g5 hb5
        have hb5' := hb.trans hb5
        have hlen5 : (cs ++ [(cy + A) % 65536]).length = k + 1 := by rw [List.length_append, Hl.out]; rfl
        have Hf := Lib.hid hlen5
        clear hcx g5 hb5 hlen5
        go_wp2_with fail
        go_roundw
        case rel => exact ⟨k + 1, _, _, (cy + A) / 65536, by omega, rfl, by go_num, rfl, hst.out.2.1, hst.out.2.2.1, fun h => by omega, hown5, Hf.out, hst.out.1, hst.out.2.2.2, hb5'⟩
        case measure => simp [intOf]; omega
    · have hA0 : A = 0 := by rw [hA]; exact nth_over (by rw [Hn.out]; omega)
      rw [hA0] at hA
      have HA := Lib.hid hA
      clear hA hA0
      by_cases h2 : k < n'
      · obtain ⟨b', o', rfl, hcy0⟩ := Hcell'.out k h2
        have hcy := cell_below hb hcy0
        rw [← hB] at hcy
        have HB := Lib.hid hB
        clear hcy0 hB
        have hst := Lib.hid (plus_step xs ys cs k cy (cy + B) Hx.out Hy.out Hdg.out Hl.out hc0 hc1 (by rw [← HA.out, HB.out]; omega) Hv.out)
        go_wp2_with (at_builtin; refine wpList_push rfl _ _ rfl wr w.heap.size v cs ((cy + B) % 65536) rfl rfl hown (by have := Hl.out; omega) hb.size ?_)
        intro v' w5 hown5 g5 hb5
        have hb5' := hb.trans hb5
        have hlen5 : (cs ++ [(cy + B) % 65536]).length = k + 1 := by rw [List.length_append, Hl.out]; rfl
        have Hf := Lib.hid hlen5
        clear hcy g5 hb5 hlen5
        go_wp2_with fail
        go_roundw
        case rel => exact ⟨k + 1, _, _, (cy + B) / 65536, by omega, rfl, by go_num, rfl, hst.out.2.1, hst.out.2.2.1, fun h => by omega, hown5, Hf.out, hst.out.1, hst.out.2.2.2, hb5'⟩
        case measure => simp [intOf]; omega
      · have hB0 : B = 0 := by rw [hB]; exact nth_over (by rw [Hn'.out]; omega)
        rw [hB0] at hB
        have HB := Lib.hid hB
        clear hB hB0
        by_cases h3 : 0 < cy
        · have hkM : k < M + 1 := by
            have := Hend.out
            have := HM.out
            omega
          have hst := Lib.hid (plus_step xs ys cs k cy cy Hx.out Hy.out Hdg.out Hl.out hc0 hc1 (by rw [← HA.out, ← HB.out]; omega) Hv.out)
          go_wp2_with (at_builtin; refine wpList_push rfl _ _ rfl wr w.heap.size v cs (cy % 65536) rfl rfl hown (by have := Hl.out; omega) hb.size ?_)
          intro v' w5 hown5 g5 hb5
          have hb5' := hb.trans hb5
          have hlen5 : (cs ++ [cy % 65536]).length = k + 1 := by rw [List.length_append, Hl.out]; rfl
          have Hf := Lib.hid hlen5
          clear g5 hb5 hlen5
          go_wp2_with fail
          go_roundw
          case rel => exact ⟨k + 1, _, _, cy / 65536, by omega, rfl, by go_num, rfl, hst.out.2.1, hst.out.2.2.1, fun h => by omega, hown5, Hf.out, hst.out.1, hst.out.2.2.2, hb5'⟩
          case measure => simp [intOf]; omega
        · have hcy0 : cy = 0 := by omega
          subst hcy0
          have hfin : dval cs = dval xs + dval ys := by
            have := Hv.out
            rw [Int.mul_zero, Int.add_zero, List.take_of_length_le (by rw [Hn.out]; omega), List.take_of_length_le (by rw [Hn'.out]; omega)] at this
            exact this
          have Hfin := Lib.hid hfin
          clear hfin
          go_wp2_with fail
          go_ret
          refine ⟨_, rfl, cs, hown, Hdg.out, Hfin.out, ?_, hb⟩
          have := HM.out
          rw [Hn.out, Hn'.out, Hl.out]; omega

/-- One digit more of a difference. -/
theorem minus_step (xs ys cs : List Int) (k : Nat) (bo t : Int) (hx : Dg xs) (hy : Dg ys) (hc : Dg cs) (hl : cs.length = k) (h0 : 0 ≤ bo) (h1 : bo ≤ 1) (ht : t = nth xs k - bo - nth ys k)
    (hv : dval cs - pw k * bo = dval (xs.take k) - dval (ys.take k)) :
    (0 ≤ t → Dg (cs ++ [t]) ∧ dval (cs ++ [t]) - pw (k + 1) * 0 = dval (xs.take (k + 1)) - dval (ys.take (k + 1))) ∧
    (t < 0 → Dg (cs ++ [t + 65536]) ∧ dval (cs ++ [t + 65536]) - pw (k + 1) * 1 = dval (xs.take (k + 1)) - dval (ys.take (k + 1))) := by
  have b1 := nth_dg hx k
  have b2 := nth_dg hy k
  constructor
  · intro h
    refine ⟨hc.snoc (by omega) (by omega), ?_⟩
    rw [dval_snoc, hl, dval_take_succ, dval_take_succ, ht, Int.mul_sub, Int.mul_sub]
    omega
  · intro h
    refine ⟨hc.snoc (by omega) (by omega), ?_⟩
    rw [dval_snoc, hl, dval_take_succ, dval_take_succ, ht, Int.mul_add, Int.mul_sub, Int.mul_sub, pw, Int.mul_comm 65536 (pw k)]
    omega

set_option maxHeartbeats 1600000 in
theorem minus_is (va vb : Value) (xs ys : List Int) (w : World) (ha : Ints w va xs) (hb : Ints w vb ys) (hx : Dg xs) (hy : Dg ys) (hlx : xs.length ≤ 1000) (hly : ys.length ≤ xs.length) (hle : dval ys ≤ dval xs) :
    Calls Try.prog 45 #[va, vb] w fun e w' => ∃ v cs, e = .returned v ∧ Own w' w.heap.size v cs ∧ Dg cs ∧ dval cs = dval xs - dval ys ∧ cs.length = xs.length ∧ Below w.heap.size w w' := by
  obtain ⟨a, n, c, rfl, hn, _, hcell⟩ := ha.open
  obtain ⟨a', n', c', rfl, hn', _, hcell'⟩ := hb.open
  have Hn := Lib.hid hn
  have Hn' := Lib.hid hn'
  have Hcell := Lib.hid hcell
  have Hcell' := Lib.hid hcell'
  have Hx := Lib.hid hx
  have Hy := Lib.hid hy
  have Hle := Lib.hid hle
  have hl1 : n ≤ 1000 := by omega
  have hl2 : n' ≤ n := by omega
  clear hn hn' ha hb hcell hcell' hx hy hlx hly hle
  go_enter Try.func45, Try.ntmps45
  go_wp2_with fail
  go_loopw [5, 6, 7] (fun u t i wr => ∃ (k : Nat) (v : Value) (cs : List Int) (bo : Int), k ≤ n ∧ v = u ∧ i = .int .i64 k ∧ t = .int .i64 bo ∧ 0 ≤ bo ∧ bo ≤ 1 ∧ Own wr w.heap.size v cs ∧ cs.length = k ∧ Dg cs ∧
      dval cs - pw k * bo = dval (xs.take k) - dval (ys.take k) ∧ Below w.heap.size w wr) (fun _ _ i _ => n - (intOf i).toNat)
  case atStart => exact ⟨0, _, [], 0, Nat.zero_le _, rfl, rfl, rfl, by omega, by omega, Own.nil _ _, rfl, Dg.nil, by simp [dval], Below.refl _ _⟩
  case round =>
    obtain ⟨k, v, cs, bo, hk, rfl, rfl, rfl, hc0, hc1, hown, hl, hdg, hv, hb⟩ := hrel
    have Hl := Lib.hid hl
    have Hdg := Lib.hid hdg
    have Hv := Lib.hid hv
    clear hl hdg hv
    by_cases h1 : k < n
    · obtain ⟨b, o, rfl, hcx0⟩ := Hcell.out k h1
      have hcx := cell_below hb hcx0
      obtain ⟨A, hA⟩ : ∃ A, A = nth xs k := ⟨_, rfl⟩
      obtain ⟨B, hB⟩ : ∃ B, B = nth ys k := ⟨_, rfl⟩
      have bA := nth_dg Hx.out k
      have bB := nth_dg Hy.out k
      rw [← hA] at bA hcx
      rw [← hB] at bB
      obtain ⟨bA1, bA2⟩ := bA
      obtain ⟨bB1, bB2⟩ := bB
      have HA := Lib.hid hA
      clear hcx0 hA
      by_cases h2 : k < n'
      · obtain ⟨b', o', rfl, hcy0⟩ := Hcell'.out k h2
        have hcy := cell_below hb hcy0
        rw [← hB] at hcy
        have HB := Lib.hid hB
        clear hcy0 hB
        have hst := Lib.hid (minus_step xs ys cs k bo (A - bo - B) Hx.out Hy.out Hdg.out Hl.out hc0 hc1 (by rw [HA.out, HB.out]) Hv.out)
        by_cases h3 : A - bo - B < 0
        · have h3' := h3
          have Hst2 := Lib.hid (hst.out.2 (by omega))
          clear h3'
          go_wp2_with (at_builtin; refine wpList_push rfl _ _ rfl wr w.heap.size v cs (A - bo - B + 65536) rfl rfl hown (by have := Hl.out; omega) hb.size ?_)
          intro v' w5 hown5 g5 hb5
          have hb5' := hb.trans hb5
          have hlen5 : (cs ++ [A - bo - B + 65536]).length = k + 1 := by rw [List.length_append, Hl.out]; rfl
          have Hf := Lib.hid hlen5
          clear hcx hcy g5 hb5 hlen5
          go_wp2_with fail
          go_roundw
          case rel => exact ⟨k + 1, _, _, 1, by omega, rfl, by go_num, rfl, by omega, by omega, hown5, Hf.out, Hst2.out.1, Hst2.out.2, hb5'⟩
          case measure => simp [intOf]; omega
        · have h3' := h3
          have Hst2 := Lib.hid (hst.out.1 (by omega))
          clear h3'
          go_wp2_with (at_builtin; refine wpList_push rfl _ _ rfl wr w.heap.size v cs (A - bo - B) rfl rfl hown (by have := Hl.out; omega) hb.size ?_)
          intro v' w5 hown5 g5 hb5
          have hb5' := hb.trans hb5
          have hlen5 : (cs ++ [A - bo - B]).length = k + 1 := by rw [List.length_append, Hl.out]; rfl
          have Hf := Lib.hid hlen5
          clear hcx hcy g5 hb5 hlen5
          go_wp2_with fail
          go_roundw
          case rel => exact ⟨k + 1, _, _, 0, by omega, rfl, by go_num, rfl, by omega, by omega, hown5, Hf.out, Hst2.out.1, Hst2.out.2, hb5'⟩
          case measure => simp [intOf]; omega
      · have hB0 : B = 0 := by rw [hB]; exact nth_over (by rw [Hn'.out]; omega)
        rw [hB0] at hB
        have HB := Lib.hid hB
        clear hB hB0
        have hst := Lib.hid (minus_step xs ys cs k bo (A - bo) Hx.out Hy.out Hdg.out Hl.out hc0 hc1 (by rw [HA.out, ← HB.out]; omega) Hv.out)
        by_cases h3 : A - bo < 0
        · have h3' := h3
          have Hst2 := Lib.hid (hst.out.2 (by omega))
          clear h3'
          go_wp2_with (at_builtin; refine wpList_push rfl _ _ rfl wr w.heap.size v cs (A - bo + 65536) rfl rfl hown (by have := Hl.out; omega) hb.size ?_)
          intro v' w5 hown5 g5 hb5
          have hb5' := hb.trans hb5
          have hlen5 : (cs ++ [A - bo + 65536]).length = k + 1 := by rw [List.length_append, Hl.out]; rfl
          have Hf := Lib.hid hlen5
          clear hcx g5 hb5 hlen5
          go_wp2_with fail
          go_roundw
          case rel => exact ⟨k + 1, _, _, 1, by omega, rfl, by go_num, rfl, by omega, by omega, hown5, Hf.out, Hst2.out.1, Hst2.out.2, hb5'⟩
          case measure => simp [intOf]; omega
        · have h3' := h3
          have Hst2 := Lib.hid (hst.out.1 (by omega))
          clear h3'
          go_wp2_with (at_builtin; refine wpList_push rfl _ _ rfl wr w.heap.size v cs (A - bo) rfl rfl hown (by have := Hl.out; omega) hb.size ?_)
          intro v' w5 hown5 g5 hb5
          have hb5' := hb.trans hb5
          have hlen5 : (cs ++ [A - bo]).length = k + 1 := by rw [List.length_append, Hl.out]; rfl
          have Hf := Lib.hid hlen5
          clear hcx g5 hb5 hlen5
          go_wp2_with fail
          go_roundw
          case rel => exact ⟨k + 1, _, _, 0, by omega, rfl, by go_num, rfl, by omega, by omega, hown5, Hf.out, Hst2.out.1, Hst2.out.2, hb5'⟩
          case measure => simp [intOf]; omega
    · have hkn : k = n := by omega
      have hfin : dval cs = dval xs - dval ys := by
        have h := Hv.out
        rw [List.take_of_length_le (by rw [Hn.out]; omega), List.take_of_length_le (by rw [Hn'.out]; omega)] at h
        have h2 := dval_bd Hdg.out
        rw [Hl.out] at h2
        have h3 := Hle.out
        rcases (by omega : bo = 0 ∨ bo = 1) with h4 | h4
        · rw [h4, Int.mul_zero] at h; omega
        · rw [h4, Int.mul_one] at h; omega
      have Hfin := Lib.hid hfin
      have Hkn := Lib.hid hkn
      clear hfin hkn
      go_wp2_with fail
      go_ret
      exact ⟨_, cs, rfl, hown, Hdg.out, Hfin.out, by rw [Hl.out, Hn.out, Hkn.out], hb⟩
end Go.Proofs.Ythiiodagihlggaa
