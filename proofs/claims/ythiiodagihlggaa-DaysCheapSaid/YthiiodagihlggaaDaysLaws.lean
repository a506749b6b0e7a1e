/-
  My own work: lives of layer 2; the walks of DaysOf, DaysTwice, DaysSets, DaysNexts.
-/
import Derived.Test.YthiiodagihlggaaDaysPl2
namespace Go.Proofs.Ythiiodagihlggaa
open Go.RowKit
set_option linter.unusedVariables false

theorem wf_u64 {n : Int} (h : (Lit.int .u64 n).wf = true) : ∃ s : Nat, n = (s : Int) ∧ s < 18446744073709551616 := by
  simp only [Lit.wf, Bool.and_eq_true, decide_eq_true_eq] at h
  obtain ⟨h0, h1⟩ := h
  have h0' : 0 ≤ n := h0
  have h1' : n ≤ 18446744073709551615 := h1
  exact ⟨n.toNat, by omega, by omega⟩
theorem Ints.two (w : World) (x y : Int) (T : TypeId) : Ints (w.alloc (.cells #[.int .i64 x, .int .i64 y] T)) (.slice (some ⟨w.heap.size, 0, none⟩) 2 2) [x, y] :=
  ⟨some ⟨w.heap.size, 0, none⟩, 2, rfl, by simp, by simp, fun i hi => ⟨w.heap.size, 0, rfl, by
    match i, hi with
    | 0, _ => simp [go_sem, nth]
    | 1, _ => simp [go_sem, nth]
    | n + 2, h => simp at h; omega⟩⟩
theorem live_of : ofUpto [0, 3] ([0, 3] : List Int).length = 9 := by decide +kernel
theorem live_text : textS 9 5 = ⟨#[49, 48, 48, 49, 48]⟩ := by decide +kernel
theorem live_next : nextI 9 1 = 3 := by decide +kernel

theorem lives02_is (w : World) : Calls Try.prog 14 #[] w fun e w' => e = .returned (.bool true) ∧ Below w.heap.size w w' := by
  have h1 := daysOf_is _ [0, 3] _ (Ints.two w 0 3 3)
  rw [live_of] at h1
  have H1 := Lib.hid h1
  have b0 := (Below.refl w.heap.size w).alloc (Nat.le_refl _) (.cells #[.int .i64 0, .int .i64 3] 3)
  clear h1
  go_enter Try.func14, Try.ntmps14
  go_wp2_with fail
  refine H1.out.mono ?_
  rintro e w1 ⟨rfl, rfl⟩
  generalize w.alloc (.cells #[.int .i64 0, .int .i64 3] 3) = w1 at *
  go_wp2_with fail
  refine (text_is 9 5 w1 (by decide)).mono ?_
  rintro e w2 ⟨rfl, hb2⟩
  rw [live_text]
  have b2 := b0.trans (hb2.mono b0.size)
  go_wp2_with fail
  refine (next_is 9 1 w2 (by decide)).mono ?_
  rintro e w3 ⟨rfl, hb3⟩
  rw [live_next]
  have b3 := b2.trans (hb3.mono b2.size)
  go_wp2_with fail
  go_ret
  exact ⟨rfl, b3⟩

set_option maxRecDepth 100000 in
set_option maxHeartbeats 800000 in
theorem daysTwice_walk (s : Nat) (d : Int) (w : World) (hs : s < 18446744073709551616) :
    Calls Try.prog 9 #[.int .u64 s, .int .i64 d] w fun e w' => e = .returned (.bool true) ∧ Below w.heap.size w w' := by
  have hi := Lib.hid (with_lt d hs)
  have ho := Lib.hid (without_lt d hs)
  have e1 := Lib.hid (with_twice s d hs)
  have e2 := Lib.hid (without_twice s d hs)
  have e3 := Lib.hid (without_with s d hs)
  have e4 := Lib.hid (has_without s d hs)
  have hs' := Lib.hid hs
  have hcase : (thereB d = true ∧ hasB (withN s d) d = true ∧ (allUpto (withN s d) 0 64).length = (allUpto (withoutN s d) 0 64).length + 1 ∧ decide (d < 0) = false ∧ decide (63 < d) = false) ∨
      (withN s d = s ∧ withoutN s d = s ∧ ((decide (d < 0) = true) ∨ (decide (d < 0) = false ∧ decide (63 < d) = true))) := by
    cases ht : thereB d with
    | true =>
      obtain ⟨h0, h1⟩ := there_yes ht
      exact .inl ⟨rfl, has_with s d ht, len_with s d hs ht, by simp; omega, by simp; omega⟩
    | false =>
      obtain ⟨k1, k2⟩ := with_no s d ht
      refine .inr ⟨k1, k2, ?_⟩
      by_cases h0 : d < 0
      · exact .inl (by simpa using h0)
      · have := there_no ht
        exact .inr ⟨by simp; omega, by simp; omega⟩
  have Hc := Lib.hid hcase
  have Hl : Hid ((allUpto (withoutN s d) 0 64).length ≤ 64) := Lib.hid (allUpto_len _ _ _)
  clear hs hcase
  go_enter Try.func9, Try.ntmps9
  go_wp2_with fail
  refine (with_is s d _ hs'.out).mono ?_
  rintro e w' ⟨rfl, rfl⟩
  obtain ⟨I, hI⟩ : ∃ I, I = withN s d := ⟨_, rfl⟩
  obtain ⟨O, hO⟩ : ∃ O, O = withoutN s d := ⟨_, rfl⟩
  rw [← hI] at hi e1 e3 Hc ⊢
  rw [← hO] at ho e2 e3 e4 Hc Hl
  have HI := Lib.hid hI
  have HO := Lib.hid hO
  clear hI hO
  go_wp2_with fail
  refine (without_is I d _ hi.out).mono ?_
  rintro e w' ⟨rfl, rfl⟩
  rw [e3.out]
  go_wp2_with fail
  refine (with_is I d _ hi.out).mono ?_
  rintro e w' ⟨rfl, rfl⟩
  rw [e1.out]
  have q1 : ((I : Int) != (I : Int)) = false := by simp
  have q2 : ((O : Int) != (O : Int)) = false := by simp
  go_wp2_with fail
  refine (without_is O d _ ho.out).mono ?_
  rintro e w' ⟨rfl, rfl⟩
  rw [e2.out]
  go_wp2_with fail
  refine (has_is O d _ ho.out).mono ?_
  rintro e w' ⟨rfl, rfl⟩
  rw [e4.out]
  go_wp2_with fail
  refine (without_is s d _ hs'.out).mono ?_
  rintro e w' ⟨rfl, rfl⟩
  rw [← HO.out]
  rcases Hc.out with ⟨_, c2, c3, c4, c5⟩ | ⟨c1, c2, c3⟩
  · have C3 := Lib.hid c3
    have C2 := Lib.hid c2
    clear c2 c3
    go_wp2_with fail
    refine (has_is I d _ hi.out).mono ?_
    rintro e w' ⟨rfl, rfl⟩
    rw [C2.out]
    go_wp2_with fail
    refine (len_is I _ hi.out).mono ?_
    rintro e w' ⟨rfl, rfl⟩
    go_wp2_with fail
    refine (len_is O _ ho.out).mono ?_
    rintro e w' ⟨rfl, rfl⟩
    rw [C3.out]
    generalize (allUpto O 0 64).length = L at *
    have hl := Hl.out
    have q3 : (((L + 1 : Nat) : Int) == (L : Int) + 1) = true := by rw [beq_iff_eq]; omega
    go_wp2_with fail
    refine (lives02_is _).mono ?_
    rintro e w7 ⟨rfl, hb7⟩
    go_wp2_with fail
    go_ret
    exact ⟨rfl, hb7⟩
  · have hIs : I = s := c1
    have hOs : O = s := c2
    subst hIs
    have HOs := Lib.hid hOs
    clear c1 c2 hOs
    have q4 : ((I : Int) == (I : Int)) = true := by simp
    have q5 : ((O : Int) == (I : Int)) = true := by rw [HOs.out]; simp
    rcases c3 with c3 | ⟨c3, c4⟩
    all_goals
      go_wp2_with fail
      refine (lives02_is _).mono ?_
      rintro e w7 ⟨rfl, hb7⟩
      go_wp2_with fail
      go_ret
      exact ⟨rfl, hb7⟩

set_option maxRecDepth 100000 in
set_option maxHeartbeats 800000 in
theorem daysSets_walk (s : Nat) (d : Int) (w : World) (hs : s < 18446744073709551616) :
    Calls Try.prog 10 #[.int .u64 s, .int .i64 d] w fun e w' => e = .returned (.bool true) ∧ Below w.heap.size w w' := by
  have Hs := Lib.hid hs
  clear hs
  go_enter Try.func10, Try.ntmps10
  go_wp2_with fail
  refine (all_is s _ Hs.out).mono ?_
  rintro e w1 ⟨v1, rfl, hown1, hb1⟩
  go_wp2_with fail
  refine (refAll_is s _ Hs.out).mono ?_
  rintro e w2 ⟨v2, rfl, hown2, hb2⟩
  have b2 := hb1.trans (hb2.mono hb1.size)
  go_wp2_with fail
  refine (same_is _ _ _ _ _ (hown1.ints.below hb2) hown2.ints).mono ?_
  rintro e w3 ⟨rfl, hb3⟩
  have b3 := Lib.hid (b2.trans (hb3.mono b2.size))
  rw [decide_eq_true rfl]
  clear hb1 hb2 hb3 hown1 hown2 b2
  go_wp2_with fail
  refine (has_is s d _ Hs.out).mono ?_
  rintro e w' ⟨rfl, rfl⟩
  go_wp2_with fail
  refine (refHas_is s d _ Hs.out).mono ?_
  rintro e w4 ⟨rfl, hb4⟩
  have b4 := Lib.hid (b3.out.trans (hb4.mono b3.out.size))
  clear hb4
  generalize hasB s d = H at *
  have q1 : (H == H) = true := by simp
  go_wp2_with fail
  refine (with_is s d _ Hs.out).mono ?_
  rintro e w' ⟨rfl, rfl⟩
  go_wp2_with fail
  refine (put_is s d 1 _ Hs.out (.inr rfl)).mono ?_
  rintro e w5 ⟨rfl, hb5⟩
  have b5 := Lib.hid (b4.out.trans (hb5.mono b4.out.size))
  clear hb5
  rw [show putN s d 1 = withN s d from rfl]
  generalize withN s d = I at *
  have q2 : ((I : Int) == (I : Int)) = true := by simp
  go_wp2_with fail
  refine (without_is s d _ Hs.out).mono ?_
  rintro e w' ⟨rfl, rfl⟩
  go_wp2_with fail
  refine (put_is s d 0 _ Hs.out (.inl rfl)).mono ?_
  rintro e w6 ⟨rfl, hb6⟩
  have b6 := Lib.hid (b5.out.trans (hb6.mono b5.out.size))
  clear hb6
  rw [show putN s d 0 = withoutN s d from rfl]
  generalize withoutN s d = O at *
  have q3 : ((O : Int) == (O : Int)) = true := by simp
  go_wp2_with fail
  refine (len_is s _ Hs.out).mono ?_
  rintro e w' ⟨rfl, rfl⟩
  go_wp2_with fail
  refine (refAll_is s _ Hs.out).mono ?_
  rintro e w7 ⟨v7, rfl, hown7, hb7⟩
  have b7 := Lib.hid (b6.out.trans (hb7.mono b6.out.size))
  obtain ⟨a7, n7, c7, rfl, hn7, _, _⟩ := hown7.ints.open
  clear hb7 hown7
  rw [hn7]
  have q4 : ((n7 : Int) == (n7 : Int)) = true := by simp
  clear hn7
  go_wp2_with fail
  refine (next_is s d _ Hs.out).mono ?_
  rintro e w8 ⟨rfl, hb8⟩
  have b8 := Lib.hid (b7.out.trans (hb8.mono b7.out.size))
  clear hb8
  go_wp2_with fail
  refine (refNext_is s d _ Hs.out).mono ?_
  rintro e w9 ⟨rfl, hb9⟩
  have b9 := Lib.hid (b8.out.trans (hb9.mono b8.out.size))
  clear hb9
  generalize nextI s d = X at *
  have q5 : (X == X) = true := by simp
  go_wp2_with fail
  refine (lives02_is _).mono ?_
  rintro e w10 ⟨rfl, hb10⟩
  go_wp2_with fail
  go_ret
  exact ⟨rfl, b9.out.trans (hb10.mono b9.out.size)⟩

set_option maxHeartbeats 1600000 in
theorem daysOf_walk (qv : Value) (q0 : List Int) (w : World) (hq : Ints w qv q0) :
    Calls Try.prog 3 #[qv] w fun e w' => e = .returned (.bool true) ∧ Below w.heap.size w w' := by
  obtain ⟨a, n, c, rfl, hn, hmax, _⟩ := hq.open
  obtain ⟨m, hm⟩ : ∃ m, m = min n 20 := ⟨_, rfl⟩
  have hmn : m ≤ n := by omega
  have hcap := hq.cap
  have hncap : n ≤ c := hcap.1
  have hq' := hq.take hmn
  obtain ⟨q, hqe⟩ : ∃ q, q = q0.take m := ⟨_, rfl⟩
  rw [← hqe] at hq'
  have Hq := Lib.hid hq'
  obtain ⟨a2, n2, c2, he, hl, _, hcell⟩ := hq'.open
  simp only [Value.slice.injEq] at he
  obtain ⟨rfl, rfl, rfl⟩ := he
  have hcell' : ∀ k, k < m → ∃ b o, a = some ⟨b, o, none⟩ ∧ b < w.heap.size ∧ w.cell? ⟨b, o + k, none⟩ = some (.int .i64 (nth q k)) := fun k hk => by
    obtain ⟨b, o, e1, e2⟩ := hcell k hk
    exact ⟨b, o, e1, World.block_lt_of_cell? w _ e2, e2⟩
  have Hcell := Lib.hid hcell'
  have Hl := Lib.hid hl
  clear hq hq' hcell hcell' hqe hl hcap
  have hm20 : m ≤ 20 := by omega
  go_enter Try.func3, Try.ntmps3
  by_cases hgt : 20 < n
  have hmm : m = 20 := by omega
  have hc12 : (20 : Int) ≤ (c : Int) := by omega
  have hgt' : (20 : Int) < (n : Int) := by omega
  have Hm := Lib.hid hm
  have Hmm := Lib.hid hmm
  clear hm hmm hgt
  go_wp2_with fail
  rw [show Value.slice a 20 c = Value.slice a m c by rw [Hmm.out]]
  rotate_left
  have hmm : m = n := by omega
  subst hmm
  have hgt' : (m : Int) ≤ 20 := by omega
  have Hm := Lib.hid hm
  clear hm hgt
  go_wp2_with fail
  all_goals
    go_loopw [3, 4] (fun x i wr => ∃ (k S : Nat), k ≤ m ∧ i = .int .i64 k ∧ x = .int .u64 (S : Int) ∧ S = ofUpto q k ∧ Below w.heap.size w wr) (fun _ i _ => m - (intOf i).toNat)
    case atStart => exact ⟨0, 0, Nat.zero_le _, rfl, rfl, rfl, Below.refl _ _⟩
    case round =>
      obtain ⟨k, S, hk, rfl, rfl, hS, hb⟩ := hrel
      by_cases hlt : k < m
      · obtain ⟨b, o, rfl, hbl, hc0⟩ := Hcell.out k hlt
        have hc := cell_lt hb hbl hc0
        have hi0 : (0 : Int) ≤ (k : Int) := by omega
        have hi1 : (k : Int) < (m : Int) := by omega
        have Hs : Hid (withN S (nth q k) = ofUpto q (k + 1)) := Lib.hid (by rw [hS]; exact (ofUpto_succ q k (by rw [Hl.out]; exact hlt)).symm)
        have hlS := Lib.hid (show S < 18446744073709551616 by rw [hS]; exact ofUpto_lt _ _)
        clear hc0 hS
        go_wp2_with fail
        refine (put_is S (nth q k) 1 _ hlS.out (.inr rfl)).mono ?_
        rintro e w2 ⟨rfl, hb2⟩
        rw [show putN S (nth q k) 1 = withN S (nth q k) from rfl]
        have b2 := hb.trans (hb2.mono hb.size)
        clear hb hb2 hc
        go_wp2_with fail
        go_roundw
        case rel => exact ⟨k + 1, _, by omega, by go_num, rfl, Hs.out, b2⟩
        case measure => simp [intOf]; omega
      · have hkm : k = m := by omega
        subst hkm
        have HS := Lib.hid hS
        have hlS := Lib.hid (show S < 18446744073709551616 by rw [hS]; exact ofUpto_lt _ _)
        have Ho := Lib.hid (daysOf_is _ q wr (Hq.out.below hb))
        rw [Hl.out, ← hS] at Ho
        have Hb := Lib.hid hb
        have q1 : ((S : Int) == (S : Int)) = true := by simp
        clear hS hb
        go_wp2_with fail
        refine Ho.out.mono ?_
        rintro e w' ⟨rfl, rfl⟩
        go_wp2_with fail
        refine (all_is S _ hlS.out).mono ?_
        rintro e w2 ⟨v2, rfl, hown2, hb2⟩
        have h2 := daysOf_is v2 _ w2 hown2.ints
        rw [of_all S hlS.out] at h2
        have H2 := Lib.hid h2
        have Hb2 := Lib.hid (Hb.out.trans (hb2.mono Hb.out.size))
        clear h2 hown2 hb2
        go_wp2_with fail
        refine H2.out.mono ?_
        rintro e w' ⟨rfl, rfl⟩
        go_wp2_with fail
        refine (lives02_is _).mono ?_
        rintro e w10 ⟨rfl, hb10⟩
        go_wp2_with fail
        go_ret
        exact ⟨rfl, Hb2.out.trans (hb10.mono Hb2.out.size)⟩

set_option maxHeartbeats 1600000 in
theorem daysNexts_walk (s : Nat) (w : World) (hs : s < 18446744073709551616) :
    Calls Try.prog 6 #[.int .u64 s] w fun e w' => e = .returned (.bool true) ∧ Below w.heap.size w w' := by
  have Hs := Lib.hid hs
  clear hs
  go_enter Try.func6, Try.ntmps6
  go_wp2_with fail
  refine (all_is s _ Hs.out).mono ?_
  rintro e w1 ⟨v1, rfl, hown1, hb1⟩
  obtain ⟨a, n, c, rfl, hn, _, hcell⟩ := hown1.ints.open
  have hcell' : ∀ k, k < n → ∃ b o, a = some ⟨b, o, none⟩ ∧ b < w1.heap.size ∧ w1.cell? ⟨b, o + k, none⟩ = some (.int .i64 (nth (allUpto s 0 64) k)) := fun k hk => by
    obtain ⟨b, o, e1, e2⟩ := hcell k hk
    exact ⟨b, o, e1, World.block_lt_of_cell? w1 _ e2, e2⟩
  have Hcell := Lib.hid hcell'
  have Hl := Lib.hid hn
  have hn64 : n ≤ 64 := by rw [← hn]; exact allUpto_len _ _ _
  have Hb1 := Lib.hid hb1
  have hsz : w.heap.size ≤ w1.heap.size := hb1.size
  clear hcell hcell' hown1 hn hb1
  go_wp2_with fail
  refine (next_is s 0 _ Hs.out).mono ?_
  rintro e w2 ⟨rfl, hb2⟩
  rw [next_first]
  go_wp2_with fail
  go_loopw [5, 6] (fun i d wr => ∃ (k : Nat) (D : Int), k ≤ n ∧ i = .int .i64 k ∧ d = .int .i64 D ∧ D = ((allUpto s 0 64).drop k).headD (-1) ∧ Below w1.heap.size w1 wr) (fun i _ _ => n - (intOf i).toNat)
  case atStart => exact ⟨0, _, Nat.zero_le _, rfl, rfl, by simp, hb2⟩
  case round =>
    obtain ⟨k, D, hk, rfl, rfl, hD, hb⟩ := hrel
    by_cases hlt : k < n
    · rw [drop_head _ k (by rw [Hl.out]; exact hlt)] at hD
      obtain ⟨b, o, rfl, hbl, hc0⟩ := Hcell.out k hlt
      have hc := cell_lt hb hbl hc0
      obtain ⟨hD0, hD1⟩ := all_bd s 0 64 _ (nth_mem (show k < (allUpto s 0 64).length by rw [Hl.out]; exact hlt))
      have Hh := Lib.hid (has_all s k (by rw [Hl.out]; exact hlt))
      have Hx := Lib.hid (next_after s k (by rw [Hl.out]; exact hlt))
      rw [← hD] at hc hD0 hD1 Hh Hx
      have hi0 : (0 : Int) ≤ (k : Int) := by omega
      have hi1 : (k : Int) < (n : Int) := by omega
      have hi2 : decide ((n : Int) ≤ (k : Int)) = false := by simp; omega
      have hi3 : decide (n ≤ k) = false := by simp; omega
      have hne : (D != D) = false := by simp
      have HD := Lib.hid hD
      clear hc0 hD
      have h64 : D < 64 := hD1
      go_wp2_with fail
      refine (has_is s D _ Hs.out).mono ?_
      rintro e w' ⟨rfl, rfl⟩
      rw [Hh.out]
      go_wp2_with fail
      refine (next_is s (D + 1) _ Hs.out).mono ?_
      rintro e w3 ⟨rfl, hb3⟩
      rw [Hx.out]
      have b3 := hb.trans (hb3.mono hb.size)
      clear hb hb3 hc
      go_wp2_with fail
      go_roundw
      case rel => exact ⟨k + 1, _, by omega, by go_num, rfl, by simp, b3⟩
      case measure => simp [intOf]; omega
    · have hkn : k = n := by omega
      subst hkn
      rw [drop_none _ k (by rw [Hl.out]; exact Nat.le_refl _)] at hD
      subst hD
      have Hb := Lib.hid hb
      clear hb hlt
      have q1 : ((k : Int) == (k : Int)) = true := by simp
      go_wp2_with fail
      refine (len_is s _ Hs.out).mono ?_
      rintro e w' ⟨rfl, rfl⟩
      rw [Hl.out]
      go_wp2_with fail
      refine (lives02_is _).mono ?_
      rintro e w10 ⟨rfl, hb10⟩
      go_wp2_with fail
      go_ret
      have b := Hb1.out.trans (Hb.out.mono hsz)
      exact ⟨rfl, b.trans (hb10.mono b.size)⟩
end Go.Proofs.Ythiiodagihlggaa
