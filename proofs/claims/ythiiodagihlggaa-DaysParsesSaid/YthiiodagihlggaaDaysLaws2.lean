/-
  My own work: the walks of DaysTexts and DaysParses.
-/
import Derived.Test.YthiiodagihlggaaDaysLaws
import Derived.Test.YthiiodagihlggaaDaysF
namespace Go.Proofs.Ythiiodagihlggaa
open Go.RowKit
set_option linter.unusedVariables false

theorem same_word (a : Nat) : ((a : Int) == (a : Int)) = true := by simp

set_option maxHeartbeats 800000 in
theorem parses_rest (t : ByteArray) (w : World) (ht : t.size ≤ 80) (N M : Nat) (E F : Int) (h1 : ParseOut t N E) (h2 : ParseOut t M F) : N = M ∧ E = F := h1.same h2

set_option maxHeartbeats 800000 in
theorem daysParses_walk (t : ByteArray) (w : World) (hmax : t.size ≤ 9223372036854775807) :
    Calls Try.prog 5 #[.string t] w fun e w' => e = .returned (.bool true) ∧ Below w.heap.size w w' := by
  by_cases hgt : 80 < t.size
  · have hs : (t.extract 0 80).size = 80 := by simp; omega
    have Hs := Lib.hid hs
    have q0 : (80 : Int) < (t.size : Int) := by omega
    have q1 : (80 : Int) ≤ (t.size : Int) := by omega
    clear hs
    go_enter Try.func5, Try.ntmps5
    go_wp2_with fail
    refine (parse_is (t.extract 0 80) _ (by rw [Hs.out]; decide)).mono ?_
    rintro e w1 ⟨N, E, rfl, hO, _, hb1⟩
    have HO := Lib.hid hO
    clear hO
    go_wp2_with fail
    refine (refParse_is (t.extract 0 80) _ (by rw [Hs.out]; decide)).mono ?_
    rintro e w2 ⟨M, F, rfl, hO2, _, hb2⟩
    obtain ⟨rfl, rfl⟩ := HO.out.same hO2
    have b2 := hb1.trans (hb2.mono hb1.size)
    clear hO2 hb1 hb2
    have q2 : ((N : Int) == (N : Int)) = true := by simp
    have q3 : (E == E) = true := by simp
    go_wp2_with fail
    refine (lives02_is _).mono ?_
    rintro e w10 ⟨rfl, hb10⟩
    go_wp2_with fail
    go_ret
    exact ⟨rfl, b2.trans (hb10.mono b2.size)⟩
  · have hs : t.size ≤ 65536 := by omega
    have q0 : decide ((80 : Int) < (t.size : Int)) = false := by simp; omega
    clear hgt
    go_enter Try.func5, Try.ntmps5
    go_wp2_with fail
    refine (parse_is t _ hs).mono ?_
    rintro e w1 ⟨N, E, rfl, hO, _, hb1⟩
    have HO := Lib.hid hO
    clear hO
    go_wp2_with fail
    refine (refParse_is t _ hs).mono ?_
    rintro e w2 ⟨M, F, rfl, hO2, _, hb2⟩
    obtain ⟨rfl, rfl⟩ := HO.out.same hO2
    have b2 := hb1.trans (hb2.mono hb1.size)
    clear hO2 hb1 hb2
    have q2 : ((N : Int) == (N : Int)) = true := by simp
    have q3 : (E == E) = true := by simp
    go_wp2_with fail
    refine (lives02_is _).mono ?_
    rintro e w10 ⟨rfl, hb10⟩
    go_wp2_with fail
    go_ret
    exact ⟨rfl, b2.trans (hb10.mono b2.size)⟩

theorem bytesL_strOf (xs : List Int) (h : ∀ x ∈ xs, 0 ≤ x ∧ x < 256) : bytesL (strOfNums xs) = xs := by
  unfold bytesL
  rw [strOfNums_data, List.map_map]
  conv => rhs; rw [← List.map_id xs]
  apply List.map_congr_left
  intro x hx
  have := h x hx
  simp [Function.comp]
  omega
theorem textL_bd (s n : Nat) : ∀ x ∈ textL s n, 0 ≤ x ∧ x < 256 := by
  intro x hx
  unfold textL at hx
  obtain ⟨k, _, rfl⟩ := List.mem_map.1 hx
  have := bitI_bd s k
  omega
theorem textL_ok (s n : Nat) : okL (textL s n) n := by
  intro i hi
  unfold textL
  rw [nth_map_range _ _ _ hi]
  have := bitI_bd s i
  omega
theorem text_back (s n : Nat) (h1 : 1 ≤ n) (h2 : n ≤ 64) (N : Nat) (E : Int) (h : ParseOut (strOfNums (textL s n)) N E) : E = 0 ∧ ∀ d : Nat, d < 64 → hasB N (d : Int) = (decide (d < n) && hasB s (d : Int)) := by
  have hsz : (strOfNums (textL s n)).size = n := by rw [strOfNums_size, textL_len]
  unfold ParseOut at h
  rw [hsz, bytesL_strOf _ (textL_bd s n)] at h
  rcases h with ⟨k1, _⟩ | ⟨_, k2, _⟩ | ⟨k1, _⟩ | ⟨_, _, _, hN, hE⟩
  · omega
  · exact absurd (textL_ok s n) k2
  · omega
  · refine ⟨hE, fun d hd => ?_⟩
    rw [has_test N _ d rfl hd, has_test s _ d rfl hd, hN, textN_test _ d hd]
    by_cases hdn : d < n
    · unfold textL
      rw [nth_map_range _ _ _ hdn, bitI_of]
      cases s.testBit d <;> simp [hdn]
    · simp [hdn]

set_option maxRecDepth 100000 in
set_option maxHeartbeats 1600000 in
theorem daysTexts_walk (s : Nat) (n : Int) (w : World) (hs : s < 18446744073709551616) :
    Calls Try.prog 4 #[.int .u64 s, .int .i64 n] w fun e w' => e = .returned (.bool true) ∧ Below w.heap.size w w' := by
  have Hs := Lib.hid hs
  clear hs
  have Ht := Lib.hid (text_is s n w Hs.out)
  have Hr : Hid (∀ w, Calls Try.prog 16 #[.int .u64 s, .int .i64 n] w fun e w' => e = .returned (.string (textS s n)) ∧ Below w.heap.size w w') := Lib.hid (fun w => refText_is s n w Hs.out)
  have hsize : (textS s n).size ≤ 64 := by
    unfold textS
    split
    · rw [strOfNums_size, textL_len]; omega
    · exact Nat.zero_le _
  have Hno : Hid (n < 1 ∨ 64 < n → textS s n = ⟨#[]⟩) := Lib.hid textS_no
  have Hyes : Hid (∀ m : Nat, n = (m : Int) → 1 ≤ m → m ≤ 64 → textS s n = strOfNums (textL s m)) := Lib.hid (fun m h h1 h2 => by rw [h]; exact textS_yes h1 h2)
  obtain ⟨T, hT⟩ : ∃ T, T = textS s n := ⟨_, rfl⟩
  rw [← hT] at Ht Hr hsize Hno Hyes
  clear hT
  go_enter Try.func4, Try.ntmps4
  go_wp2_with fail
  refine Ht.out.mono ?_
  rintro e w1 ⟨rfl, hb1⟩
  go_wp2_with fail
  refine (Hr.out w1).mono ?_
  rintro e w2 ⟨rfl, hb2⟩
  have b2 := Lib.hid (hb1.trans (hb2.mono hb1.size))
  clear hb1 hb2
  go_wp2_with fail
  refine (parse_is T _ (by omega)).mono ?_
  rintro e w3 ⟨N, E, rfl, hO, hN, hb3⟩
  have b3 := Lib.hid (b2.out.trans (hb3.mono b2.out.size))
  clear hb3
  by_cases hc : n < 1 ∨ 64 < n
  · have hT := Hno.out hc
    subst hT
    have hO' : N = 0 ∧ E = 2 := by
      unfold ParseOut at hO
      have hz : (⟨#[]⟩ : ByteArray).size = 0 := rfl
      rw [hz] at hO
      omega
    obtain ⟨rfl, rfl⟩ := hO'
    clear hO hN
    have hc' : decide (n < 1) = true ∨ (decide (n < 1) = false ∧ decide (64 < n) = true) := by
      by_cases h : n < 1
      · exact .inl (by simpa using h)
      · exact .inr ⟨by simpa using h, by simp; omega⟩
    clear hc
    rcases hc' with h | ⟨h, h'⟩
    all_goals
      go_wp2_with fail
      refine (lives02_is _).mono ?_
      rintro e w10 ⟨rfl, hb10⟩
      go_wp2_with fail
      go_ret
      exact ⟨rfl, b3.out.trans (hb10.mono b3.out.size)⟩
  · obtain ⟨m, rfl⟩ := Int.eq_ofNat_of_zero_le (show 0 ≤ n by omega)
    have hm1 : 1 ≤ m := by omega
    have hm2 : m ≤ 64 := by omega
    have hT := Hyes.out m rfl hm1 hm2
    rw [hT] at hO
    obtain ⟨rfl, hbk⟩ := text_back s m hm1 hm2 N E hO
    have Hbk := Lib.hid hbk
    have HN := Lib.hid hN
    have h1 : decide ((m : Int) < 1) = false := by simp; omega
    have h2 : decide (64 < (m : Int)) = false := by simp; omega
    clear hT hO hbk hc hN
    go_wp2_with fail
    go_loopw [8] (fun i wr => ∃ d : Nat, d ≤ 64 ∧ i = .int .i64 d ∧ Below w3.heap.size w3 wr) (fun i _ => 64 - (intOf i).toNat)
    case atStart => exact ⟨0, Nat.zero_le _, rfl, Below.refl _ _⟩
    case round =>
      obtain ⟨d, hd, rfl, hb⟩ := hrel
      by_cases hlt : d < 64
      · have hh := Hbk.out d hlt
        have q0 : (d : Int) < 64 := by omega
        by_cases hdm : d < m
        · rw [decide_eq_true hdm, Bool.true_and] at hh
          have q1 : (d : Int) < (m : Int) := by omega
          have HH := Lib.hid hh
          clear hh
          go_wp2_with fail
          refine (has_is N (d : Int) _ HN.out).mono ?_
          rintro e w' ⟨rfl, rfl⟩
          rw [HH.out]
          go_wp2_with fail
          refine (refHas_is s (d : Int) _ Hs.out).mono ?_
          rintro e w5 ⟨rfl, hb5⟩
          have b5 := hb.trans (hb5.mono hb.size)
          generalize hasB s (d : Int) = X at *
          have q2 : (X != X) = false := by simp
          have q3 : (!(X == X)) = false := by simp
          clear hb hb5
          go_wp2_with fail
          go_roundw
          case rel => exact ⟨d + 1, by omega, by go_num, b5⟩
          case measure => simp [intOf]; omega
        · rw [decide_eq_false hdm, Bool.false_and] at hh
          have q1 : ¬ (d : Int) < (m : Int) := by omega
          have HH := Lib.hid hh
          clear hh
          go_wp2_with fail
          refine (has_is N (d : Int) _ HN.out).mono ?_
          rintro e w' ⟨rfl, rfl⟩
          rw [HH.out]
          go_wp2_with fail
          go_roundw
          case rel => exact ⟨d + 1, by omega, by go_num, hb⟩
          case measure => simp [intOf]; omega
      · go_wp2_with fail
        refine (lives02_is _).mono ?_
        rintro e w10 ⟨rfl, hb10⟩
        go_wp2_with fail
        go_ret
        have b := b3.out.trans (hb.mono b3.out.size)
        exact ⟨rfl, b.trans (hb10.mono b.size)⟩
end Go.Proofs.Ythiiodagihlggaa
