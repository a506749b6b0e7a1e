/-
  My own work: days.Text, tranterref02.Text: their contracts.
-/
import Derived.Test.YthiiodagihlggaaDaysD
import Derived.Test.YthiiodagihlggaaBytes
namespace Go.Proofs.Ythiiodagihlggaa
open Go.RowKit
set_option linter.unusedVariables false

def textUpto (s n d : Nat) : List Int := (List.range n).map fun j => if j < d then 48 + bitI s j else 0
def textL (s n : Nat) : List Int := (List.range n).map fun j => 48 + bitI s j
theorem textUpto_len (s n d : Nat) : (textUpto s n d).length = n := by simp [textUpto]
theorem textL_len (s n : Nat) : (textL s n).length = n := by simp [textL]
theorem textUpto_zero (s n : Nat) : textUpto s n 0 = List.replicate n 0 := by simp [textUpto, List.map_const']
theorem textUpto_all (s n : Nat) : textUpto s n n = textL s n := by
  unfold textUpto textL
  apply List.map_congr_left
  intro j hj
  rw [if_pos (by simpa using hj)]
theorem textUpto_succ (s n d : Nat) (hd : d < n) : (textUpto s n d).set d (48 + bitI s d) = textUpto s n (d + 1) := by
  apply ext_nth (by simp [textUpto_len])
  intro k hk
  rw [List.length_set, textUpto_len] at hk
  rw [nth_set (by rw [textUpto_len]; exact hd)]
  unfold textUpto
  rw [nth_map_range _ _ _ hk, nth_map_range _ _ _ hk]
  by_cases h : d = k
  · subst h; simp
  · rw [if_neg h]
    by_cases h2 : k < d
    · rw [if_pos h2, if_pos (by omega)]
    · rw [if_neg h2, if_neg (by omega)]
theorem textL_succ (s n : Nat) : textL s (n + 1) = textL s n ++ [48 + bitI s n] := by unfold textL; rw [List.range_succ, List.map_append]; rfl

/-- A set's text for n days. -/
def textS (s : Nat) (n : Int) : ByteArray := if 1 ≤ n ∧ n ≤ 64 then strOfNums (textL s n.toNat) else ⟨#[]⟩
theorem textS_no {s : Nat} {n : Int} (h : n < 1 ∨ 64 < n) : textS s n = ⟨#[]⟩ := by unfold textS; rw [if_neg (by omega)]
theorem textS_yes {s n : Nat} (h : 1 ≤ n) (h2 : n ≤ 64) : textS s (n : Int) = strOfNums (textL s n) := by unfold textS; rw [if_pos (by omega), Int.toNat_natCast]
theorem ret_string {a b : ByteArray} (h : a = b) : Ending.returned (.string a) = .returned (.string b) := by rw [h]

set_option maxHeartbeats 800000 in
theorem text_is (s : Nat) (n : Int) (w : World) (hs : s < 18446744073709551616) : Calls Try.prog 15 #[.int .u64 s, .int .i64 n] w fun e w' => e = .returned (.string (textS s n)) ∧ Below w.heap.size w w' := by
  by_cases h1 : n < 1
  · have Ht := Lib.hid (textS_no (s := s) (n := n) (.inl h1))
    have h1' : decide (n < 1) = true := by simpa using h1
    clear h1
    go_enter Try.func15, Try.ntmps15
    go_wp2_with fail
    go_ret
    exact ⟨ret_string Ht.out.symm, Below.refl _ _⟩
  by_cases h2 : 64 < n
  · have Ht := Lib.hid (textS_no (s := s) (n := n) (.inr h2))
    have h1' : decide (n < 1) = false := by simpa using h1
    have h2' : decide (64 < n) = true := by simpa using h2
    clear h1 h2
    go_enter Try.func15, Try.ntmps15
    go_wp2_with fail
    go_ret
    exact ⟨ret_string Ht.out.symm, Below.refl _ _⟩
  have h1' : decide (n < 1) = false := by simpa using h1
  have h2' : decide (64 < n) = false := by simpa using h2
  obtain ⟨n, rfl⟩ := Int.eq_ofNat_of_zero_le (show 0 ≤ n by omega)
  have hn1 : 1 ≤ n := by omega
  have hn2 : n ≤ 64 := by omega
  have Ht := Lib.hid (textS_yes (s := s) hn1 hn2)
  obtain ⟨w1, hmk, hown, hb1⟩ := made_bytes w n (by omega)
  have Hmk := Lib.hid hmk
  have Hown := Lib.hid hown
  clear h1 h2 hmk hown
  go_enter Try.func15, Try.ntmps15
  go_wp2_with fail
  rw [Hmk.out]
  go_wp2_with fail
  generalize eg : w.heap.size = g at *
  have Heg := Lib.hid eg
  clear eg
  go_loopw [17] (fun i wr => ∃ d : Nat, d ≤ n ∧ i = .int .i64 d ∧ OwnB wr g (.slice (some ⟨g, 0, none⟩) n n) (textUpto s n d) ∧ Below g w wr) (fun i _ => n - (intOf i).toNat)
  case atStart => exact ⟨0, Nat.zero_le _, rfl, by rw [textUpto_zero]; exact Hown.out, hb1⟩
  case round =>
    obtain ⟨d, hd, rfl, hown, hb⟩ := hrel
    by_cases hlt : d < n
    · obtain ⟨hO, hF⟩ := hown.at_ d (by rw [textUpto_len]; exact hlt)
      have hset := hown.set' d (48 + bitI s d) (by rw [textUpto_len]; exact hlt)
      rw [textUpto_succ s n d hlt] at hset
      have hd0 : (0 : Int) ≤ (d : Int) := by omega
      have hdn : (d : Int) < (n : Int) := by omega
      have hh := has_is s (d : Int) (wr.setCell ⟨g, d, none⟩ (.int .u8 48)) hs
      have hhb : hasB s (d : Int) = s.testBit d := by
        unfold hasB thereB
        rw [decide_eq_true (by omega), decide_eq_true (by omega)]
        simp
      rw [hhb] at hh
      clear hhb
      cases ht : s.testBit d with
      | false =>
        rw [ht] at hh
        rw [bitI_of, ht, if_neg (by simp), Int.add_zero] at hset
        have Hh := Lib.hid hh
        have Hset := Lib.hid hset
        have hbs := hb.setCell (p := ⟨g, d, none⟩) (Nat.le_refl _) (.int .u8 48)
        clear hh hset hown ht
        go_wp2_with fail
        refine Hh.out.mono ?_
        rintro e w2 ⟨rfl, rfl⟩
        go_wp2_with fail
        go_roundw
        case rel => exact ⟨d + 1, by omega, by go_num, Hset.out, hbs⟩
        case measure => simp [intOf]; omega
      | true =>
        rw [ht] at hh
        have h1 := hown.set' d 48 (by rw [textUpto_len]; exact hlt)
        have h2 := h1.set' d (48 + bitI s d) (by rw [List.length_set, textUpto_len]; exact hlt)
        rw [List.set_set, textUpto_succ s n d hlt, bitI_of, ht, if_pos rfl] at h2
        obtain ⟨hO2, hF2⟩ := h1.at_ d (by rw [List.length_set, textUpto_len]; exact hlt)
        clear h1
        have Hh := Lib.hid hh
        have Hset := Lib.hid h2
        have hbs := (hb.setCell (p := ⟨g, d, none⟩) (Nat.le_refl _) (.int .u8 48)).setCell (p := ⟨g, d, none⟩) (Nat.le_refl _) (.int .u8 49)
        clear hh hset hown ht h2
        go_wp2_with fail
        refine Hh.out.mono ?_
        rintro e w2 ⟨rfl, rfl⟩
        go_wp2_with fail
        go_roundw
        case rel => exact ⟨d + 1, by omega, by go_num, Hset.out, hbs⟩
        case measure => simp [intOf]; omega
    · have hdn : d = n := by omega
      subst hdn
      rw [textUpto_all] at hown
      have hcv := hown.text (by rw [textL_len]; omega)
      have Hcv := Lib.hid hcv
      clear hown hcv
      go_wp2_with fail
      rw [Hcv.out]
      go_wp2_with fail
      go_ret
      exact ⟨ret_string Ht.out.symm, by rw [Heg.out]; exact hb⟩

set_option maxHeartbeats 800000 in
theorem refText_is (s : Nat) (n : Int) (w : World) (hs : s < 18446744073709551616) : Calls Try.prog 16 #[.int .u64 s, .int .i64 n] w fun e w' => e = .returned (.string (textS s n)) ∧ Below w.heap.size w w' := by
  by_cases h1 : n < 1
  · have Ht := Lib.hid (textS_no (s := s) (n := n) (.inl h1))
    have h1' : decide (n < 1) = true := by simpa using h1
    clear h1
    go_enter Try.func16, Try.ntmps16
    go_wp2_with fail
    go_ret
    exact ⟨ret_string Ht.out.symm, Below.refl _ _⟩
  by_cases h2 : 64 < n
  · have Ht := Lib.hid (textS_no (s := s) (n := n) (.inr h2))
    have h1' : decide (n < 1) = false := by simpa using h1
    have h2' : decide (64 < n) = true := by simpa using h2
    clear h1 h2
    go_enter Try.func16, Try.ntmps16
    go_wp2_with fail
    go_ret
    exact ⟨ret_string Ht.out.symm, Below.refl _ _⟩
  have h1' : decide (n < 1) = false := by simpa using h1
  have h2' : decide (64 < n) = false := by simpa using h2
  obtain ⟨n, rfl⟩ := Int.eq_ofNat_of_zero_le (show 0 ≤ n by omega)
  have hn1 : 1 ≤ n := by omega
  have hn2 : n ≤ 64 := by omega
  have Ht := Lib.hid (textS_yes (s := s) hn1 hn2)
  clear h1 h2
  go_enter Try.func16, Try.ntmps16
  go_wp2_with fail
  refine (bits_is s w hs).mono ?_
  rintro e w1 ⟨g, c, rfl, hown1, hb1⟩
  have hcell' : ∀ k, k < 64 → w1.cell? ⟨g, k, none⟩ = some (.int .i64 (bitI s k)) := fun k hk => by
    rw [(hown1.at_ k (by rw [bitsOf_len]; exact hk)).1, nth_bits s k hk]
  have hgl : g < w1.heap.size := World.block_lt_of_cell? w1 _ (hcell' 0 (by decide))
  have Hcell := Lib.hid hcell'
  have Hb1 := Lib.hid hb1
  have hsz : w.heap.size ≤ w1.heap.size := hb1.size
  clear hcell' hown1 hb1
  go_wp2_with fail
  go_loopw [5, 7] (fun v i wr => ∃ (k : Nat) (u : Value), i = .int .i64 k ∧ u = v ∧ k ≤ n ∧ OwnB wr w1.heap.size u (textL s k) ∧ Below w1.heap.size w1 wr) (fun _ i _ => n - (intOf i).toNat)
  case atStart => exact ⟨0, _, rfl, rfl, Nat.zero_le _, OwnB.nil _ _, Below.refl _ _⟩
  case round =>
    obtain ⟨k, v, rfl, rfl, hk, hown, hb⟩ := hrel
    by_cases hlt : k < n
    · have hc := cell_lt hb hgl (Hcell.out k (by omega))
      have hbi := bitI_bd s k
      have Hy := Lib.hid (textL_succ s k)
      obtain ⟨B, hB⟩ : ∃ B, B = bitI s k := ⟨_, rfl⟩
      rw [← hB] at hc hbi Hy
      obtain ⟨hb0, hb2⟩ := hbi
      have hk0 : (0 : Int) ≤ (k : Int) := by omega
      have hkn : (k : Int) < (n : Int) := by omega
      have hk64 : (k : Int) < 64 := by omega
      clear hB hk
      go_wp2_with (at_builtin; refine wpList_pushB rfl _ _ rfl wr w1.heap.size v (textL s k) (48 + B) rfl rfl hown (by rw [textL_len]; omega) hb.size ?_)
      intro v' w5 hown5 hb5
      rw [← Hy.out] at hown5
      have hb5' := hb.trans hb5
      clear hb5 hown hc
      go_wp2_with fail
      go_roundw
      case rel => exact ⟨k + 1, _, by go_num, rfl, by omega, hown5, hb5'⟩
      case measure => simp [intOf]; omega
    · have hkn : k = n := by omega
      subst hkn
      have hcv := hown.text (by rw [textL_len]; omega)
      have Hcv := Lib.hid hcv
      clear hown hcv
      go_wp2_with fail
      rw [Hcv.out]
      go_wp2_with fail
      go_ret
      exact ⟨ret_string Ht.out.symm, Hb1.out.trans (hb.mono hsz)⟩
end Go.Proofs.Ythiiodagihlggaa
