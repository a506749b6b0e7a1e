/-
  My own work: days.Parse, tranterref02.Parse: their contracts.
-/
import Derived.Test.YthiiodagihlggaaDaysPl2
import Derived.Laws.RangeAny
namespace Go.Proofs.Ythiiodagihlggaa
open Go.RowKit
set_option linter.unusedVariables false

/-- A text's bytes as numbers. -/
def bytesL (t : ByteArray) : List Int := t.data.toList.map fun b => (b.toNat : Int)
theorem bytesL_len (t : ByteArray) : (bytesL t).length = t.size := by simp [bytesL]
theorem nth_bytesL (t : ByteArray) (i : Nat) (h : i < t.size) : nth (bytesL t) i = ((t[i]'h).toNat : Int) := by
  rw [nth_lt (by rw [bytesL_len]; exact h)]
  simp [bytesL]
  rfl
/-- The set of the first k places of a text. -/
def textN (l : List Int) : Nat → Nat
  | 0 => 0
  | k + 1 => if nth l k = 49 then withN (textN l k) (k : Int) else textN l k
theorem textN_lt (l : List Int) (k : Nat) : textN l k < 18446744073709551616 := by
  induction k with
  | zero => exact (by decide : (0 : Nat) < 18446744073709551616)
  | succ k ih =>
    unfold textN
    split
    · exact with_lt _ ih
    · exact ih
theorem textN_test (l : List Int) (j : Nat) (hj : j < 64) (k : Nat) : (textN l k).testBit j = (decide (j < k) && decide (nth l j = 49)) := by
  induction k with
  | zero => simp [textN]
  | succ k ih =>
    unfold textN
    by_cases h : nth l k = 49
    · rw [if_pos h, test_with' _ _ j hj, ih]
      by_cases e : j = k
      · subst e; simp [h]
      · have : ¬ (k : Int) = (j : Int) := by omega
        rw [decide_eq_false this, Bool.or_false]
        congr 1
        rw [decide_eq_decide]; omega
    · rw [if_neg h, ih]
      by_cases e : j = k
      · subst e; simp [h]
      · congr 1
        rw [decide_eq_decide]; omega
def okL (l : List Int) (n : Nat) : Prop := ∀ i, i < n → nth l i = 48 ∨ nth l i = 49
/-- What a text is read as: the set, and the error. -/
def ParseOut (t : ByteArray) (N : Nat) (E : Int) : Prop :=
  (t.size = 0 ∧ N = 0 ∧ E = 2) ∨ (0 < t.size ∧ (¬ okL (bytesL t) t.size) ∧ N = 0 ∧ E = 2) ∨ (64 < t.size ∧ okL (bytesL t) t.size ∧ N = 0 ∧ E = 3) ∨
    (0 < t.size ∧ t.size ≤ 64 ∧ okL (bytesL t) t.size ∧ N = textN (bytesL t) t.size ∧ E = 0)
theorem ParseOut.same {t : ByteArray} {N M : Nat} {E F : Int} (h : ParseOut t N E) (k : ParseOut t M F) : N = M ∧ E = F := by
  unfold ParseOut at h k
  rcases h with ⟨h1, h2, h3⟩ | ⟨h1, h4, h2, h3⟩ | ⟨h1, h4, h2, h3⟩ | ⟨h1, h5, h4, h2, h3⟩ <;> rcases k with ⟨k1, k2, k3⟩ | ⟨k1, k4, k2, k3⟩ | ⟨k1, k4, k2, k3⟩ | ⟨k1, k5, k4, k2, k3⟩ <;>
    first | exact absurd k4 h4 | exact absurd h4 k4 | (exfalso; omega) | exact ⟨by rw [h2, k2], by rw [h3, k3]⟩

def ParseRet (w : World) (t : ByteArray) (e : Ending) (w' : World) : Prop := ∃ (N : Nat) (E : Int), e = .returned (.tuple #[.int .u64 (N : Int), .int .i64 E]) ∧ ParseOut t N E ∧ N < 18446744073709551616 ∧ Below w.heap.size w w'

theorem iter_below (w : World) (s : ByteArray) (p : Nat) : Below w.heap.size w (w.iter s p) := (Below.refl _ _).alloc (Nat.le_refl _) _
theorem okL_succ {l : List Int} {k : Nat} (h : okL l k) (hk : nth l k = 48 ∨ nth l k = 49) : okL l (k + 1) := by
  intro i hi
  by_cases e : i = k
  · subst e; exact hk
  · exact h i (by omega)

set_option maxRecDepth 100000 in
set_option maxHeartbeats 1600000 in
theorem parse_is (t : ByteArray) (w : World) (ht : t.size ≤ 65536) : Calls Try.prog 17 #[.string t] w (ParseRet w t) := by
  go_enter Try.func17, Try.ntmps17
  go_wp2_with fail
  go_loopw [4, 5] (fun x i wr => ∃ (k S : Nat), wr = w.iter t k ∧ k ≤ t.size ∧ i = .int .i64 k ∧ x = .int .u64 (S : Int) ∧ S = textN (bytesL t) k ∧ okL (bytesL t) k) (fun _ _ wr => t.size - wr.iterPos w.heap.size)
  case atStart => exact ⟨0, 0, rfl, Nat.zero_le _, rfl, rfl, rfl, fun i hi => absurd hi (by omega)⟩
  case round =>
    obtain ⟨k, S, rfl, hk, rfl, rfl, hS, hok⟩ := hrel
    by_cases hlt : k < t.size
    · have hnth := nth_bytesL t k hlt
      have hlS := Lib.hid (show S < 18446744073709551616 by rw [hS]; exact textN_lt _ _)
      have HS := Lib.hid hS
      have Hok := Lib.hid hok
      clear hS hok
      by_cases ha : (t[k]'hlt).toNat < 128
      · have hnx := fun ty => run_next_ascii (P := Try.prog) w t k ty hlt ha
        by_cases h0 : (t[k]'hlt).toNat = 48
        · rw [h0] at hnx hnth
          have Hn := Lib.hid hnth
          have Hs : Hid (textN (bytesL t) (k + 1) = S) := Lib.hid (by rw [textN, hnth, if_neg (by decide), HS.out])
          clear h0 ha hnth
          go_wp2_with fail
          go_roundw
          case rel => exact ⟨k + 1, S, rfl, by omega, by go_num, rfl, Hs.out.symm, okL_succ Hok.out (.inl Hn.out)⟩
          case measure => simp; omega
        · by_cases h1 : (t[k]'hlt).toNat = 49
          · rw [h1] at hnx hnth
            have Hn := Lib.hid hnth
            have Hs : Hid (textN (bytesL t) (k + 1) = withN S (k : Int)) := Lib.hid (by rw [textN, hnth, if_pos (by decide), HS.out])
            clear h0 h1 ha hnth
            go_wp2_with fail
            refine (with_is S (k : Int) _ hlS.out).mono ?_
            rintro e w' ⟨rfl, rfl⟩
            go_wp2_with fail
            go_roundw
            case rel => exact ⟨k + 1, _, rfl, by omega, by go_num, rfl, Hs.out.symm, okL_succ Hok.out (.inr Hn.out)⟩
            case measure => simp; omega
          · have q0 : (((t[k]'hlt).toNat : Int) == 48) = false := by rw [beq_eq_false_iff_ne]; omega
            have q1 : (((t[k]'hlt).toNat : Int) == 49) = false := by rw [beq_eq_false_iff_ne]; omega
            have Hbad : Hid (¬ okL (bytesL t) t.size) := Lib.hid (fun h => by have := h k hlt; omega)
            have hpos : 0 < t.size := by omega
            clear h0 h1 ha hnth
            generalize (t[k]'hlt).toNat = B at *
            go_wp2_with fail
            go_ret2
            exact ⟨0, 2, rfl, .inr (.inl ⟨hpos, Hbad.out, rfl, rfl⟩), by decide, iter_below _ _ _⟩
      · have hnx := fun ty => run_next_any (P := Try.prog) w t k ty hlt
        obtain ⟨hh, _⟩ := decode_high t k hlt (by omega)
        have Hbad : Hid (¬ okL (bytesL t) t.size) := Lib.hid (fun h => by have := h k hlt; omega)
        have hpos : 0 < t.size := by omega
        clear ha hnth
        generalize Utf8.decode t k = D at *
        obtain ⟨R, M⟩ := D
        have q0 : ((R : Int) == 48) = false := by rw [beq_eq_false_iff_ne]; simp at hh; omega
        have q1 : ((R : Int) == 49) = false := by rw [beq_eq_false_iff_ne]; simp at hh; omega
        clear hh
        go_wp2_with fail
        go_ret2
        exact ⟨0, 2, rfl, .inr (.inl ⟨hpos, Hbad.out, rfl, rfl⟩), by decide, iter_below _ _ _⟩
    · have hkt : k = t.size := by omega
      have hnx := fun ty => run_next_end (P := Try.prog) w t k ty hlt
      have Hkt := Lib.hid hkt
      have HS := Lib.hid hS
      have Hok := Lib.hid hok
      have hlS := Lib.hid (show S < 18446744073709551616 by rw [hS]; exact textN_lt _ _)
      clear hS hok hkt hlt
      by_cases hz : k = 0
      · subst hz
        go_wp2_with fail
        go_ret2
        exact ⟨0, 2, rfl, .inl ⟨by rw [← Hkt.out], rfl, rfl⟩, by decide, iter_below _ _ _⟩
      · have q0 : ((k : Int) == 0) = false := by rw [beq_eq_false_iff_ne]; omega
        have hk0 : 0 < k := by omega
        clear hz
        by_cases h64 : 64 < k
        · have q1 : decide (64 < (k : Int)) = true := by simp; omega
          go_wp2_with fail
          go_ret2
          exact ⟨0, 3, rfl, .inr (.inr (.inl ⟨by rw [← Hkt.out]; exact h64, by rw [← Hkt.out]; exact Hok.out, rfl, rfl⟩)), by decide, iter_below _ _ _⟩
        · have q1 : decide (64 < (k : Int)) = false := by simp; omega
          go_wp2_with fail
          go_ret2
          exact ⟨S, 0, rfl, .inr (.inr (.inr ⟨by rw [← Hkt.out]; exact hk0, by rw [← Hkt.out]; omega, by rw [← Hkt.out]; exact Hok.out, by rw [← Hkt.out]; exact HS.out, rfl⟩)), hlS.out, iter_below _ _ _⟩

/-- The bits of the first k places, one more. -/
theorem bits_text (l : List Int) (k : Nat) (hk : k < 64) (h : nth l k = 48 ∨ nth l k = 49) : (bitsOf (textN l k)).set k (nth l k - 48) = bitsOf (textN l (k + 1)) := by
  rcases h with h | h
  · rw [h, textN, h, if_neg (by decide)]
    apply ext_nth (by simp)
    intro j hj
    rw [List.length_set, bitsOf_len] at hj
    rw [nth_set (by rw [bitsOf_len]; exact hk), nth_bits _ _ hj]
    by_cases e : k = j
    · subst e
      rw [if_pos rfl, bitI_of, textN_test l k hk k]
      simp
    · rw [if_neg e]
  · rw [h, textN, h, if_pos rfl]
    exact bits_put1 _ k hk
theorem bits_zero : bitsOf 0 = List.replicate 64 0 := by decide +kernel

set_option maxRecDepth 100000 in
set_option maxHeartbeats 1600000 in
theorem refParse_is (t : ByteArray) (w : World) (ht : t.size ≤ 65536) : Calls Try.prog 20 #[.string t] w (ParseRet w t) := by
  obtain ⟨w1, hmk, hown, hb1⟩ := made_ints w 64 (by decide)
  rw [show ((64 : Nat) : Int) = 64 from rfl] at hmk
  have Hmk := Lib.hid hmk
  have Hown := Lib.hid hown
  have Hb1 := Lib.hid hb1
  clear hmk hown hb1
  by_cases hz : t.size = 0
  · have q0 : ((t.size : Int) == 0) = true := by rw [beq_iff_eq]; omega
    have Hz := Lib.hid hz
    clear hz ht
    go_enter Try.func20, Try.ntmps20
    go_wp2_with fail
    go_ret2
    exact ⟨0, 2, rfl, .inl ⟨Hz.out, rfl, rfl⟩, by decide, Below.refl _ _⟩
  have q0 : ((t.size : Int) == 0) = false := by rw [beq_eq_false_iff_ne]; omega
  have hpos : 0 < t.size := by omega
  clear hz
  go_enter Try.func20, Try.ntmps20
  go_wp2_with fail
  go_loopw [4] (fun i wr => ∃ (k : Nat), wr = w ∧ k ≤ t.size ∧ i = .int .i64 k ∧ okL (bytesL t) k) (fun i _ => t.size - (intOf i).toNat)
  case atStart => exact ⟨0, rfl, Nat.zero_le _, rfl, fun i hi => absurd hi (by omega)⟩
  case round =>
    obtain ⟨k, rfl, hk, rfl, hok⟩ := hrel
    by_cases hlt : k < t.size
    · have hnth := nth_bytesL t k hlt
      have Hok := Lib.hid hok
      have hi0 : (0 : Int) ≤ (k : Int) := by omega
      have hi1 : (k : Int) < (t.size : Int) := by omega
      clear hok
      by_cases h0 : (t[k]'hlt).toNat = 48
      · rw [h0] at hnth
        have Hn := Lib.hid hnth
        clear hnth
        go_wp2_with fail
        go_roundw
        case rel => exact ⟨k + 1, trivial, by omega, by go_num, okL_succ Hok.out (.inl Hn.out)⟩
        case measure => simp [intOf]; omega
      · by_cases h1 : (t[k]'hlt).toNat = 49
        · rw [h1] at hnth
          have Hn := Lib.hid hnth
          clear hnth h0
          go_wp2_with fail
          go_roundw
          case rel => exact ⟨k + 1, trivial, by omega, by go_num, okL_succ Hok.out (.inr Hn.out)⟩
          case measure => simp [intOf]; omega
        · have Hbad : Hid (¬ okL (bytesL t) t.size) := Lib.hid (fun h => by have := h k hlt; omega)
          have q1 : (((t[k]'hlt).toNat : Int) != 48) = true := by rw [bne_iff_ne]; omega
          have q2 : (((t[k]'hlt).toNat : Int) != 49) = true := by rw [bne_iff_ne]; omega
          have q3 : (((t[k]'hlt).toNat : Int) == 48) = false := by rw [beq_eq_false_iff_ne]; omega
          have q4 : (((t[k]'hlt).toNat : Int) == 49) = false := by rw [beq_eq_false_iff_ne]; omega
          clear hnth h0 h1
          go_wp2_with fail
          go_ret2
          exact ⟨0, 2, rfl, .inr (.inl ⟨hpos, Hbad.out, rfl, rfl⟩), by decide, Below.refl _ _⟩
    · have hkt : k = t.size := by omega
      rw [hkt] at hok
      have Hok := Lib.hid hok
      clear hok hkt
      by_cases h64 : 64 < t.size
      · have q1 : decide (64 < (t.size : Int)) = true := by simp; omega
        go_wp2_with fail
        go_ret2
        exact ⟨0, 3, rfl, .inr (.inr (.inl ⟨h64, Hok.out, rfl, rfl⟩)), by decide, Below.refl _ _⟩
      · have q1 : decide (64 < (t.size : Int)) = false := by simp; omega
        have hs64 : t.size ≤ 64 := by omega
        clear h64
        go_wp2_with fail
        rw [Hmk.out]
        go_wp2_with fail
        generalize eg : wr.heap.size = g at *
        have Heg := Lib.hid eg
        clear eg
        go_loopw [6] (fun i wx => ∃ (j : Nat), j ≤ t.size ∧ i = .int .i64 j ∧ Own wx g (.slice (some ⟨g, 0, none⟩) 64 64) (bitsOf (textN (bytesL t) j)) ∧ Below g wr wx) (fun i _ => t.size - (intOf i).toNat)
        case atStart => exact ⟨0, Nat.zero_le _, rfl, by rw [textN, bits_zero]; exact Hown.out, Hb1.out⟩
        case round =>
          obtain ⟨j, hj, rfl, hown, hb⟩ := hrel
          clear hlt
          by_cases hlt : j < t.size
          · obtain ⟨hO, hF⟩ := hown.at_ j (by rw [bitsOf_len]; omega)
            have hnth := nth_bytesL t j hlt
            have hset := hown.set' j (nth (bytesL t) j - 48) (by rw [bitsOf_len]; omega)
            rw [bits_text (bytesL t) j (by omega) (Hok.out j hlt)] at hset
            have hi0 : (0 : Int) ≤ (j : Int) := by omega
            have hi1 : (j : Int) < (t.size : Int) := by omega
            have hi2 : (j : Int) < 64 := by omega
            rcases Hok.out j hlt with h | h
            · rw [h] at hset hnth
              have h0 : (t[j]'hlt).toNat = 48 := by omega
              have Hset := Lib.hid hset
              have hbs := hb.setCell (p := ⟨g, j, none⟩) (Nat.le_refl _) (.int .i64 (48 - 48))
              clear h hnth hown hset
              go_wp2_with fail
              go_roundw
              case rel => exact ⟨j + 1, by omega, by go_num, Hset.out, hbs⟩
              case measure => simp [intOf]; omega
            · rw [h] at hset hnth
              have h0 : (t[j]'hlt).toNat = 49 := by omega
              have Hset := Lib.hid hset
              have hbs := hb.setCell (p := ⟨g, j, none⟩) (Nat.le_refl _) (.int .i64 (49 - 48))
              clear h hnth hown hset
              go_wp2_with fail
              go_roundw
              case rel => exact ⟨j + 1, by omega, by go_num, Hset.out, hbs⟩
              case measure => simp [intOf]; omega
          · have hjt : j = t.size := by omega
            have Hjt := Lib.hid hjt
            have HI := Lib.hid hown.ints
            clear hjt hown
            go_wp2_with fail
            refine (number_is _ (textN (bytesL t) j) _ (textN_lt _ _) HI.out).mono ?_
            rintro e w2 ⟨rfl, rfl⟩
            go_wp2_with fail
            go_ret2
            exact ⟨_, 0, rfl, .inr (.inr (.inr ⟨hpos, hs64, Hok.out, by rw [Hjt.out], rfl⟩)), textN_lt _ _, by rw [Heg.out]; exact hb⟩
end Go.Proofs.Ythiiodagihlggaa
