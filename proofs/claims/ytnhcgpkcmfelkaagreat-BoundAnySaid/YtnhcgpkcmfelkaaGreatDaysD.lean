/-
  My own work: math/bits.OnesCount64, days.Len: their contracts.
-/
import Derived.Test.YtnhcgpkcmfelkaaGreatMDays
import Derived.Test.YtnhcgpkcmfelkaaGreatMOnes
namespace Go.Proofs.YtnhcgpkcmfelkaaGreat
open Go.RowKit
set_option linter.unusedVariables false
set_option maxRecDepth 100000

theorem u64_word (a b m x : Nat) (ha : a < 18446744073709551616) (hb : b < 18446744073709551616) (hm : m < 18446744073709551616) (h : (a &&& m) + (b &&& m) = x) (hx : x < 18446744073709551616) :
    IntKind.u64.wrap (bits .and .u64 (a : Int) (m : Int) + bits .and .u64 (b : Int) (m : Int)) = (x : Int) := by
  rw [u64_and_nat a m ha hm, u64_and_nat b m hb hm, ← h]
  rw [← Int.natCast_add]
  exact IntWalk.u64_in _ (by omega)
theorem u64_sum (a b x : Nat) (h : a + b = x) (hx : x < 18446744073709551616) : IntKind.u64.wrap ((a : Int) + (b : Int)) = (x : Int) := by
  rw [← Int.natCast_add, h]
  exact IntWalk.u64_in _ (by omega)
theorem ofInt_i64 (a : Nat) (ha : a < 9223372036854775808) : (BitVec.ofInt 64 (a : Int)).toNat = a := by
  rw [BitVec.ofInt_natCast, BitVec.toNat_ofNat]; exact Nat.mod_eq_of_lt (by omega)
theorem i64_and_nat (a b : Nat) (ha : a < 9223372036854775808) (hb : b < 9223372036854775808) : bits .and .i64 (a : Int) (b : Int) = ((a &&& b : Nat) : Int) := by
  have hx : a &&& b < 2 ^ 63 := Nat.and_lt_two_pow _ (by omega)
  show IntKind.i64.wrap ((BitVec.ofInt 64 (a : Int) &&& BitVec.ofInt 64 (b : Int)).toNat : Int) = _
  rw [BitVec.toNat_and, ofInt_i64 a ha, ofInt_i64 b hb, IntKind.wrap_i64]
  omega
theorem cnt_all (s : Nat) : cnt s 64 = (allUpto s 0 64).length := by
  unfold cnt allUpto
  rw [List.length_map]
  simp

theorem ones_is (s : Nat) (w : World) (hs : s < 18446744073709551616) : Calls Tryz.prog 112 #[.int .u64 s] w fun e w' => e = .returned (.int .i64 ((allUpto s 0 64).length : Int)) ∧ w = w' := by
  obtain ⟨x1, x2, x3, x4, x5, x6, l1, l2, l3, l4, l5, l6, e1, e2, e3, e4, e5, e6, e7⟩ := ones_words s hs
  rw [cnt_all] at e7
  have h1 := u64_word (s / 2) s 6148914691236517205 x1 (by omega) hs (by decide) e1 l1
  have h2 := u64_word (x1 / 4) x1 3689348814741910323 x2 (by omega) l1 (by decide) e2 (by omega)
  have h3 := u64_sum (x2 / 16) x2 _ rfl (by omega)
  have h3' := u64_and_nat (x2 / 16 + x2) 1085102592571150095 (by omega) (by decide)
  rw [e3] at h3'
  have h4 := u64_sum x3 (x3 / 256) x4 e4 l4
  have h5 := u64_sum x4 (x4 / 65536) x5 e5 l5
  have h6 := u64_sum x5 (x5 / 4294967296) x6 e6 (by omega)
  have H1 := Lib.hid h1
  have H2 := Lib.hid h2
  have H3 := Lib.hid h3
  have H3' := Lib.hid h3'
  have H4 := Lib.hid h4
  have H5 := Lib.hid h5
  have H6 := Lib.hid h6
  have H7 := Lib.hid e7
  have Hl6 := Lib.hid l6
  clear h1 h2 h3 h3' h4 h5 h6 e1 e2 e3 e4 e5 e6 e7 hs l1 l2 l3 l4 l5 l6
  go_enter Tryz.func112, Tryz.ntmps112
  go_wp2_with fail
  go_ret
  refine ⟨?_, rfl⟩
  have h1 := H1.out
  have h2 := H2.out
  have h3 := H3.out
  have h3' := H3'.out
  have h4 := H4.out
  have h5 := H5.out
  have h6 := H6.out
  have h7 : bits .and .i64 (wrap64 (x6 : Int)) 127 = ((allUpto s 0 64).length : Int) := by
    have hl := Hl6.out
    rw [wrap_id (by omega) (by omega)]
    have := i64_and_nat x6 127 hl (by decide)
    rw [nat_mask7] at this
    rw [← H7.out]
    exact this
  simp only [Int.natCast_ediv, Int.cast_ofNat_Int] at h1 h2 h3 h3' h4 h5 h6
  simp only [h1, h2, h3, h3', h4, h5, h6, h7]
  rfl

theorem len_is (s : Nat) (w : World) (hs : s < 18446744073709551616) : Calls Tryz.prog 99 #[.int .u64 s] w fun e w' => e = .returned (.int .i64 ((allUpto s 0 64).length : Int)) ∧ w = w' := by
  go_enter Tryz.func99, Tryz.ntmps99
  go_wp2_with fail
  refine (ones_is s w hs).mono ?_
  rintro e w' ⟨rfl, rfl⟩
  go_wp2_with fail
  go_ret
  exact ⟨rfl, rfl⟩
end Go.Proofs.YtnhcgpkcmfelkaaGreat
