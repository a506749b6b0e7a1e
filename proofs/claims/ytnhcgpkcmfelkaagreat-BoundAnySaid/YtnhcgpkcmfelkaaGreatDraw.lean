/-
  My own work: draw.New, Word, Fork, Below, counts, num.Clip: their contracts over this seat's translation.
-/
import Derived.Test.YtnhcgpkcmfelkaaGreatBase
namespace Go.Proofs.YtnhcgpkcmfelkaaGreat
open Go.RowKit
set_option linter.unusedVariables false
set_option maxRecDepth 100000

/-! ### the words, as plain numbers -/
def stOf (s : Int) : Int := IntKind.u64.wrap (s + 11400714819323198485)
def mix1 (s : Int) : Int := IntKind.u64.wrap (bits .xor .u64 s (s / 1073741824) * 13787848793156543929)
def mix2 (s : Int) : Int := IntKind.u64.wrap (bits .xor .u64 s (s / 134217728) * 10723151780598845931)
def mix3 (s : Int) : Int := bits .xor .u64 s (s / 2147483648)
def wordOf (s : Int) : Int := mix3 (mix2 (mix1 (stOf s)))

theorem u64_bd (x : Int) : 0 ≤ IntKind.u64.wrap x ∧ IntKind.u64.wrap x < 18446744073709551616 := by
  rw [IntKind.wrap_u64]; omega
theorem wordOf_bd (s : Int) : 0 ≤ wordOf s ∧ wordOf s < 18446744073709551616 := by
  unfold wordOf mix3; exact u64_bd _

/-- A stream of state s: the block g. -/
def IsStream (w : World) (g : Nat) (s : Int) : Prop := w.cell? ⟨g, 0, none⟩ = some (.int .u64 s) ∧ w.frozen? ⟨g, 0, none⟩ = false

theorem IsStream.lt {w : World} {g : Nat} {s : Int} (h : IsStream w g s) : g < w.heap.size := World.block_lt_of_cell? w _ h.1
theorem IsStream.kept {w w' : World} {g k : Nat} {s : Int} (h : IsStream w g s) (hg : w.grownBy w' (some k)) (hne : g ≠ k) : IsStream w' g s :=
  ⟨(World.cell?_of_block (a := ⟨g, 0, none⟩) (hg.block g h.lt (by simpa using hne))).trans h.1, (World.frozen?_of_block (a := ⟨g, 0, none⟩) (hg.block g h.lt (by simpa using hne))).trans h.2⟩
theorem IsStream.below {w w' : World} {g B : Nat} {s : Int} (h : IsStream w g s) (hb : Below B w w') (hB : g < B) : IsStream w' g s :=
  ⟨(hb.cell (p := ⟨g, 0, none⟩) hB).trans h.1, (hb.frozen (p := ⟨g, 0, none⟩) hB).trans h.2⟩

theorem word_is (g : Nat) (s : Int) (w : World) (h : IsStream w g s) :
    Calls Tryz.prog 78 #[.pointer (some ⟨g, 0, none⟩)] w fun e w' => e = .returned (.int .u64 (wordOf s)) ∧ IsStream w' g (stOf s) ∧ w.grownBy w' (some g) := by
  obtain ⟨h, hf⟩ := h
  go_enter Tryz.func78, Tryz.ntmps78
  go_wp2
  go_ret
  exact ⟨rfl, ⟨World.cell?_setCell_same _ _ _ h, by rw [World.frozen?_setCell]; exact hf⟩, grownBy_setCell _ _ _⟩

theorem new_is (n : Int) (w : World) :
    Calls Tryz.prog 48 #[.int .i64 n] w fun e w' => e = .returned (.pointer (some ⟨w.heap.size, 0, none⟩)) ∧ IsStream w' w.heap.size (IntKind.u64.wrap n) ∧ Below w.heap.size w w' := by
  go_enter Tryz.func48, Tryz.ntmps48
  go_wp2
  go_ret
  exact ⟨rfl, ⟨by simp [World.cell?_alloc_new], by simp [go_sem]⟩, (Below.refl _ _).alloc (Nat.le_refl _) _⟩

theorem below_no (g : Nat) (n : Int) (w : World) (hn : n < 1) :
    Calls Tryz.prog 50 #[.pointer (some ⟨g, 0, none⟩), .int .i64 n] w fun e w' => e = .returned (.int .i64 0) ∧ w = w' := by
  go_enter Tryz.func50, Tryz.ntmps50
  go_wp2_with fail
  go_ret
  exact ⟨rfl, rfl⟩

theorem tmod_word (s n : Int) (hn : 1 ≤ n) (hn2 : n ≤ 9223372036854775807) : wrap64 ((wordOf s).tmod n) = wordOf s % n := by
  have hw := wordOf_bd s
  have h1 := Int.emod_nonneg (wordOf s) (b := n) (by omega)
  have h2 := Int.emod_lt_of_pos (wordOf s) (b := n) (by omega)
  rw [Int.tmod_eq_emod_of_nonneg hw.1]
  generalize wordOf s % n = x at *
  rw [wrap64]
  omega

theorem below_is (g : Nat) (s n : Int) (w : World) (h : IsStream w g s) (hn : 1 ≤ n) (hn2 : Hid (n ≤ 9223372036854775807)) :
    Calls Tryz.prog 50 #[.pointer (some ⟨g, 0, none⟩), .int .i64 n] w fun e w' => e = .returned (.int .i64 (wordOf s % n)) ∧ IsStream w' g (stOf s) ∧ w.grownBy w' (some g) := by
  have hu : IntKind.u64.wrap n = n := by have := hn2.out; rw [IntKind.wrap_u64]; omega
  have hn0 : ¬ n = 0 := by omega
  go_enter Tryz.func50, Tryz.ntmps50
  go_wp2_with fail
  refine (word_is g s _ h).mono ?_
  rintro e w' ⟨rfl, h1, hg⟩
  go_wp2_with fail
  go_ret
  exact ⟨by rw [tmod_word s n hn hn2.out]; rfl, h1, hg⟩

theorem below_any (g : Nat) (s n : Int) (w : World) (h : IsStream w g s) (hn : 1 ≤ n) (hn2 : Hid (n ≤ 9223372036854775807)) :
    Calls Tryz.prog 50 #[.pointer (some ⟨g, 0, none⟩), .int .i64 n] w fun e w' => ∃ x s', e = .returned (.int .i64 x) ∧ 0 ≤ x ∧ x < n ∧ IsStream w' g s' ∧ w.grownBy w' (some g) := by
  refine (below_is g s n w h hn hn2).mono ?_
  rintro e w' ⟨rfl, h1, h2⟩
  exact ⟨_, _, rfl, Int.emod_nonneg _ (by omega), Int.emod_lt_of_pos _ (by omega), h1, h2⟩

theorem word0 : wordOf 0 = 16294208416658607535 := by decide +kernel

end Go.Proofs.YtnhcgpkcmfelkaaGreat
