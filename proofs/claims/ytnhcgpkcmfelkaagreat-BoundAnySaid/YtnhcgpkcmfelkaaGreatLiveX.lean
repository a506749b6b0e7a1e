/-
  My own work: the document's example of an instance, in memory.
-/
import Derived.Test.YtnhcgpkcmfelkaaGreatMOwn
import Derived.Test.YtnhcgpkcmfelkaaGreatMGood
namespace Go.Proofs.YtnhcgpkcmfelkaaGreat
open Go.RowKit
set_option linter.unusedVariables false
set_option maxRecDepth 100000

theorem nth_at {xs : List Int} {i : Nat} (h : i < xs.length) : (xs.map (Value.int .i64))[i]? = some (.int .i64 (nth xs i)) := by rw [List.getElem?_map, List.getElem?_eq_getElem h, nth_lt h]; rfl
theorem ints_of {w : World} {b : Nat} {xs : List Int} (h : Lies w b (xs.map (Value.int .i64))) (hm : xs.length ≤ 9223372036854775807) : Ints w (.slice (some ⟨b, 0, none⟩) xs.length xs.length) xs :=
  ⟨some ⟨b, 0, none⟩, xs.length, rfl, Nat.le_refl _, hm, fun i hi => ⟨b, 0, rfl, by rw [Nat.zero_add]; exact h.at i _ (nth_at hi)⟩⟩
theorem words_of {w : World} {b : Nat} {xs : List Nat} (h : Lies w b (xs.map wordV)) (hm : xs.length ≤ 9223372036854775807) : Words w (.slice (some ⟨b, 0, none⟩) xs.length xs.length) xs :=
  ⟨some ⟨b, 0, none⟩, xs.length, rfl, Nat.le_refl _, hm, fun i hi => ⟨b, 0, rfl, by rw [Nat.zero_add]; exact h.at i _ (by rw [List.getElem?_map, List.getElem?_eq_getElem hi, nthN_lt hi]; rfl)⟩⟩
theorem cuAt_of {w : World} {b : Nat} {C : Cu} {pv : Value} (h : Lies w b (cuV C pv)) (hp : Words w pv C.ps) : CuAt w b 0 C pv :=
  ⟨h.at 0 _ rfl, h.at 1 _ rfl, h.at 2 _ rfl, h.at 3 _ rfl, h.at 4 _ rfl, h.at 5 _ rfl, h.at 6 _ rfl, h.at 7 _ rfl, hp⟩

def liveC : List Cu := [⟨1, 1, [1], 0, 0, 0, 0, 0⟩]
def liveD : List (List Int) := [[0, 3], [4, 0]]

theorem live_inst (w : World) : ∃ w1 w2 w3 w4 w5 w6 : World,
    w.alloc (.cells #[.int .u64 1] 71) = w1 ∧
    w1.alloc (.cells #[.int .i64 1, .int .i64 1, .slice (some ⟨w.heap.size, 0, none⟩) 1 1, .int .i64 0, .int .i64 0, .int .i64 0, .int .i64 0, .int .i64 0] 53) = w2 ∧
    w2.alloc (.cells #[.int .i64 0, .int .i64 3] 3) = w3 ∧
    w3.alloc (.cells #[.int .i64 4, .int .i64 0] 3) = w4 ∧
    w4.alloc (.cells #[.slice (some ⟨w.heap.size + 1 + 1, 0, none⟩) 2 2, .slice (some ⟨w.heap.size + 1 + 1 + 1, 0, none⟩) 2 2] 26) = w5 ∧
    w5.alloc (.cells #[.int .i64 1, .int .i64 1, .int .i64 9, .int .i64 9, .slice (some ⟨w.heap.size + 1, 0, none⟩) 1 1, .slice (some ⟨w.heap.size + 1 + 1 + 1 + 1, 0, none⟩) 2 2] 25) = w6 ∧
    Below w.heap.size w w6 ∧ w6.heap.size = w.heap.size + 1 + 1 + 1 + 1 + 1 + 1 ∧
    IsInst w6 (w.heap.size + 1 + 1 + 1 + 1 + 1) (.int .i64 1) (.int .i64 1) (.int .i64 9) (.int .i64 9) (.slice (some ⟨w.heap.size + 1, 0, none⟩) 1 1) (.slice (some ⟨w.heap.size + 1 + 1 + 1 + 1, 0, none⟩) 2 2) ∧
    Custs w6 (.slice (some ⟨w.heap.size + 1, 0, none⟩) 1 1) liveC ∧ Grid w6 (.slice (some ⟨w.heap.size + 1 + 1 + 1 + 1, 0, none⟩) 2 2) liveD := by
  obtain ⟨w1, e1⟩ : ∃ w1, w.alloc (.cells #[.int .u64 1] 71) = w1 := ⟨_, rfl⟩
  obtain ⟨w2, e2⟩ : ∃ w2, w1.alloc (.cells #[.int .i64 1, .int .i64 1, .slice (some ⟨w.heap.size, 0, none⟩) 1 1, .int .i64 0, .int .i64 0, .int .i64 0, .int .i64 0, .int .i64 0] 53) = w2 := ⟨_, rfl⟩
  obtain ⟨w3, e3⟩ : ∃ w3, w2.alloc (.cells #[.int .i64 0, .int .i64 3] 3) = w3 := ⟨_, rfl⟩
  obtain ⟨w4, e4⟩ : ∃ w4, w3.alloc (.cells #[.int .i64 4, .int .i64 0] 3) = w4 := ⟨_, rfl⟩
  obtain ⟨w5, e5⟩ : ∃ w5, w4.alloc (.cells #[.slice (some ⟨w.heap.size + 1 + 1, 0, none⟩) 2 2, .slice (some ⟨w.heap.size + 1 + 1 + 1, 0, none⟩) 2 2] 26) = w5 := ⟨_, rfl⟩
  obtain ⟨w6, e6, hb6, hs6, hi6⟩ := box_inst w5 (.int .i64 1) (.int .i64 1) (.int .i64 9) (.int .i64 9) (.slice (some ⟨w.heap.size + 1, 0, none⟩) 1 1) (.slice (some ⟨w.heap.size + 1 + 1 + 1 + 1, 0, none⟩) 2 2)
  have hb1 : Below w.heap.size w w1 := by rw [← e1]; exact belAlloc _ _
  have hb2 : Below w1.heap.size w1 w2 := by rw [← e2]; exact belAlloc _ _
  have hb3 : Below w2.heap.size w2 w3 := by rw [← e3]; exact belAlloc _ _
  have hb4 : Below w3.heap.size w3 w4 := by rw [← e4]; exact belAlloc _ _
  have hb5 : Below w4.heap.size w4 w5 := by rw [← e5]; exact belAlloc _ _
  have s1 : w1.heap.size = w.heap.size + 1 := by rw [← e1]; simp
  have s2 : w2.heap.size = w.heap.size + 1 + 1 := by rw [← e2]; simp; omega
  have s3 : w3.heap.size = w.heap.size + 1 + 1 + 1 := by rw [← e3]; simp; omega
  have s4 : w4.heap.size = w.heap.size + 1 + 1 + 1 + 1 := by rw [← e4]; simp; omega
  have s5 : w5.heap.size = w.heap.size + 1 + 1 + 1 + 1 + 1 := by rw [← e5]; simp; omega
  have a1 : Lies w1 w.heap.size ([1].map wordV) := by rw [← e1]; exact Lies.new w [_] _
  have a2 : Lies w2 w1.heap.size (cuV ⟨1, 1, [1], 0, 0, 0, 0, 0⟩ (.slice (some ⟨w.heap.size, 0, none⟩) 1 1)) := by rw [← e2]; exact Lies.new w1 [_, _, _, _, _, _, _, _] _
  have a3 : Lies w3 w2.heap.size ([0, 3].map (Value.int .i64)) := by rw [← e3]; exact Lies.new w2 [_, _] _
  have a4 : Lies w4 w3.heap.size ([4, 0].map (Value.int .i64)) := by rw [← e4]; exact Lies.new w3 [_, _] _
  have a5 : Lies w5 w4.heap.size [.slice (some ⟨w.heap.size + 1 + 1, 0, none⟩) 2 2, .slice (some ⟨w.heap.size + 1 + 1 + 1, 0, none⟩) 2 2] := by rw [← e5]; exact Lies.new w4 [_, _] _
  rw [s1] at a2
  rw [s2] at a3
  rw [s3] at a4
  rw [s4] at a5
  rw [s5] at hi6
  have b56 := hb6
  have b46 := bel2 hb5 b56
  have b36 := bel2 hb4 b46
  have b26 := bel2 hb3 b36
  have b16 := bel2 hb2 b26
  have hW := words_of (a1.below b16) (by decide)
  refine ⟨w1, w2, w3, w4, w5, w6, e1, e2, e3, e4, e5, e6, bel2 hb1 b16, by omega, hi6, ?_, ?_⟩
  · refine ⟨some ⟨w.heap.size + 1, 0, none⟩, 1, rfl, by decide, by decide, fun i hi => ?_⟩
    have : i = 0 := by simp [liveC] at hi; omega
    subst this
    exact ⟨w.heap.size + 1, 0, _, rfl, cuAt_of (a2.below b26) hW⟩
  · refine ⟨some ⟨w.heap.size + 1 + 1 + 1 + 1, 0, none⟩, 2, rfl, by decide, by decide, fun i hi => ?_⟩
    have : i < 2 := by simpa [liveD] using hi
    match i, this with
    | 0, _ => exact ⟨w.heap.size + 1 + 1 + 1 + 1, 0, _, rfl, (a5.below b56).at 0 _ rfl, ints_of (a3.below b36) (by decide)⟩
    | 1, _ => exact ⟨w.heap.size + 1 + 1 + 1 + 1, 0, _, rfl, (a5.below b56).at 1 _ rfl, ints_of (a4.below b46) (by decide)⟩
end Go.Proofs.YtnhcgpkcmfelkaaGreat
