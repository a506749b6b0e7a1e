/-
  My own work: slices of words.
-/
import Derived.Test.YthilfibgpobcjaaFrame
namespace Go.Proofs.Ythilfibgpobcjaa
open Go.ChangeShapes Go.WideShapes Go.ChangeAt Go.RowKit
set_option linter.unusedVariables false

/-- The k-th word (0 beyond the end): no rule of simp opens it. -/
def nthN (xs : List Nat) (k : Nat) : Nat := xs.getD k 0
theorem nthN_lt {xs : List Nat} {k : Nat} (h : k < xs.length) : nthN xs k = xs[k] := by simp [nthN, h]
theorem nthN_mem {xs : List Nat} {k : Nat} (h : k < xs.length) : nthN xs k ∈ xs := by rw [nthN_lt h]; exact List.getElem_mem h
theorem nthN_take {xs : List Nat} {k n : Nat} (h : k < n) : nthN (xs.take n) k = nthN xs k := by simp [nthN, h]

/-- The slice value v reads as the words xs. -/
def Words (w : World) (v : Value) (xs : List Nat) : Prop :=
  ∃ (a : Option Addr) (c : Nat), v = .slice a xs.length c ∧ xs.length ≤ c ∧ c ≤ 9223372036854775807 ∧ ∀ i, i < xs.length → ∃ b o, a = some ⟨b, o, none⟩ ∧ w.cell? ⟨b, o + i, none⟩ = some (.int .u64 (nthN xs i : Int))
theorem Words.nil (w : World) : Words w (.slice none 0 0) [] := ⟨none, 0, rfl, by simp, by simp, fun i hi => absurd hi (by simp)⟩
theorem Words.below {w w' : World} {v : Value} {xs : List Nat} (h : Words w v xs) (hb : Below w.heap.size w w') : Words w' v xs := by
  obtain ⟨a, c, hv, h1, h2, hc⟩ := h
  refine ⟨a, c, hv, h1, h2, fun i hi => ?_⟩
  obtain ⟨b, o, ha, h0⟩ := hc i hi
  exact ⟨b, o, ha, (hb.cell (p := ⟨b, o + i, none⟩) (World.block_lt_of_cell? w _ h0)).trans h0⟩
theorem Words.open {w : World} {v : Value} {xs : List Nat} (h : Words w v xs) :
    ∃ (a : Option Addr) (n c : Nat), v = .slice a n c ∧ xs.length = n ∧ n ≤ c ∧ c ≤ 9223372036854775807 ∧ ∀ k, k < n → ∃ b o, a = some ⟨b, o, none⟩ ∧ b < w.heap.size ∧ w.cell? ⟨b, o + k, none⟩ = some (.int .u64 (nthN xs k : Int)) := by
  obtain ⟨a, c, rfl, h1, h2, hc⟩ := h
  refine ⟨a, xs.length, c, rfl, rfl, h1, h2, fun k hk => ?_⟩
  obtain ⟨b, o, ha, h0⟩ := hc k hk
  exact ⟨b, o, ha, World.block_lt_of_cell? w _ h0, h0⟩
theorem Words.take {w : World} {a : Option Addr} {n c m : Nat} {xs : List Nat} (h : Words w (.slice a n c) xs) (hm : m ≤ n) : Words w (.slice a m c) (xs.take m) := by
  obtain ⟨a', c', h, h1, h2, hc⟩ := h
  simp only [Value.slice.injEq] at h
  obtain ⟨rfl, rfl, rfl⟩ := h
  have hl : (xs.take m).length = m := by rw [List.length_take]; omega
  refine ⟨a, c, by rw [hl], by omega, by omega, fun i hi => ?_⟩
  rw [hl] at hi
  rw [nthN_take hi]
  exact hc i (by omega)

section
variable {H : Type} {enc : TypeId × Value → H} {w : World}

/-- An argument of type []uint64. -/
theorem open_sliceWords {r : Reach} {b0 : Nat} {v : Value} {d : DataW H} {p : List MemPlace} {held : Bool}
    (hv : Value.okWide Try.prog w r b0 58 v) (h : DataW.Trod enc Try.prog w 0 (fun _ => true) held 58 v d p) :
    ∃ xs : List Nat, Words w v xs ∧ (∀ x ∈ xs, x < 18446744073709551616) := by
  obtain ⟨a, len, cap, rfl⟩ := okWide_slice Try.underlying58 hv
  obtain ⟨fuel, hf⟩ := h
  rcases open_ints Try.underlying58 Try.underlying82 (by kernel_rfl) hf with ⟨hcs, _⟩ | ⟨x, l, c, zs, hcs, _, hl, hm, hz, _, hcell, hwz⟩
  · simp [Value.cells] at hcs
    obtain ⟨rfl, rfl, rfl⟩ := hcs
    exact ⟨[], Words.nil _, by simp⟩
  · simp [Value.cells] at hcs
    obtain ⟨rfl, rfl, rfl⟩ := hcs
    have hz' : zs.length = cap := by simpa using hz
    have hl' : (zs.take len).length = len := by rw [List.length_take]; omega
    have hw : ∀ z ∈ zs, 0 ≤ z ∧ z < 18446744073709551616 := fun z hz => by
      have h := hwz z hz
      simp only [Lit.wf, Bool.and_eq_true, decide_eq_true_eq] at h
      obtain ⟨h0, h1⟩ := h
      have h0' : 0 ≤ z := h0
      have h1' : z ≤ 18446744073709551615 := h1
      omega
    refine ⟨(zs.take len).map Int.toNat, ⟨some x, cap, by rw [List.length_map, hl'], by rw [List.length_map]; omega, hm, fun i hi => ?_⟩, fun y hy => ?_⟩
    · rw [List.length_map, hl'] at hi
      obtain ⟨b, off, rfl, hc⟩ := ints_at hcell (by omega)
      refine ⟨b, off, rfl, ?_⟩
      have hi2 : i < zs.length := by omega
      have h3 := hc i (by omega)
      rw [h3]
      have h4 : nthN ((zs.take len).map Int.toNat) i = zs[i].toNat := by
        rw [nthN_lt (by rw [List.length_map, hl']; exact hi)]
        simp
      rw [h4]
      have h5 := (hw zs[i] (List.getElem_mem hi2)).1
      congr 2
      simp [List.getD, List.getElem?_eq_getElem hi2]
      omega
    · obtain ⟨z, hz, rfl⟩ := List.mem_map.1 hy
      have := hw z (List.mem_of_mem_take hz)
      omega
end
end Go.Proofs.Ythilfibgpobcjaa
