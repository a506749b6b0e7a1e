/-
  My own work: arguments of type []api.Stop and []bool, opened.
-/
import Derived.Test.YthilfibgpobcjaaOpenInst
import Derived.Test.YthilfibgpobcjaaTourC
import Derived.Deep.Grids
namespace Go.Proofs.Ythilfibgpobcjaa
open Go.ChangeShapes Go.WideShapes Go.ChangeAt Go.RowKit Go.Joins Go.Deep
set_option linter.unusedVariables false

section
variable {H : Type} {enc : TypeId × Value → H} {w : World} {base : Nat} {spare : Nat → Bool} {held : Bool}
theorem cellsStop : Try.prog.cellsOf 81 = 2 := by kernel_rfl
theorem trod_stops {n : Nat} {c : Value} {y : DataW H × List MemPlace} (h : DataW.trod enc Try.prog w base spare held n 27 [c] = some y) : ∃ xs : List (Int × Int), Pairs w c xs := by
  rcases open_slice_fields Try.underlying27 Try.underlying81 (by kernel_rfl) cellsStop h with ⟨hcs, _⟩ | ⟨a, len, cap, m, D, Pl, hcs, _, hl, hm, hmm, _, hi⟩
  · simp at hcs
    subst hcs
    exact ⟨[], Pairs.nil _⟩
  · simp at hcs
    subst hcs
    have hml : len ≤ m := by rw [hmm]; split <;> omega
    have hspot : 0 < len → ∃ b o, a = ⟨b, o, none⟩ := fun hp => by
      obtain ⟨ys, n', _, _, _, hf⟩ := hi 0 (by omega)
      obtain ⟨v, y, hc, _⟩ := hf 0 _ rfl
      obtain ⟨b, o, spot⟩ := a
      have : spot = none := by simpa [Addr.add] using World.cell?_spot hc
      subst this
      exact ⟨b, o, rfl⟩
    have hone : ∀ i, i < len → ∃ p : Int × Int, ∃ b o, a = ⟨b, o, none⟩ ∧ w.cell? ⟨b, o + i * 2, none⟩ = some (.int .i64 p.1) ∧ w.cell? ⟨b, o + i * 2 + 1, none⟩ = some (.int .i64 p.2) := fun i him => by
      obtain ⟨b, o, rfl⟩ := hspot (by omega)
      obtain ⟨ys, n', _, _, _, hf⟩ := hi i (by omega)
      obtain ⟨v0, y0, g0, _, t0⟩ := hf 0 _ rfl
      obtain ⟨v1, y1, g1, _, t1⟩ := hf 1 _ rfl
      obtain ⟨x0, rfl, w0⟩ := trod_int64 t0
      obtain ⟨x1, rfl, w1⟩ := trod_int64 t1
      have key : ∀ (j : Nat) (u : Value), w.cell? ((⟨b, o, none⟩ : Addr).add (i * 2 + j)) = some u → w.cell? ⟨b, o + i * 2 + j, none⟩ = some u := fun j u hu => by
        rw [Go.WideShapes.add_plain] at hu
        rw [Nat.add_assoc]; exact hu
      exact ⟨(x0, x1), b, o, rfl, key 0 _ g0, key 1 _ g1⟩
    obtain ⟨R, hR⟩ := choose_lt (α := Int × Int) hone
    refine ⟨(List.range len).map R, ⟨some a, cap, by simp, by simpa using hl, hm, fun i him => ?_⟩⟩
    simp at him
    obtain ⟨b, o, rfl, h0, h1⟩ := hR i him
    have hn : nthP ((List.range len).map R) i = R i := by rw [nthP_lt (by simpa using him)]; simp
    exact ⟨b, o, rfl, by rw [hn]; exact h0, by rw [hn]; exact h1⟩
/-- An argument of type []api.Stop. -/
theorem open_stops {r : Reach} {b0 : Nat} {v : Value} {d : DataW H} {p : List MemPlace}
    (hv : Value.okWide Try.prog w r b0 27 v) (h : DataW.Trod enc Try.prog w base spare held 27 v d p) : ∃ xs : List (Int × Int), Pairs w v xs ∧ xs.length ≤ 9223372036854775807 := by
  obtain ⟨a, len, cap, rfl⟩ := okWide_slice Try.underlying27 hv
  obtain ⟨fuel, hf⟩ := h
  obtain ⟨xs, hx⟩ := trod_stops hf
  exact ⟨xs, hx, by obtain ⟨_, _, _, h1, h2, _⟩ := hx; omega⟩
/-- An argument of type []bool. -/
theorem open_boolsArg {r : Reach} {b0 : Nat} {v : Value} {d : DataW H} {p : List MemPlace}
    (hv : Value.okWide Try.prog w r b0 28 v) (h : DataW.Trod enc Try.prog w base (fun _ => true) held 28 v d p) : ∃ bs : List Bool, Bools w v bs := by
  obtain ⟨a, len, cap, rfl⟩ := okWide_slice Try.underlying28 hv
  obtain ⟨fuel, hf⟩ := h
  rcases open_bools Try.underlying28 Try.underlying4 (by kernel_rfl) hf with ⟨hcs, _⟩ | ⟨x, l, c, B, hcs, _, hl, hm, _, hcell⟩
  · simp [Value.cells] at hcs
    obtain ⟨rfl, rfl, rfl⟩ := hcs
    exact ⟨[], none, 0, 0, rfl, rfl, fun i hi => absurd hi (by omega)⟩
  · simp [Value.cells] at hcs
    obtain ⟨rfl, rfl, rfl⟩ := hcs
    refine ⟨(List.range len).map B, some x, len, cap, rfl, by simp, fun i hi => ?_⟩
    have h0 := hcell i (by omega)
    obtain ⟨b, o, spot⟩ := x
    have hs : spot = none := by simpa [Addr.add] using World.cell?_spot (hcell 0 (by omega))
    subst hs
    refine ⟨b, o, rfl, ?_⟩
    rw [Go.WideShapes.add_plain] at h0
    rw [h0]
    simp [List.getD, hi]
end
end Go.Proofs.Ythilfibgpobcjaa
