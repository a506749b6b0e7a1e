/-
  My own work: an argument of type []api.Visit, opened.
-/
import Derived.Test.YtpelbfjhljlbkaaOpenInst
import Derived.Test.YtpelbfjhljlbkaaMVis
import Derived.Test.YtpelbfjhljlbkaaMNum
namespace Go.Proofs.Ytpelbfjhljlbkaa
open Go.ChangeShapes Go.WideShapes Go.ChangeAt Go.RowKit Go.Joins Go.Deep
set_option linter.unusedVariables false
set_option maxRecDepth 100000

section
variable {H : Type} {enc : TypeId × Value → H} {w : World} {base : Nat} {spare : Nat → Bool} {held : Bool}
theorem cellsVisit : Try.prog.cellsOf 36 = 2 := by kernel_rfl
theorem trod_visits {n : Nat} {c : Value} {y : DataW H × List MemPlace} (h : DataW.trod enc Try.prog w base spare held n 30 [c] = some y) : ∃ xs : List (Int × Int), Vis w c xs ∧ ∀ p ∈ xs, (Lit.int .i64 p.2).wf = true := by
  rcases open_slice_fields Try.underlying30 Try.underlying36 (by kernel_rfl) cellsVisit h with ⟨hcs, _⟩ | ⟨a, len, cap, m, D, Pl, hcs, _, hl, hm, hmm, _, hi⟩
  · simp at hcs
    subst hcs
    exact ⟨[], Vis.nil _, by simp⟩
  · simp at hcs
    subst hcs
    have hml : len ≤ m := by rw [hmm]; split <;> omega
    have hspot : 0 < len → ∃ b o, a = ⟨b, o, none⟩ := fun hp => by
      obtain ⟨ys, n', _, _, _, hf⟩ := hi 0 (by omega)
      obtain ⟨v, y, hc, _⟩ := hf 0 _ rfl
      obtain ⟨b, o, spot⟩ := a
      have : spot = none := by simpa [Addr.add] using World.cell?_spot hc
      subst this
      exact ⟨b, o, rfl⟩
    have hone : ∀ i, i < len → ∃ p : Int × Int, (Lit.int .i64 p.2).wf = true ∧ ∃ b o, a = ⟨b, o, none⟩ ∧ w.cell? ⟨b, o + i * 2, none⟩ = some (.int .i64 p.1) ∧ w.cell? ⟨b, o + i * 2 + 1, none⟩ = some (.int .i64 p.2) := fun i him => by
      obtain ⟨b, o, rfl⟩ := hspot (by omega)
      obtain ⟨ys, n', _, _, _, hf⟩ := hi i (by omega)
      obtain ⟨v0, y0, g0, _, t0⟩ := hf 0 _ rfl
      obtain ⟨v1, y1, g1, _, t1⟩ := hf 1 _ rfl
      obtain ⟨x0, rfl, w0⟩ := trod_int64 t0
      obtain ⟨x1, rfl, w1⟩ := trod_int64 t1
      have key : ∀ (j : Nat) (u : Value), w.cell? ((⟨b, o, none⟩ : Addr).add (i * 2 + j)) = some u → w.cell? ⟨b, o + i * 2 + j, none⟩ = some u := fun j u hu => by
        rw [Go.WideShapes.add_plain] at hu
        rw [Nat.add_assoc]; exact hu
      exact ⟨(x0, x1), w1, b, o, rfl, key 0 _ g0, key 1 _ g1⟩
    obtain ⟨R, hR⟩ := choose_lt (α := Int × Int) hone
    refine ⟨(List.range len).map R, ⟨some a, cap, by simp, by simpa using hl, hm, fun i him => ?_⟩, fun p hp => by
      obtain ⟨i, hi', rfl⟩ := List.mem_map.1 hp
      exact (hR i (by simpa using hi')).1⟩
    simp at him
    obtain ⟨_, b, o, rfl, h0, h1⟩ := hR i him
    have hn : nthV ((List.range len).map R) i = R i := by rw [nthV_lt (by simpa using him)]; simp
    exact ⟨b, o, rfl, by rw [hn]; exact h0, by rw [hn]; exact h1⟩
/-- An argument of type []api.Visit. -/
theorem open_visits {r : Reach} {b0 : Nat} {v : Value} {d : DataW H} {p : List MemPlace}
    (hv : Value.okWide Try.prog w r b0 30 v) (h : DataW.Trod enc Try.prog w base spare held 30 v d p) : ∃ xs : List (Int × Int), Vis w v xs ∧ ∀ p ∈ xs, fitsI p.2 = true := by
  obtain ⟨a, len, cap, rfl⟩ := okWide_slice Try.underlying30 hv
  obtain ⟨fuel, hf⟩ := h
  obtain ⟨xs, hx, hw⟩ := trod_visits hf
  exact ⟨xs, hx, fun p hp => fitsI_of_wf (hw p hp)⟩
/-- An argument of type api.Customer, as a record. -/
theorem open_cu {r : Reach} {b0 : Nat} {v : Value} {d : DataW H} {p : List MemPlace}
    (hv : Value.okWide Try.prog w r b0 24 v) (h : DataW.Trod enc Try.prog w base spare held 24 v d p) :
    ∃ (C : Cu) (pv : Value), v = .agg #[.int .i64 C.kd, .int .i64 C.dm, pv, .int .i64 C.rt, .int .i64 C.sz, .int .i64 C.st, .int .i64 C.ru, .int .i64 C.hd] ∧ WfC C ∧ Words w pv C.ps := by
  obtain ⟨kd, dm, pt, rt, sz, st, ru, hd, rfl, w0, w1, w3, w4, w5, w6, w7, n, y, t2⟩ := open_cust hv h
  obtain ⟨xs, hxs, wxs⟩ := trod_words t2
  exact ⟨⟨kd, dm, xs, rt, sz, st, ru, hd⟩, pt, rfl, ⟨w0, w1, w3, w4, w5, w6, w7, wxs⟩, hxs⟩
end
end Go.Proofs.Ytpelbfjhljlbkaa
