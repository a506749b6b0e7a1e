/-
  My own work: an argument of type api.Customer, opened.
-/
import Derived.Test.YtnhcgpkcmfelkaaGreatMOwn
import Derived.Deep.Fields
import Derived.Deep.Slices
namespace Go.Proofs.YtnhcgpkcmfelkaaGreat
open Go.ChangeShapes Go.WideShapes Go.ChangeAt Go.RowKit Go.Joins Go.Deep
set_option linter.unusedVariables false
set_option maxRecDepth 100000

section
variable {H : Type} {enc : TypeId × Value → H} {w : World}

theorem open_fields {P : Program} {t : TypeId} {fs : Array Field} {r : Reach} {b0 : Nat} {v : Value} {d : DataW H} {p : List MemPlace} {base : Nat} {spare : Nat → Bool} {held : Bool}
    (hs : P.underlying t = some (.struct fs)) (hone : oneCellFields P fs = true) (hC : P.cellsOf t = fs.size) (hv : Value.okWide P w r b0 t v) (h : DataW.Trod enc P w base spare held t v d p) :
    ∃ (cs : List Value) (n : Nat), v = .agg cs.toArray ∧ cs.length = fs.size ∧ ∀ (j : Nat) (f : Field), fs[j]? = some f → ∃ c y, cs[j]? = some c ∧ DataW.trod enc P w base spare held n f.type [c] = some y := by
  obtain ⟨cs, rfl, hsz⟩ := okWide_struct hs hv
  obtain ⟨l⟩ := cs
  obtain ⟨fuel, hf⟩ := h
  obtain ⟨xs, n, _, hx, _, hlen, hg⟩ := DataW.trod_struct hs hf
  have hl : l.length = fs.size := by simpa [hC] using hsz
  refine ⟨l, n, rfl, hl, fun j f hj => ?_⟩
  obtain ⟨ho, hk⟩ := hone_of hone j f hj
  have hjl : j < fs.size := (Array.getElem?_eq_some_iff.1 hj).1
  have h1 := hg j f hj
  rw [ho, hk] at h1
  have hone' : ((Value.agg l.toArray).cells.toList.drop j).take 1 = [l[j]'(by omega)] := by
    rw [show (Value.agg l.toArray).cells.toList = l by simp [Value.cells], List.drop_eq_getElem_cons (by omega)]
    rfl
  rw [hone'] at h1
  have hjx : j < xs.length := by omega
  exact ⟨l[j]'(by omega), xs[j], List.getElem?_eq_getElem (by omega), h1.trans (List.getElem?_eq_getElem hjx)⟩

theorem cellsCust : Tryz.prog.cellsOf 53 = 8 := by kernel_rfl

/-- An argument of type api.Customer: eight values; the third one (the patterns) with its own reading. -/
theorem open_cust {r : Reach} {b0 : Nat} {v : Value} {d : DataW H} {p : List MemPlace} {base : Nat} {spare : Nat → Bool} {held : Bool}
    (hv : Value.okWide Tryz.prog w r b0 53 v) (h : DataW.Trod enc Tryz.prog w base spare held 53 v d p) :
    ∃ (kd dm : Int) (pt : Value) (rt sz st ru hd : Int), v = .agg #[.int .i64 kd, .int .i64 dm, pt, .int .i64 rt, .int .i64 sz, .int .i64 st, .int .i64 ru, .int .i64 hd] ∧
      (Lit.int .i64 kd).wf = true ∧ (Lit.int .i64 dm).wf = true ∧ (Lit.int .i64 rt).wf = true ∧ (Lit.int .i64 sz).wf = true ∧ (Lit.int .i64 st).wf = true ∧ (Lit.int .i64 ru).wf = true ∧ (Lit.int .i64 hd).wf = true ∧
      ∃ n y, DataW.trod enc Tryz.prog w base spare held n 51 [pt] = some y := by
  obtain ⟨cs, n, rfl, hlen, hf⟩ := open_fields Tryz.underlying53 (by kernel_rfl) cellsCust hv h
  obtain ⟨c0, y0, g0, t0⟩ := hf 0 _ rfl
  obtain ⟨c1, y1, g1, t1⟩ := hf 1 _ rfl
  obtain ⟨c2, y2, g2, t2⟩ := hf 2 _ rfl
  obtain ⟨c3, y3, g3, t3⟩ := hf 3 _ rfl
  obtain ⟨c4, y4, g4, t4⟩ := hf 4 _ rfl
  obtain ⟨c5, y5, g5, t5⟩ := hf 5 _ rfl
  obtain ⟨c6, y6, g6, t6⟩ := hf 6 _ rfl
  obtain ⟨c7, y7, g7, t7⟩ := hf 7 _ rfl
  obtain ⟨i0, e0, _, w0⟩ := DataW.trod_int Tryz.underlying3 t0
  obtain ⟨i1, e1, _, w1⟩ := DataW.trod_int Tryz.underlying3 t1
  obtain ⟨i3, e3, _, w3⟩ := DataW.trod_int Tryz.underlying3 t3
  obtain ⟨i4, e4, _, w4⟩ := DataW.trod_int Tryz.underlying3 t4
  obtain ⟨i5, e5, _, w5⟩ := DataW.trod_int Tryz.underlying3 t5
  obtain ⟨i6, e6, _, w6⟩ := DataW.trod_int Tryz.underlying3 t6
  obtain ⟨i7, e7, _, w7⟩ := DataW.trod_int Tryz.underlying3 t7
  simp only [List.cons.injEq, and_true] at e0 e1 e3 e4 e5 e6 e7
  subst e0 e1 e3 e4 e5 e6 e7
  match cs, hlen, g0, g1, g2, g3, g4, g5, g6, g7 with
  | [_, _, _, _, _, _, _, _], _, g0, g1, g2, g3, g4, g5, g6, g7 =>
    simp only [List.getElem?_cons_zero, List.getElem?_cons_succ, Option.some.injEq] at g0 g1 g2 g3 g4 g5 g6 g7
    subst g0 g1 g2 g3 g4 g5 g6 g7
    exact ⟨i0, i1, _, i3, i4, i5, i6, i7, rfl, w0, w1, w3, w4, w5, w6, w7, n, y2, t2⟩
end
end Go.Proofs.YtnhcgpkcmfelkaaGreat
