/-
  My own work: five arguments, opened one by one.
  My own work: an argument of type []bool, with its length.
  My own work: an argument of type api.Customer, opened.
  My own work: an argument of type api.Instance, opened.
-/
import Derived.Test.YtnhcgpkcmfelkaaGreatMOwn
import Derived.Test.YtnhcgpkcmfelkaaGreatTourC
import Derived.Deep.Grids
import Derived.Deep.Fields
import Derived.Deep.Slices
import Derived.Test.YtnhcgpkcmfelkaaGreatMGood
import Derived.Deep.Matrix
import Derived.ChangeSame
namespace Go.Proofs.YtnhcgpkcmfelkaaGreat
section
open Go.ChangeShapes Go.WideShapes Go.ChangeAt Go.RowKit
set_option linter.unusedVariables false
set_option maxRecDepth 100000

section
variable {H : Type} {enc : TypeId × Value → H} {P : Program} {w : World} {base : Nat} {spare : Nat → Bool} {held : Bool}
theorem trodAll_five {t t' t'' t3 t4 : TypeId} {args : Array Value} {ds : List (DataW H)} {ps : List MemPlace} (h : DataW.TrodAll enc P w base spare held [t, t', t'', t3, t4] args.toList ds ps) :
    ∃ v v' v'' v3 v4 d d' d'' d3 d4 p p' p'' p3 p4, args = #[v, v', v'', v3, v4] ∧ ds = [d, d', d'', d3, d4] ∧ ps = p ++ p' ++ p'' ++ p3 ++ p4 ∧ DataW.Trod enc P w base spare held t v d p ∧ DataW.Trod enc P w base spare held t' v' d' p' ∧ DataW.Trod enc P w base spare held t'' v'' d'' p'' ∧ DataW.Trod enc P w base spare held t3 v3 d3 p3 ∧ DataW.Trod enc P w base spare held t4 v4 d4 p4 := by
  obtain ⟨v, vs, d, ds', p, q, hargs, rfl, rfl, hd, hrest⟩ := trodAll_cons h
  obtain ⟨v', vs', d', ds'', p', q', rfl, rfl, rfl, hd', hrest'⟩ := trodAll_cons hrest
  obtain ⟨v'', vs'', d'', ds3, p'', q'', rfl, rfl, rfl, hd'', hrest''⟩ := trodAll_cons hrest'
  obtain ⟨v3, vs3, d3, ds4, p3, q3, rfl, rfl, rfl, hd3, hrest3⟩ := trodAll_cons hrest''
  obtain ⟨v4, vs4, d4, ds5, p4, q4, rfl, rfl, rfl, hd4, hrest4⟩ := trodAll_cons hrest3
  obtain ⟨rfl, rfl, rfl⟩ := trodAll_nil hrest4
  exact ⟨v, v', v'', v3, v4, d, d', d'', d3, d4, p, p', p'', p3, p4, by cases args; simp_all, rfl, by simp, hd, hd', hd'', hd3, hd4⟩
end
end

section
open Go.ChangeShapes Go.WideShapes Go.ChangeAt Go.RowKit Go.Joins Go.Deep
set_option linter.unusedVariables false
set_option maxRecDepth 100000

section
variable {H : Type} {enc : TypeId × Value → H} {w : World} {base : Nat} {spare : Nat → Bool} {held : Bool}
/-- An argument of type []bool. -/
theorem open_boolsLen {r : Reach} {b0 : Nat} {v : Value} {d : DataW H} {p : List MemPlace}
    (hv : Value.okWide Tryz.prog w r b0 37 v) (h : DataW.Trod enc Tryz.prog w base (fun _ => true) held 37 v d p) : ∃ bs : List Bool, Bools w v bs ∧ bs.length ≤ 9223372036854775807 := by
  obtain ⟨a, len, cap, rfl⟩ := okWide_slice Tryz.underlying37 hv
  obtain ⟨fuel, hf⟩ := h
  rcases open_bools Tryz.underlying37 Tryz.underlying4 (by kernel_rfl) hf with ⟨hcs, _⟩ | ⟨x, l, c, B, hcs, _, hl, hm, _, hcell⟩
  · simp [Value.cells] at hcs
    obtain ⟨rfl, rfl, rfl⟩ := hcs
    exact ⟨[], ⟨none, 0, 0, rfl, rfl, fun i hi => absurd hi (by omega)⟩, by simp⟩
  · simp [Value.cells] at hcs
    obtain ⟨rfl, rfl, rfl⟩ := hcs
    refine ⟨(List.range len).map B, ⟨some x, len, cap, rfl, by simp, fun i hi => ?_⟩, ?_⟩
    · have h0 := hcell i (by omega)
      obtain ⟨b, o, spot⟩ := x
      have hs : spot = none := by simpa [Addr.add] using World.cell?_spot (hcell 0 (by omega))
      subst hs
      refine ⟨b, o, rfl, ?_⟩
      rw [Go.WideShapes.add_plain] at h0
      rw [h0]
      simp [List.getD, hi]
    · simp only [maxLen] at hm
      rw [List.length_map, List.length_range]
      omega
end
end

section
open Go.ChangeShapes Go.WideShapes Go.ChangeAt Go.RowKit Go.Joins Go.Deep
set_option linter.unusedVariables false
set_option maxRecDepth 100000

section
variable {H : Type} {enc : TypeId × Value → H} {w : World}

theorem open_fields {P : Program} {t : TypeId} {fs : Array Field} {r : Reach} {b0 : Nat} {v : Value} {d : DataW H} {p : List MemPlace} {base : Nat} {spare : Nat → Bool} {held : Bool}
    (hs : P.underlying t = some (.struct fs)) (hone : oneCellFields P fs = true) (hC : P.cellsOf t = fs.size) (hv : Value.okWide P w r b0 t v) (h : DataW.Trod enc P w base spare held t v d p) :
    ∃ (cs : List Value) (n : Nat), v = .agg cs.toArray ∧ cs.length = fs.size ∧ ∀ (j : Nat) (f : Field), fs[j]? = some f → ∃ c y, cs[j]? = some c ∧ DataW.trod enc P w base spare held n f.type [c] = some y := by
  obtain ⟨cs, rfl, hsz⟩ := okWide_struct hs hv
  obtain ⟨l⟩ := cs
  obtain ⟨fuel, hf⟩ := h
  obtain ⟨xs, n, _, hx, _, hlen, hg⟩ := DataW.trod_struct hs hf
  have hl : l.length = fs.size := by simpa [hC] using hsz
  refine ⟨l, n, rfl, hl, fun j f hj => ?_⟩
  obtain ⟨ho, hk⟩ := hone_of hone j f hj
  have hjl : j < fs.size := (Array.getElem?_eq_some_iff.1 hj).1
  have h1 := hg j f hj
  rw [ho, hk] at h1
  have hone' : ((Value.agg l.toArray).cells.toList.drop j).take 1 = [l[j]'(by omega)] := by
    rw [show (Value.agg l.toArray).cells.toList = l by simp [Value.cells], List.drop_eq_getElem_cons (by omega)]
    rfl
  rw [hone'] at h1
  have hjx : j < xs.length := by omega
  exact ⟨l[j]'(by omega), xs[j], List.getElem?_eq_getElem (by omega), h1.trans (List.getElem?_eq_getElem hjx)⟩

theorem cellsCust : Tryz.prog.cellsOf 53 = 8 := by kernel_rfl

/-- An argument of type api.Customer: eight values; the third one (the patterns) with its own reading. -/
theorem open_cust {r : Reach} {b0 : Nat} {v : Value} {d : DataW H} {p : List MemPlace} {base : Nat} {spare : Nat → Bool} {held : Bool}
    (hv : Value.okWide Tryz.prog w r b0 53 v) (h : DataW.Trod enc Tryz.prog w base spare held 53 v d p) :
    ∃ (kd dm : Int) (pt : Value) (rt sz st ru hd : Int), v = .agg #[.int .i64 kd, .int .i64 dm, pt, .int .i64 rt, .int .i64 sz, .int .i64 st, .int .i64 ru, .int .i64 hd] ∧
      (Lit.int .i64 kd).wf = true ∧ (Lit.int .i64 dm).wf = true ∧ (Lit.int .i64 rt).wf = true ∧ (Lit.int .i64 sz).wf = true ∧ (Lit.int .i64 st).wf = true ∧ (Lit.int .i64 ru).wf = true ∧ (Lit.int .i64 hd).wf = true ∧
      ∃ n y, DataW.trod enc Tryz.prog w base spare held n 51 [pt] = some y := by
  obtain ⟨cs, n, rfl, hlen, hf⟩ := open_fields Tryz.underlying53 (by kernel_rfl) cellsCust hv h
  obtain ⟨c0, y0, g0, t0⟩ := hf 0 _ rfl
  obtain ⟨c1, y1, g1, t1⟩ := hf 1 _ rfl
  obtain ⟨c2, y2, g2, t2⟩ := hf 2 _ rfl
  obtain ⟨c3, y3, g3, t3⟩ := hf 3 _ rfl
  obtain ⟨c4, y4, g4, t4⟩ := hf 4 _ rfl
  obtain ⟨c5, y5, g5, t5⟩ := hf 5 _ rfl
  obtain ⟨c6, y6, g6, t6⟩ := hf 6 _ rfl
  obtain ⟨c7, y7, g7, t7⟩ := hf 7 _ rfl
  obtain ⟨i0, e0, _, w0⟩ := DataW.trod_int Tryz.underlying3 t0
  obtain ⟨i1, e1, _, w1⟩ := DataW.trod_int Tryz.underlying3 t1
  obtain ⟨i3, e3, _, w3⟩ := DataW.trod_int Tryz.underlying3 t3
  obtain ⟨i4, e4, _, w4⟩ := DataW.trod_int Tryz.underlying3 t4
  obtain ⟨i5, e5, _, w5⟩ := DataW.trod_int Tryz.underlying3 t5
  obtain ⟨i6, e6, _, w6⟩ := DataW.trod_int Tryz.underlying3 t6
  obtain ⟨i7, e7, _, w7⟩ := DataW.trod_int Tryz.underlying3 t7
  simp only [List.cons.injEq, and_true] at e0 e1 e3 e4 e5 e6 e7
  subst e0 e1 e3 e4 e5 e6 e7
  match cs, hlen, g0, g1, g2, g3, g4, g5, g6, g7 with
  | [_, _, _, _, _, _, _, _], _, g0, g1, g2, g3, g4, g5, g6, g7 =>
    simp only [List.getElem?_cons_zero, List.getElem?_cons_succ, Option.some.injEq] at g0 g1 g2 g3 g4 g5 g6 g7
    subst g0 g1 g2 g3 g4 g5 g6 g7
    exact ⟨i0, i1, _, i3, i4, i5, i6, i7, rfl, w0, w1, w3, w4, w5, w6, w7, n, y2, t2⟩
end
end

section
open Go.ChangeShapes Go.WideShapes Go.ChangeAt Go.RowKit Go.Joins Go.Deep
set_option linter.unusedVariables false
set_option maxRecDepth 100000

section
variable {H : Type} {enc : TypeId × Value → H} {P : Program} {w : World} {base : Nat} {spare : Nat → Bool} {held : Bool}
/-- A slice of structs, each field of one cell, opened field by field. -/
theorem open_slice_fields {t e : TypeId} {fs : Array Field} {fuel : Nat} {cs : List Value} {x : DataW H × List MemPlace} {k : Nat} (ht : P.underlying t = some (.slice e)) (he : P.underlying e = some (.struct fs))
    (hone : oneCellFields P fs = true) (hC : P.cellsOf e = k) (h : DataW.trod enc P w base spare held fuel t cs = some x) (hk : fs.size = k := by rfl) :
    (cs = [.slice none 0 0] ∧ x = (.nil, [])) ∨
    ∃ (a : Addr) (len cap m : Nat) (D : Nat → DataW H) (Pl : Nat → List MemPlace), cs = [.slice (some a) len cap] ∧ base ≤ a.block ∧ len ≤ cap ∧ cap ≤ maxLen ∧ m = (if spare a.block then cap else len) ∧ True ∧
      ∀ i, i < m → ∃ (ys : List (DataW H × List MemPlace)) (n : Nat), True ∧ True ∧ ys.length = fs.size ∧
        ∀ (j : Nat) (f : Field), fs[j]? = some f → ∃ (v : Value) (y : DataW H × List MemPlace), w.cell? (a.add (i * k + j)) = some v ∧ ys[j]? = some y ∧ DataW.trod enc P w base spare held n f.type [v] = some y := by
  subst hk
  rcases open_slice ht h with h0 | ⟨a, len, cap, m, n, D, Pl, hcs, hb, hl, hm, hmm, hx, hi⟩
  · exact .inl h0
  · refine .inr ⟨a, len, cap, m, D, Pl, hcs, hb, hl, hm, hmm, trivial, fun i him => ?_⟩
    obtain ⟨cs', hc, ht'⟩ := hi i him
    rw [hC] at hc
    obtain ⟨ys, n', hn', hy, hlen, hyl, hf⟩ := DataW.trod_struct he ht'
    obtain ⟨_, hcl, hat⟩ := World.cells?_some hc
    refine ⟨ys, n', trivial, trivial, hyl, fun j f hj => ?_⟩
    obtain ⟨ho, hk⟩ := hone_of hone j f hj
    have hjl : j < fs.size := (Array.getElem?_eq_some_iff.1 hj).1
    have hcell := hat j hjl
    have hv : cs'[j]? = some (cs'[j]'(by omega)) := List.getElem?_eq_getElem (by omega)
    have h1 := hf j f hj
    rw [ho, hk] at h1
    have hone' : (cs'.drop j).take 1 = [cs'[j]'(by omega)] := by
      rw [List.drop_eq_getElem_cons (by omega)]
      rfl
    rw [hone'] at h1
    have hys : ys[j]? = some (ys[j]'(by omega)) := List.getElem?_eq_getElem (by omega)
    refine ⟨_, _, ?_, hys, h1.trans hys⟩
    rw [← Go.Deep.add_add, hcell, hv]
end

section
variable {H : Type} {enc : TypeId × Value → H} {w : World} {base : Nat} {spare : Nat → Bool} {held : Bool}

theorem trod_int64 {n : Nat} {c : Value} {y : DataW H × List MemPlace} (h : DataW.trod enc Tryz.prog w base spare held n 3 [c] = some y) : ∃ x : Int, c = .int .i64 x ∧ (Lit.int .i64 x).wf = true := by
  obtain ⟨i, e, _, hw⟩ := DataW.trod_int Tryz.underlying3 h
  simp only [List.cons.injEq, and_true] at e
  exact ⟨i, e, hw⟩

/-- Words, out of a reading. -/
theorem trod_words {n : Nat} {c : Value} {y : DataW H × List MemPlace} (h : DataW.trod enc Tryz.prog w base spare held n 51 [c] = some y) : ∃ xs : List Nat, Words w c xs ∧ ∀ x ∈ xs, x < 18446744073709551616 := by
  rcases open_ints Tryz.underlying51 Tryz.underlying71 (by kernel_rfl) h with ⟨hcs, _⟩ | ⟨x, l, c', zs, hcs, _, hl, hm, hz, _, hcell, hwz⟩
  · simp at hcs
    subst hcs
    exact ⟨[], Words.nil _, by simp⟩
  · simp at hcs
    subst hcs
    have hzl : l ≤ zs.length := by rw [hz]; split <;> omega
    have hl' : (zs.take l).length = l := by rw [List.length_take]; omega
    have hw : ∀ z ∈ zs, 0 ≤ z ∧ z < 18446744073709551616 := fun z hz => by
      have h := hwz z hz
      simp only [Lit.wf, Bool.and_eq_true, decide_eq_true_eq] at h
      obtain ⟨h0, h1⟩ := h
      have h0' : 0 ≤ z := h0
      have h1' : z ≤ 18446744073709551615 := h1
      omega
    refine ⟨(zs.take l).map Int.toNat, ⟨some x, c', by rw [List.length_map, hl'], by rw [List.length_map]; omega, hm, fun i hi => ?_⟩, fun y hy => ?_⟩
    · rw [List.length_map, hl'] at hi
      obtain ⟨b, off, rfl, hc⟩ := ints_at hcell (by omega)
      refine ⟨b, off, rfl, ?_⟩
      have hi2 : i < zs.length := by omega
      have h3 := hc i (by omega)
      rw [h3]
      have h4 : nthN ((zs.take l).map Int.toNat) i = zs[i].toNat := by
        rw [nthN_lt (by rw [List.length_map, hl']; exact hi)]
        simp
      rw [h4]
      have h5 := (hw zs[i] (List.getElem_mem hi2)).1
      congr 2
      simp [List.getD, List.getElem?_eq_getElem hi2]
      omega
    · obtain ⟨z, hz, rfl⟩ := List.mem_map.1 hy
      have := hw z (List.mem_of_mem_take hz)
      omega

/-- Ints, out of a reading. -/
theorem trod_ints {n : Nat} {c : Value} {y : DataW H × List MemPlace} (h : DataW.trod enc Tryz.prog w base spare held n 26 [c] = some y) : ∃ xs : List Int, Ints w c xs ∧ ∀ x ∈ xs, (Lit.int .i64 x).wf = true := by
  rcases open_ints Tryz.underlying26 Tryz.underlying3 (by kernel_rfl) h with ⟨hcs, _⟩ | ⟨x, l, c', zs, hcs, _, hl, hm, hz, _, hcell, hwz⟩
  · simp at hcs
    subst hcs
    exact ⟨[], Ints.nil _, by simp⟩
  · simp at hcs
    subst hcs
    have hzl : l ≤ zs.length := by rw [hz]; split <;> omega
    have hl' : (zs.take l).length = l := by rw [List.length_take]; omega
    refine ⟨zs.take l, ⟨some x, c', by rw [hl'], by omega, hm, fun i hi => ?_⟩, fun y hy => hwz y (List.mem_of_mem_take hy)⟩
    rw [hl'] at hi
    obtain ⟨b, off, rfl, hc⟩ := ints_at hcell (by omega)
    refine ⟨b, off, rfl, ?_⟩
    rw [nth_take hi, hc i (by omega)]
    rfl

theorem cell_single {cs : List Value} (h : cs.length = 1) : ∃ c, cs = [c] := by
  match cs, h with
  | [c], _ => exact ⟨c, rfl⟩

/-- Rows of ints, out of a reading. -/
theorem trod_grid {n : Nat} {c : Value} {y : DataW H × List MemPlace} (h : DataW.trod enc Tryz.prog w base spare held n 23 [c] = some y) : ∃ D : List (List Int), Grid w c D ∧ ∀ r ∈ D, ∀ x ∈ r, (Lit.int .i64 x).wf = true := by
  rcases open_slice1 Tryz.underlying23 (by kernel_rfl) h with ⟨hcs, _⟩ | ⟨a, len, cap, m, n', V, D, Pl, hcs, _, hl, hm, hmm, _, hi⟩
  · simp at hcs
    subst hcs
    exact ⟨[], Grid.nil _, by simp⟩
  · simp at hcs
    subst hcs
    have hml : len ≤ m := by rw [hmm]; split <;> omega
    obtain ⟨R, hR⟩ := choose_lt (α := List Int) (n := len) (p := fun i r => Ints w (V i) r ∧ ∀ x ∈ r, (Lit.int .i64 x).wf = true) (fun i him => trod_ints (hi i (by omega)).2)
    refine ⟨(List.range len).map R, ⟨some a, cap, by simp, by simpa using hl, hm, fun i him => ?_⟩, fun r hr x hx => ?_⟩
    · simp at him
      obtain ⟨h1, h2⟩ := hi i (by omega)
      have hn : nthL ((List.range len).map R) i = R i := by rw [nthL_lt (by simpa using him)]; simp
      rw [hn]
      obtain ⟨b, o, spot⟩ := a
      have hspot : spot = none := by simpa [Addr.add] using World.cell?_spot (hi 0 (by omega)).1
      subst hspot
      exact ⟨b, o, V i, rfl, by rw [← Go.WideShapes.add_plain]; exact h1, (hR i him).1⟩
    · obtain ⟨i, hi', rfl⟩ := List.mem_map.1 hr
      exact (hR i (by simpa using hi')).2 x hx

/-- Customers, out of a reading. -/
theorem trod_custs {n : Nat} {c : Value} {y : DataW H × List MemPlace} (h : DataW.trod enc Tryz.prog w base spare held n 22 [c] = some y) : ∃ L : List Cu, Custs w c L ∧ ∀ C ∈ L, WfC C := by
  rcases open_slice_fields Tryz.underlying22 Tryz.underlying53 (by kernel_rfl) cellsCust h with ⟨hcs, _⟩ | ⟨a, len, cap, m, D, Pl, hcs, _, hl, hm, hmm, _, hi⟩
  · simp at hcs
    subst hcs
    exact ⟨[], Custs.nil _, by simp⟩
  · simp at hcs
    subst hcs
    have hml : len ≤ m := by rw [hmm]; split <;> omega
    have hspot : 0 < len → ∃ b o, a = ⟨b, o, none⟩ := fun hp => by
      obtain ⟨ys, n', _, _, _, hf⟩ := hi 0 (by omega)
      obtain ⟨v, y, hc, _⟩ := hf 0 _ rfl
      obtain ⟨b, o, spot⟩ := a
      have : spot = none := by simpa [Addr.add] using World.cell?_spot hc
      subst this
      exact ⟨b, o, rfl⟩
    have hone : ∀ i, i < len → ∃ C : Cu, WfC C ∧ ∃ b o pv, a = ⟨b, o, none⟩ ∧ CuAt w b (o + i * 8) C pv := fun i him => by
      obtain ⟨b, o, rfl⟩ := hspot (by omega)
      obtain ⟨ys, n', _, _, _, hf⟩ := hi i (by omega)
      obtain ⟨v0, y0, g0, _, t0⟩ := hf 0 _ rfl
      obtain ⟨v1, y1, g1, _, t1⟩ := hf 1 _ rfl
      obtain ⟨v2, y2, g2, _, t2⟩ := hf 2 _ rfl
      obtain ⟨v3, y3, g3, _, t3⟩ := hf 3 _ rfl
      obtain ⟨v4, y4, g4, _, t4⟩ := hf 4 _ rfl
      obtain ⟨v5, y5, g5, _, t5⟩ := hf 5 _ rfl
      obtain ⟨v6, y6, g6, _, t6⟩ := hf 6 _ rfl
      obtain ⟨v7, y7, g7, _, t7⟩ := hf 7 _ rfl
      obtain ⟨x0, rfl, w0⟩ := trod_int64 t0
      obtain ⟨x1, rfl, w1⟩ := trod_int64 t1
      obtain ⟨xs, hxs, wxs⟩ := trod_words t2
      obtain ⟨x3, rfl, w3⟩ := trod_int64 t3
      obtain ⟨x4, rfl, w4⟩ := trod_int64 t4
      obtain ⟨x5, rfl, w5⟩ := trod_int64 t5
      obtain ⟨x6, rfl, w6⟩ := trod_int64 t6
      obtain ⟨x7, rfl, w7⟩ := trod_int64 t7
      have key : ∀ (j : Nat) (u : Value), w.cell? ((⟨b, o, none⟩ : Addr).add (i * 8 + j)) = some u → w.cell? ⟨b, o + i * 8 + j, none⟩ = some u := fun j u hu => by
        rw [Go.WideShapes.add_plain] at hu
        rw [Nat.add_assoc]; exact hu
      exact ⟨⟨x0, x1, xs, x3, x4, x5, x6, x7⟩, ⟨w0, w1, w3, w4, w5, w6, w7, wxs⟩, b, o, v2, rfl, ⟨key 0 _ g0, key 1 _ g1, key 2 _ g2, key 3 _ g3, key 4 _ g4, key 5 _ g5, key 6 _ g6, key 7 _ g7, hxs⟩⟩
    obtain ⟨R, hR⟩ := choose_lt (α := Cu) hone
    refine ⟨(List.range len).map R, ⟨some a, cap, by simp, by simpa using hl, hm, fun i him => ?_⟩, fun C hC => ?_⟩
    · simp at him
      obtain ⟨_, b, o, pv, rfl, hc⟩ := hR i him
      have hn : nthC ((List.range len).map R) i = R i := by rw [nthC_lt (by simpa using him)]; simp
      exact ⟨b, o, pv, rfl, by rw [hn]; exact hc⟩
    · obtain ⟨i, hi', rfl⟩ := List.mem_map.1 hC
      exact (hR i (by simpa using hi')).1

theorem cellsInst : Tryz.prog.cellsOf 25 = 6 := by kernel_rfl

/-- An argument of type api.Instance. -/
theorem open_inst {r : Reach} {b0 : Nat} {v : Value} {d : DataW H} {p : List MemPlace}
    (hv : Value.okWide Tryz.prog w r b0 25 v) (h : DataW.Trod enc Tryz.prog w base spare held 25 v d p) :
    ∃ (i0 i1 i2 i3 : Int) (cv dv : Value) (L : List Cu) (D : List (List Int)), v = .agg #[.int .i64 i0, .int .i64 i1, .int .i64 i2, .int .i64 i3, cv, dv] ∧ (Lit.int .i64 i0).wf = true ∧ (Lit.int .i64 i1).wf = true ∧ (Lit.int .i64 i2).wf = true ∧ (Lit.int .i64 i3).wf = true ∧
      Custs w cv L ∧ (∀ C ∈ L, WfC C) ∧ Grid w dv D ∧ ∀ r ∈ D, ∀ x ∈ r, (Lit.int .i64 x).wf = true := by
  obtain ⟨cs, n, rfl, hlen, hf⟩ := open_fields Tryz.underlying25 (by kernel_rfl) cellsInst hv h
  obtain ⟨c0, y0, g0, t0⟩ := hf 0 _ rfl
  obtain ⟨c1, y1, g1, t1⟩ := hf 1 _ rfl
  obtain ⟨c2, y2, g2, t2⟩ := hf 2 _ rfl
  obtain ⟨c3, y3, g3, t3⟩ := hf 3 _ rfl
  obtain ⟨c4, y4, g4, t4⟩ := hf 4 _ rfl
  obtain ⟨c5, y5, g5, t5⟩ := hf 5 _ rfl
  obtain ⟨x0, rfl, w0⟩ := trod_int64 t0
  obtain ⟨x1, rfl, w1⟩ := trod_int64 t1
  obtain ⟨x2, rfl, w2⟩ := trod_int64 t2
  obtain ⟨x3, rfl, w3⟩ := trod_int64 t3
  obtain ⟨L, hL, wL⟩ := trod_custs t4
  obtain ⟨D, hD, wD⟩ := trod_grid t5
  match cs, hlen, g0, g1, g2, g3, g4, g5 with
  | [_, _, _, _, _, _], _, g0, g1, g2, g3, g4, g5 =>
    simp only [List.getElem?_cons_zero, List.getElem?_cons_succ, Option.some.injEq] at g0 g1 g2 g3 g4 g5
    subst g0 g1 g2 g3 g4 g5
    exact ⟨x0, x1, x2, x3, _, _, L, D, rfl, w0, w1, w2, w3, hL, wL, hD, wD⟩

theorem cellsPrices : Tryz.prog.cellsOf 29 = 2 := by kernel_rfl
/-- An argument of type api.Prices. -/
theorem open_prices {r : Reach} {b0 : Nat} {v : Value} {d : DataW H} {p : List MemPlace}
    (hv : Value.okWide Tryz.prog w r b0 29 v) (h : DataW.Trod enc Tryz.prog w base spare held 29 v d p) :
    ∃ (ov iv : Value) (O I : List Int), v = .agg #[ov, iv] ∧ Ints w ov O ∧ (∀ x ∈ O, (Lit.int .i64 x).wf = true) ∧ Ints w iv I ∧ (∀ x ∈ I, (Lit.int .i64 x).wf = true) := by
  obtain ⟨cs, n, rfl, hlen, hf⟩ := open_fields Tryz.underlying29 (by kernel_rfl) cellsPrices hv h
  obtain ⟨c0, y0, g0, t0⟩ := hf 0 _ rfl
  obtain ⟨c1, y1, g1, t1⟩ := hf 1 _ rfl
  obtain ⟨O, hO, wO⟩ := trod_ints t0
  obtain ⟨I, hI, wI⟩ := trod_ints t1
  match cs, hlen, g0, g1 with
  | [_, _], _, g0, g1 =>
    simp only [List.getElem?_cons_zero, List.getElem?_cons_succ, Option.some.injEq] at g0 g1
    subst g0 g1
    exact ⟨_, _, O, I, rfl, hO, wO, hI, wI⟩
end
end

end Go.Proofs.YtnhcgpkcmfelkaaGreat
