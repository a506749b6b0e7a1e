/-
  My own work: slices of bytes that a call itself has made; a text of them.
-/
import Derived.Test.YthiiodagihlggaaBase
import Derived.Laws.BytesArg
namespace Go.Proofs.Ythiiodagihlggaa
open Go.RowKit
set_option linter.unusedVariables false

theorem info_u8 : (Try.prog.info? 5).map (fun i => (i.zero, i.size, i.bytes)) = some (some (.int .u8 0), 1, 1) := by kernel_rfl

/-- A slice of bytes that the call itself has made: its block is from B on. -/
def OwnB (w : World) (B : Nat) (v : Value) (xs : List Int) : Prop := w.ownsRow B 5 1 v xs.length (xs.map (Value.int .u8))

theorem OwnB.nil (w : World) (B : Nat) : OwnB w B (.slice none 0 0) [] := World.ownsRow_nil _ _ _ _
theorem OwnB.below {w w' : World} {B : Nat} {v : Value} {xs : List Int} (h : OwnB w B v xs) (hb : Below w.heap.size w w') : OwnB w' B v xs :=
  World.ownsRow.kept (row := none) h (grownBy_below hb) (by cases v.ownBlock <;> simp)

/-- 'v = append(v, y)', v a slice of the call's own. -/
theorem wpList_pushB {ops : Array Oper} {rest : List Oper} {o : Oper} {a : Act} {Q : Exit → Act → World → Prop} (hgd : o.guard = none) (s x : Operand)
    (ho : o.op = .call { callee := .builtin .append, args := #[s, x], argTypes := #[55, 55] }) (w : World) (B : Nat) (v : Value) (xs : List Int) (y : Int) (hs : a.eval s = v)
    (hx : a.eval x = .slice (some ⟨w.heap.size, 0, none⟩) 1 1) (hown : OwnB w B v xs) (hlen : xs.length + 1 ≤ 17592186044416) (hB : B ≤ w.heap.size)
    (h : ∀ v' w', OwnB w' B v' (xs ++ [y]) → Below B w w' → wpList Try.prog ops Q rest (a.put o.dst v') w') :
    wpList Try.prog ops Q (o :: rest) a (w.alloc (.cells #[.int .u8 y] 5)) := by
  obtain ⟨i, hi, hz, hsz, hby⟩ := info_parts info_u8
  refine wpList_append_own _ hgd s x 55 ho B 5 i (.int .u8 0) 1 1 Try.underlying55 hi hz hsz hby rfl (by decide) v xs.length (xs.map (Value.int .u8)) hs (World.ownsRow.alloc hown _)
    ⟨w.heap.size, 0, none⟩ 1 1 [.int .u8 y] hx rfl (cell_new1 w _ _) (by intro u hu; simp at hu; subst hu; rfl) (by simp only [maxLen]; omega) (by omega) (by simp; omega) ?_
  intro v' w' hown' hg _
  have hg' : w.grownBy w' v.ownBlock := grownBy_trans (World.grownBy_alloc w _ _) hg
  refine h v' w' (by simpa [OwnB] using hown') ?_
  exact (Below.refl B w).grown hg' hB (fun k hk => (World.ownsRow.lt hown k hk).1)

/-- Written out: its cells may be written, and it reads as a text. -/
theorem OwnB.out {w : World} {B : Nat} {v : Value} {xs : List Int} (h : OwnB w B v xs) (hpos : 0 < xs.length) :
    ∃ g c, v = .slice (some ⟨g, 0, none⟩) xs.length c ∧ B ≤ g ∧ g < w.heap.size ∧ xs.length ≤ c ∧ c ≤ 9223372036854775807 ∧ (∀ i, i < xs.length → w.cell? ⟨g, 0 + i, none⟩ = some (.int .u8 (nth xs i)) ∧ w.frozen? ⟨g, 0 + i, none⟩ = false) := by
  have hc := fun (g : Nat) => World.ownsRow.cells (g := g) h
  obtain ⟨h1, h2⟩ := h
  rcases h2 with ⟨rfl, h0⟩ | ⟨g, cap, cur, rfl, hb, hg, h3, h4, h5, h6⟩
  · omega
  · refine ⟨g, cap, rfl, hb, (Array.getElem?_eq_some_iff.1 hg).1, h3, h4, fun i hil => ⟨?_, ?_⟩⟩
    · have := hc g rfl i (.int .u8 (nth xs i)) (by rw [List.getElem?_map, List.getElem?_eq_getElem hil, nth_lt hil]; rfl)
      have ha : (⟨g, 0, none⟩ : Addr).add i = ⟨g, 0 + i, none⟩ := by unfold Addr.add; split <;> simp_all
      rwa [ha] at this
    · simp [World.frozen?, hg]
theorem OwnB.set {w : World} {B g n c : Nat} {xs : List Int} (h : OwnB w B (.slice (some ⟨g, 0, none⟩) n c) xs) (i : Nat) (y : Int) (hi : i < xs.length) :
    OwnB (w.setCell ⟨g, 0 + i, none⟩ (.int .u8 y)) B (.slice (some ⟨g, 0, none⟩) n c) (xs.set i y) := by
  obtain ⟨h1, h2⟩ := h
  refine ⟨by simp, ?_⟩
  rcases h2 with ⟨h0, _⟩ | ⟨g', cap, cur, hv, hb, hg, h3, h4, h5, h6⟩
  · simp at h0
  · simp only [Value.slice.injEq, Option.some.injEq, Addr.mk.injEq, and_true] at hv
    obtain ⟨rfl, rfl, rfl⟩ := hv
    refine .inr ⟨g, c, cur.setIfInBounds i (.int .u8 y), by simp, hb, ?_, by simpa using h3, h4, by simpa using h5, ?_⟩
    · simp only [World.setCell, Array.getElem?_modify]
      simp [hg]
    · simp only [Array.toList_setIfInBounds, List.length_set, Nat.mul_one] at h6 ⊢
      rw [List.take_set, h6, List.map_set]
theorem OwnB.text {w : World} {B : Nat} {v : Value} {xs : List Int} (h : OwnB w B v xs) (hpos : 0 < xs.length) :
    (convert 55 9 v).run Try.prog w = .ok (.string (strOfNums xs)) w := by
  obtain ⟨g, c, rfl, _, _, _, _, hc⟩ := h.out hpos
  exact run_convert_bytes_arg w 55 5 Try.underlying55 Try.underlying5 g 0 xs.length c xs rfl (fun i hi => (hc i hi).1) 9 Try.underlying9

/-- A slice of the call's own of a known length. -/
theorem made_bytes (w : World) (N : Nat) (hN : N ≤ 65536) : ∃ w4, (Instr.makeSlice 55 (.int .i64 (N : Int)) (.int .i64 (N : Int))).run Try.prog w = .ok (.slice (some ⟨w.heap.size, 0, none⟩) N N) w4 ∧
    OwnB w4 w.heap.size (.slice (some ⟨w.heap.size, 0, none⟩) N N) (List.replicate N 0) ∧ Below w.heap.size w w4 := by
  obtain ⟨ii, hi, hz, hsi, hby⟩ := info_parts info_u8
  obtain ⟨w4, hmk, hown0, hg4⟩ := run_make_full (P := Try.prog) w w.heap.size 55 5 ii (.int .u8 0) 1 Try.underlying55 hi hz hsi .i64 .i64 N (by rw [hby]; omega) (by simp only [maxLen]; omega) (Nat.le_refl _)
  refine ⟨w4, hmk, ?_, (Below.refl w.heap.size w).grown hg4 (Nat.le_refl _) (by simp)⟩
  rw [Nat.mul_one] at hown0
  unfold OwnB
  rw [List.length_replicate]
  rw [show (Value.int .u8 0).cells = #[Value.int .u8 0] from rfl, toList_madeCells_one] at hown0
  rw [List.map_replicate]
  exact hown0

theorem OwnB.at_ {w : World} {B g n c : Nat} {xs : List Int} (h : OwnB w B (.slice (some ⟨g, 0, none⟩) n c) xs) (i : Nat) (hi : i < xs.length) :
    w.cell? ⟨g, i, none⟩ = some (.int .u8 (nth xs i)) ∧ w.frozen? ⟨g, i, none⟩ = false := by
  obtain ⟨g2, c2, he, _, _, _, _, hc⟩ := h.out (by omega)
  simp only [Value.slice.injEq, Option.some.injEq, Addr.mk.injEq, and_true] at he
  obtain ⟨rfl, _, _⟩ := he
  have := hc i hi
  rwa [Nat.zero_add] at this
theorem Own.at_ {w : World} {B g n c : Nat} {xs : List Int} (h : Own w B (.slice (some ⟨g, 0, none⟩) n c) xs) (i : Nat) (hi : i < xs.length) :
    w.cell? ⟨g, i, none⟩ = some (.int .i64 (nth xs i)) ∧ w.frozen? ⟨g, i, none⟩ = false := by
  obtain ⟨g2, c2, he, _, _, _, hc⟩ := h.out (by omega)
  simp only [Value.slice.injEq, Option.some.injEq, Addr.mk.injEq, and_true] at he
  obtain ⟨rfl, _, _⟩ := he
  have := hc i hi
  rwa [Nat.zero_add] at this
theorem OwnB.set' {w : World} {B g n c : Nat} {xs : List Int} (h : OwnB w B (.slice (some ⟨g, 0, none⟩) n c) xs) (i : Nat) (y : Int) (hi : i < xs.length) :
    OwnB (w.setCell ⟨g, i, none⟩ (.int .u8 y)) B (.slice (some ⟨g, 0, none⟩) n c) (xs.set i y) := by
  have := h.set i y hi
  rwa [Nat.zero_add] at this
theorem Own.set' {w : World} {B g n c : Nat} {xs : List Int} (h : Own w B (.slice (some ⟨g, 0, none⟩) n c) xs) (i : Nat) (y : Int) (hi : i < xs.length) :
    Own (w.setCell ⟨g, i, none⟩ (.int .i64 y)) B (.slice (some ⟨g, 0, none⟩) n c) (xs.set i y) := by
  have := h.set i y hi
  rwa [Nat.zero_add] at this
end Go.Proofs.Ythiiodagihlggaa
