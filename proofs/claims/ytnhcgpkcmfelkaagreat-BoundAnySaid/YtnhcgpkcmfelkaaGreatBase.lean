/-
  My own work: the words in which my contracts speak of slices of ints, and small facts on worlds.
-/
import Derived.Test.YtnhcgpkcmfelkaaGreatRows
import Derived.WalkKit
import Derived.WalkLawsBesides
import Derived.WalkSpells
import Derived.Outline
import Derived.Lib.Hide
namespace Go.Proofs.YtnhcgpkcmfelkaaGreat
open Go.RowKit
set_option linter.unusedVariables false
set_option maxRecDepth 100000

theorem wf_i64 {n : Int} (h : (Lit.int .i64 n).wf = true) : -9223372036854775808 ≤ n ∧ n ≤ 9223372036854775807 := by
  simp only [Lit.wf, Bool.and_eq_true, decide_eq_true_eq] at h
  exact h
theorem wrap_id {n : Int} (h1 : -9223372036854775808 ≤ n) (h2 : n ≤ 9223372036854775807) : wrap64 n = n := by unfold wrap64; omega

/-- The k-th number (0 beyond the end): no rule of simp opens it. -/
def nth (xs : List Int) (k : Nat) : Int := xs.getD k 0

theorem nth_lt {xs : List Int} {k : Nat} (h : k < xs.length) : nth xs k = xs[k] := by simp [nth, h]
theorem nth_map_range (f : Nat → Int) (n k : Nat) (h : k < n) : nth ((List.range n).map f) k = f k := by simp [nth, h]
theorem take_succ_nth (xs : List Int) (k : Nat) (h : k < xs.length) : xs.take (k + 1) = xs.take k ++ [nth xs k] := by
  rw [nth_lt h, List.take_succ_eq_append_getElem h]
theorem nth_mem {xs : List Int} {k : Nat} (h : k < xs.length) : nth xs k ∈ xs := by rw [nth_lt h]; exact List.getElem_mem h
theorem ext_nth {xs ys : List Int} (hl : xs.length = ys.length) (h : ∀ k, k < xs.length → nth xs k = nth ys k) : xs = ys := by
  apply List.ext_getElem hl
  intro k h1 h2
  have := h k h1
  rwa [nth_lt h1, nth_lt h2] at this
theorem nth_take {xs : List Int} {k n : Nat} (h : k < n) : nth (xs.take n) k = nth xs k := by simp [nth, h]
theorem nth_append_left {xs ys : List Int} {k : Nat} (h : k < xs.length) : nth (xs ++ ys) k = nth xs k := by simp [nth, List.getElem?_append, h]
theorem nth_append_here {xs : List Int} {y : Int} : nth (xs ++ [y]) xs.length = y := by simp [nth]
theorem nth_set {xs : List Int} {i k : Nat} {y : Int} (h : i < xs.length) : nth (xs.set i y) k = if i = k then y else nth xs k := by
  simp only [nth, List.getD_eq_getElem?_getD, List.getElem?_set]
  by_cases e : i = k
  · subst e; simp [h]
  · simp [e]

/-- The slice value v reads as the ints xs. -/
def Ints (w : World) (v : Value) (xs : List Int) : Prop :=
  ∃ (a : Option Addr) (c : Nat), v = .slice a xs.length c ∧ xs.length ≤ c ∧ c ≤ 9223372036854775807 ∧ ∀ i, i < xs.length → ∃ b o, a = some ⟨b, o, none⟩ ∧ w.cell? ⟨b, o + i, none⟩ = some (.int .i64 (nth xs i))

theorem Ints.nil (w : World) : Ints w (.slice none 0 0) [] := ⟨none, 0, rfl, by simp, by simp, fun i hi => absurd hi (by simp)⟩
theorem Ints.below {w w' : World} {v : Value} {xs : List Int} (h : Ints w v xs) (hb : Below w.heap.size w w') : Ints w' v xs := by
  obtain ⟨a, c, hv, h1, h2, hc⟩ := h
  refine ⟨a, c, hv, h1, h2, fun i hi => ?_⟩
  obtain ⟨b, o, ha, h0⟩ := hc i hi
  exact ⟨b, o, ha, (hb.cell (p := ⟨b, o + i, none⟩) (World.block_lt_of_cell? w _ h0)).trans h0⟩
theorem Ints.own {w : World} {B : Nat} {e : TypeId} {v : Value} {n : Nat} {xs : List Int} (h : w.ownsRow B e 1 v n (xs.map (Value.int .i64))) : Ints w v xs ∧ n = xs.length := by
  have hc := fun (g : Nat) => h.cells (g := g)
  obtain ⟨h1, h2⟩ := h
  have hn : n = xs.length := by simpa using h1.symm
  subst hn
  refine ⟨?_, rfl⟩
  rcases h2 with ⟨rfl, h0⟩ | ⟨g, cap, cur, rfl, _, _, h3, h4, _⟩
  · rw [List.length_eq_zero_iff.1 h0]
    exact Ints.nil w
  · refine ⟨some ⟨g, 0, none⟩, cap, rfl, h3, h4, fun i hi => ⟨g, 0, rfl, ?_⟩⟩
    have := hc g rfl i (.int .i64 (nth xs i)) (by rw [List.getElem?_map, List.getElem?_eq_getElem hi, nth_lt hi]; rfl)
    have ha : (⟨g, 0, none⟩ : Addr).add i = ⟨g, 0 + i, none⟩ := by unfold Addr.add; split <;> simp_all
    rwa [ha] at this

theorem Ints.open {w : World} {v : Value} {xs : List Int} (h : Ints w v xs) :
    ∃ (a : Option Addr) (n c : Nat), v = .slice a n c ∧ xs.length = n ∧ n ≤ 9223372036854775807 ∧ ∀ k, k < n → ∃ b o, a = some ⟨b, o, none⟩ ∧ w.cell? ⟨b, o + k, none⟩ = some (.int .i64 (nth xs k)) := by
  obtain ⟨a, c, rfl, h1, h2, hc⟩ := h
  exact ⟨a, xs.length, c, rfl, rfl, by omega, hc⟩
theorem Ints.cap {w : World} {a : Option Addr} {n c : Nat} {xs : List Int} (h : Ints w (.slice a n c) xs) : n ≤ c ∧ c ≤ 9223372036854775807 := by
  obtain ⟨a', c', h, h1, h2, hc⟩ := h
  simp only [Value.slice.injEq] at h
  omega
theorem Ints.take {w : World} {a : Option Addr} {n c m : Nat} {xs : List Int} (h : Ints w (.slice a n c) xs) (hm : m ≤ n) : Ints w (.slice a m c) (xs.take m) := by
  obtain ⟨a', c', h, h1, h2, hc⟩ := h
  simp only [Value.slice.injEq] at h
  obtain ⟨rfl, rfl, rfl⟩ := h
  have hl : (xs.take m).length = m := by rw [List.length_take]; omega
  refine ⟨a, c, by rw [hl], by omega, by omega, fun i hi => ?_⟩
  rw [hl] at hi
  rw [nth_take hi]
  exact hc i (by omega)

theorem Ints.len {w : World} {v : Value} {xs : List Int} (h : Ints w v xs) : xs.length ≤ 9223372036854775807 := by
  obtain ⟨a, c, rfl, h1, h2, hc⟩ := h
  omega

theorem grownBy_setCell (w : World) (p : Addr) (v : Value) : w.grownBy (w.setCell p v) (some p.block) :=
  ⟨rfl, rfl, rfl, by simp [World.setCell], fun k _ hk => Below.heap_setCell _ _ _ _ (by simpa using hk)⟩
theorem grownBy_trans {a b c : World} {r : Option Nat} (h : a.grownBy b r) (k : b.grownBy c r) : a.grownBy c r :=
  ⟨k.os.trans h.os, k.tape.trans h.tape, k.output.trans h.output, Nat.le_trans h.size k.size, fun i hi hn => (k.block i (Nat.lt_of_lt_of_le hi h.size) hn).trans (h.block i hi hn)⟩
theorem grownBy_below {a b : World} {r : Option Nat} (h : Below a.heap.size a b) : a.grownBy b r := ⟨h.os, h.tape, h.output, h.size, fun i hi _ => h.block i hi⟩
theorem below_drewN {B : Nat} {a w : World} (h : Below B a w) (n : Nat) : Below B a (w.drewN n) := ⟨h.os, h.tape, h.output, h.size, h.block⟩

/-- What the walk asks of a world behind a call that only made memory. -/
theorem bcell {W w1 : World} (hb : Below W.heap.size W w1) : (∀ b o, b < W.heap.size → w1.cell? ⟨b, o, none⟩ = W.cell? ⟨b, o, none⟩) ∧ (∀ b o, b < W.heap.size → w1.frozen? ⟨b, o, none⟩ = W.frozen? ⟨b, o, none⟩) :=
  ⟨fun b o h => hb.cell (p := ⟨b, o, none⟩) h, fun b o h => hb.frozen (p := ⟨b, o, none⟩) h⟩
theorem cell_below {W w1 : World} (hb : Below W.heap.size W w1) {p : Addr} {v : Value} (h : W.cell? p = some v) : w1.cell? p = some v := (hb.cell (World.block_lt_of_cell? W p h)).trans h
theorem cell_lt {B : Nat} {W w1 : World} (hb : Below B W w1) {b o : Nat} (hB : b < B) {v : Value} (h : W.cell? ⟨b, o, none⟩ = some v) : w1.cell? ⟨b, o, none⟩ = some v := (hb.cell (p := ⟨b, o, none⟩) hB).trans h
theorem cell_grown {w w1 : World} {g : Nat} (hg : w.grownBy w1 (some g)) {p : Addr} {v : Value} (h : w.cell? p = some v) (hne : p.block ≠ g) : w1.cell? p = some v := hg.cell h (by simpa using hne)

theorem info_int : (Tryz.prog.info? 3).map (fun i => (i.zero, i.size, i.bytes)) = some (some (.int .i64 0), 1, 8) := by kernel_rfl
theorem cell_new1 (w : World) (v : Value) (T : TypeId) : ∀ j u, ([v] : List Value)[j]? = some u → (w.alloc (.cells #[v] T)).cell? ((⟨w.heap.size, 0, none⟩ : Addr).add j) = some u := by
  intro j u hj
  match j, hj with
  | 0, hj => simp at hj; subst hj; simp [Addr.add, World.cell?_alloc_new]

/-- A slice of ints that the call itself has made: its block is from B on. -/
def Own (w : World) (B : Nat) (v : Value) (xs : List Int) : Prop := w.ownsRow B 3 1 v xs.length (xs.map (Value.int .i64))

theorem Own.nil (w : World) (B : Nat) : Own w B (.slice none 0 0) [] := World.ownsRow_nil _ _ _ _
theorem Own.ints {w : World} {B : Nat} {v : Value} {xs : List Int} (h : Own w B v xs) : Ints w v xs := (Ints.own h).1
theorem Own.lt {w : World} {B : Nat} {v : Value} {xs : List Int} (h : Own w B v xs) : ∀ k, v.ownBlock = some k → B ≤ k ∧ k < w.heap.size := World.ownsRow.lt h
theorem Own.not {w : World} {B g : Nat} {v : Value} {xs : List Int} (h : Own w B v xs) (hg : g < B) : v.ownBlock = none ∨ v.ownBlock ≠ some g := by
  cases hv : v.ownBlock with
  | none => exact .inl rfl
  | some k => exact .inr (by have := h.lt k hv; simp; omega)
theorem Own.not' {w : World} {B g : Nat} {v : Value} {xs : List Int} (h : Own w B v xs) (hg : g < B) : some g ≠ v.ownBlock := by
  intro e
  have := h.lt g e.symm
  omega
theorem Own.kept {w w' : World} {B : Nat} {v : Value} {xs : List Int} {r : Option Nat} (h : Own w B v xs) (hg : w.grownBy w' r) (hne : v.ownBlock = none ∨ v.ownBlock ≠ r) : Own w' B v xs := World.ownsRow.kept h hg hne
theorem Own.below {w w' : World} {B : Nat} {v : Value} {xs : List Int} (h : Own w B v xs) (hb : Below w.heap.size w w') : Own w' B v xs :=
  World.ownsRow.kept (row := none) h (grownBy_below hb) (by cases v.ownBlock <;> simp)
theorem Own.mono {w : World} {B B' : Nat} {v : Value} {xs : List Int} (h : Own w B v xs) (hB : B' ≤ B) : Own w B' v xs := by
  obtain ⟨h1, h2⟩ := h
  refine ⟨h1, ?_⟩
  rcases h2 with h2 | ⟨g, cap, cur, hv, hb, r⟩
  · exact .inl h2
  · exact .inr ⟨g, cap, cur, hv, by omega, r⟩

/-- 'v = append(v, y)', v a slice of the call's own. -/
theorem wpList_push {ops : Array Oper} {rest : List Oper} {o : Oper} {a : Act} {Q : Exit → Act → World → Prop} (hgd : o.guard = none) (s x : Operand)
    (ho : o.op = .call { callee := .builtin .append, args := #[s, x], argTypes := #[26, 26] }) (w : World) (B : Nat) (v : Value) (xs : List Int) (y : Int) (hs : a.eval s = v)
    (hx : a.eval x = .slice (some ⟨w.heap.size, 0, none⟩) 1 1) (hown : Own w B v xs) (hlen : xs.length + 1 ≤ 17592186044416) (hB : B ≤ w.heap.size)
    (h : ∀ v' w', Own w' B v' (xs ++ [y]) → w.grownBy w' v.ownBlock → Below B w w' → wpList Tryz.prog ops Q rest (a.put o.dst v') w') :
    wpList Tryz.prog ops Q (o :: rest) a (w.alloc (.cells #[.int .i64 y] 3)) := by
  obtain ⟨i, hi, hz, hsz, hby⟩ := info_parts info_int
  refine wpList_append_own _ hgd s x 26 ho B 3 i (.int .i64 0) 1 8 Tryz.underlying26 hi hz hsz hby rfl (by decide) v xs.length (xs.map (Value.int .i64)) hs (World.ownsRow.alloc hown _)
    ⟨w.heap.size, 0, none⟩ 1 1 [.int .i64 y] hx rfl (cell_new1 w _ _) (by intro u hu; simp at hu; subst hu; rfl) (by simp only [maxLen]; omega) (by omega) (by simp; omega) ?_
  intro v' w' hown' hg _
  have hg' : w.grownBy w' v.ownBlock := grownBy_trans (World.grownBy_alloc w _ _) hg
  refine h v' w' (by simpa [Own] using hown') hg' ?_
  exact (Below.refl B w).grown hg' hB (fun k hk => (hown.lt k hk).1)

theorem ints_one {xs : List Int} : ∀ u ∈ xs.map (Value.int .i64), u.oneCell' = true := by
  intro u hu
  obtain ⟨x, _, rfl⟩ := List.mem_map.1 hu
  rfl

/-- 'v = append(v, y...)', v a slice of the call's own, y any other slice of ints, not empty. -/
theorem wpList_pushAll {ops : Array Oper} {rest : List Oper} {o : Oper} {a : Act} {Q : Exit → Act → World → Prop} (hgd : o.guard = none) (s x : Operand)
    (ho : o.op = .call { callee := .builtin .append, args := #[s, x], argTypes := #[26, 26] }) (w : World) (B : Nat) (v : Value) (xs : List Int) (ys : List Int) (hs : a.eval s = v)
    (yv : Value) (hx : a.eval x = yv) (hy : Ints w yv ys) (hpos : 0 < ys.length) (hown : Own w B v xs) (hlen : xs.length + ys.length ≤ 17592186044416) (hB : B ≤ w.heap.size)
    (h : ∀ v' w', Own w' B v' (xs ++ ys) → w.grownBy w' v.ownBlock → Below B w w' → wpList Tryz.prog ops Q rest (a.put o.dst v') w') :
    wpList Tryz.prog ops Q (o :: rest) a w := by
  obtain ⟨i, hi, hz, hsz, hby⟩ := info_parts info_int
  obtain ⟨ad, c, rfl, h1, h2, hc⟩ := hy
  obtain ⟨b, off, rfl, _⟩ := hc 0 hpos
  refine wpList_append_own _ hgd s x 26 ho B 3 i (.int .i64 0) 1 8 Tryz.underlying26 hi hz hsz hby rfl (by decide) v xs.length (xs.map (Value.int .i64)) hs hown
    ⟨b, off, none⟩ ys.length c (ys.map (Value.int .i64)) hx (by simp) (fun j u hu => ?_) ints_one (by simp only [maxLen]; omega) (by omega) hB ?_
  · rw [List.getElem?_map] at hu
    obtain ⟨y, hy, rfl⟩ := Option.map_eq_some_iff.1 hu
    have hj : j < ys.length := (List.getElem?_eq_some_iff.1 hy).1
    obtain ⟨b', o', h1', h2'⟩ := hc j hj
    simp only [Option.some.injEq, Addr.mk.injEq, and_true] at h1'
    obtain ⟨rfl, rfl⟩ := h1'
    have ha : (⟨b, off, none⟩ : Addr).add j = ⟨b, off + j, none⟩ := by unfold Addr.add; split <;> simp_all
    rw [ha, h2', nth_lt hj]
    have := (List.getElem?_eq_some_iff.1 hy).2
    rw [this]
  · intro v' w' hown' hg _
    exact h v' w' (by simpa [Own] using hown') hg ((Below.refl B w).grown hg hB (fun k hk => (hown.lt k hk).1))

/-- A slice of the call's own that holds something, written out: its cells may be written. -/
theorem Own.out {w : World} {B : Nat} {v : Value} {xs : List Int} (h : Own w B v xs) (hpos : 0 < xs.length) :
    ∃ g c, v = .slice (some ⟨g, 0, none⟩) xs.length c ∧ B ≤ g ∧ g < w.heap.size ∧ xs.length ≤ c ∧ (∀ i, i < xs.length → w.cell? ⟨g, 0 + i, none⟩ = some (.int .i64 (nth xs i)) ∧ w.frozen? ⟨g, 0 + i, none⟩ = false) := by
  have hi := h.ints
  obtain ⟨h1, h2⟩ := h
  rcases h2 with ⟨rfl, h0⟩ | ⟨g, cap, cur, rfl, hb, hg, h3, h4, h5, h6⟩
  · omega
  · refine ⟨g, cap, rfl, hb, (Array.getElem?_eq_some_iff.1 hg).1, h3, fun i hil => ⟨?_, ?_⟩⟩
    · obtain ⟨a, c, he, _, _, hc⟩ := hi
      simp only [Value.slice.injEq] at he
      obtain ⟨rfl, _, _⟩ := he
      obtain ⟨b, o, h1', h2'⟩ := hc i hil
      simp only [Option.some.injEq, Addr.mk.injEq, and_true] at h1'
      obtain ⟨rfl, rfl⟩ := h1'
      exact h2'
    · simp [World.frozen?, hg]

theorem Own.set {w : World} {B g n c : Nat} {xs : List Int} (h : Own w B (.slice (some ⟨g, 0, none⟩) n c) xs) (i : Nat) (y : Int) (hi : i < xs.length) :
    Own (w.setCell ⟨g, 0 + i, none⟩ (.int .i64 y)) B (.slice (some ⟨g, 0, none⟩) n c) (xs.set i y) := by
  obtain ⟨h1, h2⟩ := h
  refine ⟨by simp, ?_⟩
  rcases h2 with ⟨h0, _⟩ | ⟨g', cap, cur, hv, hb, hg, h3, h4, h5, h6⟩
  · simp at h0
  · simp only [Value.slice.injEq, Option.some.injEq, Addr.mk.injEq, and_true] at hv
    obtain ⟨rfl, rfl, rfl⟩ := hv
    refine .inr ⟨g, c, cur.setIfInBounds i (.int .i64 y), by simp, hb, ?_, by simpa using h3, h4, by simpa using h5, ?_⟩
    · simp only [World.setCell, Array.getElem?_modify]
      simp [hg]
    · simp only [Array.toList_setIfInBounds, List.length_set, Nat.mul_one] at h6 ⊢
      rw [List.take_set, h6, List.map_set]

theorem Ints.kept {w w' : World} {v : Value} {xs : List Int} {g : Nat} (h : Ints w v xs) (hg : w.grownBy w' (some g)) (hne : 0 < xs.length → v.ownBlock ≠ some g) : Ints w' v xs := by
  obtain ⟨a, c, rfl, h1, h2, hc⟩ := h
  refine ⟨a, c, rfl, h1, h2, fun i hi => ?_⟩
  obtain ⟨b, o, rfl, h0⟩ := hc i hi
  refine ⟨b, o, rfl, cell_grown hg h0 ?_⟩
  intro e
  exact hne (by omega) (by simp only [Value.ownBlock]; rw [← e])
theorem Ints.notNew {w : World} {v : Value} {xs : List Int} {g : Nat} (h : Ints w v xs) (hg : w.heap.size ≤ g) : 0 < xs.length → v.ownBlock ≠ some g := by
  intro hp e
  obtain ⟨a, c, rfl, h1, h2, hc⟩ := h
  obtain ⟨b, o, rfl, h0⟩ := hc 0 hp
  have := World.block_lt_of_cell? w _ h0
  simp only [Value.ownBlock, Option.some.injEq] at e
  have hb : b < w.heap.size := this
  omega
end Go.Proofs.YtnhcgpkcmfelkaaGreat
