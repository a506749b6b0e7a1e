/-
  My own work: append onto a slice of the call's own, whatever its elements; words; customers in a slice.
-/
import Derived.Test.YthilfibgpobcjaaBase
import Derived.Deep.AppendLies
namespace Go.Proofs.Ythilfibgpobcjaa
open Go.RowKit
set_option linter.unusedVariables false

theorem cells_newN (w : World) (ys : List Value) (T : TypeId) : ∀ j u, ys[j]? = some u → (w.alloc (.cells ys.toArray T)).cell? ((⟨w.heap.size, 0, none⟩ : Addr).add j) = some u := by
  intro j u hj
  have hl : j < ys.length := (List.getElem?_eq_some_iff.1 hj).1
  have ha : (⟨w.heap.size, 0, none⟩ : Addr).add j = ⟨w.heap.size, j, none⟩ := by unfold Addr.add; split <;> simp_all
  rw [ha]
  simp [World.cell?_alloc_new, hj]

theorem bel2 {a b c : World} (h : Below a.heap.size a b) (k : Below b.heap.size b c) : Below a.heap.size a c := h.trans (k.mono h.size)
theorem belDrew (w : World) : Below w.heap.size w w.drew := below_drewN (Below.refl _ w) 1
theorem belDrewN (w : World) (n : Nat) : Below w.heap.size w (w.drewN n) := below_drewN (Below.refl _ w) n
theorem belAlloc (w : World) (o : Obj) : Below w.heap.size w (w.alloc o) := (Below.refl _ _).alloc (Nat.le_refl _) _
/-- A block whose cells from 0 on are these. -/
def Lies (w : World) (b : Nat) (ys : List Value) : Prop := ∀ j u, ys[j]? = some u → w.cell? ⟨b, j, none⟩ = some u
theorem Lies.below {w w' : World} {b : Nat} {ys : List Value} (h : Lies w b ys) (hb : Below w.heap.size w w') : Lies w' b ys := fun j u hj => cell_below hb (h j u hj)
theorem Lies.new (w : World) (ys : List Value) (T : TypeId) : Lies (w.alloc (.cells ys.toArray T)) w.heap.size ys := fun j u hj => by
  have := cells_newN w ys T j u hj
  have ha : (⟨w.heap.size, 0, none⟩ : Addr).add j = ⟨w.heap.size, j, none⟩ := by unfold Addr.add; split <;> simp_all
  rwa [ha] at this

/-- One element of sz cells is appended: at the list of a plain region. W: the world there; the element lies in block b. -/
theorem wpList_pushN {ops : Array Oper} {rest : List Oper} {o : Oper} {a : Act} {Q : Exit → Act → World → Prop} (hgd : o.guard = none) (s x : Operand) (T E : TypeId) (z : Value) (sz bytes : Nat)
    (hT : Try.prog.underlying T = some (.slice E)) (hinfo : (Try.prog.info? E).map (fun i => (i.zero, i.size, i.bytes)) = some (some z, sz, bytes)) (hz : z.cells.size = sz) (hsz : 0 < sz) (hby : bytes ≤ 128)
    (ho : o.op = .call { callee := .builtin .append, args := #[s, x], argTypes := #[T, T] }) (W : World) (B : Nat) (v : Value) (n : Nat) (xs ys : List Value) (b : Nat) (hs : a.eval s = v)
    (hx : a.eval x = .slice (some ⟨b, 0, none⟩) 1 1) (hb : Lies W b ys) (hys : ys.length = sz) (h1 : ∀ u ∈ ys, u.oneCell' = true) (hown : W.ownsRow B E sz v n xs) (hlen : n + 1 ≤ 1000000000000) (hB : B ≤ W.heap.size)
    (h : ∀ g cap w', w'.ownsRow B E sz (.slice (some ⟨g, 0, none⟩) (n + 1) cap) (n + 1) (xs ++ ys) → W.grownBy w' v.ownBlock → Below B W w' → (v.ownBlock = some g ∨ g = W.heap.size) → B ≤ g → g < w'.heap.size →
      wpList Try.prog ops Q rest (a.put o.dst (.slice (some ⟨g, 0, none⟩) (n + 1) cap)) w') :
    wpList Try.prog ops Q (o :: rest) a W := by
  obtain ⟨i, hi, hz0, hz1, hz2⟩ := info_parts hinfo
  refine wpList_append_lies W hgd s x T ho B E i z sz bytes hT hi hz0 hz1 hz2 hz hsz v n xs hs hown ⟨b, 0, none⟩ 1 1 ys hx (by rw [hys]; omega) (fun j u hj => ?_) h1 (by omega) (by simp only [maxLen]; omega) (by
      have : (n + 1) * bytes ≤ 1000000000000 * 128 := Nat.mul_le_mul hlen hby
      omega) hB W.heap.size rfl ?_
  · have ha : (⟨b, 0, none⟩ : Addr).add j = ⟨b, j, none⟩ := by unfold Addr.add; split <;> simp_all
    rw [ha]
    exact hb j u hj
  · intro g cap w' hown' hg hat hlt
    refine h g cap w' hown' hg ((Below.refl B W).grown hg hB (fun k hk => (hown.lt k hk).1)) hat ?_ hlt
    rcases hat with e | rfl
    · exact (hown.lt g e).1
    · exact hB

/-- .. at a step of a region that draws its order. -/
theorem step_pushN {ops : Array Oper} {o : Oper} {a : Act} {K : Act → World → Prop} {Q : Exit → Act → World → Prop} {Z : Prop} (hgd : o.guard = none) (s x : Operand) (T E : TypeId) (z : Value) (sz bytes : Nat)
    (hT : Try.prog.underlying T = some (.slice E)) (hinfo : (Try.prog.info? E).map (fun i => (i.zero, i.size, i.bytes)) = some (some z, sz, bytes)) (hz : z.cells.size = sz) (hsz : 0 < sz) (hby : bytes ≤ 128)
    (ho : o.op = .call { callee := .builtin .append, args := #[s, x], argTypes := #[T, T] }) (W : World) (B : Nat) (v : Value) (n : Nat) (xs ys : List Value) (b : Nat) (hs : a.eval s = v)
    (hx : a.eval x = .slice (some ⟨b, 0, none⟩) 1 1) (hb : Lies W b ys) (hys : ys.length = sz) (h1 : ∀ u ∈ ys, u.oneCell' = true) (hown : W.ownsRow B E sz v n xs) (hlen : n + 1 ≤ 1000000000000) (hB : B ≤ W.heap.size)
    (h : ∀ g cap w', w'.ownsRow B E sz (.slice (some ⟨g, 0, none⟩) (n + 1) cap) (n + 1) (xs ++ ys) → W.grownBy w' v.ownBlock → Below B W w' → (v.ownBlock = some g ∨ g = W.heap.size) → B ≤ g → g < w'.heap.size →
      K (a.put o.dst (.slice (some ⟨g, 0, none⟩) (n + 1) cap)) w') :
    if Region.wanted o (yielded ops a.tmps) = true then Oper.wp Try.prog o a W K Q else Z := by
  obtain ⟨i, hi, hz0, hz1, hz2⟩ := info_parts hinfo
  refine step_append_lies W hgd s x T ho B E i z sz bytes hT hi hz0 hz1 hz2 hz hsz v n xs hs hown ⟨b, 0, none⟩ 1 1 ys hx (by rw [hys]; omega) (fun j u hj => ?_) h1 (by omega) (by simp only [maxLen]; omega) (by
      have : (n + 1) * bytes ≤ 1000000000000 * 128 := Nat.mul_le_mul hlen hby
      omega) hB W.heap.size rfl ?_
  · have ha : (⟨b, 0, none⟩ : Addr).add j = ⟨b, j, none⟩ := by unfold Addr.add; split <;> simp_all
    rw [ha]
    exact hb j u hj
  · intro g cap w' hown' hg hat hlt
    refine h g cap w' hown' hg ((Below.refl B W).grown hg hB (fun k hk => (hown.lt k hk).1)) hat ?_ hlt
    rcases hat with e | rfl
    · exact (hown.lt g e).1
    · exact hB

theorem step_wanted {c A B : Prop} [Decidable c] (hc : c) (h : A) : if c then A else B := by rw [if_pos hc]; exact h

/-- What a row of the call's own reads, cell by cell. -/
theorem owns_cell {w : World} {B : Nat} {E : TypeId} {sz n : Nat} {v : Value} {xs : List Value} (h : w.ownsRow B E sz v n xs) : ∀ j u, xs[j]? = some u → ∃ g, v.ownBlock = some g ∧ w.cell? ⟨g, j, none⟩ = some u := by
  intro j u hj
  have hc := fun (g : Nat) => h.cells (g := g)
  rcases h.2 with ⟨rfl, h0⟩ | ⟨g, cap, cur, rfl, _, _, h3, h4, h5, h6⟩
  · have h1 := h.1
    subst h0
    have h2 : xs = [] := by simpa using h1
    subst h2
    simp at hj
  · refine ⟨g, rfl, ?_⟩
    have := hc g rfl j u hj
    have ha : (⟨g, 0, none⟩ : Addr).add j = ⟨g, 0 + j, none⟩ := by unfold Addr.add; split <;> simp_all
    rw [ha, Nat.zero_add] at this
    exact this
theorem owns_form {w : World} {B : Nat} {E : TypeId} {sz n : Nat} {v : Value} {xs : List Value} (h : w.ownsRow B E sz v n xs) : (v = .slice none 0 0 ∧ n = 0) ∨ ∃ g cap, v = .slice (some ⟨g, 0, none⟩) n cap ∧ n ≤ cap ∧ cap ≤ 9223372036854775807 ∧ B ≤ g ∧ g < w.heap.size := by
  have hlt := h.lt
  rcases h.2 with ⟨rfl, h0⟩ | ⟨g, cap, cur, rfl, _, _, h3, h4, h5, h6⟩
  · exact .inl ⟨rfl, h0⟩
  · exact .inr ⟨g, cap, rfl, h3, h4, (hlt g rfl).1, (hlt g rfl).2⟩
theorem Lies.at {w : World} {b : Nat} {ys : List Value} (h : Lies w b ys) (j : Nat) (u : Value) (hj : ys[j]? = some u) : w.cell? ⟨b, j, none⟩ = some u := h j u hj
theorem Lies.lt {w : World} {b : Nat} {y : Value} {ys : List Value} (h : Lies w b (y :: ys)) : b < w.heap.size := World.block_lt_of_cell? w _ (h 0 y rfl)
theorem Lies.set {w : World} {b : Nat} {ys : List Value} (h : Lies w b ys) (j : Nat) (u : Value) (hj : j < ys.length) : Lies (w.setCell ⟨b, j, none⟩ u) b (ys.set j u) := by
  intro k v hk
  by_cases e : j = k
  · subst e
    rw [List.getElem?_set_self hj] at hk
    cases hk
    exact World.cell?_setCell_same _ _ _ (h j _ (List.getElem?_eq_getElem hj))
  · rw [List.getElem?_set_ne e] at hk
    rw [World.cell?_setCell_other _ _ _ _ (by intro e2; first | exact e (congrArg Addr.off e2) | exact e (congrArg Addr.off e2).symm)]
    exact h k v hk
theorem Lies.kept {w w' : World} {b : Nat} {ys : List Value} {r : Option Nat} (h : Lies w b ys) (hg : w.grownBy w' r) (hne : some b ≠ r) : Lies w' b ys := fun j u hj => hg.cell (h j u hj) hne
theorem Lies.other {w : World} {b : Nat} {ys : List Value} (h : Lies w b ys) (p : Addr) (u : Value) (hne : b ≠ p.block) : Lies (w.setCell p u) b ys := h.kept (grownBy_setCell w p u) (by simpa using hne)
/-- All eight cells are stored. -/
theorem set8 {w : World} {g : Nat} {v0 v1 v2 v3 v4 v5 v6 v7 : Value} (h : Lies w g [v0, v1, v2, v3, v4, v5, v6, v7]) (u0 u1 u2 u3 u4 u5 u6 u7 : Value) :
    Lies ((((((((w.setCell ⟨g, 0, none⟩ u0).setCell ⟨g, 1, none⟩ u1).setCell ⟨g, 2, none⟩ u2).setCell ⟨g, 3, none⟩ u3).setCell ⟨g, 4, none⟩ u4).setCell ⟨g, 5, none⟩ u5).setCell ⟨g, 6, none⟩ u6).setCell ⟨g, 7, none⟩ u7) g [u0, u1, u2, u3, u4, u5, u6, u7] :=
  (((((((h.set 0 u0 (by simp)).set 1 u1 (by simp)).set 2 u2 (by simp)).set 3 u3 (by simp)).set 4 u4 (by simp)).set 5 u5 (by simp)).set 6 u6 (by simp)).set 7 u7 (by simp)
theorem set6 {w : World} {g : Nat} {v0 v1 v2 v3 v4 v5 : Value} (h : Lies w g [v0, v1, v2, v3, v4, v5]) (u0 u1 u2 u3 u4 u5 : Value) :
    Lies ((((((w.setCell ⟨g, 0, none⟩ u0).setCell ⟨g, 1, none⟩ u1).setCell ⟨g, 2, none⟩ u2).setCell ⟨g, 3, none⟩ u3).setCell ⟨g, 4, none⟩ u4).setCell ⟨g, 5, none⟩ u5) g [u0, u1, u2, u3, u4, u5] :=
  (((((h.set 0 u0 (by simp)).set 1 u1 (by simp)).set 2 u2 (by simp)).set 3 u3 (by simp)).set 4 u4 (by simp)).set 5 u5 (by simp)
theorem set2 {w : World} {g : Nat} {v0 v1 : Value} (h : Lies w g [v0, v1]) (u0 u1 : Value) :
    Lies ((w.setCell ⟨g, 0, none⟩ u0).setCell ⟨g, 1, none⟩ u1) g [u0, u1] :=
  (h.set 0 u0 (by simp)).set 1 u1 (by simp)
theorem Lies.lower {B : Nat} {w w' : World} {b : Nat} {ys : List Value} (h : Lies w b ys) (hb : Below B w w') (hl : b < B) : Lies w' b ys := fun j u hj => cell_lt hb hl (h j u hj)
theorem grown8 (w : World) (g : Nat) (u0 u1 u2 u3 u4 u5 u6 u7 : Value) : w.grownBy ((((((((w.setCell ⟨g, 0, none⟩ u0).setCell ⟨g, 1, none⟩ u1).setCell ⟨g, 2, none⟩ u2).setCell ⟨g, 3, none⟩ u3).setCell ⟨g, 4, none⟩ u4).setCell ⟨g, 5, none⟩ u5).setCell ⟨g, 6, none⟩ u6).setCell ⟨g, 7, none⟩ u7) (some g) := by
  repeat (refine grownBy_trans ?_ (grownBy_setCell _ ⟨g, _, none⟩ _))
  exact ⟨rfl, rfl, rfl, Nat.le_refl _, fun _ _ _ => rfl⟩
theorem below8 {B : Nat} (w : World) (g : Nat) (u0 u1 u2 u3 u4 u5 u6 u7 : Value) (h : B ≤ g) : Below B w ((((((((w.setCell ⟨g, 0, none⟩ u0).setCell ⟨g, 1, none⟩ u1).setCell ⟨g, 2, none⟩ u2).setCell ⟨g, 3, none⟩ u3).setCell ⟨g, 4, none⟩ u4).setCell ⟨g, 5, none⟩ u5).setCell ⟨g, 6, none⟩ u6).setCell ⟨g, 7, none⟩ u7) := by
  repeat (refine Below.setCell ?_ (by exact h) _)
  exact Below.refl _ _
theorem grown6 (w : World) (g : Nat) (u0 u1 u2 u3 u4 u5 : Value) : w.grownBy ((((((w.setCell ⟨g, 0, none⟩ u0).setCell ⟨g, 1, none⟩ u1).setCell ⟨g, 2, none⟩ u2).setCell ⟨g, 3, none⟩ u3).setCell ⟨g, 4, none⟩ u4).setCell ⟨g, 5, none⟩ u5) (some g) := by
  repeat (refine grownBy_trans ?_ (grownBy_setCell _ ⟨g, _, none⟩ _))
  exact ⟨rfl, rfl, rfl, Nat.le_refl _, fun _ _ _ => rfl⟩
theorem below6 {B : Nat} (w : World) (g : Nat) (u0 u1 u2 u3 u4 u5 : Value) (h : B ≤ g) : Below B w ((((((w.setCell ⟨g, 0, none⟩ u0).setCell ⟨g, 1, none⟩ u1).setCell ⟨g, 2, none⟩ u2).setCell ⟨g, 3, none⟩ u3).setCell ⟨g, 4, none⟩ u4).setCell ⟨g, 5, none⟩ u5) := by
  repeat (refine Below.setCell ?_ (by exact h) _)
  exact Below.refl _ _
theorem grown2 (w : World) (g : Nat) (u0 u1 : Value) : w.grownBy ((w.setCell ⟨g, 0, none⟩ u0).setCell ⟨g, 1, none⟩ u1) (some g) := grownBy_trans (grownBy_setCell _ ⟨g, 0, none⟩ _) (grownBy_setCell _ ⟨g, 1, none⟩ _)
theorem below2 {B : Nat} (w : World) (g : Nat) (u0 u1 : Value) (h : B ≤ g) : Below B w ((w.setCell ⟨g, 0, none⟩ u0).setCell ⟨g, 1, none⟩ u1) := ((Below.refl B w).setCell (p := ⟨g, 0, none⟩) h _).setCell (p := ⟨g, 1, none⟩) h _
theorem owns_mono {w : World} {B B' : Nat} {E : TypeId} {sz n : Nat} {v : Value} {xs : List Value} (h : w.ownsRow B E sz v n xs) (hB : B' ≤ B) : w.ownsRow B' E sz v n xs := by
  obtain ⟨h1, h2⟩ := h
  refine ⟨h1, ?_⟩
  rcases h2 with h2 | ⟨g, cap, cur, hv, hb, r⟩
  · exact .inl h2
  · exact .inr ⟨g, cap, cur, hv, by omega, r⟩
end Go.Proofs.Ythilfibgpobcjaa
