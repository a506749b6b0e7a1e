/-
  My own work: copy onto a slice of ints of the call's own; the values of prices.
-/
import Derived.Test.YtnhcgpkcmfelkaaGreatMOwn
import Derived.Laws.CopyOwn
namespace Go.Proofs.YtnhcgpkcmfelkaaGreat
open Go.RowKit
set_option linter.unusedVariables false
set_option maxRecDepth 100000

/-- 'copy(v, y)' where both are as long, v a slice of the call's own. -/
theorem wpList_copyInts {ops : Array Oper} {rest : List Oper} {o : Oper} {a : Act} {Q : Exit → Act → World → Prop} (hgd : o.guard = none) (d s : Operand)
    (ho : o.op = .call { callee := .builtin .copy, args := #[d, s], argTypes := #[26, 26] }) (w : World) (B : Nat) (g n c : Nat) (xs ys : List Int) (sv : Value) (hd : a.eval d = .slice (some ⟨g, 0, none⟩) n c)
    (hs : a.eval s = sv) (hown : Own w B (.slice (some ⟨g, 0, none⟩) n c) xs) (hy : Ints w sv ys) (hlen : ys.length = n) (hpos : 0 < n)
    (h : ∀ w', Own w' B (.slice (some ⟨g, 0, none⟩) n c) ys → w.grownBy w' (some g) → wpList Tryz.prog ops Q rest (a.put o.dst (goInt n)) w') :
    wpList Tryz.prog ops Q (o :: rest) a w := by
  obtain ⟨h1, h2⟩ := hown
  rcases h2 with ⟨h0, _⟩ | ⟨g', cap, cur, hv, hb, hg, h3, h4, h5, h6⟩
  · simp at h0
  · simp only [Value.slice.injEq, Option.some.injEq, Addr.mk.injEq, and_true] at hv
    obtain ⟨rfl, hxn, rfl⟩ := hv
    obtain ⟨ad, sc, rfl, g1, g2, gc⟩ := hy
    obtain ⟨b, off, rfl, _⟩ := gc 0 (by omega)
    have hmin : (ys.map (Value.int .i64)).length = Nat.min ys.length n := by
      rw [List.length_map, hlen]; simp
    refine wpList_copy_own hgd d s _ _ ho 3 Tryz.underlying26 (by kernel_rfl) g 0 n c ⟨b, off, none⟩ ys.length sc hd hs cur 3 hg (ys.map (Value.int .i64)) hmin (fun j v hj => ?_) (by rw [List.length_map]; omega)
      (by intro v hv; obtain ⟨x, _, rfl⟩ := List.mem_map.1 hv; rfl) ?_
    · rw [List.getElem?_map] at hj
      obtain ⟨y, hy', rfl⟩ := Option.map_eq_some_iff.1 hj
      have hjl : j < ys.length := (List.getElem?_eq_some_iff.1 hy').1
      obtain ⟨b', o', e1, e2⟩ := gc j hjl
      simp only [Option.some.injEq, Addr.mk.injEq, and_true] at e1
      obtain ⟨rfl, rfl⟩ := e1
      have ha : (⟨b, off, none⟩ : Addr).add j = ⟨b, off + j, none⟩ := by unfold Addr.add; split <;> simp_all
      rw [ha, e2, nth_lt hjl]
      have := (List.getElem?_eq_some_iff.1 hy').2
      rw [this]
    · rw [List.length_map, hlen]
      simp only [List.take_zero, List.nil_append, Nat.zero_add]
      refine h _ ?_ ⟨rfl, rfl, rfl, by simp [World.setRow], fun k hk hne => setRow_other w g k _ (by simpa using hne)⟩
      refine ⟨by simp [hlen], .inr ⟨g, c, (ys.map (Value.int .i64) ++ cur.toList.drop n).toArray, by rw [hlen], hb, setRow_heap w g cur _ _ _ hg, by omega, h4, ?_, ?_⟩⟩
      · simp [hlen]
        have : cur.toList.length = c := by simpa using h5
        simp at this
        omega
      · rw [hlen, Nat.mul_one]
        simp
        rw [List.take_append_of_le_length (by simp [hlen]), List.take_of_length_le (by simp [hlen])]

/-- Prices as a value of the call's own. -/
def OwnP (w : World) (B : Nat) (ov iv : Value) (O I : List Int) : Prop := Own w B ov O ∧ Own w B iv I ∧ ∀ k, ov.ownBlock = some k → iv.ownBlock ≠ some k
def PriceOut (w : World) (O I : List Int) (e : Ending) (w' : World) : Prop := ∃ ov iv, e = .returned (.agg #[ov, iv]) ∧ OwnP w' w.heap.size ov iv O I ∧ Below w.heap.size w w'
theorem OwnP.below {w w' : World} {B : Nat} {ov iv : Value} {O I : List Int} (h : OwnP w B ov iv O I) (hb : Below w.heap.size w w') : OwnP w' B ov iv O I := ⟨h.1.below hb, h.2.1.below hb, h.2.2⟩
theorem OwnP.mono {w : World} {B B' : Nat} {ov iv : Value} {O I : List Int} (h : OwnP w B ov iv O I) (hB : B' ≤ B) : OwnP w B' ov iv O I := ⟨h.1.mono hB, h.2.1.mono hB, h.2.2⟩
theorem OwnP.kept {w w' : World} {B : Nat} {ov iv : Value} {O I : List Int} {r : Option Nat} (h : OwnP w B ov iv O I) (hg : w.grownBy w' r) (hr : ∀ k, r = some k → k < B) : OwnP w' B ov iv O I := by
  have key : ∀ (v : Value) (X : List Int), Own w B v X → Own w' B v X := fun v X hv => hv.kept hg (by
    cases e : v.ownBlock with
    | none => exact .inl rfl
    | some k => exact .inr (fun e' => by have := hr k e'.symm; have := (hv.lt k e).1; omega))
  exact ⟨key _ _ h.1, key _ _ h.2.1, h.2.2⟩
theorem own_form {w : World} {B n : Nat} {v : Value} {xs : List Int} (h : Own w B v xs) (hn : xs.length = n) (hp : 0 < n) : ∃ g c, v = .slice (some ⟨g, 0, none⟩) n c := by
  subst hn
  obtain ⟨g, c, hv, _⟩ := h.out hp
  exact ⟨g, c, hv⟩
theorem OwnP.form {w : World} {B n : Nat} {ov iv : Value} {O I : List Int} (h : OwnP w B ov iv O I) (hO : O.length = n) (hI : I.length = n) (hp : 0 < n) : ∃ go co gi ci, ov = .slice (some ⟨go, 0, none⟩) n co ∧ iv = .slice (some ⟨gi, 0, none⟩) n ci := by
  obtain ⟨go, co, h1⟩ := own_form h.1 hO hp
  obtain ⟨gi, ci, h2⟩ := own_form h.2.1 hI hp
  exact ⟨go, co, gi, ci, h1, h2⟩
theorem own_one {w : World} {B : Nat} {v : Value} {xs : List Int} (h : Own w B v xs) : v.oneCell' = true := by
  rcases owns_form h with ⟨rfl, _⟩ | ⟨g, cap, rfl, _⟩ <;> rfl
end Go.Proofs.YtnhcgpkcmfelkaaGreat
