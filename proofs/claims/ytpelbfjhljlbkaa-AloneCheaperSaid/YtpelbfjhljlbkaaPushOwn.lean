/-
  My own work: 'v = append(v, y...)', v a slice of the call's own, y any other such slice, be it empty.
-/
import Derived.Test.YtpelbfjhljlbkaaMOwn
import Derived.Laws.AppendOwnNone
namespace Go.Proofs.Ytpelbfjhljlbkaa
open Go.RowKit
set_option linter.unusedVariables false
set_option maxRecDepth 100000

theorem wpList_pushOwn {ops : Array Oper} {rest : List Oper} {o : Oper} {a : Act} {Q : Exit → Act → World → Prop} (hgd : o.guard = none) (s x : Operand)
    (ho : o.op = .call { callee := .builtin .append, args := #[s, x], argTypes := #[25, 25] }) (w : World) (B B2 : Nat) (v : Value) (xs : List Int) (ys : List Int) (hs : a.eval s = v)
    (yv : Value) (hx : a.eval x = yv) (hy : Own w B2 yv ys) (hown : Own w B v xs) (hlen : xs.length + ys.length ≤ 17592186044416) (hB : B ≤ w.heap.size)
    (h : ∀ v' w', Own w' B v' (xs ++ ys) → w.grownBy w' v.ownBlock → Below B w w' → wpList Try.prog ops Q rest (a.put o.dst v') w') :
    wpList Try.prog ops Q (o :: rest) a w := by
  obtain ⟨i, hi, hz, hsz, hby⟩ := info_parts info_int
  have hyi := hy.ints
  rcases owns_form hy with ⟨rfl, h0⟩ | ⟨g, c, rfl, h1, h2, _, _⟩
  · refine wpList_append_own_none hgd s x 25 ho B 3 i 1 Try.underlying25 hi v xs.length (xs.map (Value.int .i64)) hs hown hx ?_
    have hn : ys = [] := List.length_eq_zero_iff.1 h0
    subst hn
    refine h v w (by simpa using hown) ⟨rfl, rfl, rfl, Nat.le_refl _, fun _ _ _ => rfl⟩ (Below.refl _ _)
  · obtain ⟨ad, c', e, _, _, hc⟩ := hyi
    simp only [Value.slice.injEq] at e
    obtain ⟨rfl, _, rfl⟩ := e
    refine wpList_append_own _ hgd s x 25 ho B 3 i (.int .i64 0) 1 8 Try.underlying25 hi hz hsz hby rfl (by decide) v xs.length (xs.map (Value.int .i64)) hs hown
      ⟨g, 0, none⟩ ys.length c (ys.map (Value.int .i64)) hx (by simp) (fun j u hu => ?_) ints_one (by simp only [maxLen]; omega) (by omega) hB ?_
    · rw [List.getElem?_map] at hu
      obtain ⟨y, hy', rfl⟩ := Option.map_eq_some_iff.1 hu
      have hj : j < ys.length := (List.getElem?_eq_some_iff.1 hy').1
      obtain ⟨b', o', h1', h2'⟩ := hc j hj
      simp only [Option.some.injEq, Addr.mk.injEq, and_true] at h1'
      obtain ⟨rfl, rfl⟩ := h1'
      have ha : (⟨g, 0, none⟩ : Addr).add j = ⟨g, 0 + j, none⟩ := by unfold Addr.add; split <;> simp_all
      rw [ha, h2', nth_lt hj]
      have := (List.getElem?_eq_some_iff.1 hy').2
      rw [this]
    · intro v' w' hown' hg _
      exact h v' w' (by simpa [Own] using hown') hg ((Below.refl B w).grown hg hB (fun k hk => (hown.lt k hk).1))
end Go.Proofs.Ytpelbfjhljlbkaa
