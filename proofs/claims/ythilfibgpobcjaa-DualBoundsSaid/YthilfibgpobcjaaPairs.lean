/-
  My own work: slices of elements of two ints (stops, visits); slices of such slices (tours).
-/
import Derived.Test.YthilfibgpobcjaaOwnN
namespace Go.Proofs.Ythilfibgpobcjaa
open Go.RowKit
set_option linter.unusedVariables false

def nthP (xs : List (Int × Int)) (k : Nat) : Int × Int := xs.getD k (0, 0)
theorem nthP_lt {xs : List (Int × Int)} {k : Nat} (h : k < xs.length) : nthP xs k = xs[k] := by simp [nthP, h]
theorem nthP_mem {xs : List (Int × Int)} {k : Nat} (h : k < xs.length) : nthP xs k ∈ xs := by rw [nthP_lt h]; exact List.getElem_mem h
theorem nthP_append_left {xs ys : List (Int × Int)} {k : Nat} (h : k < xs.length) : nthP (xs ++ ys) k = nthP xs k := by simp [nthP, List.getElem?_append, h]
theorem nthP_append_here {xs : List (Int × Int)} {y : Int × Int} : nthP (xs ++ [y]) xs.length = y := by simp [nthP]
theorem takeP_succ (xs : List (Int × Int)) (k : Nat) (h : k < xs.length) : xs.take (k + 1) = xs.take k ++ [nthP xs k] := by rw [nthP_lt h, List.take_succ_eq_append_getElem h]

/-- The slice value v reads as the pairs xs. -/
def Pairs (w : World) (v : Value) (xs : List (Int × Int)) : Prop :=
  ∃ (a : Option Addr) (c : Nat), v = .slice a xs.length c ∧ xs.length ≤ c ∧ c ≤ 9223372036854775807 ∧ ∀ i, i < xs.length → ∃ b o, a = some ⟨b, o, none⟩ ∧ w.cell? ⟨b, o + i * 2, none⟩ = some (.int .i64 (nthP xs i).1) ∧ w.cell? ⟨b, o + i * 2 + 1, none⟩ = some (.int .i64 (nthP xs i).2)
theorem Pairs.nil (w : World) : Pairs w (.slice none 0 0) [] := ⟨none, 0, rfl, by simp, by simp, fun i hi => absurd hi (by simp)⟩
theorem Pairs.below {w w' : World} {v : Value} {xs : List (Int × Int)} (h : Pairs w v xs) (hb : Below w.heap.size w w') : Pairs w' v xs := by
  obtain ⟨a, c, hv, h1, h2, hc⟩ := h
  refine ⟨a, c, hv, h1, h2, fun i hi => ?_⟩
  obtain ⟨b, o, ha, g0, g1⟩ := hc i hi
  exact ⟨b, o, ha, cell_below hb g0, cell_below hb g1⟩
theorem Pairs.open {w : World} {v : Value} {xs : List (Int × Int)} (h : Pairs w v xs) :
    ∃ (a : Option Addr) (n c : Nat), v = .slice a n c ∧ xs.length = n ∧ n ≤ 9223372036854775807 ∧ ∀ i, i < n → ∃ b o, a = some ⟨b, o, none⟩ ∧ w.cell? ⟨b, o + i * 2, none⟩ = some (.int .i64 (nthP xs i).1) ∧ w.cell? ⟨b, o + i * 2 + 1, none⟩ = some (.int .i64 (nthP xs i).2) := by
  obtain ⟨a, c, rfl, h1, h2, hc⟩ := h
  exact ⟨a, xs.length, c, rfl, rfl, by omega, hc⟩

/-- The flat row. -/
def flatP (xs : List (Int × Int)) : List Value := xs.flatMap fun p => [.int .i64 p.1, .int .i64 p.2]
theorem flatP_snoc (xs : List (Int × Int)) (p : Int × Int) : flatP (xs ++ [p]) = flatP xs ++ [.int .i64 p.1, .int .i64 p.2] := by simp [flatP]
theorem flatP_len (xs : List (Int × Int)) : (flatP xs).length = 2 * xs.length := by
  induction xs with
  | nil => rfl
  | cons x xs ih => simp [flatP] at *; omega
theorem flatP_at (xs : List (Int × Int)) (i : Nat) (hi : i < xs.length) : (flatP xs)[i * 2]? = some (.int .i64 (nthP xs i).1) ∧ (flatP xs)[i * 2 + 1]? = some (.int .i64 (nthP xs i).2) := by
  induction xs generalizing i with
  | nil => simp at hi
  | cons x xs ih =>
    match i with
    | 0 => simp [flatP, nthP]
    | i + 1 =>
      have hi' : i < xs.length := by simpa using hi
      have h := ih i hi'
      have e : flatP (x :: xs) = .int .i64 x.1 :: .int .i64 x.2 :: flatP xs := rfl
      rw [e, show (i + 1) * 2 = i * 2 + 1 + 1 by omega, show i * 2 + 1 + 1 + 1 = (i * 2 + 1) + 1 + 1 by omega]
      simp only [List.getElem?_cons_succ]
      have e2 : nthP (x :: xs) (i + 1) = nthP xs i := by simp [nthP]
      rw [e2]
      exact h
/-- A slice of pairs of the call's own. -/
def OwnP2 (E : TypeId) (w : World) (B : Nat) (v : Value) (xs : List (Int × Int)) : Prop := w.ownsRow B E 2 v xs.length (flatP xs)
theorem OwnP2.nil (E : TypeId) (w : World) (B : Nat) : OwnP2 E w B (.slice none 0 0) [] := World.ownsRow_nil _ _ _ _
theorem OwnP2.pairs {E : TypeId} {w : World} {B : Nat} {v : Value} {xs : List (Int × Int)} (h : OwnP2 E w B v xs) : Pairs w v xs := by
  rcases owns_form h with ⟨rfl, h0⟩ | ⟨g, cap, rfl, h1, h2, _, _⟩
  · rw [List.length_eq_zero_iff.1 h0]; exact Pairs.nil w
  · refine ⟨some ⟨g, 0, none⟩, cap, rfl, h1, h2, fun i hi => ⟨g, 0, rfl, ?_, ?_⟩⟩
    · obtain ⟨g', hg', hc⟩ := owns_cell h (i * 2) _ (flatP_at xs i hi).1
      simp only [Value.ownBlock, Option.some.injEq] at hg'
      subst hg'
      rw [Nat.zero_add]; exact hc
    · obtain ⟨g', hg', hc⟩ := owns_cell h (i * 2 + 1) _ (flatP_at xs i hi).2
      simp only [Value.ownBlock, Option.some.injEq] at hg'
      subst hg'
      rw [Nat.zero_add]; exact hc
theorem OwnP2.lt {E : TypeId} {w : World} {B : Nat} {v : Value} {xs : List (Int × Int)} (h : OwnP2 E w B v xs) : ∀ k, v.ownBlock = some k → B ≤ k ∧ k < w.heap.size := World.ownsRow.lt h
theorem OwnP2.kept {E : TypeId} {w w' : World} {B : Nat} {v : Value} {xs : List (Int × Int)} {r : Option Nat} (h : OwnP2 E w B v xs) (hg : w.grownBy w' r) (hne : v.ownBlock = none ∨ v.ownBlock ≠ r) : OwnP2 E w' B v xs := World.ownsRow.kept h hg hne
theorem OwnP2.below {E : TypeId} {w w' : World} {B : Nat} {v : Value} {xs : List (Int × Int)} (h : OwnP2 E w B v xs) (hb : Below w.heap.size w w') : OwnP2 E w' B v xs :=
  World.ownsRow.kept (row := none) h (grownBy_below hb) (by cases v.ownBlock <;> simp)
theorem OwnP2.mono {E : TypeId} {w : World} {B B' : Nat} {v : Value} {xs : List (Int × Int)} (h : OwnP2 E w B v xs) (hB : B' ≤ B) : OwnP2 E w B' v xs := owns_mono h hB
theorem OwnP2.not {E : TypeId} {w : World} {B g : Nat} {v : Value} {xs : List (Int × Int)} (h : OwnP2 E w B v xs) (hg : g < B) : v.ownBlock = none ∨ v.ownBlock ≠ some g := by
  cases hv : v.ownBlock with
  | none => exact .inl rfl
  | some k => exact .inr (by have := h.lt k hv; simp; omega)

/-- 'v = append(v, pair)'. -/
theorem wpList_pushP {ops : Array Oper} {rest : List Oper} {o : Oper} {a : Act} {Q : Exit → Act → World → Prop} (hgd : o.guard = none) (s x : Operand) (T E : TypeId) (z : Value) (hT : Try.prog.underlying T = some (.slice E))
    (hinfo : (Try.prog.info? E).map (fun i => (i.zero, i.size, i.bytes)) = some (some z, 2, 16)) (hz : z.cells.size = 2)
    (ho : o.op = .call { callee := .builtin .append, args := #[s, x], argTypes := #[T, T] }) (w : World) (B : Nat) (v : Value) (xs : List (Int × Int)) (p q : Int) (hs : a.eval s = v)
    (hx : a.eval x = .slice (some ⟨w.heap.size, 0, none⟩) 1 1) (hown : OwnP2 E w B v xs) (hlen : xs.length + 1 ≤ 1000000000000) (hB : B ≤ w.heap.size)
    (h : ∀ g c w', OwnP2 E w' B (.slice (some ⟨g, 0, none⟩) (xs.length + 1) c) (xs ++ [(p, q)]) → w.grownBy w' v.ownBlock → Below B w w' → B ≤ g → g < w'.heap.size → wpList Try.prog ops Q rest (a.put o.dst (.slice (some ⟨g, 0, none⟩) (xs.length + 1) c)) w') :
    wpList Try.prog ops Q (o :: rest) a (w.alloc (.cells #[.int .i64 p, .int .i64 q] E)) := by
  have hown' : (w.alloc (.cells #[.int .i64 p, .int .i64 q] E)).ownsRow B E 2 v xs.length (flatP xs) := World.ownsRow.alloc hown _
  refine wpList_pushN hgd s x T E z 2 16 hT hinfo hz (by decide) (by decide) ho _ B v xs.length (flatP xs) [.int .i64 p, .int .i64 q] w.heap.size hs hx (Lies.new w [.int .i64 p, .int .i64 q] _) rfl
    (by intro u hu; simp at hu; rcases hu with rfl | rfl <;> rfl) hown' hlen (by simp; omega) ?_
  intro g cap w' h1 h2 h3 h4 h5 h6
  have hg' : w.grownBy w' v.ownBlock := grownBy_trans (World.grownBy_alloc w _ _) h2
  refine h g cap w' (by simpa [OwnP2, flatP_snoc] using h1) hg' ((Below.refl B w).grown hg' hB (fun k hk => (hown.lt k hk).1)) h5 h6
end Go.Proofs.Ythilfibgpobcjaa
