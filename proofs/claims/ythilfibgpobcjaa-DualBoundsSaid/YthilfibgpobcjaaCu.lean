/-
  My own work: slices of words of the call's own; customers in a slice.
-/
import Derived.Test.YthilfibgpobcjaaOwnN
import Derived.Test.YthilfibgpobcjaaU64s
namespace Go.Proofs.Ythilfibgpobcjaa
open Go.RowKit
set_option linter.unusedVariables false

theorem info_word : (Try.prog.info? 82).map (fun i => (i.zero, i.size, i.bytes)) = some (some (.int .u64 0), 1, 8) := by kernel_rfl
theorem info_cust : (Try.prog.info? 60).map (fun i => (i.zero, i.size, i.bytes)) = some (some (.agg #[.int .i64 0, .int .i64 0, .slice none 0 0, .int .i64 0, .int .i64 0, .int .i64 0, .int .i64 0, .int .i64 0]), 8, 80) := by kernel_rfl
theorem info_row : (Try.prog.info? 26).map (fun i => (i.zero, i.size, i.bytes)) = some (some (.slice none 0 0), 1, 24) := by kernel_rfl

def wordV (x : Nat) : Value := .int .u64 (x : Int)
/-- A slice of words of the call's own. -/
def OwnW (w : World) (B : Nat) (v : Value) (xs : List Nat) : Prop := w.ownsRow B 82 1 v xs.length (xs.map wordV)
theorem OwnW.nil (w : World) (B : Nat) : OwnW w B (.slice none 0 0) [] := World.ownsRow_nil _ _ _ _
theorem OwnW.words {w : World} {B : Nat} {v : Value} {xs : List Nat} (h : OwnW w B v xs) : Words w v xs := by
  rcases owns_form h with ⟨rfl, h0⟩ | ⟨g, cap, rfl, h1, h2, _, _⟩
  · rw [List.length_eq_zero_iff.1 h0]; exact Words.nil w
  · refine ⟨some ⟨g, 0, none⟩, cap, rfl, h1, h2, fun i hi => ⟨g, 0, rfl, ?_⟩⟩
    obtain ⟨g', hg', hc⟩ := owns_cell h i (wordV (nthN xs i)) (by rw [List.getElem?_map, List.getElem?_eq_getElem hi, nthN_lt hi]; rfl)
    simp only [Value.ownBlock, Option.some.injEq] at hg'
    subst hg'
    rw [Nat.zero_add]
    exact hc
theorem OwnW.lt {w : World} {B : Nat} {v : Value} {xs : List Nat} (h : OwnW w B v xs) : ∀ k, v.ownBlock = some k → B ≤ k ∧ k < w.heap.size := World.ownsRow.lt h
theorem OwnW.kept {w w' : World} {B : Nat} {v : Value} {xs : List Nat} {r : Option Nat} (h : OwnW w B v xs) (hg : w.grownBy w' r) (hne : v.ownBlock = none ∨ v.ownBlock ≠ r) : OwnW w' B v xs := World.ownsRow.kept h hg hne
theorem OwnW.below {w w' : World} {B : Nat} {v : Value} {xs : List Nat} (h : OwnW w B v xs) (hb : Below w.heap.size w w') : OwnW w' B v xs :=
  World.ownsRow.kept (row := none) h (grownBy_below hb) (by cases v.ownBlock <;> simp)
theorem OwnW.not {w : World} {B g : Nat} {v : Value} {xs : List Nat} (h : OwnW w B v xs) (hg : g < B) : v.ownBlock = none ∨ v.ownBlock ≠ some g := by
  cases hv : v.ownBlock with
  | none => exact .inl rfl
  | some k => exact .inr (by have := h.lt k hv; simp; omega)
theorem OwnW.not' {w : World} {B g : Nat} {v : Value} {xs : List Nat} (h : OwnW w B v xs) (hg : g < B) : some g ≠ v.ownBlock := by
  intro e
  have := h.lt g e.symm
  omega

theorem OwnW.one {w : World} {B : Nat} {v : Value} {xs : List Nat} (h : OwnW w B v xs) : v.oneCell' = true := by
  rcases owns_form h with ⟨rfl, _⟩ | ⟨g, cap, rfl, _⟩ <;> rfl
theorem OwnW.mono {w : World} {B B' : Nat} {v : Value} {xs : List Nat} (h : OwnW w B v xs) (hB : B' ≤ B) : OwnW w B' v xs := owns_mono h hB

/-- 'v = append(v, y)', v a slice of words of the call's own. -/
theorem wpList_pushW {ops : Array Oper} {rest : List Oper} {o : Oper} {a : Act} {Q : Exit → Act → World → Prop} (hgd : o.guard = none) (s x : Operand)
    (ho : o.op = .call { callee := .builtin .append, args := #[s, x], argTypes := #[58, 58] }) (w : World) (B : Nat) (v : Value) (xs : List Nat) (y : Nat) (hs : a.eval s = v)
    (hx : a.eval x = .slice (some ⟨w.heap.size, 0, none⟩) 1 1) (hown : OwnW w B v xs) (hlen : xs.length + 1 ≤ 1000000000000) (hB : B ≤ w.heap.size)
    (h : ∀ g c w', OwnW w' B (.slice (some ⟨g, 0, none⟩) (xs.length + 1) c) (xs ++ [y]) → w.grownBy w' v.ownBlock → Below B w w' → B ≤ g → g < w'.heap.size → wpList Try.prog ops Q rest (a.put o.dst (.slice (some ⟨g, 0, none⟩) (xs.length + 1) c)) w') :
    wpList Try.prog ops Q (o :: rest) a (w.alloc (.cells #[.int .u64 (y : Int)] 82)) := by
  have hown' : (w.alloc (.cells #[.int .u64 (y : Int)] 82)).ownsRow B 82 1 v xs.length (xs.map wordV) := World.ownsRow.alloc hown _
  refine wpList_pushN hgd s x 58 82 (.int .u64 0) 1 8 Try.underlying58 info_word rfl (by decide) (by decide) ho _ B v xs.length (xs.map wordV) [wordV y] w.heap.size hs hx (Lies.new w [wordV y] _) rfl
    (by intro u hu; simp at hu; subst hu; rfl) hown' hlen (by simp; omega) ?_
  intro g cap w' h1 h2 h3 h4 h5 h6
  have hg' : w.grownBy w' v.ownBlock := grownBy_trans (World.grownBy_alloc w _ _) h2
  refine h g cap w' (by simpa [OwnW] using h1) hg' ((Below.refl B w).grown hg' hB (fun k hk => (hown.lt k hk).1)) h5 h6

/-! ### customers -/
structure Cu where
  kd : Int
  dm : Int
  ps : List Nat
  rt : Int
  sz : Int
  st : Int
  ru : Int
  hd : Int
instance : Inhabited Cu := ⟨⟨0, 0, [], 0, 0, 0, 0, 0⟩⟩
def nthC (L : List Cu) (k : Nat) : Cu := L.getD k default
theorem nthC_lt {L : List Cu} {k : Nat} (h : k < L.length) : nthC L k = L[k] := by simp [nthC, h]
theorem nthC_mem {L : List Cu} {k : Nat} (h : k < L.length) : nthC L k ∈ L := by rw [nthC_lt h]; exact List.getElem_mem h
theorem nthC_append_left {L M : List Cu} {k : Nat} (h : k < L.length) : nthC (L ++ M) k = nthC L k := by simp [nthC, List.getElem?_append, h]
theorem nthC_append_here {L : List Cu} {y : Cu} : nthC (L ++ [y]) L.length = y := by simp [nthC]
theorem nthC_take {L : List Cu} {k n : Nat} (h : k < n) : nthC (L.take n) k = nthC L k := by simp [nthC, h]

/-- The eight cells of a customer. -/
def cuV (C : Cu) (pv : Value) : List Value := [.int .i64 C.kd, .int .i64 C.dm, pv, .int .i64 C.rt, .int .i64 C.sz, .int .i64 C.st, .int .i64 C.ru, .int .i64 C.hd]

theorem cuV_one {w : World} {B : Nat} {pv : Value} {C : Cu} (h : OwnW w B pv C.ps) : ∀ u ∈ cuV C pv, u.oneCell' = true := by
  intro u hu
  simp only [cuV, List.mem_cons, List.not_mem_nil, or_false] at hu
  rcases hu with rfl | rfl | rfl | rfl | rfl | rfl | rfl | rfl <;> first | rfl | exact h.one
/-- A customer lies in block b from p on. -/
structure CuAt (w : World) (b p : Nat) (C : Cu) (pv : Value) : Prop where
  c0 : w.cell? ⟨b, p, none⟩ = some (.int .i64 C.kd)
  c1 : w.cell? ⟨b, p + 1, none⟩ = some (.int .i64 C.dm)
  c2 : w.cell? ⟨b, p + 2, none⟩ = some pv
  c3 : w.cell? ⟨b, p + 3, none⟩ = some (.int .i64 C.rt)
  c4 : w.cell? ⟨b, p + 4, none⟩ = some (.int .i64 C.sz)
  c5 : w.cell? ⟨b, p + 5, none⟩ = some (.int .i64 C.st)
  c6 : w.cell? ⟨b, p + 6, none⟩ = some (.int .i64 C.ru)
  c7 : w.cell? ⟨b, p + 7, none⟩ = some (.int .i64 C.hd)
  pats : Words w pv C.ps
theorem CuAt.lt {w : World} {b p : Nat} {C : Cu} {pv : Value} (h : CuAt w b p C pv) : b < w.heap.size := World.block_lt_of_cell? w _ h.c0
theorem CuAt.below {w w' : World} {b p : Nat} {C : Cu} {pv : Value} (h : CuAt w b p C pv) (hb : Below w.heap.size w w') : CuAt w' b p C pv :=
  ⟨cell_below hb h.c0, cell_below hb h.c1, cell_below hb h.c2, cell_below hb h.c3, cell_below hb h.c4, cell_below hb h.c5, cell_below hb h.c6, cell_below hb h.c7, h.pats.below hb⟩

/-- The slice value v reads as the customers L. -/
def Custs (w : World) (v : Value) (L : List Cu) : Prop :=
  ∃ (a : Option Addr) (c : Nat), v = .slice a L.length c ∧ L.length ≤ c ∧ c ≤ 9223372036854775807 ∧ ∀ i, i < L.length → ∃ b o pv, a = some ⟨b, o, none⟩ ∧ CuAt w b (o + i * 8) (nthC L i) pv
theorem Custs.nil (w : World) : Custs w (.slice none 0 0) [] := ⟨none, 0, rfl, by simp, by simp, fun i hi => absurd hi (by simp)⟩
theorem Custs.below {w w' : World} {v : Value} {L : List Cu} (h : Custs w v L) (hb : Below w.heap.size w w') : Custs w' v L := by
  obtain ⟨a, c, hv, h1, h2, hc⟩ := h
  refine ⟨a, c, hv, h1, h2, fun i hi => ?_⟩
  obtain ⟨b, o, pv, ha, h0⟩ := hc i hi
  exact ⟨b, o, pv, ha, h0.below hb⟩
theorem Custs.open {w : World} {v : Value} {L : List Cu} (h : Custs w v L) :
    ∃ (a : Option Addr) (n c : Nat), v = .slice a n c ∧ L.length = n ∧ n ≤ 9223372036854775807 ∧ ∀ i, i < n → ∃ b o pv, a = some ⟨b, o, none⟩ ∧ b < w.heap.size ∧ CuAt w b (o + i * 8) (nthC L i) pv := by
  obtain ⟨a, c, rfl, h1, h2, hc⟩ := h
  refine ⟨a, L.length, c, rfl, rfl, by omega, fun i hi => ?_⟩
  obtain ⟨b, o, pv, ha, h0⟩ := hc i hi
  exact ⟨b, o, pv, ha, h0.lt, h0⟩

/-- The flat row of customers. -/
def rowC (L : List Cu) (pvs : List Value) : List Value := (List.range L.length).flatMap fun i => cuV (nthC L i) (pvs.getD i undef)
theorem cuV_len (C : Cu) (pv : Value) : (cuV C pv).length = 8 := rfl
theorem flat8 (f : Nat → List Value) (hf : ∀ i, (f i).length = 8) (n : Nat) : ((List.range n).flatMap f).length = 8 * n := by
  induction n with
  | zero => rfl
  | succ n ih => rw [List.range_succ, List.flatMap_append, List.length_append, ih]; simp [hf]; omega
theorem flat8_at (f : Nat → List Value) (hf : ∀ i, (f i).length = 8) (n i j : Nat) (hi : i < n) (hj : j < 8) : ((List.range n).flatMap f)[i * 8 + j]? = (f i)[j]? := by
  induction n with
  | zero => omega
  | succ n ih =>
    rw [List.range_succ, List.flatMap_append]
    by_cases h : i < n
    · rw [List.getElem?_append_left (by rw [flat8 f hf]; omega)]
      exact ih h
    · have : i = n := by omega
      subst this
      rw [List.getElem?_append_right (by rw [flat8 f hf]; omega), flat8 f hf]
      simp only [List.flatMap_cons, List.flatMap_nil, List.append_nil]
      congr 1
      omega
theorem rowC_at (L : List Cu) (pvs : List Value) (i j : Nat) (hi : i < L.length) (hj : j < 8) : (rowC L pvs)[i * 8 + j]? = (cuV (nthC L i) (pvs.getD i undef))[j]? := flat8_at _ (fun _ => rfl) _ _ _ hi hj
theorem rowC_snoc (L : List Cu) (pvs : List Value) (C : Cu) (pv : Value) (h : pvs.length = L.length) : rowC (L ++ [C]) (pvs ++ [pv]) = rowC L pvs ++ cuV C pv := by
  unfold rowC
  rw [List.length_append, List.length_singleton, List.range_succ, List.flatMap_append]
  congr 1
  · rw [List.flatMap_def, List.flatMap_def]
    congr 1
    apply List.map_congr_left
    intro i hi
    have hi' : i < L.length := by simpa using hi
    rw [nthC_append_left hi']
    simp [List.getD, List.getElem?_append, h, hi']
  · simp only [List.flatMap_cons, List.flatMap_nil, List.append_nil, nthC_append_here]
    simp [List.getD, ← h]

/-- A slice of customers of the call's own; each one's patterns lie elsewhere. -/
def OwnC (w : World) (B : Nat) (v : Value) (L : List Cu) : Prop :=
  ∃ pvs : List Value, pvs.length = L.length ∧ w.ownsRow B 60 8 v L.length (rowC L pvs) ∧ ∀ i, i < L.length → OwnW w B (pvs.getD i undef) (nthC L i).ps ∧ ∀ k, v.ownBlock = some k → (pvs.getD i undef).ownBlock ≠ some k
theorem OwnC.nil (w : World) (B : Nat) : OwnC w B (.slice none 0 0) [] := ⟨[], rfl, World.ownsRow_nil _ _ _ _, fun i hi => absurd hi (by simp)⟩
theorem OwnC.lt {w : World} {B : Nat} {v : Value} {L : List Cu} (h : OwnC w B v L) : ∀ k, v.ownBlock = some k → B ≤ k ∧ k < w.heap.size := by
  obtain ⟨pvs, _, h, _⟩ := h
  exact World.ownsRow.lt h
theorem OwnC.custs {w : World} {B : Nat} {v : Value} {L : List Cu} (h : OwnC w B v L) : Custs w v L := by
  obtain ⟨pvs, hl, h, hp⟩ := h
  rcases owns_form h with ⟨rfl, h0⟩ | ⟨g, cap, rfl, h1, h2, _, _⟩
  · rw [List.length_eq_zero_iff.1 h0]; exact Custs.nil w
  · refine ⟨some ⟨g, 0, none⟩, cap, rfl, h1, h2, fun i hi => ⟨g, 0, pvs.getD i undef, rfl, ?_⟩⟩
    have hc : ∀ j u, j < 8 → (cuV (nthC L i) (pvs.getD i undef))[j]? = some u → w.cell? ⟨g, 0 + i * 8 + j, none⟩ = some u := fun j u hj hu => by
      obtain ⟨g', hg', hc⟩ := owns_cell h (i * 8 + j) u (by rw [rowC_at L pvs i j hi hj]; exact hu)
      simp only [Value.ownBlock, Option.some.injEq] at hg'
      subst hg'
      rw [show 0 + i * 8 + j = i * 8 + j by omega]
      exact hc
    exact ⟨hc 0 _ (by decide) rfl, hc 1 _ (by decide) rfl, hc 2 _ (by decide) rfl, hc 3 _ (by decide) rfl, hc 4 _ (by decide) rfl, hc 5 _ (by decide) rfl, hc 6 _ (by decide) rfl, hc 7 _ (by decide) rfl, (hp i hi).1.words⟩
theorem OwnC.kept {w w' : World} {B : Nat} {v : Value} {L : List Cu} {r : Option Nat} (h : OwnC w B v L) (hg : w.grownBy w' r) (hr : ∀ k, r = some k → k < B) : OwnC w' B v L := by
  have hlt := h.lt
  obtain ⟨pvs, hl, h, hp⟩ := h
  refine ⟨pvs, hl, World.ownsRow.kept h hg ?_, fun i hi => ⟨(hp i hi).1.kept hg ?_, (hp i hi).2⟩⟩
  · cases hv : v.ownBlock with
    | none => exact .inl rfl
    | some k => exact .inr (fun e => by have := hr k e.symm; have := (hlt k hv).1; omega)
  · cases hv : (pvs.getD i undef).ownBlock with
    | none => exact .inl rfl
    | some k => exact .inr (fun e => by have := hr k e.symm; have := ((hp i hi).1.lt k hv).1; omega)
theorem OwnC.below {w w' : World} {B : Nat} {v : Value} {L : List Cu} (h : OwnC w B v L) (hb : Below w.heap.size w w') : OwnC w' B v L := h.kept (r := none) (grownBy_below hb) (by simp)
/-- One customer more: what stands behind the append. -/
theorem OwnC.push {W w' : World} {B : Nat} {v : Value} {L : List Cu} {C : Cu} {pv : Value} {g cap : Nat} {pvs : List Value} (hl : pvs.length = L.length) (hp : ∀ i, i < L.length → OwnW W B (pvs.getD i undef) (nthC L i).ps ∧ ∀ k, v.ownBlock = some k → (pvs.getD i undef).ownBlock ≠ some k)
    (hw : OwnW W B pv C.ps) (hne : ∀ k, v.ownBlock = some k → pv.ownBlock ≠ some k) (h : w'.ownsRow B 60 8 (.slice (some ⟨g, 0, none⟩) (L.length + 1) cap) (L.length + 1) (rowC L pvs ++ cuV C pv))
    (hg : W.grownBy w' v.ownBlock) (hat : v.ownBlock = some g ∨ g = W.heap.size) : OwnC w' B (.slice (some ⟨g, 0, none⟩) (L.length + 1) cap) (L ++ [C]) := by
  refine ⟨pvs ++ [pv], by simp [hl], by rw [rowC_snoc L pvs C pv hl]; simpa using h, fun i hi => ?_⟩
  have key : ∀ (x : Value) (ps : List Nat), OwnW W B x ps → (∀ k, v.ownBlock = some k → x.ownBlock ≠ some k) → OwnW w' B x ps ∧ ∀ k, (Value.slice (some ⟨g, 0, none⟩) (L.length + 1) cap).ownBlock = some k → x.ownBlock ≠ some k := by
    intro x ps hx hxn
    refine ⟨hx.kept hg ?_, fun k hk e => ?_⟩
    · cases hv : v.ownBlock with
      | none => cases x.ownBlock <;> simp
      | some k => exact .inr (hxn k hv)
    · simp only [Value.ownBlock, Option.some.injEq] at hk
      subst hk
      rcases hat with hat | rfl
      · exact hxn g hat e
      · have := (hx.lt _ e).2
        omega
  rw [List.length_append, List.length_singleton] at hi
  by_cases h' : i < L.length
  · rw [nthC_append_left h']
    have e : (pvs ++ [pv]).getD i undef = pvs.getD i undef := by simp [List.getD, List.getElem?_append, hl, h']
    rw [e]
    exact key _ _ (hp i h').1 (hp i h').2
  · have : i = L.length := by omega
    subst this
    rw [nthC_append_here]
    have e : (pvs ++ [pv]).getD L.length undef = pv := by simp [List.getD, ← hl]
    rw [e]
    exact key _ _ hw hne
end Go.Proofs.Ythilfibgpobcjaa
