/-
  My own work: slices of lists of visits.
-/
import Derived.Test.YtnhcgpkcmfelkaaGreatMAl
namespace Go.Proofs.YtnhcgpkcmfelkaaGreat
open Go.RowKit
set_option linter.unusedVariables false
set_option maxRecDepth 100000

def nthU (D : List (List (Int × Int))) (k : Nat) : List (Int × Int) := D.getD k []
theorem nthU_lt {D : List (List (Int × Int))} {k : Nat} (h : k < D.length) : nthU D k = D[k] := by simp [nthU, h]
theorem nthU_append_left {D E : List (List (Int × Int))} {k : Nat} (h : k < D.length) : nthU (D ++ E) k = nthU D k := by simp [nthU, List.getElem?_append, h]
theorem nthU_append_here {D : List (List (Int × Int))} {y : List (Int × Int)} : nthU (D ++ [y]) D.length = y := by simp [nthU]
theorem nthU_mem {D : List (List (Int × Int))} {k : Nat} (h : k < D.length) : nthU D k ∈ D := by rw [nthU_lt h]; exact List.getElem_mem h

/-- The slice value v reads as the lists of visits D. -/
def GridV (w : World) (v : Value) (D : List (List (Int × Int))) : Prop :=
  ∃ (a : Option Addr) (c : Nat), v = .slice a D.length c ∧ D.length ≤ c ∧ c ≤ 9223372036854775807 ∧ ∀ i, i < D.length → ∃ b o rv, a = some ⟨b, o, none⟩ ∧ w.cell? ⟨b, o + i, none⟩ = some rv ∧ Vis w rv (nthU D i)
theorem GridV.nil (w : World) : GridV w (.slice none 0 0) [] := ⟨none, 0, rfl, by simp, by simp, fun i hi => absurd hi (by simp)⟩
theorem GridV.below {w w' : World} {v : Value} {D : List (List (Int × Int))} (h : GridV w v D) (hb : Below w.heap.size w w') : GridV w' v D := by
  obtain ⟨a, c, hv, h1, h2, hc⟩ := h
  refine ⟨a, c, hv, h1, h2, fun i hi => ?_⟩
  obtain ⟨b, o, rv, ha, h0, hr⟩ := hc i hi
  exact ⟨b, o, rv, ha, (hb.cell (p := ⟨b, o + i, none⟩) (World.block_lt_of_cell? w _ h0)).trans h0, hr.below hb⟩
theorem GridV.open {w : World} {v : Value} {D : List (List (Int × Int))} (h : GridV w v D) :
    ∃ (a : Option Addr) (n c : Nat), v = .slice a n c ∧ D.length = n ∧ n ≤ 9223372036854775807 ∧
      ∀ i, i < n → ∃ b o ra rn rc, a = some ⟨b, o, none⟩ ∧ b < w.heap.size ∧ w.cell? ⟨b, o + i, none⟩ = some (.slice ra rn rc) ∧ Vis w (.slice ra rn rc) (nthU D i) := by
  obtain ⟨a, c, rfl, h1, h2, hc⟩ := h
  refine ⟨a, D.length, c, rfl, rfl, by omega, fun i hi => ?_⟩
  obtain ⟨b, o, rv, ha, h0, hr⟩ := hc i hi
  obtain ⟨ra, rn, rc, rfl, _⟩ := hr.open
  exact ⟨b, o, ra, rn, rc, ha, World.block_lt_of_cell? w _ h0, h0, hr⟩

theorem info_visR : (Tryz.prog.info? 72).map (fun i => (i.zero, i.size, i.bytes)) = some (some (.slice none 0 0), 1, 24) := by kernel_rfl

/-- A slice of rows of the call's own; each row, of the call's own too, lies elsewhere. -/
def OwnU (w : World) (B : Nat) (v : Value) (D : List (List (Int × Int))) : Prop :=
  ∃ rvs : List Value, rvs.length = D.length ∧ w.ownsRow B 72 1 v D.length rvs ∧ ∀ i, i < D.length → OwnV w B (rvs.getD i undef) (nthU D i) ∧ ∀ k, v.ownBlock = some k → (rvs.getD i undef).ownBlock ≠ some k
theorem OwnU.nil (w : World) (B : Nat) : OwnU w B (.slice none 0 0) [] := ⟨[], rfl, World.ownsRow_nil _ _ _ _, fun i hi => absurd hi (by simp)⟩
theorem OwnU.lt {w : World} {B : Nat} {v : Value} {D : List (List (Int × Int))} (h : OwnU w B v D) : ∀ k, v.ownBlock = some k → B ≤ k ∧ k < w.heap.size := by
  obtain ⟨rvs, _, h, _⟩ := h
  exact World.ownsRow.lt h
theorem OwnU.not' {w : World} {B g : Nat} {v : Value} {D : List (List (Int × Int))} (h : OwnU w B v D) (hg : g < B) : some g ≠ v.ownBlock := by
  intro e
  have := h.lt g e.symm
  omega
theorem OwnU.grid {w : World} {B : Nat} {v : Value} {D : List (List (Int × Int))} (h : OwnU w B v D) : GridV w v D := by
  obtain ⟨rvs, hl, h, hp⟩ := h
  rcases owns_form h with ⟨rfl, h0⟩ | ⟨g, cap, rfl, h1, h2, _, _⟩
  · rw [List.length_eq_zero_iff.1 h0]; exact GridV.nil w
  · refine ⟨some ⟨g, 0, none⟩, cap, rfl, h1, h2, fun i hi => ⟨g, 0, rvs.getD i undef, rfl, ?_, (hp i hi).1.vis⟩⟩
    obtain ⟨g', hg', hc⟩ := owns_cell h i (rvs.getD i undef) (by simp [List.getD, List.getElem?_eq_getElem (show i < rvs.length by omega)])
    simp only [Value.ownBlock, Option.some.injEq] at hg'
    subst hg'
    rw [Nat.zero_add]
    exact hc
theorem OwnU.kept {w w' : World} {B : Nat} {v : Value} {D : List (List (Int × Int))} {r : Option Nat} (h : OwnU w B v D) (hg : w.grownBy w' r) (hr : ∀ k, r = some k → k < B) : OwnU w' B v D := by
  have hlt := h.lt
  obtain ⟨rvs, hl, h, hp⟩ := h
  refine ⟨rvs, hl, World.ownsRow.kept h hg ?_, fun i hi => ⟨(hp i hi).1.kept hg ?_, (hp i hi).2⟩⟩
  · cases hv : v.ownBlock with
    | none => exact .inl rfl
    | some k => exact .inr (fun e => by have := hr k e.symm; have := (hlt k hv).1; omega)
  · cases hv : (rvs.getD i undef).ownBlock with
    | none => exact .inl rfl
    | some k => exact .inr (fun e => by have := hr k e.symm; have := ((hp i hi).1.lt k hv).1; omega)
theorem OwnU.below {w w' : World} {B : Nat} {v : Value} {D : List (List (Int × Int))} (h : OwnU w B v D) (hb : Below w.heap.size w w') : OwnU w' B v D := h.kept (r := none) (grownBy_below hb) (by simp)
theorem OwnU.mono {w : World} {B B' : Nat} {v : Value} {D : List (List (Int × Int))} (h : OwnU w B v D) (hB : B' ≤ B) : OwnU w B' v D := by
  obtain ⟨rvs, hl, h, hp⟩ := h
  exact ⟨rvs, hl, owns_mono h hB, fun i hi => ⟨(hp i hi).1.mono hB, (hp i hi).2⟩⟩
theorem OwnU.len {w : World} {B : Nat} {a : Option Addr} {n c : Nat} {D : List (List (Int × Int))} (h : OwnU w B (.slice a n c) D) : n = D.length := by
  obtain ⟨_, _, h1, _, _⟩ := h.grid
  simp only [Value.slice.injEq] at h1
  exact h1.2.1

/-- 'v = append(v, row)'. The row's value lies in a new block of its own. -/
theorem wpList_pushU {ops : Array Oper} {rest : List Oper} {o : Oper} {a : Act} {Q : Exit → Act → World → Prop} (hgd : o.guard = none) (s x : Operand)
    (ho : o.op = .call { callee := .builtin .append, args := #[s, x], argTypes := #[96, 96] }) (w : World) (B : Nat) (v : Value) (D : List (List (Int × Int))) (rv : Value) (r : List (Int × Int)) (hs : a.eval s = v)
    (hx : a.eval x = .slice (some ⟨w.heap.size, 0, none⟩) 1 1) (hrv : rv.oneCell' = true) (hown : OwnU w B v D) (hr : OwnV w B rv r) (hne : ∀ k, v.ownBlock = some k → rv.ownBlock ≠ some k) (hlen : D.length + 1 ≤ 1000000000000) (hB : B ≤ w.heap.size)
    (h : ∀ g c w', OwnU w' B (.slice (some ⟨g, 0, none⟩) (D.length + 1) c) (D ++ [r]) → w.grownBy w' v.ownBlock → Below B w w' → B ≤ g → g < w'.heap.size → wpList Tryz.prog ops Q rest (a.put o.dst (.slice (some ⟨g, 0, none⟩) (D.length + 1) c)) w') :
    wpList Tryz.prog ops Q (o :: rest) a (w.alloc (.cells #[rv] 72)) := by
  have hlt := hown.lt
  obtain ⟨rvs, hl, h0, hp⟩ := hown
  have hown' : (w.alloc (.cells #[rv] 72)).ownsRow B 72 1 v D.length rvs := World.ownsRow.alloc h0 _
  refine wpList_pushN hgd s x 96 72 (.slice none 0 0) 1 24 Tryz.underlying96 info_visR rfl (by decide) (by decide) ho _ B v D.length rvs [rv] w.heap.size hs hx (Lies.new w [rv] _) rfl
    (by intro u hu; simp at hu; subst hu; exact hrv) hown' hlen (by simp; omega) ?_
  intro g cap w' h1 h2 h3 h4 h5 h6
  have hg' : w.grownBy w' v.ownBlock := grownBy_trans (World.grownBy_alloc w _ _) h2
  refine h g cap w' ⟨rvs ++ [rv], by simp [hl], by simpa using h1, fun i hi => ?_⟩ hg' ((Below.refl B w).grown hg' hB (fun k hk => (hlt k hk).1)) h5 h6
  have key : ∀ (x : Value) (ps : List (Int × Int)), OwnV w B x ps → (∀ k, v.ownBlock = some k → x.ownBlock ≠ some k) → OwnV w' B x ps ∧ ∀ k, (Value.slice (some ⟨g, 0, none⟩) (D.length + 1) cap).ownBlock = some k → x.ownBlock ≠ some k := by
    intro x ps hx hxn
    refine ⟨hx.kept hg' ?_, fun k hk e => ?_⟩
    · cases hv : v.ownBlock with
      | none => cases x.ownBlock <;> simp
      | some k => exact .inr (hxn k hv)
    · simp only [Value.ownBlock, Option.some.injEq] at hk
      subst hk
      rcases h4 with hat | rfl
      · exact hxn g hat e
      · have := (hx.lt _ e).2
        simp at this
        omega
  rw [List.length_append, List.length_singleton] at hi
  by_cases h' : i < D.length
  · rw [nthU_append_left h']
    have e : (rvs ++ [rv]).getD i undef = rvs.getD i undef := by simp [List.getD, List.getElem?_append, hl, h']
    rw [e]
    exact key _ _ (hp i h').1 (hp i h').2
  · have : i = D.length := by omega
    subst this
    rw [nthU_append_here]
    have e : (rvs ++ [rv]).getD D.length undef = rv := by simp [List.getD, ← hl]
    rw [e]
    exact key _ _ hr hne
theorem ownV_one {w : World} {B : Nat} {v : Value} {xs : List (Int × Int)} (h : OwnV w B v xs) : v.oneCell' = true := by
  rcases owns_form h with ⟨rfl, _⟩ | ⟨g, cap, rfl, _⟩ <;> rfl
end Go.Proofs.YtnhcgpkcmfelkaaGreat
