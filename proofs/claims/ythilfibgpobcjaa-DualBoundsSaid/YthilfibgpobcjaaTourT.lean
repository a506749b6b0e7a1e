/-
  My own work: a slice of tours of the call's own (each a slice of stops of its own, in a block of its own).
-/
import Derived.Test.YthilfibgpobcjaaTourB
namespace Go.Proofs.Ythilfibgpobcjaa
open Go.RowKit
set_option linter.unusedVariables false

def nthT (T : List (List (Int × Int))) (i : Nat) : List (Int × Int) := T.getD i []
theorem nthT_append_left {T : List (List (Int × Int))} {r : List (Int × Int)} {i : Nat} (h : i < T.length) : nthT (T ++ [r]) i = nthT T i := by simp [nthT, List.getElem?_append, h]
theorem nthT_append_here {T : List (List (Int × Int))} {r : List (Int × Int)} : nthT (T ++ [r]) T.length = r := by simp [nthT]

/-- The tours' slice v holds the rows T; rvs are the rows' values. -/
structure OwnT (E : TypeId) (w : World) (B : Nat) (v : Value) (T : List (List (Int × Int))) (rvs : List Value) : Prop where
  len : rvs.length = T.length
  outer : w.ownsRow B 40 1 v T.length rvs
  row : ∀ i, i < T.length → OwnP2 E w B (rvs.getD i undef) (nthT T i)
  off : ∀ i, i < T.length → ∀ k, v.ownBlock = some k → (rvs.getD i undef).ownBlock ≠ some k
  apart : ∀ i j, i < T.length → j < T.length → i ≠ j → ∀ k, (rvs.getD i undef).ownBlock = some k → (rvs.getD j undef).ownBlock ≠ some k
theorem OwnT.nil (E : TypeId) (w : World) (B : Nat) : OwnT E w B (.slice none 0 0) [] [] :=
  ⟨rfl, World.ownsRow_nil _ _ _ _, fun i hi => absurd hi (by simp), fun i hi => absurd hi (by simp), fun i j hi => absurd hi (by simp)⟩

theorem OwnT.mono {E : TypeId} {w : World} {B B' : Nat} {v : Value} {T : List (List (Int × Int))} {rvs : List Value} (h : OwnT E w B v T rvs) (hB : B' ≤ B) : OwnT E w B' v T rvs :=
  ⟨h.len, owns_mono h.outer hB, fun i hi => (h.row i hi).mono hB, h.off, h.apart⟩
/-- A block below is turned: the tours stay. -/
theorem OwnT.kept {E : TypeId} {w w' : World} {B g : Nat} {v : Value} {T : List (List (Int × Int))} {rvs : List Value} (h : OwnT E w B v T rvs) (hg : w.grownBy w' (some g)) (hB : g < B) : OwnT E w' B v T rvs := by
  refine ⟨h.len, World.ownsRow.kept h.outer hg ?_, fun i hi => (h.row i hi).kept hg ((h.row i hi).not hB), h.off, h.apart⟩
  cases hv : v.ownBlock with
  | none => exact .inl rfl
  | some k => exact .inr (fun e => by have := (World.ownsRow.lt h.outer k hv).1; simp at e; omega)

/-- Behind 'd.Tours = append(d.Tours, api.Tour{})': a new tour without stops. -/
theorem OwnT.pushed {E : TypeId} {w w' : World} {B : Nat} {v : Value} {T : List (List (Int × Int))} {rvs : List Value} {g c : Nat} (h : OwnT E w B v T rvs)
    (h1 : w'.ownsRow B 40 1 (.slice (some ⟨g, 0, none⟩) (T.length + 1) c) (T.length + 1) (rvs ++ [.slice none 0 0])) (hg : w.grownBy w' v.ownBlock) (hat : v.ownBlock = some g ∨ w.heap.size ≤ g) :
    OwnT E w' B (.slice (some ⟨g, 0, none⟩) (T.length + 1) c) (T ++ [[]]) (rvs ++ [.slice none 0 0]) := by
  obtain ⟨hl, ho, hr, hoff, hap⟩ := h
  have e0 : ∀ i, i < T.length → (rvs ++ [Value.slice none 0 0]).getD i undef = rvs.getD i undef := fun i hi => by simp [List.getD, List.getElem?_append, hl, hi]
  have e1 : (rvs ++ [Value.slice none 0 0]).getD T.length undef = .slice none 0 0 := by simp [List.getD, ← hl]
  refine ⟨by simp [hl], by simpa using h1, fun i hi => ?_, fun i hi k hk => ?_, fun i j hi hj hij k hk => ?_⟩
  · rw [List.length_append, List.length_singleton] at hi
    by_cases h' : i < T.length
    · rw [nthT_append_left h', e0 i h']
      refine (hr i h').kept hg ?_
      cases hv : v.ownBlock with
      | none => cases (rvs.getD i undef).ownBlock <;> simp
      | some k => exact .inr (hoff i h' k hv)
    · have : i = T.length := by omega
      subst this
      rw [nthT_append_here, e1]
      exact OwnP2.nil _ _ _
  · rw [List.length_append, List.length_singleton] at hi
    simp only [Value.ownBlock, Option.some.injEq] at hk
    subst hk
    by_cases h' : i < T.length
    · rw [e0 i h']
      rcases hat with hat | hat
      · exact hoff i h' g hat
      · intro e
        have := ((hr i h').lt _ e).2
        omega
    · have : i = T.length := by omega
      subst this
      rw [e1]; simp [Value.ownBlock]
  · rw [List.length_append, List.length_singleton] at hi hj
    by_cases h' : i < T.length
    · rw [e0 i h'] at hk
      by_cases h'' : j < T.length
      · rw [e0 j h'']; exact hap i j h' h'' hij k hk
      · have : j = T.length := by omega
        subst this
        rw [e1]; simp [Value.ownBlock]
    · have : i = T.length := by omega
      subst this
      rw [e1] at hk
      simp [Value.ownBlock] at hk

theorem nthT_set_here {T : List (List (Int × Int))} {k : Nat} {r : List (Int × Int)} (h : k < T.length) : nthT (T.set k r) k = r := by simp [nthT, h]
theorem nthT_set_other {T : List (List (Int × Int))} {k i : Nat} {r : List (Int × Int)} (h : i ≠ k) : nthT (T.set k r) i = nthT T i := by
  simp [nthT, show ¬ k = i from fun e => h e.symm]
theorem getD_set_here {rvs : List Value} {k : Nat} {x : Value} (h : k < rvs.length) : (rvs.set k x).getD k undef = x := by simp [List.getD, h]
theorem getD_set_other {rvs : List Value} {k i : Nat} {x : Value} (h : i ≠ k) : (rvs.set k x).getD i undef = rvs.getD i undef := by
  simp [List.getD, show ¬ k = i from fun e => h e.symm]
/-- Behind 'd.Tours[k].Stops = append(d.Tours[k].Stops, p)': the k-th tour has a stop more. -/
theorem OwnT.moved {E : TypeId} {w w1 : World} {B g n cap g1 m c : Nat} {T : List (List (Int × Int))} {rvs : List Value} {k : Nat} {r : List (Int × Int)} (h : OwnT E w B (.slice (some ⟨g, 0, none⟩) n cap) T rvs) (hn : n = T.length) (hk : k < T.length)
    (h1 : OwnP2 E w1 B (.slice (some ⟨g1, 0, none⟩) m c) r) (hg : w.grownBy w1 (rvs.getD k undef).ownBlock) (hat : (rvs.getD k undef).ownBlock = some g1 ∨ w.heap.size ≤ g1) :
    OwnT E (w1.setCell ⟨g, k, none⟩ (.slice (some ⟨g1, 0, none⟩) m c)) B (.slice (some ⟨g, 0, none⟩) n cap) (T.set k r) (rvs.set k (.slice (some ⟨g1, 0, none⟩) m c)) := by
  subst hn
  obtain ⟨hl, ho, hr, hoff, hap⟩ := h
  have hgo : g < w.heap.size := (World.ownsRow.lt ho g rfl).2
  have ho1 : w1.ownsRow B 40 1 (.slice (some ⟨g, 0, none⟩) T.length cap) T.length rvs := World.ownsRow.kept ho hg (.inr (fun e => hoff k hk g rfl e.symm))
  obtain ⟨ho2, hg2⟩ := World.ownsRow.stored ho1 k (.slice (some ⟨g1, 0, none⟩) m c)
  have hne1 : g1 ≠ g := by
    intro e
    subst e
    rcases hat with e | e
    · exact hoff k hk g1 rfl e
    · omega
  have hkl : k < rvs.length := by omega
  refine ⟨by simp [hl], by simpa using ho2, fun i hi => ?_, fun i hi j hj => ?_, fun i j hi hj hij q hq => ?_⟩
  · rw [List.length_set] at hi
    by_cases e : i = k
    · subst e
      rw [nthT_set_here hk, getD_set_here hkl]
      exact h1.kept hg2 (.inr (by simp [Value.ownBlock, hne1]))
    · rw [nthT_set_other e, getD_set_other e]
      refine OwnP2.kept ((hr i hi).kept hg ?_) hg2 ?_
      · cases hv : (rvs.getD i undef).ownBlock with
        | none => exact .inl rfl
        | some x => exact .inr (fun e2 => hap i k hi hk e x hv e2.symm)
      · exact .inr (hoff i hi g rfl)
  · rw [List.length_set] at hi
    simp only [Value.ownBlock, Option.some.injEq] at hj
    subst hj
    by_cases e : i = k
    · subst e
      rw [getD_set_here hkl]
      simp [Value.ownBlock, hne1]
    · rw [getD_set_other e]
      exact hoff i hi g rfl
  · rw [List.length_set] at hi hj
    have old : ∀ i, i < T.length → i ≠ k → (rvs.getD i undef).ownBlock ≠ some g1 := by
      intro i hi e hv
      rcases hat with e2 | e2
      · exact hap i k hi hk e g1 hv e2
      · have := ((hr i hi).lt _ hv).2
        omega
    by_cases e : i = k
    · subst e
      rw [getD_set_here hkl] at hq
      simp only [Value.ownBlock, Option.some.injEq] at hq
      subst hq
      rw [getD_set_other (fun e => hij e.symm)]
      exact old j hj (fun e => hij e.symm)
    · rw [getD_set_other e] at hq
      by_cases e2 : j = k
      · subst e2
        rw [getD_set_here hkl]
        simp only [Value.ownBlock]
        intro e3
        exact old i hi e (by rw [hq, e3])
      · rw [getD_set_other e2]
        exact hap i j hi hj hij q hq
end Go.Proofs.Ythilfibgpobcjaa
