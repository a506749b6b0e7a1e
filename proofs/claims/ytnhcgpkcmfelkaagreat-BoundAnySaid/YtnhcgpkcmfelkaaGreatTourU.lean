/-
  My own work: good stops cut in tours, plainly: the tours laid behind each other are the stops, and none is empty.
-/
import Derived.Test.YtnhcgpkcmfelkaaGreatMTour
namespace Go.Proofs.YtnhcgpkcmfelkaaGreat
open Go.RowKit
set_option linter.unusedVariables false
set_option maxRecDepth 100000

/-- The tours laid behind each other are xs; none is empty. -/
structure Cut (T : List (List (Int × Int))) (xs : List (Int × Int)) : Prop where
  flat : T.flatten = xs
  some : ∀ r ∈ T, r ≠ []
theorem Cut.nil : Cut [] [] := ⟨rfl, by simp⟩
theorem Cut.new {T : List (List (Int × Int))} {xs : List (Int × Int)} (h : Cut T xs) (p : Int × Int) : Cut (T ++ [[p]]) (xs ++ [p]) := by
  refine ⟨by rw [List.flatten_append, h.flat]; simp, fun r hr => ?_⟩
  rcases List.mem_append.1 hr with hr | hr
  · exact h.some r hr
  · simp at hr; subst hr; simp
theorem Cut.more {T0 : List (List (Int × Int))} {r : List (Int × Int)} {xs : List (Int × Int)} (h : Cut (T0 ++ [r]) xs) (p : Int × Int) : Cut (T0 ++ [r ++ [p]]) (xs ++ [p]) := by
  obtain ⟨hf, hs⟩ := h
  refine ⟨by rw [← hf]; simp [List.flatten_append], fun q hq => ?_⟩
  rcases List.mem_append.1 hq with hq | hq
  · exact hs q (List.mem_append_left _ hq)
  · simp at hq; subst hq; simp
theorem cut_len {T : List (List (Int × Int))} {xs : List (Int × Int)} (h : Cut T xs) : T.length ≤ xs.length := by
  obtain ⟨hf, hs⟩ := h
  subst hf
  induction T with
  | nil => simp
  | cons r T ih =>
    have h1 := ih (fun q hq => hs q (List.mem_cons_of_mem _ hq))
    have h2 := List.length_pos_iff.2 (hs r (by simp))
    simp at h1 ⊢
    omega
theorem cut_last {T : List (List (Int × Int))} (h : 0 < T.length) : T = T.take (T.length - 1) ++ [nthT T (T.length - 1)] := by
  have e : nthT T (T.length - 1) = T[T.length - 1]'(by omega) := by simp [nthT, show T.length - 1 < T.length by omega]
  rw [e, ← List.take_succ_eq_append_getElem (by omega), show T.length - 1 + 1 = T.length by omega, List.take_length]
theorem cut_sub {T : List (List (Int × Int))} {xs : List (Int × Int)} (h : Cut T xs) {r : List (Int × Int)} (hr : r ∈ T) : r.Sublist xs := by
  rw [← h.flat]; exact List.sublist_flatten_of_mem hr
theorem nthT_mem {T : List (List (Int × Int))} {i : Nat} (h : i < T.length) : nthT T i ∈ T := by
  have : nthT T i = T[i] := by simp [nthT, h]
  rw [this]; exact List.getElem_mem h
theorem nth_get (c : List Int) (k : Nat) (h : k < c.length) : nth c k = c[k] := by simp [nth, h]
/-- A tour of good stops is a tour of customers that are there, each once. -/
theorem cut_ok {cm : Nat} {G : List (Int × Int)} {T : List (List (Int × Int))} (hG : GoodStops cm G) (h : Cut T G) {i : Nat} (hi : i < T.length) :
    TourOk (cm + 1) ((nthT T i).map (·.1)) ∧ (nthT T i).length ≤ 6 := by
  have hm := nthT_mem hi
  have hs := cut_sub h hm
  have hnd : ((nthT T i).map (·.1)).Nodup := (hs.map (·.1)).nodup hG.once
  refine ⟨⟨?_, fun k hk => ?_, fun k hk e => ?_⟩, Nat.le_trans hs.length_le hG.six⟩
  · rw [List.length_map]; exact List.length_pos_iff.2 (h.some _ hm)
  · rw [nth_get _ _ hk]
    have : ((nthT T i).map (·.1))[k] ∈ (nthT T i).map (·.1) := List.getElem_mem hk
    obtain ⟨p, hp, he⟩ := List.mem_map.1 this
    have := hG.range p (hs.subset hp)
    rw [← he]
    omega
  · rw [nth_get _ _ (by omega), nth_get _ _ hk] at e
    have := (List.getElem_inj hnd).1 e
    omega
end Go.Proofs.YtnhcgpkcmfelkaaGreat
