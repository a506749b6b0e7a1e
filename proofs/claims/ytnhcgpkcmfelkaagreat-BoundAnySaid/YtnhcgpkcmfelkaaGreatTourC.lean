/-
  My own work: tranterref12.Tours: its contract (draft).
-/
import Derived.Test.YtnhcgpkcmfelkaaGreatTourU
import Derived.Deep.DrawnRows
namespace Go.Proofs.YtnhcgpkcmfelkaaGreat
open Go.RowKit
set_option linter.unusedVariables false
set_option maxRecDepth 100000
attribute [local go_sem ↓] Go.wp_at_zero Go.wp_at_succ

def Bools (w : World) (v : Value) (bs : List Bool) : Prop :=
  ∃ (a : Option Addr) (n c : Nat), v = .slice a n c ∧ bs.length = n ∧ ∀ i, i < n → ∃ b o, a = some ⟨b, o, none⟩ ∧ w.cell? ⟨b, o + i, none⟩ = some (.bool (bs.getD i false))
theorem Bools.below {w w' : World} {v : Value} {bs : List Bool} (h : Bools w v bs) (hb : Below w.heap.size w w') : Bools w' v bs := by
  obtain ⟨a, n, c, rfl, hn, hc⟩ := h
  refine ⟨a, n, c, rfl, hn, fun i hi => ?_⟩
  obtain ⟨b, o, ha, g0⟩ := hc i hi
  exact ⟨b, o, ha, cell_below hb g0⟩
def ToursOut (cm : Nat) (w : World) (e : Ending) (w' : World) : Prop :=
  ∃ tv G T rvs, e = .returned (.agg #[tv]) ∧ GoodStops cm G ∧ Cut T G ∧ OwnT 78 w' w.heap.size tv T rvs ∧ Below w.heap.size w w'

/-- Ahead of 'd.Tours[k].Stops = append(..)': there is a tour to append to. -/
def TourSt (G : List (Int × Int)) (gv : Value) (B0 k B gd : Nat) (wg wx : World) : Prop :=
  ∃ (tv : Value) (T : List (List (Int × Int))) (rvs : List Value), wx.cell? ⟨gd, 0, none⟩ = some tv ∧ wx.frozen? ⟨gd, 0, none⟩ = false ∧ 0 < T.length ∧ T.length ≤ k + 1 ∧ OwnT 78 wx B tv T rvs ∧ Below gd wg wx ∧ wg.heap.size ≤ wx.heap.size ∧
    OwnP2 78 wx B0 gv G ∧ ∀ p, Cut (T.set (T.length - 1) (nthT T (T.length - 1) ++ [p])) (G.take k ++ [p])
theorem owns_free {w : World} {B : Nat} {E : TypeId} {sz n g c : Nat} {xs : List Value} (h : w.ownsRow B E sz (.slice (some ⟨g, 0, none⟩) n c) n xs) (j : Nat) : w.frozen? ⟨g, j, none⟩ = false := by
  rcases h.2 with ⟨h0, _⟩ | ⟨g', cap, cur, hv, hb, hg, _⟩
  · simp at h0
  · simp only [Value.slice.injEq, Option.some.injEq, Addr.mk.injEq, and_true] at hv
    obtain ⟨rfl, _⟩ := hv
    simp [World.frozen?, hg]
theorem grown_drew {a b : World} {r : Option Nat} (h : a.grownBy b r) : a.grownBy b.drew r := ⟨h.os, h.tape, h.output, h.size, h.block⟩
theorem set_last (T0 : List (List (Int × Int))) (r q : List (Int × Int)) : (T0 ++ [r]).set ((T0 ++ [r]).length - 1) q = T0 ++ [q] := by
  simp
theorem tourSt_old {T : List (List (Int × Int))} {xs : List (Int × Int)} (h : Cut T xs) (h0 : 0 < T.length) (p : Int × Int) : Cut (T.set (T.length - 1) (nthT T (T.length - 1) ++ [p])) (xs ++ [p]) := by
  have e := cut_last h0
  generalize nthT T (T.length - 1) = r at *
  generalize T.take (T.length - 1) = T0 at *
  subst e
  rw [set_last]
  exact h.more p
theorem tourSt_new {T : List (List (Int × Int))} {xs : List (Int × Int)} (h : Cut T xs) (p : Int × Int) : Cut ((T ++ [[]]).set ((T ++ [[]]).length - 1) (nthT (T ++ [[]]) ((T ++ [[]]).length - 1) ++ [p])) (xs ++ [p]) := by
  rw [set_last]
  have e : nthT (T ++ [[]]) ((T ++ [[]]).length - 1) = [] := by simp [nthT]
  rw [e]
  exact h.new p

/-- The world behind the store of the k-th tour. -/
theorem tour_step {wg w5 w5' w6 : World} {B0 gd tg m tcap g6 cap6 k n c : Nat} {gad : Option Addr} {rv : Value} {T1 : List (List (Int × Int))} {rvs1 : List Value} {r G : List (Int × Int)} {P Q : Int}
    (hG : OwnP2 78 wg B0 (.slice gad n c) G) (hT : OwnT 78 w5 wg.heap.size (.slice (some ⟨tg, 0, none⟩) (m + 1) tcap) T1 rvs1) (hTn : T1.length = m + 1) (hrv : rv = rvs1.getD m undef) (hr : r = nthT T1 m) (hrow : OwnP2 78 w5 wg.heap.size rv r)
    (hb : Below gd wg w5) (hG1 : OwnP2 78 w5 B0 (.slice gad n c) G) (hcut : Cut (T1.set (T1.length - 1) (nthT T1 (T1.length - 1) ++ [(P, Q)])) (G.take k ++ [(P, Q)])) (hst : G.take (k + 1) = G.take k ++ [(P, Q)]) (hgw : gd ≠ tg) (hgB : gd < wg.heap.size) (h37 : B0 ≤ wg.heap.size)
    (hs : wg.heap.size ≤ w5.heap.size) (k7 : w5.cell? ⟨gd, 0, none⟩ = some (.slice (some ⟨tg, 0, none⟩) (m + 1) tcap)) (l7 : w5.frozen? ⟨gd, 0, none⟩ = false) (hd : w5.grownBy w5' rv.ownBlock) (hds : w5.heap.size ≤ w5'.heap.size)
    (hrow6 : w6.ownsRow wg.heap.size 78 2 (.slice (some ⟨g6, 0, none⟩) (r.length + 1) cap6) (r.length + 1) (flatP r ++ [.int .i64 P, .int .i64 Q])) (hg6 : w5'.grownBy w6 rv.ownBlock) (hat6 : rv.ownBlock = some g6 ∨ g6 = w5'.heap.size) :
    ∃ (tv : Value) (T : List (List (Int × Int))) (rvs : List Value), (w6.setCell ⟨tg, m, none⟩ (.slice (some ⟨g6, 0, none⟩) (r.length + 1) cap6)).cell? ⟨gd, 0, none⟩ = some tv ∧ (w6.setCell ⟨tg, m, none⟩ (.slice (some ⟨g6, 0, none⟩) (r.length + 1) cap6)).frozen? ⟨gd, 0, none⟩ = false ∧
      OwnT 78 (w6.setCell ⟨tg, m, none⟩ (.slice (some ⟨g6, 0, none⟩) (r.length + 1) cap6)) wg.heap.size tv T rvs ∧ Cut T (G.take (k + 1)) ∧ OwnP2 78 (w6.setCell ⟨tg, m, none⟩ (.slice (some ⟨g6, 0, none⟩) (r.length + 1) cap6)) B0 (.slice gad n c) G ∧
      Below gd wg (w6.setCell ⟨tg, m, none⟩ (.slice (some ⟨g6, 0, none⟩) (r.length + 1) cap6)) ∧ wg.heap.size ≤ (w6.setCell ⟨tg, m, none⟩ (.slice (some ⟨g6, 0, none⟩) (r.length + 1) cap6)).heap.size := by
  have hg56 : w5.grownBy w6 rv.ownBlock := grownBy_trans hd hg6
  have htl : wg.heap.size ≤ tg := (World.ownsRow.lt hT.outer tg rfl).1
  have hne7 : some gd ≠ rv.ownBlock := fun e => by have := (hrow.lt _ e.symm).1; omega
  have lt7 : gd < w5.heap.size := by omega
  have hP6 : OwnP2 78 w6 wg.heap.size (.slice (some ⟨g6, 0, none⟩) (r.length + 1) cap6) (r ++ [(P, Q)]) := by simpa [OwnP2, flatP_snoc] using hrow6
  have hmv := hT.moved hTn.symm (by rw [hTn]; exact Nat.lt_succ_self m) hP6 (by rw [← hrv]; exact hg56) (by rw [← hrv]; exact hat6.imp id (fun e => by rw [e]; exact hds))
  have hgS := grownBy_setCell w6 ⟨tg, m, none⟩ (.slice (some ⟨g6, 0, none⟩) (r.length + 1) cap6)
  refine ⟨_, _, _, (World.cell?_setCell_other _ _ _ _ (fun e => ?_)).trans (hg56.cell k7 hne7), (World.frozen?_setCell _ _ _ _).trans (frozen_grown hg56 lt7 hne7 l7), hmv, ?_, ?_, (hb.grown hg56 (by omega) (fun q hq => by have := (hrow.lt q hq).1; omega)).setCell (p := ⟨tg, m, none⟩) (show gd ≤ tg by omega) _, ?_⟩
  · first | exact hgw (congrArg Addr.block e) | exact hgw (congrArg Addr.block e).symm
  · rw [hst]
    rw [hTn, show m + 1 - 1 = m by omega, ← hr] at hcut
    exact hcut
  · refine (hG1.kept hg56 ?_).kept hgS ?_
    · cases hv : (Value.slice gad n c).ownBlock with
      | none => exact .inl rfl
      | some q => exact .inr (fun e => by have h1 := (hG.lt q hv).2; have h2 := (hrow.lt q e.symm).1; omega)
    · cases hv : (Value.slice gad n c).ownBlock with
      | none => exact .inl rfl
      | some q => exact .inr (fun e => by have h1 := (hG.lt q hv).2; simp only [Option.some.injEq] at e; omega)
  · have := hg56.size
    simp [World.setCell]
    omega

end Go.Proofs.YtnhcgpkcmfelkaaGreat
