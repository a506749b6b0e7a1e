/-
  My own work: the walk of DrawRows.
-/
import Derived.Test.YthnkjlcdjjhloaaRow
namespace Go.Proofs.Ythnkjlcdjjhloaa
open Go.RowKit
set_option linter.unusedVariables false

/-- A slice of bools of the call's own. -/
def OwnBs (w : World) (B : Nat) (v : Value) (bs : List Bool) : Prop := w.ownsRow B 4 1 v bs.length (bs.map Value.bool)
theorem OwnBs.kept {w w' : World} {B : Nat} {v : Value} {xs : List Bool} {r : Option Nat} (h : OwnBs w B v xs) (hg : w.grownBy w' r) (hne : v.ownBlock = none ∨ v.ownBlock ≠ r) : OwnBs w' B v xs := World.ownsRow.kept h hg hne
theorem OwnBs.out {w : World} {B g n c : Nat} {bs : List Bool} (h : OwnBs w B (.slice (some ⟨g, 0, none⟩) n c) bs) {i : Nat} (hi : i < bs.length) :
    w.cell? ⟨g, i, none⟩ = some (.bool (bs.getD i false)) ∧ w.frozen? ⟨g, i, none⟩ = false := by
  have hc := World.ownsRow.cells h (g := g) rfl i (.bool (bs.getD i false)) (by rw [List.getElem?_map, List.getElem?_eq_getElem hi]; simp [hi])
  have ha : (⟨g, 0, none⟩ : Addr).add i = ⟨g, 0 + i, none⟩ := by unfold Addr.add; split <;> simp_all
  rw [ha, Nat.zero_add] at hc
  obtain ⟨h1, h2⟩ := h
  rcases h2 with ⟨h0, _⟩ | ⟨g', cap, cur, hv, hb, hg, _⟩
  · simp at h0
  · simp only [Value.slice.injEq, Option.some.injEq, Addr.mk.injEq, and_true] at hv
    obtain ⟨rfl, _⟩ := hv
    exact ⟨hc, by simp [World.frozen?, hg]⟩
theorem OwnBs.set {w : World} {B g n c : Nat} {xs : List Bool} (h : OwnBs w B (.slice (some ⟨g, 0, none⟩) n c) xs) (i : Nat) (y : Bool) (hi : i < xs.length) :
    OwnBs (w.setCell ⟨g, i, none⟩ (.bool y)) B (.slice (some ⟨g, 0, none⟩) n c) (xs.set i y) := by
  obtain ⟨h1, h2⟩ := h
  refine ⟨by simp, ?_⟩
  rcases h2 with ⟨h0, _⟩ | ⟨g', cap, cur, hv, hb, hg, h3, h4, h5, h6⟩
  · simp at h0
  · simp only [Value.slice.injEq, Option.some.injEq, Addr.mk.injEq, and_true] at hv
    obtain ⟨rfl, rfl, rfl⟩ := hv
    refine .inr ⟨g, c, cur.setIfInBounds i (.bool y), by simp, hb, ?_, by simpa using h3, h4, by simpa using h5, ?_⟩
    · simp only [World.setCell, Array.getElem?_modify]
      simp [hg]
    · simp only [Array.toList_setIfInBounds, List.length_set, Nat.mul_one] at h6 ⊢
      rw [List.take_set, h6, List.map_set]
theorem ownBs_made (w' : World) (B g N : Nat) (h : w'.ownsRow B 4 1 (.slice (some ⟨g, 0, none⟩) N N) N (madeCells #[Value.bool false] N).toList) : OwnBs w' B (.slice (some ⟨g, 0, none⟩) N N) (List.replicate N false) := by
  unfold OwnBs
  rw [List.length_replicate]
  rw [toList_madeCells_one] at h
  rw [List.map_replicate]
  exact h
theorem info_bool : (Try.prog.info? 4).map (fun i => (i.zero, i.size, i.bytes)) = some (some (.bool false), 1, 1) := by kernel_rfl

set_option maxHeartbeats 1600000 in
theorem drawRows_none (seed n : Int) (w : World) (hn : n < 1) :
    Calls Try.prog 7 #[.int .i64 seed, .int .i64 n] w fun e w' => e = .returned (.bool true) ∧ Below w.heap.size w w' := by
  go_enter Try.func7, Try.ntmps7
  go_wp2_with fail
  refine (new_is seed _).mono ?_
  rintro e wa ⟨rfl, ha, hba⟩
  have la := ha.lt
  go_wp2_with fail
  refine (below_no w.heap.size n wa hn).mono ?_
  rintro e w' ⟨rfl, rfl⟩
  go_wp2_with fail
  refine (row_is w.heap.size _ n wa ha).mono ?_
  rintro e w2 ⟨v, s', xs, rfl, hs2, hown, hrow, hg⟩
  have hl : xs.length = 0 := by rw [hrow.len]; unfold clipI; omega
  obtain ⟨aa, na, ca, rfl, hna, _, _⟩ := hown.ints.open
  rw [hl] at hna
  subst hna
  have hb2 := hba.grown hg (by omega) (fun k hk => by simp at hk; omega)
  have l2 := hb2.size
  clear hown hrow hl hg hs2 ha hba
  go_wp2_with fail
  refine (lives04_is _).mono ?_
  rintro e w7 ⟨rfl, hb7⟩
  go_wp2_with fail
  go_ret
  exact ⟨rfl, hb2.trans (hb7.mono (by omega))⟩

set_option maxHeartbeats 1600000 in
theorem drawRows_some (seed n : Int) (w : World) (hwf : (Lit.int .i64 n).wf = true) (hn : 1 ≤ n) :
    Calls Try.prog 7 #[.int .i64 seed, .int .i64 n] w fun e w' => e = .returned (.bool true) ∧ Below w.heap.size w w' := by
  have Hwf := Lib.hid hwf
  clear hwf
  have h1 : 1 ≤ n := hn
  clear hn
  obtain ⟨ii, hi, hz, hsi, hby⟩ := info_parts info_bool
  go_enter Try.func7, Try.ntmps7
  go_wp2_with fail
  refine (new_is seed _).mono ?_
  rintro e wa ⟨rfl, ha, hba⟩
  have la := ha.lt
  go_wp2_with fail
  refine (below_any w.heap.size _ n wa ha h1 (wf_i64 Hwf.out).2).mono ?_
  rintro e w1 ⟨x, s1, rfl, hx1, hx2, hs1, hg1⟩
  have hb1 := hba.grown hg1 (by omega) (fun k hk => by simp at hk; omega)
  have l1 := hb1.size
  clear ha hba hg1
  go_wp2_with fail
  have hd1 := Int.emod_nonneg n (b := 301) (by omega)
  have hd2 := Int.emod_lt_of_pos n (b := 301) (by omega)
  obtain ⟨N, hN⟩ := Int.eq_ofNat_of_zero_le hd1
  refine (row_is w.heap.size _ _ w1 hs1).mono ?_
  rintro e w2 ⟨v, s', xs, rfl, hs2, hown, hrow, hg⟩
  have hclip : (clipI (n % 301) 0 10000).toNat = N := by unfold clipI; omega
  rw [hclip] at hrow
  obtain ⟨aa, na, ca, rfl, hna, _, hcell⟩ := hown.ints.open
  rw [hrow.len] at hna
  subst hna
  rw [hN]
  have hb2 := hb1.grown hg (by omega) (fun k hk => by simp at hk; omega)
  have l2 := hb2.size
  have hN300 : N ≤ 300 := by omega
  have Hrow := Lib.hid hrow
  have Hcell := Lib.hid hcell
  clear hown hrow hg hs2 hclip hcell hd1 hd2 hN hs1
  go_wp2_with (at_make; refine wpList_make_full _ rfl _ _ 43 rfl w2.heap.size 4 ii (.bool false) 1 Try.underlying43 hi hz hsi _ _ _ _ N rfl rfl rfl rfl (by rw [hby]; omega) (by simp only [maxLen]; omega) (Nat.le_refl _) ?_)
  intro w3 hown0 hg3
  have hown := ownBs_made w3 _ _ _ hown0
  have hb3 := (Below.refl w2.heap.size w2).grown hg3 (Nat.le_refl _) (by simp)
  clear hown0 hg3 hi hz hsi hby
  go_wp2_with fail
  go_loopw [9] (fun i wr => ∃ (k : Nat) (bs : List Bool), k ≤ N ∧ i = .int .i64 k ∧ OwnBs wr w2.heap.size (.slice (some ⟨w2.heap.size, 0, none⟩) N N) bs ∧ bs.length = N ∧ (∀ y, y < N → bs.getD y false = true → ∃ j, j < k ∧ nth xs j = y) ∧ Below w2.heap.size w2 wr) (fun i _ => N - (intOf i).toNat)
  case atStart => exact ⟨0, _, Nat.zero_le _, rfl, hown, by simp, fun y hy h => by simp [hy] at h, hb3⟩
  case round =>
    clear hown hb3
    obtain ⟨k, bs, hk, rfl, hown, hl, hall, hb⟩ := hrel
    have Hall := Lib.hid hall
    have Hl := Lib.hid hl
    by_cases hlt : k < N
    · obtain ⟨b, o, rfl, hc0⟩ := Hcell.out k hlt
      have hc := cell_below hb hc0
      obtain ⟨hr1, hr2⟩ := Hrow.out.bd k hlt
      obtain ⟨y, hy⟩ := Int.eq_ofNat_of_zero_le hr1
      have hyN : y < N := by omega
      rw [hy] at hc
      obtain ⟨f0, f1⟩ := hown.out (i := y) (by omega)
      have hno : bs.getD y false = false := by
        cases hv : bs.getD y false with
        | false => rfl
        | true =>
          obtain ⟨j, hj, hje⟩ := hall y hyN hv
          have := Hrow.out.inj j k (by omega) hlt (by rw [hje, hy])
          omega
      rw [hno] at f0
      have Hset := Lib.hid (hown.set y true (by omega))
      have hy0 : (0 : Int) ≤ (y : Int) := by omega
      have hy1 : (y : Int) < (N : Int) := by omega
      have Hy := Lib.hid hy
      clear hc0 hown hall hl hno hr1 hr2 hy
      go_wp2_with fail
      go_roundw
      case rel =>
        refine ⟨k + 1, _, by omega, by go_num, Hset.out, by rw [List.length_set]; exact Hl.out, fun z hz hzt => ?_, hb.setCell (Nat.le_refl _) _⟩
        by_cases e : y = z
        · subst e; exact ⟨k, by omega, Hy.out⟩
        · have : bs.getD z false = true := by
            rw [List.getD_eq_getElem?_getD, List.getElem?_set] at hzt
            rw [if_neg e] at hzt
            rw [List.getD_eq_getElem?_getD]; exact hzt
          obtain ⟨j, hj, hje⟩ := Hall.out z hz this
          exact ⟨j, by omega, hje⟩
      case measure => simp [intOf]; omega
    · clear hall hl hown
      go_wp2_with fail
      refine (lives04_is _).mono ?_
      rintro e w7 ⟨rfl, hb7⟩
      go_wp2_with fail
      go_ret
      have l3 := hb.size
      exact ⟨rfl, (hb2.trans (hb.mono l2)).trans (hb7.mono (by omega))⟩

theorem drawRows_walk (seed n : Int) (w : World) (hwf : (Lit.int .i64 n).wf = true) :
    Calls Try.prog 7 #[.int .i64 seed, .int .i64 n] w fun e w' => e = .returned (.bool true) ∧ Below w.heap.size w w' := by
  by_cases hn : n < 1
  · exact drawRows_none seed n w hn
  · exact drawRows_some seed n w hwf (by omega)
end Go.Proofs.Ythnkjlcdjjhloaa
