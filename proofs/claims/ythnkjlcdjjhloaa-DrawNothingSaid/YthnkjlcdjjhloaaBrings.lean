/-
  My own work: stock.Brings: its contract.
-/
import Derived.Test.YthnkjlcdjjhloaaVisits
namespace Go.Proofs.Ythnkjlcdjjhloaa
open Go.RowKit
set_option linter.unusedVariables false

/-- One visit more. -/
def bring (acc : List Int) (p : Int × Int) : List Int := if 0 ≤ p.1 ∧ p.1 < acc.length then acc.set p.1.toNat (satI (nth acc p.1.toNat) p.2) else acc
def bringsTo (xs : List (Int × Int)) (N : Nat) (k : Nat) : List Int := (xs.take k).foldl bring (List.replicate N 0)
def bringsOf (xs : List (Int × Int)) (N : Nat) : List Int := xs.foldl bring (List.replicate N 0)
theorem bringsTo_succ (xs : List (Int × Int)) (N k : Nat) (h : k < xs.length) : bringsTo xs N (k + 1) = bring (bringsTo xs N k) (nthV xs k) := by
  unfold bringsTo; rw [takeV_succ xs k h, List.foldl_append]; rfl
theorem bring_len (acc : List Int) (p : Int × Int) : (bring acc p).length = acc.length := by unfold bring; split <;> simp
theorem foldl_bring_len (xs : List (Int × Int)) (acc : List Int) : (xs.foldl bring acc).length = acc.length := by
  induction xs generalizing acc with
  | nil => rfl
  | cons x xs ih => rw [List.foldl_cons, ih, bring_len]
theorem bringsTo_len (xs : List (Int × Int)) (N k : Nat) : (bringsTo xs N k).length = N := by unfold bringsTo; rw [foldl_bring_len]; simp
theorem bring_fits (acc : List Int) (p : Int × Int) (h : ∀ x ∈ acc, fitsI x = true) : ∀ x ∈ bring acc p, fitsI x = true := by
  unfold bring
  split
  · intro x hx
    rcases List.mem_or_eq_of_mem_set hx with h' | rfl
    · exact h x h'
    · exact satI_fits _ _
  · exact h
theorem bringsTo_fits (xs : List (Int × Int)) (N k : Nat) : ∀ x ∈ bringsTo xs N k, fitsI x = true := by
  unfold bringsTo
  generalize xs.take k = ys
  have : ∀ (ys : List (Int × Int)) (acc : List Int), (∀ x ∈ acc, fitsI x = true) → ∀ x ∈ ys.foldl bring acc, fitsI x = true := by
    intro ys
    induction ys with
    | nil => exact fun acc h => h
    | cons y ys ih => exact fun acc h => ih _ (bring_fits acc y h)
  refine this ys _ ?_
  intro x hx
  rw [List.eq_of_mem_replicate hx]
  decide

theorem own_made (w' : World) (B g N : Nat) (h : w'.ownsRow B 3 1 (.slice (some ⟨g, 0, none⟩) N N) N (madeCells #[Value.int .i64 0] N).toList) : Own w' B (.slice (some ⟨g, 0, none⟩) N N) (List.replicate N 0) := by
  unfold Own
  rw [List.length_replicate]
  rw [toList_madeCells_one] at h
  rw [List.map_replicate]
  exact h

set_option maxHeartbeats 1600000 in
theorem brings_is (vv : Value) (xs : List (Int × Int)) (m : Int) (w : World) (hv : Vis w vv xs) (hf : ∀ p ∈ xs, fitsI p.2 = true) :
    Calls Try.prog 30 #[vv, .int .i64 m] w fun e w' => ∃ v, e = .returned v ∧ Own w' w.heap.size v (bringsOf xs (clipI m 0 64).toNat) ∧ Below w.heap.size w w' := by
  obtain ⟨a, n, c, rfl, hn, hmax, hcell⟩ := hv.open
  have Hn := Lib.hid hn
  have Hcell := Lib.hid hcell
  have Hf := Lib.hid hf
  obtain ⟨N, hN⟩ : ∃ N : Nat, clipI m 0 64 = (N : Int) := ⟨(clipI m 0 64).toNat, by unfold clipI; omega⟩
  have hN64 : N ≤ 64 := by unfold clipI at hN; omega
  have HN := Lib.hid hN
  clear hn hcell hv hN hf
  obtain ⟨ii, hi, hz, hsi, hby⟩ := info_parts info_int
  go_enter Try.func30, Try.ntmps30
  go_wp2_with fail
  refine (clip_is m 0 64 w).mono ?_
  rintro e w' ⟨rfl, rfl⟩
  rw [HN.out]
  go_wp2_with (at_make; refine wpList_make_full _ rfl _ _ 32 rfl w.heap.size 3 ii (.int .i64 0) 1 Try.underlying32 hi hz hsi _ _ _ _ N rfl rfl rfl rfl (by rw [hby]; omega) (by simp only [maxLen]; omega) (Nat.le_refl _) ?_)
  intro w3 hown0 hg3
  have hown := own_made w3 _ _ _ hown0
  have hb3 := (Below.refl w.heap.size w).grown hg3 (Nat.le_refl _) (by simp)
  clear hown0 hg3 hi hz hsi hby
  generalize hg0 : w.heap.size = g at *
  have Hg0 := Lib.hid hg0
  clear hg0
  rw [show List.replicate N 0 = bringsTo xs N 0 from rfl] at hown
  go_wp2_with fail
  go_loopw [13] (fun i wr => ∃ (k : Nat), k ≤ n ∧ i = .int .i64 k ∧ Own wr g (.slice (some ⟨g, 0, none⟩) N N) (bringsTo xs N k) ∧ Below g w wr) (fun i _ => n - (intOf i).toNat)
  case atStart => exact ⟨0, Nat.zero_le _, rfl, hown, hb3⟩
  case round =>
    clear hown hb3
    obtain ⟨k, hk, rfl, hown, hb⟩ := hrel
    by_cases hlt : k < n
    · obtain ⟨b, o, rfl, hc1, hc2⟩ := Hcell.out k hlt
      have hbl := World.block_lt_of_cell? w _ hc1
      have hc := cell_lt hb (by rw [← Hg0.out]; exact hbl) hc1
      have hc' := cell_lt hb (by rw [← Hg0.out]; exact hbl) hc2
      have hgr : g ≤ wr.heap.size := by have := hb.size; rw [Hg0.out] at this; exact this
      have hqf : fitsI (nthV xs k).2 = true := Hf.out _ (by rw [nthV_lt (by rw [Hn.out]; exact hlt)]; exact List.getElem_mem _)
      have Hqf := Lib.hid hqf
      have hi0 : (0 : Int) ≤ (k : Int) := by omega
      have hi1 : (k : Int) < (n : Int) := by omega
      have Hst := Lib.hid (bringsTo_succ xs N k (by rw [Hn.out]; exact hlt))
      clear hc1 hc2 hqf hbl
      obtain ⟨w4, ew4, hb4, hs4, e0, e1⟩ : ∃ w4, wr.alloc (.cells #[.int .i64 (nthV xs k).1, .int .i64 (nthV xs k).2] 62) = w4 ∧ Below wr.heap.size wr w4 ∧ w4.heap.size = wr.heap.size + 1 ∧
          w4.cell? ⟨wr.heap.size, 0, none⟩ = some (.int .i64 (nthV xs k).1) ∧ w4.cell? ⟨wr.heap.size, 1, none⟩ = some (.int .i64 (nthV xs k).2) :=
        ⟨_, rfl, (Below.refl _ _).alloc (Nat.le_refl _) _, by simp, by simp [go_sem], by simp [go_sem]⟩
      have Hew4 := Lib.hid ew4
      have hown4 := hown.below hb4
      have hb4' := hb.trans (hb4.mono hgr)
      have hlen4 := bringsTo_len xs N k
      clear ew4
      by_cases hd : 0 ≤ (nthV xs k).1 ∧ (nthV xs k).1 < N
      · obtain ⟨d, hdd⟩ := Int.eq_ofNat_of_zero_le hd.1
        have hdN : d < N := by omega
        obtain ⟨g', c', hv', _, hgl, _, hcell4⟩ := hown4.out (by rw [hlen4]; omega)
        simp only [Value.slice.injEq, Option.some.injEq, Addr.mk.injEq, and_true] at hv'
        obtain ⟨rfl, hx1, hx2⟩ := hv'
        clear hx1 hx2
        obtain ⟨f0, f1⟩ := hcell4 d (by rw [hlen4]; exact hdN)
        rw [Nat.zero_add] at f0 f1
        have hset := hown4.set d (satI (nth (bringsTo xs N k) d) (nthV xs k).2) (by rw [hlen4]; exact hdN)
        rw [Nat.zero_add] at hset
        have Hset : Hid (Own (w4.setCell ⟨g, d, none⟩ (.int .i64 (satI (nth (bringsTo xs N k) d) (nthV xs k).2))) g (.slice (some ⟨g, 0, none⟩) N N) (bringsTo xs N (k + 1))) := by
          rw [Hst.out]
          unfold bring
          rw [if_pos (by rw [hlen4]; exact hd), hdd]
          exact hset
        have Hcall := Lib.hid (sat_is (nth (bringsTo xs N k) d) (nthV xs k).2 w4.drew (bringsTo_fits xs N k _ (nth_mem (by rw [hlen4]; exact hdN))) Hqf.out)
        rw [hdd] at e0 hc
        have Hew4' := Lib.hid Hew4.out
        rw [hdd] at Hew4'
        have j0 : (0 : Int) ≤ (d : Int) := by omega
        have j1 : (d : Int) < (N : Int) := by omega
        generalize nth (bringsTo xs N k) d = acc at *
        generalize (nthV xs k).2 = qq at *
        have Hf0 := Lib.hid (And.intro f0 (And.intro f1 (And.intro e0 (And.intro e1 (And.intro hs4 (And.intro hb4 hb4'))))))
        clear hset hcell4 hown4 hown hd hdd Hst Hqf f0 f1 e0 e1 hs4 hb4 hb4' hlen4
        go_wp2_with fail
        rw [Hew4'.out]
        obtain ⟨f0, f1, e0, e1, hs4, hb4, hb4'⟩ := Hf0.out
        refine wp_region_still_tail 12 (by kernel_rfl) (by kernel_rfl) ?_
        simp only [List.take_succ_cons, List.take_zero, List.drop_succ_cons, List.drop_zero]
        change wpStill _ _ w4.drew _ _ _
        iterate 10 still_step
        still_call (Hcall.out.mono fun _ _ ⟨h1, h2⟩ => ⟨h1, h2.symm⟩)
        still_step
        refine wpStill_nil ?_
        go_wp2_with fail
        go_roundw
        case rel =>
          refine ⟨k + 1, by omega, by go_num, Hset.out, ?_⟩
          exact (hb4'.drew).setCell (Nat.le_refl g) _
        case measure => simp [intOf]; omega
      · have Hs : Hid (bringsTo xs N (k + 1) = bringsTo xs N k) := by
          show _ = _
          rw [Hst.out]; unfold bring; rw [if_neg (by rw [hlen4]; exact hd)]
        have Hf0 := Lib.hid (And.intro hown4 hb4')
        have hd' : (nthV xs k).1 < 0 ∨ (0 ≤ (nthV xs k).1 ∧ (N : Int) ≤ (nthV xs k).1) := by omega
        clear hown4 hb4' hb4 hs4 e0 e1 hlen4 hown hd
        rcases hd' with h | ⟨h, h'⟩
        all_goals
          go_wp2_with fail
          rw [Hew4.out]
          go_roundw
          case rel => exact ⟨k + 1, by omega, by go_num, by rw [Hs.out]; exact Hf0.out.1, Hf0.out.2⟩
          case measure => simp [intOf]; omega
    · have Hs : Hid (bringsOf xs N = bringsTo xs N k) := by
        show _ = _
        unfold bringsOf bringsTo; rw [List.take_of_length_le (by rw [Hn.out]; omega)]
      go_wp2_with fail
      go_ret
      rw [HN.out, Int.toNat_natCast, Hs.out, Hg0.out]
      exact ⟨_, rfl, hown, hb⟩
end Go.Proofs.Ythnkjlcdjjhloaa
