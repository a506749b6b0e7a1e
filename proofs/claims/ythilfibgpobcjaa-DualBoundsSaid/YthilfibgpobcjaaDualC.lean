/-
  My own work: dual.First, Lower: their contracts.
-/
import Derived.Test.YthilfibgpobcjaaDualB
namespace Go.Proofs.Ythilfibgpobcjaa
open Go.RowKit
set_option linter.unusedVariables false

theorem turnL_const (n : Nat) (c : Int) : (List.range n).map (fun _ => c) = List.replicate n c := by simp [List.map_const']

/-- A call's prices, stored in a result's block. -/
theorem price_store {B : Nat} {w w3 w4 : World} {t : Nat} {ov iv u0 u1 : Value} {O I : List Int} (hb : Below B w w3) (hP : OwnP w4 w3.heap.size ov iv O I) (hb4 : Below w3.heap.size w3 w4) (hz : Blk2 w3 t u0 u1) (ht : B ≤ t) :
    Blk2 w4 t u0 u1 ∧ OwnP ((w4.setCell ⟨t, 0, none⟩ ov).setCell ⟨t, 1, none⟩ iv) B ov iv O I ∧ Below B w ((w4.setCell ⟨t, 0, none⟩ ov).setCell ⟨t, 1, none⟩ iv) := by
  have hlt := hz.lt
  have hB : B ≤ w3.heap.size := by omega
  refine ⟨hz.below hb4, (hP.kept (grown2 w4 t ov iv) (fun k hk => by cases hk; exact hlt)).mono hB, ?_⟩
  exact (hb.trans (hb4.mono hB)).trans (below2 w4 t ov iv ht)

def firstL (n : Nat) : List Int := List.replicate n 2147483648

set_option maxRecDepth 100000 in
set_option maxHeartbeats 3200000 in
theorem first_is (i0 i1 i2 i3 : Int) (cv dv : Value) (L : List Cu) (D : List (List Int)) (n : Nat) (w : World) (hC : Custs w cv L) (hG : Grid w dv D) (hn : L.length + 1 = n) (hn2 : n ≤ 4096) (hD : ArcBd D) :
    Calls Try.prog 28 #[.agg #[.int .i64 i0, .int .i64 i1, .int .i64 i2, .int .i64 i3, cv, dv]] w (PriceOut w (outL D n (inL D n (firstL n))) (inL D n (firstL n))) := by
  obtain ⟨w1, ew, hb1, hsz1, hi⟩ := box_inst w (.int .i64 i0) (.int .i64 i1) (.int .i64 i2) (.int .i64 i3) cv dv
  obtain ⟨w2, ew2⟩ : ∃ w2, w1.alloc (.cells #[.slice none 0 0, .slice none 0 0] 31) = w2 := ⟨_, rfl⟩
  have hb2 : Below w1.heap.size w1 w2 := by rw [← ew2]; exact belAlloc _ _
  have hsz2 : w2.heap.size = w.heap.size + 1 + 1 := by rw [← ew2]; simp; omega
  have hlz : Blk2 w2 (w.heap.size + 1) (.slice none 0 0) (.slice none 0 0) := by rw [← ew2, ← hsz1]; exact Blk2.new _ _ _ _
  have hi := hi.below hb2
  obtain ⟨c0, c1, c2, c3, c4, c5⟩ := hi
  have Hpl := Lib.hid (fun (W : World) (h : Below w2.heap.size w2 W) => places_is i0 i1 i2 i3 cv dv L n W (((hC.below hb1).below hb2).below h) hn hn2)
  have Hfit := Lib.hid (fun (W : World) (h : Below w2.heap.size w2 W) (lv : Value) (hI : Ints W lv (firstL n)) => fit_is i0 i1 i2 i3 cv dv lv L D (firstL n) n W (((hC.below hb1).below hb2).below h) (((hG.below hb1).below hb2).below h) hI hn hn2 List.length_replicate hD)
  have Hb := Lib.hid (bel2 hb1 hb2)
  have Hew := Lib.hid ew
  have Hew2 := Lib.hid ew2
  have Hlz := Lib.hid hlz
  have l1 : w.heap.size < w2.heap.size := by omega
  have hnp : 0 < n := by omega
  have hn3 : (n : Int) ≤ 4096 := by omega
  have Hn2 := Lib.hid hn2
  clear ew ew2 hb1 hb2 hsz1 hsz2 hlz hn hC hG hn2
  go_enter Try.func28, Try.ntmps28
  go_upto_region 1 with (fail)
  rw [Hew.out, Hew2.out]
  generalize eg : w.heap.size = g at *
  have Heg := Lib.hid eg
  clear eg
  have Hbg : Hid (Below g w w2) := Lib.hid Hb.out
  go_wp2_with fail
  refine (Hpl.out _ (Below.refl _ _)).mono ?_
  rintro e w3 ⟨rfl, hb3⟩
  obtain ⟨w4, hmk, hown, hb4⟩ := made_ints w3 n (by have := Hn2.out; omega)
  have Hmk := Lib.hid hmk
  have hb34 := Lib.hid (bel2 hb3 hb4)
  have hsz : w2.heap.size ≤ w3.heap.size := hb3.size
  have hsz4 : w3.heap.size ≤ w4.heap.size := hb4.size
  have Hz4 := Lib.hid (Hlz.out.below (bel2 hb3 hb4))
  have d0 := cell_below (bel2 hb3 hb4) c0
  have d1 := cell_below (bel2 hb3 hb4) c1
  have d2 := cell_below (bel2 hb3 hb4) c2
  have d3 := cell_below (bel2 hb3 hb4) c3
  have d4 := cell_below (bel2 hb3 hb4) c4
  have d5 := cell_below (bel2 hb3 hb4) c5
  have Hk : Hid (List.replicate n 0 = turnL n (fun _ => 2147483648) (fun _ => 0) 0) := Lib.hid (turnL_zero n _ _ _ List.length_replicate (fun j hj => by rw [nth_lt (by simpa using hj)]; simp))
  have Hown := Lib.hid hown
  clear hmk hown hb3 hb4 c0 c1 c2 c3 c4 c5
  go_wp2_with fail
  rw [Hmk.out]
  generalize w3.heap.size = gn at *
  go_wp2_with fail
  go_loopw [4, 10] (fun b i wr => ∃ (k : Nat) (u : Value), i = .int .i64 k ∧ u = b ∧ k ≤ n ∧ Own wr gn (.slice (some ⟨gn, 0, none⟩) n n) (turnL n (fun _ => 2147483648) (fun _ => 0) k) ∧ w4.grownBy wr (some gn)) (fun _ i _ => n - (intOf i).toNat)
  case atStart => exact ⟨0, _, rfl, rfl, Nat.zero_le _, by rw [← Hk.out]; exact Hown.out, ⟨rfl, rfl, rfl, Nat.le_refl _, fun _ _ _ => rfl⟩⟩
  case round =>
    obtain ⟨k, u, rfl, rfl, hk, hown, hg⟩ := hrel
    by_cases hlt : k < n
    · obtain ⟨g9, c9, hv9, _, _, _, hcell⟩ := hown.out (by rw [turnL_len]; exact hnp)
      simp only [Value.slice.injEq, Option.some.injEq, Addr.mk.injEq, and_true] at hv9
      obtain ⟨rfl, hv1, hv2⟩ := hv9
      obtain ⟨f0, f1⟩ := hcell k (by rw [turnL_len]; exact hlt)
      rw [Nat.zero_add] at f0 f1
      have hset := hown.set k 2147483648 (by rw [turnL_len]; exact hlt)
      rw [Nat.zero_add, turnL_set n (fun _ => 2147483648) (fun _ => 0) k hlt] at hset
      have Hset := Lib.hid hset
      have hi0 : (0 : Int) ≤ (k : Int) := by omega
      have hi1 : (k : Int) < (n : Int) := by omega
      clear hcell hv1 hv2 hset hown
      go_wp2_with fail
      go_roundw
      case rel => exact ⟨k + 1, _, by go_num, rfl, by omega, Hset.out, grownBy_trans hg (grownBy_setCell wr ⟨gn, k, none⟩ _)⟩
      case measure => simp [intOf]; omega
    · have hkn : k = n := by omega
      subst hkn
      rw [turnL_all, turnL_const] at hown
      have hbr := hb34.out.grown hg (by omega) (by intro x hx; simp at hx; omega)
      have q0 := hg.cell d0 (by simp; omega)
      have q1 := hg.cell d1 (by simp; omega)
      have q2 := hg.cell d2 (by simp; omega)
      have q3 := hg.cell d3 (by simp; omega)
      have q4 := hg.cell d4 (by simp; omega)
      have q5 := hg.cell d5 (by simp; omega)
      have Hc := Lib.hid (Hfit.out wr hbr _ hown.ints)
      have Hbr := Lib.hid (Hbg.out.trans (hbr.mono (by omega)))
      have hlzr := Lib.hid (Hz4.out.kept hg (by have := Hlz.out.lt; simp; omega))
      have lz := hlzr.out.lt
      clear hown hg hbr d0 d1 d2 d3 d4 d5
      go_wp2_with fail
      refine Hc.out.mono ?_
      rintro e w5 ⟨ov, iv, rfl, hP, hb5⟩
      obtain ⟨go, co, gi, ci, rfl, rfl⟩ := hP.form (outL_len _ _ _) (inL_len _ _ _) hnp
      obtain ⟨s1, s2, s3⟩ := price_store Hbr.out hP hb5 hlzr.out (Nat.le_succ g)
      obtain ⟨z0, z1, z2, z3⟩ := s1.cells
      have q := s1.set (.slice (some ⟨go, 0, none⟩) k co) (.slice (some ⟨gi, 0, none⟩) k ci)
      obtain ⟨y0, y1, _, _⟩ := q.cells
      have S2 := Lib.hid s2
      have S3 := Lib.hid s3
      clear hb5 hP s1 s2 s3 q
      go_wp2_with fail
      refine bodyPost_ret (v := .agg #[.slice (some ⟨go, 0, none⟩) k co, .slice (some ⟨gi, 0, none⟩) k ci]) (by simp [results, Try.results28, go_sem, y0, y1]) rfl ⟨_, _, rfl, ?_, ?_⟩
      · rw [Heg.out]; exact S2.out
      · rw [Heg.out]; exact S3.out

/-- Numbers, one of which is lowered. -/
def lowerL (q : List Int) (place by_ : Int) : List Int := if 0 ≤ place ∧ place < (q.length : Int) then q.set place.toNat (nth q place.toNat - by_) else q
theorem lowerL_len (q : List Int) (place by_ : Int) : (lowerL q place by_).length = q.length := by unfold lowerL; split <;> simp

set_option maxRecDepth 100000 in
set_option maxHeartbeats 3200000 in
theorem lower_is (i0 i1 i2 i3 : Int) (cv dv ov0 iv0 : Value) (L : List Cu) (D : List (List Int)) (q : List Int) (n : Nat) (place by_ : Int) (w : World) (hC : Custs w cv L) (hG : Grid w dv D) (hI : Ints w iv0 q) (hn : L.length + 1 = n) (hn2 : n ≤ 4096) (hD : ArcBd D)
    (hq : q.length = n) (hqb : ∀ k, -1099511627776 ≤ nth q k ∧ nth q k ≤ 1099511627776) (hy0 : 0 ≤ by_) (hy1 : by_ ≤ 2147483648) :
    Calls Try.prog 30 #[.agg #[.int .i64 i0, .int .i64 i1, .int .i64 i2, .int .i64 i3, cv, dv], .agg #[ov0, iv0], .int .i64 place, .int .i64 by_] w (PriceOut w (outL D n (inL D n (lowerL q place by_))) (inL D n (lowerL q place by_))) := by
  obtain ⟨w1, ew, hb1, hsz1, hi⟩ := box_inst w (.int .i64 i0) (.int .i64 i1) (.int .i64 i2) (.int .i64 i3) cv dv
  obtain ⟨wp, ewp⟩ : ∃ wp, w1.alloc (.cells #[ov0, iv0] 31) = wp := ⟨_, rfl⟩
  have hbp : Below w1.heap.size w1 wp := by rw [← ewp]; exact belAlloc _ _
  have hszp : wp.heap.size = w.heap.size + 1 + 1 := by rw [← ewp]; simp; omega
  have hlp : Blk2 wp (w.heap.size + 1) ov0 iv0 := by rw [← ewp, ← hsz1]; exact Blk2.new _ _ _ _
  obtain ⟨w2, ew2⟩ : ∃ w2, wp.alloc (.cells #[.slice none 0 0, .slice none 0 0] 31) = w2 := ⟨_, rfl⟩
  have hb2 : Below wp.heap.size wp w2 := by rw [← ew2]; exact belAlloc _ _
  have hsz2 : w2.heap.size = w.heap.size + 1 + 1 + 1 := by rw [← ew2]; simp; omega
  have hlz : Blk2 w2 (w.heap.size + 1 + 1) (.slice none 0 0) (.slice none 0 0) := by rw [← ew2, ← hszp]; exact Blk2.new _ _ _ _
  have hbb := bel2 (bel2 hb1 hbp) hb2
  have hi := hi.below (bel2 hbp hb2)
  have hlp2 := hlp.below hb2
  obtain ⟨c0, c1, c2, c3, c4, c5⟩ := hi
  have cp := hlp2.cells.2.1
  have Hpl := Lib.hid (fun (W : World) (h : Below w2.heap.size w2 W) => places_is i0 i1 i2 i3 cv dv L n W ((hC.below hbb).below h) hn hn2)
  have Hfit := Lib.hid (fun (W : World) (h : Below w2.heap.size w2 W) (lv : Value) (hI : Ints W lv (lowerL q place by_)) => fit_is i0 i1 i2 i3 cv dv lv L D (lowerL q place by_) n W ((hC.below hbb).below h) ((hG.below hbb).below h) hI hn hn2 (by rw [lowerL_len]; exact hq) hD)
  have Hb := Lib.hid hbb
  have HI := Lib.hid (hI.below hbb)
  have Hew := Lib.hid ew
  have Hewp := Lib.hid ewp
  have Hew2 := Lib.hid ew2
  have Hlz := Lib.hid hlz
  have Hq := Lib.hid hq
  have Hqb := Lib.hid hqb
  have l1 : w.heap.size < w2.heap.size := by omega
  have l2 : w.heap.size + 1 < w2.heap.size := by omega
  have hnp : 0 < n := by omega
  have hn3 : (n : Int) ≤ 4096 := by omega
  have Hn2 := Lib.hid hn2
  clear ew ewp ew2 hb1 hbp hb2 hsz1 hszp hsz2 hlz hn hC hG hI hn2 hlp hlp2 hbb hq hqb
  go_enter Try.func30, Try.ntmps30
  go_upto_region 1 with (fail)
  rw [Hew.out, Hewp.out, Hew2.out]
  generalize eg : w.heap.size = g at *
  have Heg := Lib.hid eg
  clear eg
  have Hbg : Hid (Below g w w2) := Lib.hid Hb.out
  go_wp2_with fail
  refine (Hpl.out _ (Below.refl _ _)).mono ?_
  rintro e w3 ⟨rfl, hb3⟩
  obtain ⟨w4, hmk, hown, hb4⟩ := made_ints w3 n (by have := Hn2.out; omega)
  have Hmk := Lib.hid hmk
  have hb34 := Lib.hid (bel2 hb3 hb4)
  have hsz : w2.heap.size ≤ w3.heap.size := hb3.size
  have hsz4 : w3.heap.size < w4.heap.size := (hown.lt _ rfl).2
  have Hz4 := Lib.hid (Hlz.out.below (bel2 hb3 hb4))
  have d0 := cell_below (bel2 hb3 hb4) c0
  have d1 := cell_below (bel2 hb3 hb4) c1
  have d2 := cell_below (bel2 hb3 hb4) c2
  have d3 := cell_below (bel2 hb3 hb4) c3
  have d4 := cell_below (bel2 hb3 hb4) c4
  have d5 := cell_below (bel2 hb3 hb4) c5
  have dp := cell_below (bel2 hb3 hb4) cp
  have HI4 := Lib.hid (HI.out.below (bel2 hb3 hb4))
  have Hown := Lib.hid hown
  clear hmk hown hb3 hb4 c0 c1 c2 c3 c4 c5 cp
  go_wp2_with fail
  rw [Hmk.out]
  generalize w3.heap.size = gn at *
  go_wp2_with (with_reducible refine wpList_copyInts rfl (.tmp 13) (.tmp 15) rfl w4 gn gn n n (List.replicate n 0) q iv0 rfl rfl Hown.out HI4.out Hq.out hnp ?_)
  intro w5 hown5 hg5
  have hs5 := hg5.size
  have Hb5 := Lib.hid (hb34.out.grown hg5 (by omega) (by intro x hx; simp at hx; omega))
  have q0 := hg5.cell d0 (by simp; omega)
  have q1 := hg5.cell d1 (by simp; omega)
  have q2 := hg5.cell d2 (by simp; omega)
  have q3 := hg5.cell d3 (by simp; omega)
  have q4 := hg5.cell d4 (by simp; omega)
  have q5 := hg5.cell d5 (by simp; omega)
  have Hz5 := Lib.hid (Hz4.out.kept hg5 (by have := Hlz.out.lt; simp; omega))
  have Hown5 := Lib.hid hown5
  have lgn : gn < w5.heap.size := by omega
  clear hown5 hg5 d0 d1 d2 d3 d4 d5 dp
  by_cases hp : 0 ≤ place ∧ place < (n : Int)
  · obtain ⟨k, rfl⟩ := Int.eq_ofNat_of_zero_le hp.1
    have hkn : k < n := by omega
    obtain ⟨g9, c9, hv9, _, _, _, hcell⟩ := Hown5.out.out (by rw [Hq.out]; exact hnp)
    simp only [Value.slice.injEq, Option.some.injEq, Addr.mk.injEq, and_true] at hv9
    obtain ⟨rfl, hv1, hv2⟩ := hv9
    obtain ⟨f0, f1⟩ := hcell k (by rw [Hq.out]; exact hkn)
    rw [Nat.zero_add] at f0 f1
    have hlow : lowerL q (k : Int) by_ = q.set k (nth q k - by_) := by unfold lowerL; rw [if_pos (by rw [Hq.out]; omega), Int.toNat_natCast]
    have hset := Hown5.out.set k (nth q k - by_) (by rw [Hq.out]; exact hkn)
    rw [Nat.zero_add, ← hlow] at hset
    have Hset := Lib.hid hset
    have hqk := Hqb.out k
    obtain ⟨hqk1, hqk2⟩ := hqk
    generalize nth q k = X at *
    have hi0 : (0 : Int) ≤ (k : Int) := by omega
    have hi1 : (k : Int) < (n : Int) := by omega
    have b1 : decide ((k : Int) < 0) = false := by simp
    have b2 : decide (k < n) = true := by simpa using hkn
    have Hg6 := Lib.hid (grownBy_setCell w5 ⟨gn, k, none⟩ (.int .i64 (X - by_)))
    have hb6 := Hb5.out.setCell (p := ⟨gn, k, none⟩) (by exact hsz) (.int .i64 (X - by_))
    have Hc := Lib.hid (Hfit.out _ hb6 _ Hset.out.ints)
    have Hbr := Lib.hid (Hbg.out.trans (hb6.mono (by omega)))
    have hlzr := Lib.hid (Hz5.out.kept Hg6.out (by have := Hlz.out.lt; simp; omega))
    clear hcell hv1 hv2 hset hlow hp hb6
    go_wp2_with fail
    refine Hc.out.mono ?_
    rintro e w7 ⟨ov, iv, rfl, hP, hb7⟩
    obtain ⟨go, co, gi, ci, rfl, rfl⟩ := hP.form (outL_len _ _ _) (inL_len _ _ _) hnp
    obtain ⟨s1, s2, s3⟩ := price_store Hbr.out hP hb7 hlzr.out (by omega)
    obtain ⟨z0, z1, z2, z3⟩ := s1.cells
    have q := s1.set (.slice (some ⟨go, 0, none⟩) n co) (.slice (some ⟨gi, 0, none⟩) n ci)
    obtain ⟨y0, y1, _, _⟩ := q.cells
    have S2 := Lib.hid s2
    have S3 := Lib.hid s3
    clear hb7 hP s1 s2 s3 q
    go_wp2_with fail
    refine bodyPost_ret (v := .agg #[.slice (some ⟨go, 0, none⟩) n co, .slice (some ⟨gi, 0, none⟩) n ci]) (by simp [results, Try.results30, go_sem, y0, y1]) rfl ⟨_, _, rfl, ?_, ?_⟩
    · rw [Heg.out]; exact S2.out
    · rw [Heg.out]; exact S3.out
  · have hlow : lowerL q place by_ = q := by unfold lowerL; rw [if_neg (by rw [Hq.out]; exact hp)]
    have hi5 := Hown5.out.ints
    rw [← hlow] at hi5
    have Hc := Lib.hid (Hfit.out _ Hb5.out _ hi5)
    have Hbr := Lib.hid (Hbg.out.trans (Hb5.out.mono (by omega)))
    have hcase : (decide (0 ≤ place) = false) ∨ (decide (0 ≤ place) = true ∧ decide (place < (n : Int)) = false) := by
      by_cases q : 0 ≤ place
      · exact .inr ⟨by simpa using q, by simp; omega⟩
      · exact .inl (by simpa using q)
    clear hlow hi5 hp
    rcases hcase with b1 | ⟨b1, b2⟩
    all_goals
      go_wp2_with fail
      refine Hc.out.mono ?_
      rintro e w7 ⟨ov, iv, rfl, hP, hb7⟩
      obtain ⟨go, co, gi, ci, rfl, rfl⟩ := hP.form (outL_len _ _ _) (inL_len _ _ _) hnp
      obtain ⟨s1, s2, s3⟩ := price_store Hbr.out hP hb7 Hz5.out (by omega)
      obtain ⟨z0, z1, z2, z3⟩ := s1.cells
      have q := s1.set (.slice (some ⟨go, 0, none⟩) n co) (.slice (some ⟨gi, 0, none⟩) n ci)
      obtain ⟨y0, y1, _, _⟩ := q.cells
      have S2 := Lib.hid s2
      have S3 := Lib.hid s3
      clear hb7 hP s1 s2 s3 q
      go_wp2_with fail
      refine bodyPost_ret (v := .agg #[.slice (some ⟨go, 0, none⟩) n co, .slice (some ⟨gi, 0, none⟩) n ci]) (by simp [results, Try.results30, go_sem, y0, y1]) rfl ⟨_, _, rfl, ?_, ?_⟩
      · rw [Heg.out]; exact S2.out
      · rw [Heg.out]; exact S3.out
end Go.Proofs.Ythilfibgpobcjaa
