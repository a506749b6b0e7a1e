/-
  My own work: tranterref17.First, Lower: their contracts.
-/
import Derived.Test.YthilfibgpobcjaaDualC
import Derived.Test.YthilfibgpobcjaaDualH
namespace Go.Proofs.Ythilfibgpobcjaa
open Go.RowKit
set_option linter.unusedVariables false

theorem replicate_snoc (k : Nat) (c : Int) : List.replicate (k + 1) c = List.replicate k c ++ [c] := by rw [List.replicate_succ']

set_option maxRecDepth 100000 in
set_option maxHeartbeats 3200000 in
theorem refFirst_is (i0 i1 i2 i3 : Int) (cv dv : Value) (L : List Cu) (D : List (List Int)) (n : Nat) (w : World) (hC : Custs w cv L) (hG : Grid w dv D) (hn : L.length + 1 = n) (hn2 : n ≤ 4096) (hD : ArcBd D) :
    Calls Try.prog 29 #[.agg #[.int .i64 i0, .int .i64 i1, .int .i64 i2, .int .i64 i3, cv, dv]] w (PriceOut w (outL D n (inL D n (firstL n))) (inL D n (firstL n))) := by
  obtain ⟨w1, ew, hb1, hsz1, hi⟩ := box_inst w (.int .i64 i0) (.int .i64 i1) (.int .i64 i2) (.int .i64 i3) cv dv
  obtain ⟨w2, ew2⟩ : ∃ w2, w1.alloc (.cells #[.slice none 0 0, .slice none 0 0] 31) = w2 := ⟨_, rfl⟩
  have hb2 : Below w1.heap.size w1 w2 := by rw [← ew2]; exact belAlloc _ _
  have hsz2 : w2.heap.size = w.heap.size + 1 + 1 := by rw [← ew2]; simp; omega
  have hlz : Blk2 w2 (w.heap.size + 1) (.slice none 0 0) (.slice none 0 0) := by rw [← ew2, ← hsz1]; exact Blk2.new _ _ _ _
  have hi := hi.below hb2
  obtain ⟨c0, c1, c2, c3, c4, c5⟩ := hi
  have hbb := bel2 hb1 hb2
  have Hfit := Lib.hid (fun (W : World) (h : Below w2.heap.size w2 W) (lv : Value) (hI : Ints W lv (firstL n)) => refFit_is i0 i1 i2 i3 cv dv lv L D (firstL n) n W ((hC.below hbb).below h) ((hG.below hbb).below h) hI hn hn2 List.length_replicate hD)
  obtain ⟨ca, cm, cc, rfl, hcm, _, _⟩ := hC.open
  have Hb := Lib.hid hbb
  have Hew := Lib.hid ew
  have Hew2 := Lib.hid ew2
  have Hlz := Lib.hid hlz
  have l1 : w.heap.size < w2.heap.size := by omega
  have hn' : n = cm + 1 := by omega
  have hcm2 : cm ≤ 4096 := by omega
  subst hn'
  clear ew ew2 hb1 hb2 hsz1 hsz2 hlz hn hC hG hn2 hcm hbb
  go_enter Try.func29, Try.ntmps29
  go_upto_region 1 with (fail)
  rw [Hew.out, Hew2.out]
  generalize eg : w.heap.size = g at *
  have Heg := Lib.hid eg
  clear eg
  have Hbg : Hid (Below g w w2) := Lib.hid Hb.out
  go_wp2_with fail
  go_loopw [3, 4] (fun v i wr => ∃ (k : Nat) (x : Value), i = .int .i64 k ∧ x = v ∧ k ≤ cm + 1 ∧ Own wr w2.heap.size x (List.replicate k 2147483648) ∧ Below w2.heap.size w2 wr) (fun _ i _ => cm + 1 - (intOf i).toNat)
  case atStart => exact ⟨0, _, rfl, rfl, Nat.zero_le _, Own.nil _ _, Below.refl _ _⟩
  case round =>
    obtain ⟨k, x, rfl, rfl, hk, hown, hb⟩ := hrel
    obtain ⟨q0, q1, q2, q3, q4, q5⟩ := six_below hb ⟨c0, c1, c2, c3, c4, c5⟩
    have Hown := Lib.hid hown
    have hsz : w2.heap.size ≤ wr.heap.size := hb.size
    clear hown
    by_cases hlt : k ≤ cm
    · have hi1 : (k : Int) ≤ (cm : Int) := by omega
      have Hst := Lib.hid (replicate_snoc k 2147483648)
      go_wp2_with (at_builtin; refine wpList_push rfl _ _ rfl wr w2.heap.size x (List.replicate k 2147483648) 2147483648 rfl rfl Hown.out (by rw [List.length_replicate]; omega) hsz ?_)
      intro v' w5 hown5 g5 hb5
      rw [← Hst.out] at hown5
      have hb5' := hb.trans hb5
      clear g5 hb5 hb q0 q1 q2 q3 q4 q5
      go_wp2_with fail
      go_roundw
      case rel => exact ⟨k + 1, _, by go_num, rfl, by omega, hown5, hb5'⟩
      case measure => simp [intOf]; omega
    · have hkn : k = cm + 1 := by omega
      subst hkn
      have hd : decide (cm + 1 ≤ cm) = false := by simp
      have Hc := Lib.hid (Hfit.out wr hb _ Hown.out.ints)
      have Hbr := Lib.hid (Hbg.out.trans (hb.mono (by omega)))
      have hlzr := Lib.hid (Hlz.out.below hb)
      clear hb
      go_wp2_with fail
      refine Hc.out.mono ?_
      rintro e w5 ⟨ov, iv, rfl, hP, hb5⟩
      obtain ⟨go, co, gi, ci, rfl, rfl⟩ := hP.form (outL_len _ _ _) (inL_len _ _ _) (Nat.succ_pos cm)
      obtain ⟨s1, s2, s3⟩ := price_store Hbr.out hP hb5 hlzr.out (Nat.le_succ g)
      obtain ⟨z0, z1, z2, z3⟩ := s1.cells
      have q := s1.set (.slice (some ⟨go, 0, none⟩) (cm + 1) co) (.slice (some ⟨gi, 0, none⟩) (cm + 1) ci)
      obtain ⟨y0, y1, _, _⟩ := q.cells
      have S2 := Lib.hid s2
      have S3 := Lib.hid s3
      clear hb5 hP s1 s2 s3 q
      go_wp2_with fail
      refine bodyPost_ret (v := .agg #[.slice (some ⟨go, 0, none⟩) (cm + 1) co, .slice (some ⟨gi, 0, none⟩) (cm + 1) ci]) (by simp [results, Try.results29, go_sem, y0, y1]) rfl ⟨_, _, rfl, ?_, ?_⟩
      · rw [Heg.out]; exact S2.out
      · rw [Heg.out]; exact S3.out

def lowI (q : List Int) (place by_ : Int) (k : Nat) : Int := if (k : Int) = place then nth q k - by_ else nth q k
theorem lower_map (q : List Int) (place by_ : Int) : lowerL q place by_ = (List.range q.length).map (lowI q place by_) := by
  apply ext_nth (by rw [lowerL_len]; simp)
  intro k hk
  rw [lowerL_len] at hk
  rw [nth_map_range _ _ _ hk]
  unfold lowerL lowI
  by_cases h : 0 ≤ place ∧ place < (q.length : Int)
  · rw [if_pos h, nth_set (by omega)]
    by_cases e : place.toNat = k
    · rw [if_pos e, if_pos (by omega), e]
    · rw [if_neg e, if_neg (by omega)]
  · rw [if_neg h, if_neg (by omega)]

set_option maxRecDepth 100000 in
set_option maxHeartbeats 3200000 in
theorem refLower_is (i0 i1 i2 i3 : Int) (cv dv ov0 iv0 : Value) (L : List Cu) (D : List (List Int)) (q : List Int) (n : Nat) (place by_ : Int) (w : World) (hC : Custs w cv L) (hG : Grid w dv D) (hI : Ints w iv0 q) (hn : L.length + 1 = n) (hn2 : n ≤ 4096) (hD : ArcBd D)
    (hq : q.length = n) (hqb : ∀ k, -1099511627776 ≤ nth q k ∧ nth q k ≤ 1099511627776) (hy0 : 0 ≤ by_) (hy1 : by_ ≤ 2147483648) :
    Calls Try.prog 31 #[.agg #[.int .i64 i0, .int .i64 i1, .int .i64 i2, .int .i64 i3, cv, dv], .agg #[ov0, iv0], .int .i64 place, .int .i64 by_] w (PriceOut w (outL D n (inL D n (lowerL q place by_))) (inL D n (lowerL q place by_))) := by
  obtain ⟨w1, ew, hb1, hsz1, hi⟩ := box_inst w (.int .i64 i0) (.int .i64 i1) (.int .i64 i2) (.int .i64 i3) cv dv
  obtain ⟨wp, ewp, hbp, hszp, p0, p1⟩ := box_price w1 ov0 iv0
  obtain ⟨w2, ew2⟩ : ∃ w2, wp.alloc (.cells #[.slice none 0 0, .slice none 0 0] 31) = w2 := ⟨_, rfl⟩
  have hb2 : Below wp.heap.size wp w2 := by rw [← ew2]; exact belAlloc _ _
  have hsz2 : w2.heap.size = w.heap.size + 1 + 1 + 1 := by rw [← ew2]; simp; omega
  have hlz : Blk2 w2 (w.heap.size + 1 + 1) (.slice none 0 0) (.slice none 0 0) := by rw [← ew2, show w.heap.size + 1 + 1 = wp.heap.size by omega]; exact Blk2.new _ _ _ _
  have hbb := bel2 (bel2 hb1 hbp) hb2
  have hi := hi.below (bel2 hbp hb2)
  obtain ⟨c0, c1, c2, c3, c4, c5⟩ := hi
  have cp := cell_below hb2 p1
  rw [hsz1] at cp
  have Hfit := Lib.hid (fun (W : World) (h : Below w2.heap.size w2 W) (lv : Value) (hI : Ints W lv (lowerL q place by_)) => refFit_is i0 i1 i2 i3 cv dv lv L D (lowerL q place by_) n W ((hC.below hbb).below h) ((hG.below hbb).below h) hI hn hn2 (by rw [lowerL_len]; exact hq) hD)
  obtain ⟨qa, qn, qc, rfl, hqn, _, hqc⟩ := (hI.below hbb).open
  have hqn' : qn = n := by omega
  subst hqn'
  have Hb := Lib.hid hbb
  have Hew := Lib.hid ew
  have Hewp := Lib.hid ewp
  have Hew2 := Lib.hid ew2
  have Hlz := Lib.hid hlz
  have Hq := Lib.hid hq
  have Hqb := Lib.hid hqb
  have Hqc := Lib.hid hqc
  have Hmap := Lib.hid (lower_map q place by_)
  have l1 : w.heap.size < w2.heap.size := by omega
  have hnp : 0 < qn := by omega
  have hn3 : (qn : Int) ≤ 4096 := by omega
  have Hn2 := Lib.hid hn2
  clear ew ewp ew2 hb1 hbp hb2 hsz1 hszp hsz2 hlz hn hC hG hI hn2 hbb hq hqb p0 p1 hqn hqc
  go_enter Try.func31, Try.ntmps31
  go_upto_region 1 with (fail)
  rw [Hew.out, Hewp.out, Hew2.out]
  generalize eg : w.heap.size = g at *
  have Heg := Lib.hid eg
  clear eg
  have Hbg : Hid (Below g w w2) := Lib.hid Hb.out
  go_wp2_with fail
  go_loopw [9, 10, 11] (fun v i u wr => ∃ (k : Nat) (x y : Value), i = .int .i64 k ∧ x = v ∧ y = u ∧ k ≤ qn ∧ Own wr w2.heap.size x ((List.range k).map (lowI q place by_)) ∧ Below w2.heap.size w2 wr) (fun _ i _ _ => qn - (intOf i).toNat)
  case atStart => exact ⟨0, _, _, rfl, rfl, rfl, Nat.zero_le _, Own.nil _ _, Below.refl _ _⟩
  case round =>
    obtain ⟨k, x, y, rfl, rfl, rfl, hk, hown, hb⟩ := hrel
    obtain ⟨q0, q1, q2, q3, q4, q5⟩ := six_below hb ⟨c0, c1, c2, c3, c4, c5⟩
    have cpr := cell_below hb cp
    have Hown := Lib.hid hown
    have hsz : w2.heap.size ≤ wr.heap.size := hb.size
    clear hown
    by_cases hlt : k < qn
    · obtain ⟨ib, io, rfl, f0⟩ := Hqc.out k hlt
      have f0r := cell_below hb f0
      have hi0 : (0 : Int) ≤ (k : Int) := by omega
      have hi1 : (k : Int) < (qn : Int) := by omega
      have Hst := Lib.hid (range_map_succ (lowI q place by_) k)
      have hlen : Hid (((List.range k).map (lowI q place by_)).length + 1 ≤ 17592186044416) := Lib.hid (by have := Hn2.out; rw [List.length_map, List.length_range]; omega)
      have hX := Hqb.out k
      obtain ⟨hX1, hX2⟩ := hX
      have HlI : Hid (lowI q place by_ k = if (k : Int) = place then nth q k - by_ else nth q k) := Lib.hid rfl
      generalize nth q k = X at *
      clear f0
      by_cases he : (k : Int) = place
      · have he' : ((k : Int) == place) = true := by simpa using he
        have hv : Hid (lowI q place by_ k = X - by_) := Lib.hid (by rw [HlI.out, if_pos he])
        rw [hv.out] at Hst
        clear he
        go_wp2_with (at_builtin; refine wpList_push rfl _ _ rfl wr w2.heap.size x ((List.range k).map (lowI q place by_)) (X - by_) rfl rfl Hown.out hlen.out hsz ?_)
        intro v' w5 hown5 g5 hb5
        rw [← Hst.out] at hown5
        have hb5' := hb.trans hb5
        clear g5 hb5 hb q0 q1 q2 q3 q4 q5 cpr
        go_wp2_with fail
        go_roundw
        case rel => exact ⟨k + 1, _, _, by go_num, rfl, rfl, by omega, hown5, hb5'⟩
        case measure => simp [intOf]; omega
      · have he' : ((k : Int) == place) = false := by simpa using he
        have hv : Hid (lowI q place by_ k = X) := Lib.hid (by rw [HlI.out, if_neg he])
        rw [hv.out] at Hst
        clear he
        go_wp2_with (at_builtin; refine wpList_push rfl _ _ rfl wr w2.heap.size x ((List.range k).map (lowI q place by_)) X rfl rfl Hown.out hlen.out hsz ?_)
        intro v' w5 hown5 g5 hb5
        rw [← Hst.out] at hown5
        have hb5' := hb.trans hb5
        clear g5 hb5 hb q0 q1 q2 q3 q4 q5 cpr
        go_wp2_with fail
        go_roundw
        case rel => exact ⟨k + 1, _, _, by go_num, rfl, rfl, by omega, hown5, hb5'⟩
        case measure => simp [intOf]; omega
    · have hkn : k = qn := by omega
      subst hkn
      have hown2 := Hown.out
      have hmap := Hmap.out
      rw [Hq.out] at hmap
      rw [← hmap] at hown2
      have Hc := Lib.hid (Hfit.out wr hb _ hown2.ints)
      have Hbr := Lib.hid (Hbg.out.trans (hb.mono (by omega)))
      have hlzr := Lib.hid (Hlz.out.below hb)
      clear hb hown2 hmap
      go_wp2_with fail
      refine Hc.out.mono ?_
      rintro e w5 ⟨ov, iv, rfl, hP, hb5⟩
      obtain ⟨go, co, gi, ci, rfl, rfl⟩ := hP.form (outL_len _ _ _) (inL_len _ _ _) hnp
      obtain ⟨s1, s2, s3⟩ := price_store Hbr.out hP hb5 hlzr.out (by omega)
      obtain ⟨z0, z1, z2, z3⟩ := s1.cells
      have q := s1.set (.slice (some ⟨go, 0, none⟩) k co) (.slice (some ⟨gi, 0, none⟩) k ci)
      obtain ⟨y0, y1, _, _⟩ := q.cells
      have S2 := Lib.hid s2
      have S3 := Lib.hid s3
      clear hb5 hP s1 s2 s3 q
      go_wp2_with fail
      refine bodyPost_ret (v := .agg #[.slice (some ⟨go, 0, none⟩) k co, .slice (some ⟨gi, 0, none⟩) k ci]) (by simp [results, Try.results31, go_sem, y0, y1]) rfl ⟨_, _, rfl, ?_, ?_⟩
      · rw [Heg.out]; exact S2.out
      · rw [Heg.out]; exact S3.out
end Go.Proofs.Ythilfibgpobcjaa
