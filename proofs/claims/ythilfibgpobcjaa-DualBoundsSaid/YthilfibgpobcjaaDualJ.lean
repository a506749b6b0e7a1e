/-
  My own work: tranterlaw17.lives: its contract.
-/
import Derived.Test.YthilfibgpobcjaaDualC
import Derived.Test.YthilfibgpobcjaaDualE
import Derived.Test.YthilfibgpobcjaaLiveX
namespace Go.Proofs.Ythilfibgpobcjaa
open Go.RowKit
set_option linter.unusedVariables false

theorem live_bd : ArcBd liveD := arcBd_of (N := 1) (by
  intro i hi
  have : i < 2 := by simpa [liveD] using hi
  match i, this with
  | 0, _ => exact ⟨rfl, fun k hk => by match k, hk with | 0, _ => exact ⟨by decide, by decide, fun _ => rfl⟩ | 1, _ => exact ⟨by decide, by decide, fun h => by cases h⟩⟩
  | 1, _ => exact ⟨rfl, fun k hk => by match k, hk with | 0, _ => exact ⟨by decide, by decide, fun h => by cases h⟩ | 1, _ => exact ⟨by decide, by decide, fun _ => rfl⟩⟩) rfl
theorem live_in : inL liveD 2 (firstL 2) = [4, 3] := by decide
theorem live_out : outL liveD 2 (inL liveD 2 (firstL 2)) = [0, 0] := by decide

set_option maxRecDepth 100000 in
set_option maxHeartbeats 3200000 in
theorem lives17_is (w : World) : Calls Try.prog 19 #[] w fun e w' => e = .returned (.bool true) ∧ Below w.heap.size w w' := by
  obtain ⟨w1, w2, w3, w4, w5, w6, e1, e2, e3, e4, e5, e6, hb, hsz, hin, hC, hG⟩ := live_inst w
  have H1 := Lib.hid e1
  have H2 := Lib.hid e2
  have H3 := Lib.hid e3
  have H4 := Lib.hid e4
  have H5 := Lib.hid e5
  have H6 := Lib.hid e6
  have Hb := Lib.hid hb
  have HC := Lib.hid hC
  have HG := Lib.hid hG
  have hle : w.heap.size ≤ w6.heap.size := hb.size
  have hlt : w.heap.size + 1 + 1 + 1 + 1 + 1 < w6.heap.size := by omega
  obtain ⟨c0, c1, c2, c3, c4, c5⟩ := hin
  have Hf := Lib.hid (first_is 1 1 9 9 _ _ liveC liveD 2 w6 hC hG rfl (by decide) live_bd)
  clear e1 e2 e3 e4 e5 e6 hC hG hb hsz
  go_enter Try.func19, Try.ntmps19
  go_wp2_with fail
  rw [H1.out, H2.out, H3.out, H4.out, H5.out, H6.out]
  generalize w.heap.size + 1 + 1 + 1 + 1 + 1 = gx at *
  refine Hf.out.mono ?_
  rintro e w7 ⟨ov, iv, rfl, hP, hb7⟩
  obtain ⟨go, co, gi, ci, rfl, rfl⟩ := hP.form (outL_len _ _ _) (inL_len _ _ _) (show 0 < 2 by decide)
  obtain ⟨w8, ew8, hb8, hs8, p0, p1⟩ := box_price w7 (.slice (some ⟨go, 0, none⟩) 2 co) (.slice (some ⟨gi, 0, none⟩) 2 ci)
  have hP8 := hP.below hb8
  rw [live_in] at hP8
  have hout := live_out
  rw [live_in] at hout
  have hbb := bel2 hb7 hb8
  obtain ⟨g1, d1, hv1, _, _, _, hc1⟩ := hP8.1.out (by rw [hout]; decide)
  simp only [Value.slice.injEq, Option.some.injEq, Addr.mk.injEq, and_true] at hv1
  obtain ⟨rfl, x1, x2⟩ := hv1
  clear x1 x2
  obtain ⟨g2, d2, hv2, _, _, _, hc2⟩ := hP8.2.1.out (by decide)
  simp only [Value.slice.injEq, Option.some.injEq, Addr.mk.injEq, and_true] at hv2
  obtain ⟨rfl, x1, x2⟩ := hv2
  clear x1 x2
  have o0 := (hc1 0 (by rw [hout]; decide)).1
  have o1 := (hc1 1 (by rw [hout]; decide)).1
  have j0 := (hc2 0 (by decide)).1
  have j1 := (hc2 1 (by decide)).1
  rw [hout] at o0 o1
  rw [show nth [0, 0] 0 = 0 from rfl, Nat.zero_add] at o0
  rw [show nth [0, 0] 1 = 0 from rfl, Nat.zero_add] at o1
  rw [show nth [4, 3] 0 = 4 from rfl, Nat.zero_add] at j0
  rw [show nth [4, 3] 1 = 3 from rfl, Nat.zero_add] at j1
  have hm := may_is 1 1 9 9 _ _ (.slice (some ⟨go, 0, none⟩) 2 co) (.slice (some ⟨gi, 0, none⟩) 2 ci) liveC liveD [0, 0] [4, 3] 2 w8 (HC.out.below hbb) (HG.out.below hbb) (by have := hP8.1.ints; rwa [hout] at this) hP8.2.1.ints rfl (by decide) live_bd
  rw [show mayE liveD 2 [0, 0] [4, 3] = 0 by decide] at hm
  have Hm := Lib.hid hm
  have Hew8 := Lib.hid ew8
  have Hbb := Lib.hid (Hb.out.trans (hbb.mono hle))
  obtain ⟨q0, q1, q2, q3, q4, q5⟩ := six_below hbb ⟨c0, c1, c2, c3, c4, c5⟩
  have hl7 : gx < w7.heap.size := by have := hb7.size; omega
  clear hm ew8 hb7 hb8 hs8 hP hP8 hout hbb hc1 hc2 c0 c1 c2 c3 c4 c5
  go_upto_region 3 with (fail)
  rw [Hew8.out]
  generalize w7.heap.size = gp at *
  go_wp2_with fail
  refine Hm.out.mono ?_
  rintro e w9 ⟨rfl, hb9⟩
  have Hb9 := Lib.hid (Hbb.out.trans (hb9.mono Hbb.out.size))
  clear hb9
  go_wp2_with fail
  go_ret
  exact ⟨rfl, Hb9.out⟩
end Go.Proofs.Ythilfibgpobcjaa
