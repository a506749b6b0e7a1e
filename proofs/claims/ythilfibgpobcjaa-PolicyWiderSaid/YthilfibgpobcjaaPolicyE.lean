/-
  My own work: the walks of PolicyMost and PolicyWays.
-/
import Derived.Test.YthilfibgpobcjaaPolicyD
import Derived.Test.YthilfibgpobcjaaTank
import Derived.Deep.RegionHeld3
namespace Go.Proofs.Ythilfibgpobcjaa
open Go.RowKit
set_option linter.unusedVariables false

theorem cust_keep {w0 w w' : World} {g : Nat} {v0 v1 v2 v3 v4 v5 v6 v7 : Value}
    (h : w.cell? ⟨g, 0, none⟩ = some v0 ∧ w.cell? ⟨g, 1, none⟩ = some v1 ∧ w.cell? ⟨g, 2, none⟩ = some v2 ∧ w.cell? ⟨g, 3, none⟩ = some v3 ∧ w.cell? ⟨g, 4, none⟩ = some v4 ∧ w.cell? ⟨g, 5, none⟩ = some v5 ∧ w.cell? ⟨g, 6, none⟩ = some v6 ∧ w.cell? ⟨g, 7, none⟩ = some v7 ∧ Below w0.heap.size w0 w) (hb : Below w.heap.size w w') :
    w'.cell? ⟨g, 0, none⟩ = some v0 ∧ w'.cell? ⟨g, 1, none⟩ = some v1 ∧ w'.cell? ⟨g, 2, none⟩ = some v2 ∧ w'.cell? ⟨g, 3, none⟩ = some v3 ∧ w'.cell? ⟨g, 4, none⟩ = some v4 ∧ w'.cell? ⟨g, 5, none⟩ = some v5 ∧ w'.cell? ⟨g, 6, none⟩ = some v6 ∧ w'.cell? ⟨g, 7, none⟩ = some v7 ∧ Below w0.heap.size w0 w' := by
  obtain ⟨h0, h1, h2, h3, h4, h5, h6, h7, h8⟩ := h
  exact ⟨cell_below hb h0, cell_below hb h1, cell_below hb h2, cell_below hb h3, cell_below hb h4, cell_below hb h5, cell_below hb h6, cell_below hb h7, h8.trans (hb.mono h8.size)⟩
theorem drew_below (w : World) : Below w.heap.size w w.drew := below_drewN (Below.refl _ w) 1
theorem below_two {a b c : World} (h : Below a.heap.size a b) (k : Below b.heap.size b c) : Below a.heap.size a c := h.trans (k.mono h.size)

/-- A tank that may be: what tranterref09.Tank answers of any customer. -/
theorem tank_small (rt sz st ru : Int) : 0 ≤ rnd rt 0 12 ∧ rnd rt 0 12 ≤ 12 ∧ 1 ≤ rnd sz 1 40 ∧ rnd sz 1 40 ≤ 40 ∧ 0 ≤ rnd st 0 (rnd sz 1 40) ∧ rnd st 0 (rnd sz 1 40) ≤ rnd sz 1 40 ∧ (rnd ru 1 2 = 1 ∨ rnd ru 1 2 = 2) := by
  have h1 := rnd_bd rt 0 12 (by decide)
  have h2 := rnd_bd sz 1 40 (by decide)
  have h3 := rnd_bd st 0 (rnd sz 1 40) (by omega)
  have h4 := rnd_bd ru 1 2 (by decide)
  omega

set_option maxRecDepth 100000 in
set_option maxHeartbeats 1600000 in
theorem policyMost_walk (kd dm : Int) (pt : Value) (rt sz st ru hd there cap : Int) (w : World) (h3 : (Lit.int .i64 rt).wf = true) (h4 : (Lit.int .i64 sz).wf = true) (h5 : (Lit.int .i64 st).wf = true) (h6 : (Lit.int .i64 ru).wf = true) (h7 : (Lit.int .i64 hd).wf = true) (ht : (Lit.int .i64 there).wf = true) :
    Calls Try.prog 9 #[.agg #[.int .i64 kd, .int .i64 dm, pt, .int .i64 rt, .int .i64 sz, .int .i64 st, .int .i64 ru, .int .i64 hd], .int .i64 there, .int .i64 cap] w fun e w' => e = .returned (.bool true) ∧ Below w.heap.size w w' := by
  obtain ⟨w1, ew, hb1, hsz1, hcu⟩ := box_cust w kd dm pt rt sz st ru hd
  obtain ⟨c0, c1, c2, c3, c4, c5, c6, c7⟩ := hcu
  have hl0 : w.heap.size < w1.heap.size := World.block_lt_of_cell? w1 _ c0
  have Hew := Lib.hid ew
  clear ew hsz1
  go_enter Try.func9, Try.ntmps9
  go_wp2_with fail
  rw [Hew.out]
  go_wp2_with fail
  refine (tank_is kd dm pt rt sz st ru hd w1 h3 h4 h5 h6 h7).mono ?_
  rintro e w2 ⟨rfl, hb2⟩
  obtain ⟨t1, t2, t3, t4, t5, t6, t7⟩ := tank_small rt sz st ru
  generalize rnd st 0 (rnd sz 1 40) = S at *
  generalize rnd rt 0 12 = R at *
  generalize rnd sz 1 40 = Z at *
  generalize rnd ru 1 2 = U at *
  generalize rnd hd 0 9 = D at *
  obtain ⟨w3, ew3, hb3, hsz3, hcu3⟩ := box_cust w2 2 0 (.slice none 0 0) R Z S U D
  have b3 := Lib.hid ((hb1.trans (hb2.mono hb1.size)).trans (hb3.mono (Nat.le_trans hb1.size hb2.size)))
  have Hew3 := Lib.hid ew3
  clear c0 c1 c2 c3 c4 c5 c6 c7 hb1 hb2 hb3 ew3 hsz3 hl0
  obtain ⟨c0, c1, c2, c3, c4, c5, c6, c7⟩ := hcu3
  have hl3 : w2.heap.size < w3.heap.size := World.block_lt_of_cell? w3 _ c0
  go_wp2_with fail
  rw [Hew3.out]
  generalize w2.heap.size = g at *
  go_wp2_with fail
  refine (round10_is there (Z + 1) w3 ht (by omega) (by omega)).mono ?_
  rintro e w' ⟨rfl, rfl⟩
  have hr := rnd_bd there 1 (Z + 1) (by omega)
  obtain ⟨T, hT⟩ : ∃ T, T = rnd there 1 (Z + 1) - 1 := ⟨_, rfl⟩
  have hT0 : 0 ≤ T := by omega
  have hT1 : T ≤ Z := by omega
  have hTr : rnd there 1 (Z + 1) = T + 1 := by omega
  rw [hTr]
  have hT2 : T + 1 - 1 = T := by omega
  clear hr hT hTr
  obtain ⟨M, hM⟩ : ∃ M, M = mostI Z U T cap := ⟨_, rfl⟩
  have Hm1 : Hid (∀ w, Calls Try.prog 34 #[.agg #[.int .i64 2, .int .i64 0, .slice none 0 0, .int .i64 R, .int .i64 Z, .int .i64 S, .int .i64 U, .int .i64 D], .int .i64 T, .int .i64 cap] w fun e w' => e = .returned (.int .i64 M) ∧ Below w.heap.size w w') := Lib.hid (fun w => by rw [hM]; exact most_is 2 0 _ R Z S U D T cap w (by omega) (by omega) hT0 (by omega))
  have Hm2 : Hid (∀ w, Calls Try.prog 35 #[.agg #[.int .i64 2, .int .i64 0, .slice none 0 0, .int .i64 R, .int .i64 Z, .int .i64 S, .int .i64 U, .int .i64 D], .int .i64 T, .int .i64 cap] w fun e w' => e = .returned (.int .i64 M) ∧ Below w.heap.size w w') := Lib.hid (fun w => by rw [hM]; exact refMost_is 2 0 _ R Z S U D T cap w (by omega) (by omega) hT0 (by omega))
  have q1 : (M == M) = true := by simp
  clear hM
  have hd9 := And.intro c0 (And.intro c1 (And.intro c2 (And.intro c3 (And.intro c4 (And.intro c5 (And.intro c6 (And.intro c7 (Below.refl w3.heap.size w3))))))))
  clear c0 c1 c2 c3 c4 c5 c6 c7
  go_wp2_with fail
  go_region_held3 (fun w' => w'.cell? ⟨g, 0, none⟩ = some (.int .i64 2) ∧ w'.cell? ⟨g, 1, none⟩ = some (.int .i64 0) ∧ w'.cell? ⟨g, 2, none⟩ = some (.slice none 0 0) ∧ w'.cell? ⟨g, 3, none⟩ = some (.int .i64 R) ∧ w'.cell? ⟨g, 4, none⟩ = some (.int .i64 Z) ∧ w'.cell? ⟨g, 5, none⟩ = some (.int .i64 S) ∧ w'.cell? ⟨g, 6, none⟩ = some (.int .i64 U) ∧ w'.cell? ⟨g, 7, none⟩ = some (.int .i64 D) ∧ Below w3.heap.size w3 w')
    (first | exact cust_keep (by assumption) (by assumption) | exact cust_keep (by assumption) (drew_below _))
    (first
      | (go_at_call 34; refine (Hm1.out _).mono ?_; rintro e w5 ⟨rfl, hb5⟩)
      | (go_at_call 35; refine (Hm2.out _).mono ?_; rintro e w6 ⟨rfl, hb6⟩)
      | (go_at_call 36; refine (lives10_is _).mono ?_; rintro e w7 ⟨rfl, hb7⟩))
  have b7 := below_two (below_two (below_two (drew_below w3) hb5) hb6) hb7
  go_wp2_with fail
  go_ret
  exact ⟨rfl, b3.out.trans (b7.mono b3.out.size)⟩
end Go.Proofs.Ythilfibgpobcjaa
