/-
  My own work: tranterref09.Tank.
-/
import Derived.Test.YthilfibgpobcjaaStock2
import Derived.Deep.RegionHeld3
namespace Go.Proofs.Ythilfibgpobcjaa
open Go.RowKit
set_option linter.unusedVariables false

set_option maxHeartbeats 800000 in
theorem tank_is (kd dm : Int) (pt : Value) (rt sz st ru hd : Int) (w : World) (h3 : (Lit.int .i64 rt).wf = true) (h4 : (Lit.int .i64 sz).wf = true) (h5 : (Lit.int .i64 st).wf = true) (h6 : (Lit.int .i64 ru).wf = true) (h7 : (Lit.int .i64 hd).wf = true) :
    Calls Try.prog 32 #[.agg #[.int .i64 kd, .int .i64 dm, pt, .int .i64 rt, .int .i64 sz, .int .i64 st, .int .i64 ru, .int .i64 hd]] w fun e w' =>
      e = .returned (.agg #[.int .i64 2, .int .i64 0, .slice none 0 0, .int .i64 (rnd rt 0 12), .int .i64 (rnd sz 1 40), .int .i64 (rnd st 0 (rnd sz 1 40)), .int .i64 (rnd ru 1 2), .int .i64 (rnd hd 0 9)]) ∧ Below w.heap.size w w' := by
  obtain ⟨w1, ew, hb1, hsz1, hcu⟩ := box_cust w kd dm pt rt sz st ru hd
  have Hew := Lib.hid ew
  obtain ⟨c0, c1, c2, c3, c4, c5, c6, c7⟩ := hcu
  have l0 : w.heap.size < w1.heap.size := by omega
  clear ew
  go_enter Try.func32, Try.ntmps32
  go_wp2_with fail
  rw [Hew.out]
  generalize eg : w.heap.size = g at *
  have Heg := Lib.hid eg
  clear eg
  go_region_held3 (fun w' => w'.cell? ⟨g, 3, none⟩ = some (.int .i64 rt) ∧ w'.cell? ⟨g, 4, none⟩ = some (.int .i64 sz) ∧ w'.cell? ⟨g, 5, none⟩ = some (.int .i64 st) ∧ w'.cell? ⟨g, 6, none⟩ = some (.int .i64 ru) ∧ w'.cell? ⟨g, 7, none⟩ = some (.int .i64 hd)) (go_keep)
    (first | (go_at_call 53; refine (round_is _ _ _ _ ?_ ?_ ?_ ?_).mono ?_; assumption; decide; decide; decide; rintro e w' ⟨rfl, rfl⟩))
  all_goals
    have hbd := rnd_bd sz 1 40 (by decide)
    obtain ⟨hbd1, hbd2⟩ := hbd
    go_wp2_with fail
    refine (round_is st 0 (rnd sz 1 40) _ h5 (by decide) (by omega) (by omega)).mono ?_
    rintro e w' ⟨rfl, rfl⟩
    go_wp2_with fail
    exact bodyPost_ret (v := .agg #[.int .i64 2, .int .i64 0, .slice none 0 0, .int .i64 (rnd rt 0 12), .int .i64 (rnd sz 1 40), .int .i64 (rnd st 0 (rnd sz 1 40)), .int .i64 (rnd ru 1 2), .int .i64 (rnd hd 0 9)]) (by simp [results, Try.results32, go_sem, hsz1]) rfl ⟨rfl, by rw [Heg.out]; exact hb1.trans (Below.drew ((((Below.refl g w1).alloc (by omega) _)).alloc (by simp; omega) _))⟩
end Go.Proofs.Ythilfibgpobcjaa
