/-
  My own work: the walks of DrawAgain and DrawForks.
-/
import Derived.Test.YthnkjlcdjjhloaaDraw
namespace Go.Proofs.Ythnkjlcdjjhloaa
open Go.RowKit
set_option linter.unusedVariables false

theorem tmod31 (m : Int) : m.tmod 31 < 31 := by have := Int.tmod_lt_of_pos m (b := 31) (by omega); omega

set_option maxHeartbeats 400000 in
theorem drawAgain_walk (seed n : Int) (w : World) :
    Calls Try.prog 3 #[.int .i64 seed, .int .i64 n] w fun e w' => e = .returned (.bool true) ∧ Below w.heap.size w w' := by
  by_cases hn : n < 0
  all_goals
    go_enter Try.func3, Try.ntmps3
    go_wp2_with fail
    refine (new_is seed _).mono ?_
    rintro e wa ⟨rfl, ha, hba⟩
    have la := ha.lt
    have ha1 := ha
    go_wp2_with fail
    refine (new_is seed _).mono ?_
    rintro e wb ⟨rfl, hb, hbb⟩
    have ha2 := ha1.below hbb la
    have hbel := hba.trans (hbb.mono hba.size)
    clear ha ha1 hba hbb
    generalize ea : w.heap.size = ga at *
    generalize wa.heap.size = gb at *
    have Hea := Lib.hid ea
    clear ea
    go_wp2_with fail
    obtain ⟨m, hmm⟩ : ∃ m : Int, m = (if n < 0 then wrap64 (-wrap64 (n + 1)) else n) := ⟨_, rfl⟩
    first | rw [if_pos (by omega)] at hmm | rw [if_neg (by omega)] at hmm
    rw [← hmm]
    clear hmm
    have hm := tmod31 m
    go_loopw [7] (fun i wr => ∃ (k : Nat) (s : Int), i = .int .i64 k ∧ k ≤ 31 ∧ IsStream wr ga s ∧ IsStream wr gb s ∧ Below ga w wr) (fun i _ => 31 - (intOf i).toNat)
    case atStart => exact ⟨0, _, rfl, by omega, ha2, hb, hbel⟩
    case round =>
      obtain ⟨k, s, rfl, hk, sa, sb, hr⟩ := hrel
      by_cases hlt : (k : Int) < m.tmod 31
      · go_wp2_with fail
        refine (word_is ga s _ sa).mono ?_
        rintro e w1 ⟨rfl, sa1, g1⟩
        have sb1 := sb.kept g1 (by omega)
        have hr1 := hr.grown g1 (by have := sa.lt; omega) (fun k hk => by simp at hk; omega)
        go_wp2_with fail
        refine (word_is gb s _ sb1).mono ?_
        rintro e w2 ⟨rfl, sb2, g2⟩
        have sa2 := sa1.kept g2 (by omega)
        have hr2 := hr1.grown g2 (by have := sa1.lt; omega) (fun k hk => by simp at hk; omega)
        go_wp2_with fail
        go_roundw
        case rel => exact ⟨k + 1, _, by go_num, by omega, sa2, sb2, hr2⟩
        case measure => simp [intOf]; omega
      · go_wp2_with fail
        refine (fork_is ga s _ sa).mono ?_
        rintro e w1 ⟨gx, rfl, lx, sx, sa1, g1⟩
        have la' := sa.lt
        have lb' := sb.lt
        have sb1 := sb.kept g1 (by omega)
        have hr1 := hr.grown g1 (by have := sa.lt; omega) (fun k hk => by simp at hk; omega)
        go_wp2_with fail
        refine (fork_is gb s _ sb1).mono ?_
        rintro e w2 ⟨gy, rfl, ly, sy, sb2, g2⟩
        have lx' := sx.lt
        have sa2 := sa1.kept g2 (by omega)
        have sx2 := sx.kept g2 (by omega)
        have hr2 := hr1.grown g2 (by have := sa1.lt; omega) (fun k hk => by simp at hk; omega)
        go_wp2_with fail
        refine (word_is gx _ _ sx2).mono ?_
        rintro e w3 ⟨rfl, sx3, g3⟩
        have sy3 := sy.kept g3 (by omega)
        have sa3 := sa2.kept g3 (by omega)
        have sb3 := sb2.kept g3 (by omega)
        have hr3 := hr2.grown g3 (by have := sa2.lt; omega) (fun k hk => by simp at hk; omega)
        go_wp2_with fail
        refine (word_is gy _ _ sy3).mono ?_
        rintro e w4 ⟨rfl, sy4, g4⟩
        have sa4 := sa3.kept g4 (by omega)
        have sb4 := sb3.kept g4 (by omega)
        have hr4 := hr3.grown g4 (by have := sa3.lt; omega) (fun k hk => by simp at hk; omega)
        go_wp2_with fail
        refine (word_is ga _ _ sa4).mono ?_
        rintro e w5 ⟨rfl, sa5, g5⟩
        have sb5 := sb4.kept g5 (by omega)
        have hr5 := hr4.grown g5 (by have := sa4.lt; omega) (fun k hk => by simp at hk; omega)
        go_wp2_with fail
        refine (word_is gb _ _ sb5).mono ?_
        rintro e w6 ⟨rfl, sb6, g6⟩
        have hr6 := hr5.grown g6 (by have := sa5.lt; omega) (fun k hk => by simp at hk; omega)
        have l6 := sb6.lt
        go_wp2_with fail
        refine (lives04_is _).mono ?_
        rintro e w7 ⟨rfl, hb7⟩
        go_wp2_with fail
        go_ret
        exact ⟨rfl, by rw [Hea.out]; exact hr6.trans (hb7.mono (by omega))⟩

theorem tmod21 (m : Int) : m.tmod 21 < 21 := by have := Int.tmod_lt_of_pos m (b := 21) (by omega); omega

set_option maxHeartbeats 400000 in
theorem drawForks_walk (seed n : Int) (w : World) :
    Calls Try.prog 4 #[.int .i64 seed, .int .i64 n] w fun e w' => e = .returned (.bool true) ∧ Below w.heap.size w w' := by
  by_cases hn : n < 0
  all_goals
    go_enter Try.func4, Try.ntmps4
    go_wp2_with fail
    refine (new_is seed _).mono ?_
    rintro e wa ⟨rfl, ha, hba⟩
    have la := ha.lt
    have ha1 := ha
    go_wp2_with fail
    refine (new_is seed _).mono ?_
    rintro e wb ⟨rfl, hb, hbb⟩
    have ha2 := ha1.below hbb la
    have hbel := hba.trans (hbb.mono hba.size)
    clear ha ha1 hba hbb
    generalize ea : w.heap.size = ga at *
    generalize wa.heap.size = gb at *
    have Hea := Lib.hid ea
    clear ea
    go_wp2_with fail
    refine (fork_is ga _ _ ha2).mono ?_
    rintro e w1 ⟨gx, rfl, lx, sx, sa1, g1⟩
    have la' := ha2.lt
    have lb' := hb.lt
    have sb1 := hb.kept g1 (by omega)
    have hr1 := hbel.grown g1 (by omega) (fun k hk => by simp at hk; omega)
    go_wp2_with fail
    refine (fork_is gb _ _ sb1).mono ?_
    rintro e w2 ⟨gy, rfl, ly, sy, sb2, g2⟩
    have lx' := sx.lt
    have sa2 := sa1.kept g2 (by omega)
    have sx2 := sx.kept g2 (by omega)
    have hr2 := hr1.grown g2 (by have := sa1.lt; omega) (fun k hk => by simp at hk; omega)
    have hxa : ga < gx := by omega
    have hxy : gx < gy := by omega
    clear g1 g2 sb1 sb2 hb sx sa1 hr1 ha2
    generalize wordOf (IntKind.u64.wrap seed) = s0 at *
    generalize stOf (IntKind.u64.wrap seed) = s1 at *
    go_wp2_with fail
    obtain ⟨m, hmm⟩ : ∃ m : Int, m = (if n < 0 then wrap64 (-wrap64 (n + 1)) else n) := ⟨_, rfl⟩
    first | rw [if_pos (by omega)] at hmm | rw [if_neg (by omega)] at hmm
    rw [← hmm]
    clear hmm
    have hm := tmod21 m
    go_loopw [9] (fun i wr => ∃ (k : Nat) (s : Int), i = .int .i64 k ∧ k ≤ 21 ∧ IsStream wr ga s ∧ IsStream wr gx s0 ∧ IsStream wr gy s0 ∧ Below ga w wr) (fun i _ => 21 - (intOf i).toNat)
    case atStart => exact ⟨0, _, rfl, by omega, sa2, sx2, sy, hr2⟩
    case round =>
      obtain ⟨k, s, rfl, hk, sa, sx, sy, hr⟩ := hrel
      by_cases hlt : (k : Int) < m.tmod 21
      · go_wp2_with fail
        refine (word_is ga s _ sa).mono ?_
        rintro e w1 ⟨rfl, sa1, g1⟩
        have sx1 := sx.kept g1 (by omega)
        have sy1 := sy.kept g1 (by omega)
        have hr1 := hr.grown g1 (by have := sa.lt; omega) (fun k hk => by simp at hk; omega)
        go_wp2_with fail
        go_roundw
        case rel => exact ⟨k + 1, _, by go_num, by omega, sa1, sx1, sy1, hr1⟩
        case measure => simp [intOf]; omega
      · go_wp2_with fail
        clear hlt hm
        go_loopw [10] (fun i wr => ∃ (k : Nat) (s : Int), i = .int .i64 k ∧ k ≤ 5 ∧ IsStream wr gx s ∧ IsStream wr gy s ∧ Below ga w wr) (fun i _ => 5 - (intOf i).toNat)
        case atStart => exact ⟨0, _, rfl, by omega, sx, sy, hr⟩
        case round =>
          clear sa sx sy hr
          obtain ⟨k, s, rfl, hk, sx, sy, hr⟩ := hrel
          have lx := sx.lt
          by_cases hlt : k < 5
          · go_wp2_with fail
            refine (word_is gx s _ sx).mono ?_
            rintro e w1 ⟨rfl, sx1, g1⟩
            have sy1 := sy.kept g1 (by omega)
            have hr1 := hr.grown g1 (by omega) (fun k hk => by simp at hk; omega)
            go_wp2_with fail
            refine (word_is gy s _ sy1).mono ?_
            rintro e w2 ⟨rfl, sy2, g2⟩
            have sx2 := sx1.kept g2 (by omega)
            have hr2 := hr1.grown g2 (by have := sx1.lt; omega) (fun k hk => by simp at hk; omega)
            go_wp2_with fail
            go_roundw
            case rel => exact ⟨k + 1, _, by go_num, by omega, sx2, sy2, hr2⟩
            case measure => simp [intOf]; omega
          · go_wp2_with fail
            refine (lives04_is _).mono ?_
            rintro e w7 ⟨rfl, hb7⟩
            go_wp2_with fail
            go_ret
            exact ⟨rfl, by rw [Hea.out]; exact hr.trans (hb7.mono (by omega))⟩
end Go.Proofs.Ythnkjlcdjjhloaa
