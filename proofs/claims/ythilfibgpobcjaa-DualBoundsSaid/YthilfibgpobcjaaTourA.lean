/-
  My own work: tranterref12.Good, Customers; tranterref06.Way: their contracts.
-/
import Derived.Test.YthilfibgpobcjaaPairs
import Derived.Test.YthilfibgpobcjaaTourPl
import Derived.Test.YthilfibgpobcjaaDualD
namespace Go.Proofs.Ythilfibgpobcjaa
open Go.RowKit
set_option linter.unusedVariables false
attribute [local go_sem ↓] Go.wp_at_zero Go.wp_at_succ

theorem info_stop : (Try.prog.info? 81).map (fun i => (i.zero, i.size, i.bytes)) = some (some (.agg #[.int .i64 0, .int .i64 0]), 2, 16) := by kernel_rfl

/-- Stops of customers that are there, each once. -/
structure GoodStops (cm : Nat) (G : List (Int × Int)) : Prop where
  six : G.length ≤ 6
  range : ∀ p ∈ G, 0 ≤ p.1 ∧ p.1 < cm
  once : (G.map (·.1)).Nodup
def hadB (G : List (Int × Int)) (C : Int) (j : Nat) : Bool := (G.take j).any fun p => p.1 == C
theorem had_succ (G : List (Int × Int)) (C : Int) (j : Nat) (h : j < G.length) : hadB G C (j + 1) = (hadB G C j || ((nthP G j).1 == C)) := by
  unfold hadB
  rw [takeP_succ G j h, List.any_append]
  simp
theorem good_push {cm : Nat} {G : List (Int × Int)} {C q : Int} (h : GoodStops cm G) (h5 : G.length < 6) (h0 : 0 ≤ C) (h1 : C < cm) (hn : hadB G C G.length = false) : GoodStops cm (G ++ [(C, q)]) := by
  refine ⟨by simp; omega, fun p hp => ?_, ?_⟩
  · rcases List.mem_append.1 hp with hp | hp
    · exact h.range p hp
    · simp at hp; subst hp; exact ⟨h0, h1⟩
  · rw [List.map_append, List.nodup_append]
    refine ⟨h.once, by simp, fun x hx y hy => ?_⟩
    simp at hy
    subst hy
    intro e
    subst e
    obtain ⟨p, hp, rfl⟩ := List.mem_map.1 hx
    unfold hadB at hn
    rw [List.take_of_length_le (Nat.le_refl _), List.any_eq_false] at hn
    have := hn p hp
    simp at this

def StopsOut (cm : Nat) (w : World) (e : Ending) (w' : World) : Prop := ∃ v G, e = .returned v ∧ OwnP2 81 w' w.heap.size v G ∧ GoodStops cm G ∧ Below w.heap.size w w'

set_option maxRecDepth 100000 in
set_option maxHeartbeats 3200000 in
theorem goodStops_is (i0 i1 i2 i3 : Int) (cv dv lv : Value) (L : List Cu) (l : List (Int × Int)) (cm : Nat) (w : World) (hC : Custs w cv L) (hl : Pairs w lv l) (hcm : L.length = cm) (hcm2 : cm ≤ 4096) (hlm : l.length ≤ 9223372036854775807) :
    Calls Try.prog 51 #[.agg #[.int .i64 i0, .int .i64 i1, .int .i64 i2, .int .i64 i3, cv, dv], lv] w (StopsOut cm w) := by
  obtain ⟨w1, ew, hb1, hsz1, hx⟩ := box_inst w (.int .i64 i0) (.int .i64 i1) (.int .i64 i2) (.int .i64 i3) cv dv
  obtain ⟨ca, cn, cc, rfl, hcn, _, _⟩ := hC.open
  obtain ⟨la, lm, lc, rfl, hlm', _, hlc⟩ := (hl.below hb1).open
  have c4 := hx.c4
  have Hew := Lib.hid ew
  have Hlc := Lib.hid hlc
  have hcn' : cn = cm := by omega
  subst hcn'
  have hlm2 : lm ≤ 9223372036854775807 := by omega
  have hsz : w.heap.size ≤ w1.heap.size := hb1.size
  clear ew hsz1 hx hC hl hlm' hlc hcm hcn hlm
  go_enter Try.func51, Try.ntmps51
  go_upto_region 1 with (fail)
  rw [Hew.out]
  go_wp2_with fail
  go_loopw [5, 6, 7, 8, 9, 10] (fun v i a7 a8 a9 a10 wr => ∃ (k : Nat) (x x7 x8 x9 x10 : Value) (G : List (Int × Int)), i = .int .i64 k ∧ x = v ∧ x7 = a7 ∧ x8 = a8 ∧ x9 = a9 ∧ x10 = a10 ∧ k ≤ lm ∧ GoodStops cn G ∧ OwnP2 81 wr w1.heap.size x G ∧ Below w1.heap.size w1 wr) (fun _ i _ _ _ _ _ => lm - (intOf i).toNat)
  case atStart => exact ⟨0, _, _, _, _, _, [], rfl, rfl, rfl, rfl, rfl, rfl, Nat.zero_le _, ⟨by simp, by simp, by simp⟩, OwnP2.nil _ _ _, Below.refl _ _⟩
  case round =>
    obtain ⟨k, v, x7, x8, x9, x10, G, rfl, rfl, rfl, rfl, rfl, rfl, hk, hG, hown, hb⟩ := hrel
    obtain ⟨ga, m, gc, rfl, hm, _, hgc⟩ := hown.pairs.open
    have c4r := cell_below hb c4
    have HG := Lib.hid hG
    have Hown := Lib.hid hown
    have Hm := Lib.hid hm
    have Hgc := Lib.hid hgc
    have hm6 : m ≤ 6 := by have := hG.six; omega
    have hszr : w1.heap.size ≤ wr.heap.size := hb.size
    have Hb := Lib.hid hb
    clear hG hown hm hgc
    by_cases hgo : k < lm ∧ m < 6
    · obtain ⟨g1, g2⟩ := hgo
      obtain ⟨lb, lo, rfl, f0, f1⟩ := Hlc.out k g1
      have f0r := cell_below hb f0
      have f1r := cell_below hb f1
      have hi0 : (0 : Int) ≤ (k : Int) := by omega
      have hi1 : (k : Int) < (lm : Int) := by omega
      have hi6 : (m : Int) < 6 := by omega
      generalize (nthP l k).1 = C at *
      generalize (nthP l k).2 = X at *
      clear f0 f1 hb
      have hcase : decide (C < 0) = true ∨ (decide (C < 0) = false ∧ decide ((cn : Int) ≤ C) = true) ∨ (decide (C < 0) = false ∧ decide ((cn : Int) ≤ C) = false) := by
        by_cases q1 : C < 0
        · exact .inl (by simpa using q1)
        · by_cases q2 : (cn : Int) ≤ C
          · exact .inr (.inl ⟨by simpa using q1, by simpa using q2⟩)
          · exact .inr (.inr ⟨by simpa using q1, by simpa using q2⟩)
      rcases hcase with q1 | ⟨q1, q2⟩ | ⟨q1, q2⟩
      · go_wp2_with fail
        go_roundw
        case rel => exact ⟨k + 1, _, _, _, _, _, G, by go_num, rfl, rfl, rfl, rfl, rfl, by omega, HG.out, Hown.out, Hb.out⟩
        case measure => simp [intOf]; omega
      · go_wp2_with fail
        go_roundw
        case rel => exact ⟨k + 1, _, _, _, _, _, G, by go_num, rfl, rfl, rfl, rfl, rfl, by omega, HG.out, Hown.out, Hb.out⟩
        case measure => simp [intOf]; omega
      · have hC0 : 0 ≤ C := by have := of_decide_eq_false q1; omega
        have hC1 : C < (cn : Int) := by have := of_decide_eq_false q2; omega
        obtain ⟨wo, rfl⟩ : ∃ wo : World, wo = wr := ⟨_, rfl⟩
        go_wp2_with fail
        go_loop [8, 9] (fun h u => ∃ (j : Nat) (B : Bool), u = .int .i64 j ∧ h = .bool B ∧ B = hadB G C j ∧ j ≤ m) (fun _ u => m - (intOf u).toNat)
        case atStart => exact ⟨0, false, rfl, rfl, rfl, Nat.zero_le _⟩
        case round =>
          obtain ⟨j, B, rfl, rfl, hB, hj⟩ := hrel
          have HB := Lib.hid hB
          clear hB
          by_cases hlt : j < m
          · obtain ⟨gb, go, rfl, e0, _⟩ := Hgc.out j hlt
            have Hst := Lib.hid (had_succ G C j (by rw [Hm.out]; exact hlt))
            have hj0 : (0 : Int) ≤ (j : Int) := by omega
            have hj1 : (j : Int) < (m : Int) := by omega
            generalize (nthP G j).1 = Y at *
            cases B with
            | true =>
              go_wp2_with fail
              go_round
              case rel => exact ⟨j + 1, true, by go_num, rfl, by rw [Hst.out, ← HB.out]; rfl, by omega⟩
              case measure => simp [intOf]; omega
            | false =>
              by_cases hY : Y = C
              · have hY' : (Y == C) = true := by simpa using hY
                have Hst2 : Hid (hadB G C (j + 1) = true) := Lib.hid (by rw [Hst.out, hY']; simp)
                clear hY
                go_wp2_with fail
                go_round
                case rel => exact ⟨j + 1, true, by go_num, rfl, Hst2.out.symm, by omega⟩
                case measure => simp [intOf]; omega
              · have hY' : (Y == C) = false := by simpa using hY
                have Hst2 : Hid (hadB G C (j + 1) = false) := Lib.hid (by rw [Hst.out, hY', ← HB.out]; rfl)
                clear hY
                go_wp2_with fail
                go_round
                case rel => exact ⟨j + 1, false, by go_num, rfl, Hst2.out.symm, by omega⟩
                case measure => simp [intOf]; omega
          · have hjm : j = m := by omega
            subst hjm
            clear hlt hj
            have hX : decide (X < 0) = true ∨ decide (X < 0) = false := by cases decide (X < 0) <;> simp
            cases B with
            | true =>
              rcases hX with hX | hX
              all_goals
                go_wp2_with fail
                go_roundw
                case rel => exact ⟨k + 1, _, _, _, _, _, G, by go_num, rfl, rfl, rfl, rfl, rfl, by omega, HG.out, Hown.out, Hb.out⟩
                case measure => simp [intOf]; omega
            | false =>
              have hlen : Hid (G.length + 1 ≤ 1000000000000) := Lib.hid (by rw [Hm.out]; omega)
              rcases hX with hX | hX
              all_goals
                go_wp2_with (at_builtin; refine wpList_pushP rfl _ _ 27 81 _ Try.underlying27 info_stop rfl rfl wo w1.heap.size (.slice ga j gc) G C _ rfl rfl Hown.out hlen.out hszr ?_)
                intro g5 c5 w5 hown5 hg5 hb5 _ _
                have Hown5 := Lib.hid hown5
                have Hb5 := Lib.hid (Hb.out.trans hb5)
                clear hown5 hg5 hb5
                go_wp2_with fail
                go_roundw
                case rel => exact ⟨k + 1, _, _, _, _, _, _, by go_num, rfl, rfl, rfl, rfl, rfl, by omega, good_push HG.out (by rw [Hm.out]; exact g2) hC0 hC1 (by rw [Hm.out]; exact HB.out.symm), Hown5.out, Hb5.out⟩
                case measure => simp [intOf]; omega
    · have hgo2 : (decide (k < lm) = false) ∨ (decide (k < lm) = true ∧ decide ((m : Int) < 6) = false) := by
        by_cases q : k < lm
        · exact .inr ⟨by simpa using q, by simp; omega⟩
        · exact .inl (by simpa using q)
      clear hgo hk
      rcases hgo2 with q1 | ⟨q1, q2⟩
      all_goals
        go_wp2_with fail
        go_ret
        exact ⟨_, G, rfl, Hown.out.mono hsz, HG.out, hb1.trans (Hb.out.mono hsz)⟩
end Go.Proofs.Ythilfibgpobcjaa
